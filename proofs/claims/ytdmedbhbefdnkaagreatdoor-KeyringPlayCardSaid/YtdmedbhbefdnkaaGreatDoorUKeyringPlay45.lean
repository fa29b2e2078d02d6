/- RK4 -/
import Derived.Test.YtdmedbhbefdnkaaGreatDoorUKeyringPlay32
import Derived.Test.YtdmedbhbefdnkaaGreatDoorUKeyringPlay37
set_option linter.unusedVariables false
set_option linter.unusedSimpArgs false
set_option maxRecDepth 100000
set_option maxHeartbeats 16000000
namespace Go.Proofs.YtdmedbhbefdnkaaGreatDoor
open Go.RowKit
def SplitI (n k m:Nat):Prop:=(k=0/\m=1)\/(m=2*k/\0<k/\k<n/\splitGo n 1=splitGo n k)
theorem SplitI.next {n k m:Nat} (h:SplitI n k m) (hm:m<n):SplitI n m (2*m)/\0<m:=by
 rcases h with⟨rfl,rfl⟩|⟨rfl,h0,h1,h2⟩
 ·exact⟨Or.inr ⟨rfl,by omega,hm,rfl⟩,by omega⟩
 ·refine⟨Or.inr ⟨rfl,by omega,hm,?_⟩,by omega⟩
  rw[h2,splitGo_yes h0 (by omega),Nat.mul_comm]
theorem SplitI.last {n k m:Nat} (h:SplitI n k m) (hm:¬ m<n):k=splitN n:=by
 rcases h with⟨rfl,rfl⟩|⟨rfl,h0,h1,h2⟩
 ·rw[splitN_small (by omega)]
 ·unfold splitN
  rw[if_neg (by omega),h2,splitGo_no (by omega)]
theorem SplitI.le {n k m:Nat} (h:SplitI n k m):m<=2*n+1/\k<=m/\0<m:=by
 rcases h with⟨rfl,rfl⟩|⟨rfl,h0,h1,h2⟩<;>omega
theorem rsplit_any (w:World) (n:Nat) (hn:n<=1000000):Calls Tryz.prog 136 #[.int .i64 (n:Int)] w fun e w'=>e = .returned (.int .i64 (splitN n:Int))/\w=w':=by
 have HL:=Lib.hid (fun k m=>SplitI.last (n:=n) (k:=k) (m:=m))
 generalize splitN n=R at *
 go_enter Tryz.func136,Tryz.ntmps136
 go_wp2_with fail
 go_loop [3,4] (fun x y=>∃ k m:Nat,x = .int .i64 (k:Int)/\y = .int .i64 (m:Int)/\m<=2*n+1/\0<m/\Hid (SplitI n k m)) (fun _ y=>2*n+1-(intOf y).toNat)
 case atStart=>exact⟨0,1,rfl,rfl,by omega,by omega,Lib.hid (Or.inl ⟨rfl,rfl⟩)⟩
 case round =>
  obtain⟨k,m,rfl,rfl,hm,hm0,HS⟩:=hrel
  have y3:decide ((0:Int)<(m:Int))=true:=decide_eq_true (by omega)
  have y4:decide (0<m)=true:=decide_eq_true hm0
  by_cases hlt:m<n
  ·have y1:decide ((m:Int)<(n:Int))=true:=decide_eq_true (by omega)
   have y2:decide (m<n)=true:=decide_eq_true hlt
   have HN:=Lib.hid (HS.out.next hlt).1
   have HLT:=Lib.hid (And.intro hlt hm0)
   clear HS hlt
   go_wp2_with fail
   go_round
   case rel=>exact⟨m,2*m,rfl,by go_num,HN.out.le.1,by have:=HLT.out;omega,HN⟩
   case measure=>have:=HLT.out;simp[intOf];omega
  ·have y1:decide ((m:Int)<(n:Int))=false:=decide_eq_false (by omega)
   have y2:decide (m<n)=false:=decide_eq_false hlt
   have HE:=Lib.hid (HL.out k m HS.out hlt)
   clear HS hlt hm
   go_wp2_with fail
   go_ret
   exact⟨by rw[<- HE.out];rfl,rfl⟩
theorem rootF_two {L:List By} (h:2<=L.length):rootF L=nodeF (rootF (L.take (splitN L.length))) (rootF (L.drop (splitN L.length))):=by
 have hs:=splitN_in h
 unfold rootF
 rw[if_neg (by omega),if_neg (by rw[List.length_take];omega),if_neg (by rw[List.length_drop];omega),treeF_two h]
def RtS (wr:World) (a:Nat) (W:World):Prop:=(∃ C:List Value,C.length=32/\Blk W a C 30)/\Kept (· = a) wr W
theorem RtS.next {wr W W':World} {a:Nat} (h:RtS wr a W) (hk:Kept (fun _=>False) W W'):RtS wr a W':=by
 obtain⟨⟨C,hC,hb⟩,h2⟩:=h
 exact⟨⟨C,hC,hb.kept hk id⟩,h2.then_ hk (fun _ _=>False.elim)⟩
theorem RtS.store {wr W:World} {a:Nat} {R:By} (h:RtS wr a W) (hR:R.length=32):RtS wr a (W.setCells a 0 (bytes8 R)):=by
 obtain⟨⟨C,hC,hb⟩,hk⟩:=h
 exact⟨⟨_,by rw[bytes8_len,hR],(hash_stored hb hC hR).2⟩,hk.then_ (kept_setCells W a 0 (bytes8 R)) (fun _ _ e=>e)⟩
theorem rroot_any (ht0:World->Prop) (hT:∀ w,ht0 w->Tab w) (hK:∀ w w',ht0 w->Kept (fun _=>False) w w'->ht0 w') (n:Nat):∀ (w:World) (v:Value) (L:List By),L.length<=n->View w 32 v (hcells L)->(∀ x∈L,x.length=32)->L.length<=1000000->ht0 w ->
  Calls Tryz.prog 116 #[v] w fun e w'=>e = .returned (hashV (rootF L))/\Kept (fun _=>False) w w':=by
 induction n with
 | zero =>
  intro w v L hL hv h32 hlen ht
  have e:L=[]:=List.eq_nil_of_length_eq_zero (by omega)
  subst e
  obtain⟨a,n,cap,rfl,h1,h2,h3,h4,h5⟩:=hv
  rw[hcells_len h32]at h1
  obtain rfl:n=0:=by simp at h1;omega
  have hb:=Blk.new w (zeros 32) 30
  have hk0:Kept (fun _=>False) w (w.alloc (.cells (zeros 32).toArray 30)):=(Kept.refl _ _).alloc _
  have HR:=Lib.hid ((rsum_any (w.alloc (.cells (zeros 32).toArray 30)) ⟨#[]⟩ (by decide)).mono (R':=fun e w2=>e = .returned (.agg (bytes8 (rootF [])).toArray)/\Hid (Blk w2 w.heap.size (zeros 32) 30/\Kept (fun _=>False) w w2)) (fun e w2 q=>⟨q.1,Lib.hid ⟨hb.kept q.2 id,hk0.trans q.2⟩⟩))
  have hl:(rootF []).length=32:=rootF_len (fun _ h=>nomatch h)
  generalize rootF []=R at *
  have HL:=Lib.hid hl
  have HI:=Lib.hid (show(Tryz.prog.info? 30).map (·.size)=some (bytes8 R).length by rw[bytes8_len,hl];exact info_h32)
  clear h1 h2 h3 h4 h5 hb hk0 hl h32 hL hlen
  go_enter Tryz.func116,Tryz.ntmps116
  go_wp2_with (first|(go_at_call 26;refine HR.out.mono ?_;rintro e w5 ⟨rfl,HB⟩)|(refine wpList_store_mid rfl 30 _ _ rfl w.heap.size 0 (bytes8 R).toArray rfl rfl ?hth ?hi ?h1 ?_))
  case hth=>exact(hash_stored HB.out.1 (zeros_len 32) HL.out).1
  case hi=>exact info_hash HL.out
  case h1=>exact all_oneCell_toArray (fun y hy=>u8_oneCell y hy)
  have hst:=hash_stored HB.out.1 (zeros_len 32) HL.out
  refine bodyPost_ret (hst.2.result rfl rfl Tryz.underlying30 rfl HI.out) rfl ⟨rfl,?_⟩
  exact HB.out.2.then_ (kept_setCells _ _ _ _) (fun i hi e=>by omega)
 | succ n ih =>
  intro w v L hL hv h32 hlen ht
  by_cases hn0:L.length<=n
  ·exact ih w v L hn0 hv h32 hlen ht
  have hlen1:L.length=n+1:=by omega
  have hv0:=hv
  obtain⟨a,m,cap,rfl,h1,h2,h3,h4,h5⟩:=hv
  rw[hcells_len h32]at h1
  obtain rfl:m=L.length:=by omega
  obtain⟨g,off,rfl,hg,hc⟩:=h5 (by omega)
  have hb:=Blk.new w (zeros 32) 30
  have hk0:Kept (fun _=>False) w (w.alloc (.cells (zeros 32).toArray 30)):=(Kept.refl _ _).alloc _
  have hl:=rootF_len h32
  have z0:((L.length:Int)==0)=false:=by rw[beq_eq_false_iff_ne];omega
  by_cases hone:L.length=1
  ·obtain⟨x,rfl⟩:∃ x,L=[x]:=List.length_eq_one_iff.1 hone
   have hx:x.length=32:=h32 x (by simp)
   have hr:rootF [x]=x:=by unfold rootF;rw[if_neg (by simp),treeF_one]
   rw[hr]
   have hrg:=rangeAt_kept hc hk0 hg id
   rw[hcells_one]at hrg
   have HL:=Lib.hid hx
   have HB:=Lib.hid (And.intro hb hk0)
   have HI:=Lib.hid (show(Tryz.prog.info? 30).map (·.size)=some (bytes8 x).length by rw[bytes8_len,hx];exact info_h32)
   obtain⟨W,hW⟩:∃ W:World,W=w.alloc (.cells (zeros 32).toArray 30):=⟨_,rfl⟩
   rw[<- hW]at hrg HB
   clear h1 h2 h3 h4 h5 hb hk0 hl h32 hL hlen hv0 hc hg hone hr hx hlen1 hn0 ih z0
   go_enter Tryz.func116,Tryz.ntmps116
   go_upto_region 1 with fail
   generalize hWx:World.alloc _ _=Wx
   obtain rfl:W=Wx:=by rw[hW,<- hWx];rfl
   clear hW hWx
   have z1:([x].length:Int)=1:=rfl
   simp only[List.length_cons,List.length_nil,Nat.zero_add]at *
   go_wp2_with (first|((with_reducible show wpList _ _ _ (⟨some 13,_,_,_,_,_⟩::_) _ _);refine wpList_load_mid rfl 30 _ rfl g off rfl (bytes8 x) _ hrg Tryz.underlying30 rfl HI.out ?_)|(refine wpList_store_mid rfl 30 _ _ rfl w.heap.size 0 (bytes8 x).toArray rfl rfl ?hthB ?hiB ?h1B ?_))
   case hthB=>exact(hash_stored HB.out.1 (zeros_len 32) HL.out).1
   case hiB=>first|exact info_hash HL.out|simpa using info_hash HL.out
   case h1B=>first|exact all_oneCell_toArray (fun y hy=>u8_oneCell y hy)|exact fun y hy=>u8_oneCell y hy
   have hst:=hash_stored HB.out.1 (zeros_len 32) HL.out
   refine bodyPost_ret (hst.2.result rfl rfl Tryz.underlying30 rfl HI.out) rfl ⟨rfl,?_⟩
   exact HB.out.2.then_ (kept_setCells _ _ _ _) (fun i hi e=>by omega)
  ·have z1:((L.length:Int)==1)=false:=by rw[beq_eq_false_iff_ne];omega
   have hin:=splitN_in (n:=L.length) (by omega)
   have HSP:=Lib.hid (fun w'=>rsplit_any w' L.length hlen)
   have hr2:=rootF_two (L:=L) (by omega)
   generalize hKe:splitN L.length=K at *
   have hr1:∀ w0,(Instr.slice 59 (.slice (some ⟨g,off,none⟩) L.length cap) none (some (.int .i64 (K:Int))) none).run Tryz.prog w0 = .ok (.slice (some ⟨g,off,none⟩) K cap) w0:=fun w0=>hv0.run_head elem_hashes size_hashes K (by omega) w0
   have hr3:∀ w0,(Instr.slice 59 (.slice (some ⟨g,off,none⟩) L.length cap) (some (.int .i64 (K:Int))) none none).run Tryz.prog w0 = .ok (.slice (if cap=K then some ⟨g,off,none⟩else(some ⟨g,off,none⟩:Option Addr).map (·.add (K*32))) (L.length-K) (cap-K)) w0:=fun w0=>hv0.run_tail elem_hashes size_hashes K (by omega) w0
   obtain⟨ta,hta⟩:∃ ta:Option Addr,(if cap=K then some ⟨g,off,none⟩else(some ⟨g,off,none⟩:Option Addr).map (·.add (K*32)))=ta:=⟨_,rfl⟩
   have hvt:=hv0.tail K (by omega)
   have hvh:=hv0.head K (by omega)
   rw[hcells_drop h32]at hvt
   rw[hcells_take h32]at hvh
   rw[hta]at hvt hr3
   have t32:∀ x∈L.take K,x.length=32:=fun x hx=>h32 x (List.mem_of_mem_take hx)
   have d32:∀ x∈L.drop K,x.length=32:=fun x hx=>h32 x (List.mem_of_mem_drop hx)
   have HA:=Lib.hid (fun (W:World) (hk:Kept (fun _=>False) w W)=>ih W _ (L.take K) (by rw[List.length_take];omega) (hvh.same hk (by omega)) t32 (by rw[List.length_take];omega) (hK _ _ ht hk))
   have HB:=Lib.hid (fun (W:World) (hk:Kept (fun _=>False) w W)=>ih W _ (L.drop K) (by rw[List.length_drop];omega) (hvt.same hk (by omega)) d32 (by rw[List.length_drop];omega) (hK _ _ ht hk))
   have lA:=rootF_len t32
   have lB:=rootF_len d32
   have HN:=Lib.hid (fun (W:World) (hk:Kept (fun _=>False) w W)=>rnode_any W _ _ lA lB (hT _ (hK _ _ ht hk)))
   rw[<- hr2]at HN
   generalize rootF L=R at *
   generalize rootF (L.take K)=RA at *
   generalize rootF (L.drop K)=RB at *
   generalize L.length=len at *
   obtain⟨W,hW⟩:∃ W:World,W=w.alloc (.cells (zeros 32).toArray 30):=⟨_,rfl⟩
   rw[<- hW]at hk0 hb
   have HW:=Lib.hid (And.intro hb hk0)
   have HI:=Lib.hid (show(Tryz.prog.info? 30).map (·.size)=some (bytes8 R).length by rw[bytes8_len,hl];exact info_h32)
   have HL:=Lib.hid hl
   have hKl:K<=len:=by omega
   clear h1 h2 h3 h4 h5 hb hk0 hl h32 hL hv0 hc hg hone lA lB t32 d32 hvt hvh hta hr2 hKe ih hlen1 hn0
   go_enter Tryz.func116,Tryz.ntmps116
   go_upto_region 1 with fail
   generalize hWx:World.alloc _ _=Wx
   obtain rfl:W=Wx:=by rw[hW,<- hWx];rfl
   clear hW hWx
   go_upto_region 6 with (go_at_call 136;refine(HSP.out _).mono ?_;rintro e w' ⟨rfl,rfl⟩)
   have hS0:RtS W w.heap.size W.drew:=⟨⟨zeros 32,zeros_len 32,HW.out.1.drew⟩,(Kept.refl _ _).drew⟩
   refine wp_region_held_drew (S:=RtS W w.heap.size) (by kernel_rfl) hS0 (fun hS1=>?_)
   have HD:=Lib.hid (HW.out.2.trans (Kept.refl (fun _=>False) W).drew)
   generalize World.drew W=W0 at *
   refine ti 0 hS1 ?_
   refine ti 1 hS1 ?_
   refine ti 2 hS1 ?_
   refine ti 4 hS1 ?_
   refine ti 5 hS1 ?_
   refine ti 6 hS1 ?_
   refine rd1 3 (fun K hK=>?_)
   go_simp
   refine(HA.out _ HD.out).mono ?_
   rintro e w3 ⟨rfl,hk3⟩
   refine hK.out _ _ (hS1.next hk3) (fun hS3=>?_)
   clear hK K
   try simp only[lyA,lyB,lyC,lyD]
   refine rd1 7 (fun K hK=>?_)
   go_simp
   refine(HB.out _ (HD.out.trans hk3)).mono ?_
   rintro e w4 ⟨rfl,hk4⟩
   refine hK.out _ _ (hS3.next hk4) (fun hS4=>?_)
   clear hK K
   try simp only[lyA,lyB,lyC,lyD]
   refine rd1 8 (fun K hK=>?_)
   go_simp
   refine(HN.out _ ((HD.out.trans hk3).trans hk4)).mono ?_
   rintro e w5 ⟨rfl,hk5⟩
   refine hK.out _ _ (hS4.next hk5) (fun hS5=>?_)
   clear hK K
   try simp only[lyA,lyB,lyC,lyD]
   refine rd1 9 (fun K hK=>?_)
   obtain⟨⟨C,hC,hb5⟩,hk6⟩:=id hS5
   have hst:=hash_stored hb5 hC HL.out
   rw[if_pos (by rfl)]
   refine wp_store_mid _ _ _ rfl w.heap.size 0 (bytes8 R).toArray rfl rfl hst.1 ?_ (all_oneCell_toArray u8_oneCell) ?_
   ·rw[List.size_toArray];exact HI.out
   simp only[Act.put]
   refine hK.out _ _ (hS5.store HL.out) (fun hS6=>?_)
   clear hK K
   refine dn ?_
   go_wp2_with fail
   refine bodyPost_ret (hst.2.result rfl rfl Tryz.underlying30 rfl HI.out) rfl ⟨rfl,?_⟩
   exact HW.out.2.then_ hS6.2 (fun i hi e=>by omega)
theorem rroot9_any (w:World) (v:Value) (L:List By) (hv:View w 32 v (hcells L)) (h32:∀ x∈L,x.length=32) (hL:L.length<=1000000) (ht:Tab w) :
  Calls Tryz.prog 89 #[v] w fun e w'=>e = .returned (hashV (rootF L))/\Kept (fun _=>False) w w':=by
 have hk0:Kept (fun _=>False) w (w.alloc (.cells (zeros 32).toArray 30)):=(Kept.refl _ _).alloc _
 have hb:=Blk.new w (zeros 32) 30
 have hroot:=rroot_any Tab (fun _ h=>h) (fun _ _ h hk=>h.same hk) L.length _ v L (Nat.le_refl _) (hv.same hk0 (by omega)) h32 hL (ht.same hk0)
 have HR:=Lib.hid (hroot.mono (R':=fun e w2=>e = .returned (hashV (rootF L))/\Hid (Blk w2 w.heap.size (zeros 32) 30/\Kept (fun _=>False) w w2)) (fun e w2 q=>⟨q.1,Lib.hid ⟨hb.kept q.2 id,hk0.trans q.2⟩⟩))
 have hl:=rootF_len h32
 generalize rootF L=R at *
 have HL:=Lib.hid hl
 have HI:=Lib.hid (show(Tryz.prog.info? 30).map (·.size)=some (bytes8 R).length by rw[bytes8_len,hl];exact info_h32)
 clear hk0 hb hroot hl hv
 go_enter Tryz.func89,Tryz.ntmps89
 go_wp2_with (first|(go_at_call 116;refine HR.out.mono ?_;rintro e w2 ⟨rfl,HB⟩)|((with_reducible show wpList _ _ _ (⟨none,.store _ (.tmp 2) _,_,_,_,_⟩::_) _ _);refine wpList_store_mid rfl 30 _ _ rfl w.heap.size 0 (bytes8 R).toArray rfl rfl ?hth ?hi ?h1 ?_))
 case hth=>exact(hash_stored HB.out.1 (zeros_len 32) HL.out).1
 case hi=>first|exact info_hash HL.out|simpa using info_hash HL.out
 case h1=>first|exact all_oneCell_toArray (fun y hy=>u8_oneCell y hy)|exact fun y hy=>u8_oneCell y hy
 have hst:=hash_stored HB.out.1 (zeros_len 32) HL.out
 refine bodyPost_ret (hst.2.result rfl rfl Tryz.underlying30 rfl HI.out) rfl ⟨rfl,?_⟩
 exact HB.out.2.then_ (kept_setCells _ _ _ _) (fun i hi e=>by omega)
end Go.Proofs.YtdmedbhbefdnkaaGreatDoor
