/- RK2 RK3 RK5 RK6 RE8 RE9 RE10 RE11 RE12 -/
import Derived.Test.YtdmedbhbefdnkaaGreatDoorUKeyringPlay35
import Derived.Test.YtdmedbhbefdnkaaGreatDoorUKeyringPlay45
import Derived.Test.YtdmedbhbefdnkaaGreatDoorUKeyringPlay47
set_option linter.unusedVariables false
set_option linter.unusedSimpArgs false
set_option maxRecDepth 100000
set_option maxHeartbeats 16000000
namespace Go.Proofs.YtdmedbhbefdnkaaGreatDoor
open Go.RowKit
theorem rtext_any (w:World) (s:ByteArray) (hs:Short s.size) :
  Calls Tryz.prog 135 #[.string s] w fun e w'=>e = .returned (.string (⟨(numL s.size).toArray⟩++s))/\Kept (fun _=>False) w w':=by
 have hN:=rnum_any w s.size hs.u64
 have x1:=wrap_u64 hs.u64
 have x2:=hs.sum (numL_len hs.u64)
 go_enter Tryz.func135,Tryz.ntmps135
 go_wp2_with (go_at_call 27;refine hN.mono ?_;rintro e w1 ⟨rfl,hk1⟩)
 go_ret
 exact⟨rfl,hk1⟩
theorem rsum_ready {w w1:World} (s:ByteArray) (l:By) (hl:s.data.toList=l) (hs:s.size<=1000000) (hk:Kept (fun _=>False) (w.alloc (.cells (zeros 32).toArray 30)) w1) :
  Calls Tryz.prog 26 #[.string s] w1 fun e w2=>e = .returned (.agg (bytes8 (shaF l)).toArray)/\Hid (Blk w2 w.heap.size (zeros 32) 30/\Kept (fun _=>False) w w2):=by
 subst hl
 have k1:Kept (fun _=>False) w w1:=((Kept.refl _ _).alloc _).trans hk
 refine(rsum_any w1 s hs).mono ?_
 rintro e w2 ⟨rfl,hk2⟩
 exact⟨rfl,Lib.hid ⟨((Blk.new w (zeros 32) 30).kept hk id).kept hk2 id,k1.trans hk2⟩⟩
theorem rsecret_any (w:World) (seed:ByteArray) (index i bit:Nat) (hs:seed.size<=1000) (h1:index<2147483648) (h2:i<256) (h3:bit<2) :
  Calls Tryz.prog 115 #[.string seed,.int .i64 (index:Int),.int .i64 (i:Int),.int .i64 (bit:Int)] w fun e w'=>e = .returned (hashV (secretF seed.data.toList index i bit))/\Kept (fun _=>False) w w':=by
 have hnl:=numL_len (n:=seed.size) (U64n.small (by omega))
 obtain⟨T,hT⟩:∃ T:ByteArray,T=⟨(numL seed.size).toArray⟩++seed:=⟨_,rfl⟩
 have hTd:T.data.toList=numL seed.size++seed.data.toList:=by rw[hT,bstr_append]
 have hTs:T.size<=1100:=by rw[<- bstr_len,hTd,List.length_append,bstr_len];omega
 have HT:=Lib.hid (fun w'=>rtext_any w' seed (by unfold Short;omega))
 have HP4:=Lib.hid (show ∀ w',Calls Tryz.prog 25 #[.int .u64 (index:Int),.int .i64 4] w' _ from fun w'=>rput_any w' index (by omega) 4 (by omega))
 have hp2:=fun w'=>rput_any w' (2*i+bit) (by omega) 2 (by omega)
 rw[show((2*i+bit:Nat):Int)=2*(i:Int)+(bit:Int) by omega]at hp2
 have HP2:=Lib.hid (show ∀ w',Calls Tryz.prog 25 #[.int .u64 (2*(i:Int)+(bit:Int)),.int .i64 2] w' _ from hp2)
 clear hp2
 have hb4:(⟨(be 4 index).toArray⟩:ByteArray).size=4:=by show(be 4 index).toArray.size=4;rw[List.size_toArray,be_len]
 have hb2:(⟨(be 2 (2*i+bit)).toArray⟩:ByteArray).size=2:=by show(be 2 (2*i+bit)).toArray.size=2;rw[List.size_toArray,be_len]
 rw[<- hT]at HT
 have hsec:secretF seed.data.toList index i bit=shaF (2::(numL seed.size++seed.data.toList++be 4 index++be 2 (2*i+bit))):=by unfold secretF;rw[bstr_len]
 have hbytes:(⟨#[2]⟩++T++⟨(be 4 index).toArray⟩++⟨(be 2 (2*i+bit)).toArray⟩:ByteArray).data.toList=2::(numL seed.size++seed.data.toList++be 4 index++be 2 (2*i+bit)):=by
  simp only[ByteArray.data_append,Array.toList_append,hTd]
  simp
 have hsz:(⟨#[2]⟩++T++⟨(be 4 index).toArray⟩++⟨(be 2 (2*i+bit)).toArray⟩:ByteArray).size<=1000000:=by
  rw[ByteArray.size_append,ByteArray.size_append,ByteArray.size_append,hb4,hb2]
  show 1+T.size+4+2<=1000000
  omega
 have HC:=Lib.hid (fun w1 (hk:Kept (fun _=>False) (w.alloc (.cells (zeros 32).toArray 30)) w1)=>rsum_ready (w:=w) (w1:=w1) (⟨#[2]⟩++T++⟨(be 4 index).toArray⟩++⟨(be 2 (2*i+bit)).toArray⟩) _ hbytes hsz hk)
 rw[<- hsec]at HC
 have hl:=secretF_len seed.data.toList index i bit
 generalize secretF seed.data.toList index i bit=R at *
 generalize be 4 index=B4 at *
 generalize be 2 (2*i+bit)=B2 at *
 have x1:(⟨#[2]⟩:ByteArray).size+T.size<=1101:=by show 1+T.size<=1101;omega
 have x2:(⟨#[2]⟩++T:ByteArray).size+(⟨B4.toArray⟩:ByteArray).size<=1105:=by rw[ByteArray.size_append];omega
 have x3:(⟨#[2]⟩++T++⟨B4.toArray⟩:ByteArray).size+(⟨B2.toArray⟩:ByteArray).size<=1107:=by rw[ByteArray.size_append,ByteArray.size_append];omega
 have HI:=Lib.hid (show(Tryz.prog.info? 30).map (·.size)=some (bytes8 R).length by rw[bytes8_len,hl];exact info_h32)
 have HR:=Lib.hid hl
 have y1:decide ((index:Int)<0)=false:=decide_eq_false (by omega)
 have y2:decide ((2147483647:Int)<(index:Int))=false:=decide_eq_false (by omega)
 have y3:decide ((i:Int)<0)=false:=decide_eq_false (by omega)
 have y4:decide ((255:Int)<(i:Int))=false:=decide_eq_false (by omega)
 have u1:=wrap_u64 (n:=index) (U64n.small (by omega))
 have u2:IntKind.u64.wrap (2*(i:Int)+(bit:Int))=2*(i:Int)+(bit:Int):=by have:=wrap_u64 (n:=2*i+bit) (U64n.small (by omega));simpa using this
 have j1:(i:Int)<256:=by omega
 have j2:(bit:Int)<2:=by omega
 have j3:(0:Int)<=(i:Int):=by omega
 have j4:(0:Int)<=(bit:Int):=by omega
 have hb01:bit=0\/bit=1:=by omega
 clear hl hsec hbytes hsz hT hTd hnl h1 h2 h3
 rcases hb01 with h01|h01
 ·have z1:((bit:Int)!=0)=false:=by rw[h01];rfl
  clear h01
  go_enter Tryz.func115,Tryz.ntmps115
  go_wp2_with (first|(go_at_call 135;refine(HT.out _).mono ?_;rintro e w1 ⟨rfl,hk1⟩)|(go_at_call 25;with_reducible refine(HP4.out _).mono ?_;rintro e w2 ⟨rfl,hk2⟩)|(go_at_call 25;with_reducible refine(HP2.out _).mono ?_;rintro e w3 ⟨rfl,hk3⟩)|(go_at_call 26;refine(HC.out _ ((hk1.trans hk2).trans hk3)).mono ?_;rintro e w5 ⟨rfl,HB⟩)|(refine wpList_store_mid rfl 30 _ _ rfl w.heap.size 0 (bytes8 R).toArray rfl rfl ?htha ?hia ?h1a ?_))
  case htha=>exact(hash_stored HB.out.1 (zeros_len 32) HR.out).1
  case hia=>exact info_hash HR.out
  case h1a=>exact all_oneCell_toArray (fun y hy=>u8_oneCell y hy)
  have hst:=hash_stored HB.out.1 (zeros_len 32) HR.out
  refine bodyPost_ret (hst.2.result rfl rfl Tryz.underlying30 rfl HI.out) rfl ⟨rfl,?_⟩
  exact HB.out.2.then_ (kept_setCells _ _ _ _) (fun i hi e=>by omega)
 ·have z1:((bit:Int)!=0)=true:=by rw[h01];rfl
  have z2:((bit:Int)!=1)=false:=by rw[h01];rfl
  clear h01
  go_enter Tryz.func115,Tryz.ntmps115
  go_wp2_with (first|(go_at_call 135;refine(HT.out _).mono ?_;rintro e w1 ⟨rfl,hk1⟩)|(go_at_call 25;with_reducible refine(HP4.out _).mono ?_;rintro e w2 ⟨rfl,hk2⟩)|(go_at_call 25;with_reducible refine(HP2.out _).mono ?_;rintro e w3 ⟨rfl,hk3⟩)|(go_at_call 26;refine(HC.out _ ((hk1.trans hk2).trans hk3)).mono ?_;rintro e w5 ⟨rfl,HB⟩)|(refine wpList_store_mid rfl 30 _ _ rfl w.heap.size 0 (bytes8 R).toArray rfl rfl ?hthb ?hib ?h1b ?_))
  case hthb=>exact(hash_stored HB.out.1 (zeros_len 32) HR.out).1
  case hib=>exact info_hash HR.out
  case h1b=>exact all_oneCell_toArray (fun y hy=>u8_oneCell y hy)
  have hst:=hash_stored HB.out.1 (zeros_len 32) HR.out
  refine bodyPost_ret (hst.2.result rfl rfl Tryz.underlying30 rfl HI.out) rfl ⟨rfl,?_⟩
  exact HB.out.2.then_ (kept_setCells _ _ _ _) (fun i hi e=>by omega)
theorem hash_text {W:World} {b:Nat} {l:By} (h:Blk W b (bytes8 l) 30) (hl:l.length=32):(convert 72 9 (.slice (some ⟨b,0,none⟩) 32 32)).run Tryz.prog W = .ok (.string ⟨l.toArray⟩) W :=
 run_string_of (w:=W) (g:=b) (off:=0) (n:=32) (cap:=32) l hl.symm (fun j u hu=>by rw[Nat.zero_add];exact h.cell hu)
theorem rshown_any (w:World) (S:By) (hS:S.length=32) :
  Calls Tryz.prog 26 #[.string (⟨#[3]⟩++⟨S.toArray⟩)] w fun e w'=>e = .returned (hashV (shownF S))/\Kept (fun _=>False) w w':=by
 have he:(⟨#[3]⟩++⟨S.toArray⟩:ByteArray)=⟨(3::S).toArray⟩:=bstr_eq (by simp[ByteArray.data_append])
 rw[he]
 exact rsum_any w ⟨(3::S).toArray⟩ (by show(3::S).toArray.size<=1000000;simp;omega)
structure NewH (w:World) (v:Value) (L:List By) (W:World):Prop where
 row:Row W 30 32 v (hcells L)
 own:∀ k,v.ownBlock=some k->w.heap.size<=k
 kept:Kept (fun _=>False) w W
theorem NewH.start (w:World):NewH w (.slice none 0 0) [] w:=⟨Row.nil _ _ _,fun k q=>by simp[Value.ownBlock]at q,Kept.refl _ _⟩
theorem NewH.same {w W W':World} {v:Value} {L:List By} (h:NewH w v L W) (hk:Kept (fun _=>False) W W'):NewH w v L W':=⟨h.row.kept hk (fun _ _=>id),h.own,h.kept.trans hk⟩
theorem NewH.app {w W:World} {v:Value} {L:List By} (h:NewH w v L W) (h32:∀ y∈L,y.length=32) (hl:L.length<=1000000) (p:By) (hp:p.length=32) :
  ∃ v' w',(Builtin.append_ #[59,59] 59 #[v,.slice (some ⟨W.heap.size,0,none⟩) 1 1]).run Tryz.prog (W.alloc (.cells (bytes8 p).toArray 30)) = .ok v' w'/\Hid (NewH w v' (L++[p]) w'):=by
 obtain⟨v',w',hr,hrow,hk,ho⟩:=append_hash1 h.row h32 p hp hl
 refine⟨v',w',hr,Lib.hid ⟨hrow,fun k q=>?_,h.kept.then_ hk (fun i hi e=>by have:=h.own i e;omega)⟩⟩
 rcases ho k q with q|q
 ·exact h.own k q
 ·have:=h.kept.size;omega
theorem take_mem32 {L:List By} (h:∀ x∈L,x.length=32) (k:Nat):∀ x∈L.take k,x.length=32:=fun x hx=>h x (List.mem_of_mem_take hx)
theorem rpublic_any (w:World) (seed:ByteArray) (index:Nat) (hs:seed.size<=1000) (h1:index<2147483648) :
  Calls Tryz.prog 88 #[.string seed,.int .i64 (index:Int)] w fun e w'=>∃ v,e = .returned v/\NewH w v (publicF seed.data.toList index) w':=by
 have y1:decide ((index:Int)<0)=false:=decide_eq_false (by omega)
 have y2:decide ((2147483647:Int)<(index:Int))=false:=decide_eq_false (by omega)
 have h32:=public_32 seed.data.toList index
 have hL:=publicF_len seed.data.toList index
 have HAT:=Lib.hid (publicF_at seed.data.toList index)
 have HSE:=Lib.hid (fun w' i b (h2:i<256) (h3:b<2)=>rsecret_any w' seed index i b hs h1 h2 h3)
 generalize publicF seed.data.toList index=P at *
 have HP:=Lib.hid (And.intro h32 hL)
 clear h32 hL
 go_enter Tryz.func88,Tryz.ntmps88
 go_wp2_with fail
 clear y1 y2
 go_loopw [5,6] (fun x y wr=>∃ i:Nat,y = .int .i64 (i:Int)/\i<=256/\Hid (NewH w x (P.take (2*i)) wr)) (fun _ y _=>256-(intOf y).toNat)
 case atStart=>exact⟨0,rfl,by omega,Lib.hid (NewH.start w)⟩
 case round =>
  obtain⟨i,rfl,hi,HR⟩:=hrel
  by_cases hlt:i<256
  ·have z1:decide ((i:Int)<256)=true:=decide_eq_true (by omega)
   have z2:decide (i<256)=true:=decide_eq_true hlt
   have HLT:=Lib.hid hlt
   go_wp2_with fail
   clear z1 z2
   go_loopw [5,7] (fun x y wr=>∃ b:Nat,y = .int .i64 (b:Int)/\b<=2/\Hid (NewH w x (P.take (2*i+b)) wr)) (fun _ y _=>2-(intOf y).toNat)
   case atStart=>exact⟨0,rfl,by omega,HR⟩
   case round =>
    obtain⟨b,rfl,hb,HB⟩:=hrel
    by_cases hb2:b<2
    ·have z1:decide ((b:Int)<2)=true:=decide_eq_true (by omega)
     have z2:decide (b<2)=true:=decide_eq_true hb2
     have hat:=HAT.out (2*i+b) (by omega)
     rw[show(2*i+b)/2=i by omega,show(2*i+b)%2=b by omega]at hat
     have hsec:=fun w'=>HSE.out w' i b hlt hb2
     have hS:=secretF_len seed.data.toList index i b
     generalize secretF seed.data.toList index i b=S at *
     have hR:=shownF_len S
     have HSUM:=Lib.hid (fun w'=>rshown_any w' S hS)
     generalize shownF S=R at *
     have HSEC:=Lib.hid hsec
     have HTX:=Lib.hid (fun (W:World) (g:Nat) (h:Blk W g (bytes8 S) 30)=>hash_text h hS)
     have HNEXT:=Lib.hid (show P.take (2*i+(b+1))=P.take (2*i+b)++[R]from by rw[show 2*i+(b+1)=(2*i+b)+1 by omega,List.take_add_one,hat];rfl)
     have HAPP:=Lib.hid (fun (W:World) (hk:Kept (fun _=>False) _ W)=>(HB.out.same hk).app (take_mem32 HP.out.1 _) (by rw[List.length_take];omega) R hR)
     have HF:=Lib.hid (fun (W2:World)=>store_fresh W2 S hS)
     have hfr0:=fold_hash hR
     simp only[zeros,List.replicate]at hfr0
     have HFR:=Lib.hid hfr0
     have HI:=Lib.hid (show(Tryz.prog.info? 30).map (·.size)=some (bytes8 S).length by rw[bytes8_len,hS];exact info_h32)
     have x1:(⟨#[3]⟩:ByteArray).size+(⟨S.toArray⟩:ByteArray).size<=33:=by show 1+S.toArray.size<=33;simp;omega
     have lR:(bytes8 R).length=32:=by rw[bytes8_len,hR]
     have HB2:=Lib.hid hb2
     have HBQ:=Lib.hid (And.intro hS hR)
     clear hat hsec hS hR hb hb2 hlt hi hfr0
     go_wp2_with (first
      | (go_at_call 115;refine(HSEC.out _).mono ?_;rintro e w1 ⟨rfl,hk1⟩)
      | ((with_reducible show wpList _ _ _ (⟨none,.store _ (.tmp 8) _,_,_,_,_⟩::_) _ _);refine wpList_store_mid rfl 30 _ _ rfl w1.heap.size 0 (bytes8 S).toArray rfl rfl ?hth ?hi ?h1 ?hk;(case' hk=>generalize hw3:World.setCells _ w1.heap.size 0 _=w3;have B3:=Lib.hid (show Blk w3 w1.heap.size (bytes8 S) 30/\Kept (fun _=>False) w1 w3 from(by rw[<- hw3];exact⟨(HF.out w1).1,(HF.out w1).2.1⟩));clear hw3;have hst:=HTX.out _ _ B3.out.1))
      | (go_at_call 26;refine(HSUM.out _).mono ?_;rintro e w4 ⟨rfl,hk4⟩;obtain⟨v5,w5,hr5,H5⟩:=HAPP.out w4 ((hk1.trans B3.out.2).trans hk4);have hfr:=HFR.out)
      | (at_builtin;refine Lib.wpList_append_run _ rfl _ _ 59 59 rfl _ _ rfl rfl _ _ hr5 ?_))
     case hth=>exact(HF.out w1).2.2
     case hi=>first|exact HI.out|simpa using HI.out
     case h1=>exact all_oneCell_toArray (fun y hy=>u8_oneCell y hy)
     have hb2:=HB2.out
     have e1:wrap64 ((b:Int)+1)=((b+1:Nat):Int):=IntWalk.wrap64_in _ (by omega)
     rw[e1]
     exact⟨⟨b+1,rfl,hb2,Lib.hid (by rw[HNEXT.out];exact H5.out)⟩,by simp only[intOf];omega⟩
    ·obtain rfl:b=2:=by omega
     have HB3:=Lib.hid (show NewH w _ (P.take (2*(i+1))) _ from HB.out)
     clear hb hb2 HB HR
     go_wp2_with fail
     go_roundw
     case rel=>exact⟨i+1,by go_num,HLT.out,HB3⟩
     case measure=>have:=HLT.out;simp[intOf];omega
  ·obtain rfl:i=256:=by omega
   have HE:=Lib.hid (show NewH w _ P _ from by have:=HR.out;rwa[List.take_of_length_le (by rw[HP.out.2];omega)]at this)
   clear HR hlt hi
   go_wp2_with fail
   go_ret
   exact⟨_,rfl,HE.out⟩
theorem append_bytes {W:World} {v:Value} {l:By} (h:Row W 5 1 v (bytes8 l)) (g off:Nat) {p:By} (hp:p.length=32) (hr:W.rangeAt g off (bytes8 p)) (hl:l.length<=10000000) :
  ∃ v' w',(Builtin.append_ #[72,72] 72 #[v,.slice (some ⟨g,off,none⟩) 32 32]).run Tryz.prog W = .ok v' w'/\Row w' 5 1 v' (bytes8 (l++p))/\Kept (fun k=>v.ownBlock=some k) W w'/\∀ k,v'.ownBlock=some k->v.ownBlock=some k\/W.heap.size<=k:=by
 obtain⟨i0,hi,hz,hsz,hby⟩:=info_parts info_u8
 obtain⟨v',w',hrun,hrow,hk,ho⟩:=h.append_cells (P:=Tryz.prog) (t:=72) Tryz.underlying72 hi hz hsz rfl (by omega) (by rw[hby];decide) ⟨g,off,none⟩ 32 32 (bytes8 p) (by rw[bytes8_len,hp])
  (fun j u hu=>by rw[Addr.add_mid];exact hr j u hu) u8_oneCell (by omega) (by rw[bytes8_len,bytes8_len,hp];omega) 72
 refine⟨v',w',hrun,?_,hk,ho⟩
 have e:bytes8 (l++p)=bytes8 l++bytes8 p:=by simp[bytes8]
 rw[e]
 exact hrow
structure LeafB (w:World) (v:Value) (l:By) (W:World):Prop where
 row:Row W 5 1 v (bytes8 l)
 own:∀ k,v.ownBlock=some k->w.heap.size+1<=k
 res:Blk W w.heap.size (zeros 32) 30
 kept:Kept (fun _=>False) w W
theorem LeafB.start (w:World):LeafB w (.slice (some ⟨w.heap.size+1,0,none⟩) 1 1) [4] ((w.alloc (.cells (zeros 32).toArray 30)).alloc (.cells #[.int .u8 4] 5)):=by
 have hb:=Blk.new (w.alloc (.cells (zeros 32).toArray 30)) [.int .u8 4] 5
 rw[World.size_alloc]at hb
 exact⟨Or.inr ⟨w.heap.size+1,1,1,[],rfl,rfl,by rw[List.append_nil];exact hb,Nat.le_refl _,Nat.le_refl _,by unfold maxLen;omega⟩,fun k q=>by simp[Value.ownBlock]at q;omega,(Blk.new w (zeros 32) 30).alloc _,((Kept.refl _ _).alloc _).alloc _⟩
theorem LeafB.app {w W:World} {v:Value} {l:By} (h:LeafB w v l W) (g off:Nat) {p:By} (hp:p.length=32) (hr:W.rangeAt g off (bytes8 p)) (hl:l.length<=10000000) :
  ∃ v' w',(Builtin.append_ #[72,72] 72 #[v,.slice (some ⟨g,off,none⟩) 32 32]).run Tryz.prog W = .ok v' w'/\Hid (LeafB w v' (l++p) w'):=by
 obtain⟨v',w',hrun,hrow,hk,ho⟩:=append_bytes h.row g off hp hr hl
 refine⟨v',w',hrun,Lib.hid ⟨hrow,fun k q=>?_,h.res.kept hk (fun e=>by have:=h.own _ e;omega),h.kept.then_ hk (fun i hi e=>by have:=h.own i e;omega)⟩⟩
 rcases ho k q with q|q
 ·exact h.own k q
 ·have:=h.res.lt;omega
theorem LeafB.text {w W:World} {v:Value} {l:By} (h:LeafB w v l W):(convert 72 9 v).run Tryz.prog W = .ok (.string ⟨l.toArray⟩) W:=by
 obtain⟨a,n,cap,rfl,hn,_⟩:=h.row.form (by omega)
 have e:n=l.length:=by rw[bytes8_len]at hn;omega
 subst e
 exact h.row.view.text
theorem rleaf_any (w:World) (v:Value) (L:List By) (hv:View w 32 v (hcells L)) (h32:∀ x∈L,x.length=32) (hL:L.length=512) :
  Calls Tryz.prog 87 #[v] w fun e w'=>e = .returned (hashV (leafF L))/\Kept (fun _=>False) w w':=by
 obtain⟨a,n,cap,rfl,q1,q2,q3,q4,q5⟩:=id hv
 rw[hcells_len h32]at q1
 obtain rfl:n=512:=by omega
 obtain⟨g,off,rfl,hg,hrg⟩:=q5 (by omega)
 have HRG:=Lib.hid (fun (W:World) (hk:Kept (fun _=>False) w W) (k:Nat) (h:By) (hh:L[k]? = some h)=>show W.rangeAt g (off+k*32) (bytes8 h)from by
  have:=rangeAt_mid (rangeAt_kept hrg hk hg id) (k*32) 32
  rwa[hcells_at h32 k h hh]at this)
 have HL:=Lib.hid (And.intro h32 hL)
 have HST:=Lib.hid (LeafB.start w)
 have hleaf:=shaF_len (4::L.flatten)
 have HLF:=Lib.hid (show leafF L=shaF (4::L.flatten)from rfl)
 generalize leafF L=R at *
 have hR:R.length=32:=by rw[HLF.out];exact hleaf
 have HR:=Lib.hid hR
 have HI:=Lib.hid (show(Tryz.prog.info? 30).map (·.size)=some (bytes8 R).length by rw[bytes8_len,hR];exact info_h32)
 clear q1 q2 q3 q4 q5 hv hrg hleaf hR h32 hL hg
 go_enter Tryz.func87,Tryz.ntmps87
 go_wp2_with fail
 go_loopw [3,4] (fun x y wr=>∃ k:Nat,y = .int .i64 (k:Int)/\k<=512/\Hid (LeafB w x (4::(L.take k).flatten) wr)) (fun _ y _=>512-(intOf y).toNat)
 case atStart=>exact⟨0,rfl,by omega,HST⟩
 case round =>
  obtain⟨k,rfl,hk,HB⟩:=hrel
  by_cases hlt:k<512
  ·have z1:decide ((k:Int)<512)=true:=decide_eq_true (by omega)
   have z2:decide (k<512)=true:=decide_eq_true hlt
   obtain⟨h,hh⟩:∃ h,L[k]? = some h:=⟨_,List.getElem?_eq_getElem (by have:=HL.out.2;omega)⟩
   have hh32:=HL.out.1 h (List.mem_of_getElem? hh)
   have hflat:4::(L.take (k+1)).flatten=(4::(L.take k).flatten)++h:=by
    rw[List.take_add_one,hh];simp
   have hfl:((L.take k).flatten).length=k*32:=by rw[flatten_len (fun x hx=>HL.out.1 x (List.mem_of_mem_take hx)),List.length_take];have:=HL.out.2;omega
   obtain⟨v2,w2,hrun,H2⟩:=HB.out.app g (off+k*32) hh32 (HRG.out _ HB.out.kept k h hh) (by rw[List.length_cons,hfl];omega)
   rw[<- hflat]at H2
   have HLT:=Lib.hid hlt
   have i0:(k:Int)<512:=by omega
   have i1:(0:Int)<=(k:Int):=by omega
   clear hh hh32 hflat hfl hlt HB hk
   go_wp2_with (at_builtin;refine Lib.wpList_append_run _ rfl _ _ 72 72 rfl _ _ rfl rfl _ _ hrun ?_)
   go_roundw
   case rel=>exact⟨k+1,by go_num,HLT.out,H2⟩
   case measure=>have:=HLT.out;simp[intOf];omega
  ·have z1:decide ((k:Int)<512)=false:=decide_eq_false (by omega)
   have z2:decide (k<512)=false:=decide_eq_false hlt
   obtain rfl:k=512:=by omega
   have hB:=HB.out
   rw[List.take_of_length_le (by have:=HL.out.2;omega)]at hB
   have hfl:(4::L.flatten).length=16385:=by rw[List.length_cons,flatten_len HL.out.1];have:=HL.out.2;omega
   have htx:=hB.text
   have HSU:=Lib.hid ((rsum_any wr ⟨(4::L.flatten).toArray⟩ (by show(4::L.flatten).toArray.size<=1000000;rw[List.size_toArray,hfl];omega)).mono (R':=fun e w2=>e = .returned (.agg (bytes8 R).toArray)/\Hid (Blk w2 w.heap.size (zeros 32) 30/\Kept (fun _=>False) w w2)) (fun e w2 q=>⟨by rw[q.1,HLF.out],Lib.hid ⟨hB.res.kept q.2 id,hB.kept.trans q.2⟩⟩))
   clear hB hfl HB hlt hk
   generalize 4::L.flatten=F at *
   go_wp2_with (first|(go_at_call 26;refine HSU.out.mono ?_;rintro e w1 ⟨rfl,H1⟩)|((with_reducible show wpList _ _ _ (⟨none,.store _ (.tmp 2) _,_,_,_,_⟩::_) _ _);refine wpList_store_mid rfl 30 _ _ rfl w.heap.size 0 (bytes8 R).toArray rfl rfl ?hth ?hi ?h1 ?_))
   case hth=>exact(hash_stored H1.out.1 (zeros_len 32) HR.out).1
   case hi=>first|exact info_hash HR.out|simpa using info_hash HR.out
   case h1=>first|exact all_oneCell_toArray (fun y hy=>u8_oneCell y hy)|exact fun y hy=>u8_oneCell y hy
   have hst:=hash_stored H1.out.1 (zeros_len 32) HR.out
   refine bodyPost_ret (hst.2.result rfl rfl Tryz.underlying30 rfl HI.out) rfl ⟨rfl,?_⟩
   exact H1.out.2.then_ (kept_setCells _ _ _ _) (fun i hi e=>by omega)
theorem rleaves_any (w:World) (seed:ByteArray) (hs:seed.size<=1000) :
  Calls Tryz.prog 47 #[.string seed] w fun e w'=>∃ v,e = .returned v/\NewH w v (leavesF seed.data.toList) w':=by
 have h32:=leaves_32 seed.data.toList
 have hL:=leavesF_len seed.data.toList
 have HAT:=Lib.hid (leavesF_at seed.data.toList)
 have HPU:=Lib.hid (fun w' k (h:k<8)=>rpublic_any w' seed k hs (by omega))
 have HLE:=Lib.hid (fun (w0 w':World) v k (hr:NewH w0 v (publicF seed.data.toList k) w')=>rleaf_any w' v _ hr.row.view (public_32 _ _) (publicF_len _ _))
 generalize leavesF seed.data.toList=L at *
 have HL:=Lib.hid (And.intro h32 hL)
 clear h32 hL
 go_enter Tryz.func47,Tryz.ntmps47
 go_wp2_with fail
 go_loopw [3,4] (fun x y wr=>∃ k:Nat,y = .int .i64 (k:Int)/\k<=8/\Hid (NewH w x (L.take k) wr)) (fun _ y _=>8-(intOf y).toNat)
 case atStart=>exact⟨0,rfl,by omega,Lib.hid (NewH.start w)⟩
 case round =>
  obtain⟨k,rfl,hk,HB⟩:=hrel
  by_cases hlt:k<8
  ·have z1:decide ((k:Int)<8)=true:=decide_eq_true (by omega)
   have z2:decide (k<8)=true:=decide_eq_true hlt
   have hat:=HAT.out k hlt
   have hpu:=fun w'=>HPU.out w' k hlt
   have hle:=fun (w0 w':World) v hr=>HLE.out w0 w' v k hr
   have hR:(leafF (publicF seed.data.toList k)).length=32:=HL.out.1 _ (List.mem_of_getElem? hat)
   generalize leafF (publicF seed.data.toList k)=R at *
   have HP1:=Lib.hid hpu
   have HL1:=Lib.hid hle
   have HNEXT:=Lib.hid (show L.take (k+1)=L.take k++[R]from by rw[List.take_add_one,hat];rfl)
   have HAPP:=Lib.hid (fun (W:World) (hk:Kept (fun _=>False) wr W)=>(HB.out.same hk).app (take_mem32 HL.out.1 _) (by rw[List.length_take];omega) R hR)
   have hfr0:=fold_hash hR
   simp only[zeros,List.replicate]at hfr0
   have HFR:=Lib.hid hfr0
   have lR:(bytes8 R).length=32:=by rw[bytes8_len,hR]
   have HLT:=Lib.hid hlt
   clear hat hpu hle hR hfr0 hlt hk
   go_wp2_with (first
    | (go_at_call 88;refine(HP1.out _).mono ?_;rintro e w1 ⟨v1,rfl,H1⟩;have HK1:=Lib.hid H1.kept;have H1:=Lib.hid H1)
    | (go_at_call 87;refine(HL1.out _ _ _ H1.out).mono ?_;rintro e w2 ⟨rfl,hk2⟩;obtain⟨v5,w5,hr5,H5⟩:=HAPP.out w2 (HK1.out.trans hk2);have hfr:=HFR.out)
    | (at_builtin;refine Lib.wpList_append_run _ rfl _ _ 59 59 rfl _ _ rfl rfl _ _ hr5 ?_))
   have hlt:=HLT.out
   have e1:wrap64 ((k:Int)+1)=((k+1:Nat):Int):=IntWalk.wrap64_in _ (by omega)
   rw[e1]
   exact⟨⟨k+1,rfl,hlt,Lib.hid (by rw[HNEXT.out];exact H5.out)⟩,by simp only[intOf];omega⟩
  ·have z1:decide ((k:Int)<8)=false:=decide_eq_false (by omega)
   have z2:decide (k<8)=false:=decide_eq_false hlt
   obtain rfl:k=8:=by omega
   have HE:=Lib.hid (show NewH w _ L _ from by have:=HB.out;rwa[List.take_of_length_le (by have:=HL.out.2;omega)]at this)
   clear HB hlt hk
   go_wp2_with fail
   go_ret
   exact⟨_,rfl,HE.out⟩
def saysOps8:Array Oper:=#[
 ⟨some 39,.fieldAddr 32 (.tmp 12) 0,0,"ref.go:35", #[],none⟩,
 ⟨some 40,.load 3 (.tmp 39),3,"ref.go:35", #[⟨0,.data⟩],none⟩,
 ⟨some 41,.binOp .lss 3 (.tmp 40) (.const (.int .i64 1)) 3,4,"ref.go:35", #[⟨1,.data⟩],none⟩,
 ⟨some 42,.move (.tmp 41),4,"ref.go:35", #[⟨2,.data⟩],none⟩,
 ⟨some 43,.fieldAddr 32 (.tmp 12) 0,0,"ref.go:35", #[⟨3,.guard⟩],some (3,false)⟩,
 ⟨some 44,.load 3 (.tmp 43),3,"ref.go:35", #[⟨4,.data⟩,⟨3,.guard⟩],some (3,false)⟩,
 ⟨some 45,.binOp .gtr 3 (.tmp 44) (.const (.int .i64 4096)) 3,4,"ref.go:35", #[⟨5,.data⟩,⟨3,.guard⟩],some (3,false)⟩,
 ⟨some 46,.pick (.tmp 42) (.const (.bool true)) (.tmp 45),4,"ref.go:35", #[⟨3,.data⟩,⟨6,.data⟩],none⟩,
 ⟨some 47,.move (.tmp 46),4,"ref.go:35", #[⟨7,.data⟩,⟨3,.chain⟩],none⟩,
 ⟨some 48,.load 32 (.tmp 12),32,"ref.go:35", #[⟨8,.guard⟩],some (8,false)⟩,
 ⟨some 49,.call { callee := .value (.func 7),args := #[.tmp 48],argTypes := #[32] },9,"ref.go:35", #[⟨9,.data⟩,⟨8,.chain⟩,⟨8,.guard⟩],some (8,false)⟩,
 ⟨some 50,.move (.tmp 0),99,"ref.go:35", #[⟨8,.guard⟩],some (8,false)⟩,
 ⟨some 51,.move (.tmp 5),3,"ref.go:35", #[⟨8,.guard⟩],some (8,false)⟩,
 ⟨some 52,.indexAddr 99 (.tmp 50) (.tmp 51),0,"ref.go:35", #[⟨11,.data⟩,⟨12,.data⟩,⟨8,.guard⟩],some (8,false)⟩,
 ⟨some 53,.load 9 (.tmp 52),9,"ref.go:35", #[⟨13,.data⟩,⟨8,.guard⟩],some (8,false)⟩,
 ⟨some 54,.binOp .neq 9 (.tmp 49) (.tmp 53) 9,4,"ref.go:35", #[⟨10,.data⟩,⟨14,.data⟩,⟨8,.guard⟩],some (8,false)⟩,
 ⟨some 55,.pick (.tmp 47) (.const (.bool true)) (.tmp 54),4,"ref.go:35", #[⟨8,.data⟩,⟨15,.data⟩],none⟩,
 ⟨some 56,.move (.tmp 55),4,"ref.go:35", #[⟨16,.data⟩,⟨10,.chain⟩],none⟩,
 ⟨some 57,.move (.tmp 5),3,"ref.go:35", #[⟨17,.guard⟩],some (17,false)⟩,
 ⟨some 58,.binOp .gtr 3 (.tmp 57) (.const (.int .i64 7)) 3,4,"ref.go:35", #[⟨18,.data⟩,⟨17,.guard⟩],some (17,false)⟩,
 ⟨some 59,.pick (.tmp 56) (.const (.bool true)) (.tmp 58),4,"ref.go:35", #[⟨17,.data⟩,⟨19,.data⟩],none⟩,
 ⟨some 60,.move (.tmp 59),4,"ref.go:35", #[⟨20,.data⟩,⟨17,.chain⟩],none⟩,
 ⟨some 61,.move (.tmp 5),3,"ref.go:35", #[⟨21,.guard⟩],some (21,false)⟩,
 ⟨some 62,.binOp .gtr 3 (.tmp 61) (.const (.int .i64 0)) 3,4,"ref.go:35", #[⟨22,.data⟩,⟨21,.guard⟩],some (21,false)⟩,
 ⟨some 63,.move (.tmp 62),4,"ref.go:35", #[⟨23,.data⟩,⟨21,.chain⟩,⟨21,.guard⟩],some (21,false)⟩,
 ⟨some 64,.move (.tmp 4),22,"ref.go:35", #[⟨24,.guard⟩],some (24,true)⟩,
 ⟨some 65,.move (.tmp 5),3,"ref.go:35", #[⟨24,.guard⟩],some (24,true)⟩,
 ⟨some 66,.binOp .sub 3 (.tmp 65) (.const (.int .i64 1)) 3,3,"ref.go:35", #[⟨26,.data⟩,⟨24,.guard⟩],some (24,true)⟩,
 ⟨some 67,.indexAddr 22 (.tmp 64) (.tmp 66),0,"ref.go:35", #[⟨25,.data⟩,⟨27,.data⟩,⟨24,.guard⟩],some (24,true)⟩,
 ⟨some 68,.fieldAddr 32 (.tmp 67) 0,0,"ref.go:35", #[⟨28,.data⟩,⟨24,.guard⟩],some (24,true)⟩,
 ⟨some 69,.load 3 (.tmp 68),3,"ref.go:35", #[⟨29,.data⟩,⟨24,.guard⟩],some (24,true)⟩,
 ⟨some 70,.fieldAddr 32 (.tmp 12) 0,0,"ref.go:35", #[⟨24,.guard⟩],some (24,true)⟩,
 ⟨some 71,.load 3 (.tmp 70),3,"ref.go:35", #[⟨31,.data⟩,⟨24,.guard⟩],some (24,true)⟩,
 ⟨some 72,.binOp .geq 3 (.tmp 69) (.tmp 71) 3,4,"ref.go:35", #[⟨30,.data⟩,⟨32,.data⟩,⟨24,.guard⟩],some (24,true)⟩,
 ⟨some 73,.pick (.tmp 63) (.tmp 72) (.const (.bool false)),4,"ref.go:35", #[⟨24,.data⟩,⟨33,.data⟩,⟨21,.guard⟩],some (21,false)⟩,
 ⟨some 74,.pick (.tmp 60) (.const (.bool true)) (.tmp 73),4,"ref.go:35", #[⟨21,.data⟩,⟨34,.data⟩],none⟩]
structure SaysS (W:World) (hb:Nat) (C:List Value) (z:Int) (g i:Nat) (p:By) (gl j:Nat) (y:Int) (has:Prop) (W':World):Prop where
 c0:W'.cell? ⟨hb,0,none⟩=some (.int .i64 z)
 rg:W'.rangeAt hb 0 C
 cp:W'.cell? ⟨g,i,none⟩=some (.string (strB p))
 cl:has->W'.cell? ⟨gl,j*33,none⟩=some (.int .i64 y)
 kept:Kept (fun _=>False) W W'
theorem SaysS.next {W W1 W2:World} {hb:Nat} {C:List Value} {z:Int} {g i:Nat} {p:By} {gl j:Nat} {y:Int} {has:Prop} (h:SaysS W hb C z g i p gl j y has W1) (hk:Kept (fun _=>False) W1 W2):SaysS W hb C z g i p gl j y has W2 :=
 ⟨hk.cell h.c0 id,fun k u hu=>hk.cell (h.rg k u hu) id,hk.cell h.cp id,fun q=>hk.cell (h.cl q) id,h.kept.trans hk⟩
theorem says_r1 {W:World} {hb g i pn pc gl j lc:Nat} {z y:Int} {C:List Value} {p N:By} {Q:Exit->Act->World->Prop} {u1 u2 u3 u4 u6 u7 u8 u9 u10 u11 u13 u14 u15 u16 u17 u18 u19 u20 u21 u22 u23 u24 u25 u26 u27 u28 u29 u30 u31 u32 u33 u34 u35 u36 u37 u38 u39 u40 u41 u42 u43 u44 u45 u46 u47 u48 u49 u50 u51 u52 u53 u54 u55 u56 u57 u58 u59 u60 u61 u62 u63 u64 u65 u66 u67 u68 u69 u70 u71 u72 u73 u74 u75 u76 u77 u78 u79:Value} (hS:SaysS W hb C z g i p gl j y False W) (hlt:i<pn) (z1:decide (z<1)=true)
  (HP:∀ c a (k:Nat) v w,Q (.panic c) (Act.put a (some k) v) w->Q (.panic c) a w) (HQ:∀ (v39 v40 v41 v42 v43 v44 v45 v46 v47 v48 v49 v50 v51 v52 v53 v54 v55 v56 v57 v58 v59 v60 v61 v62 v63 v64 v65 v66 v67 v68 v69 v70 v71 v72 v73:Value) (w':World),Kept (fun _=>False) W w'->Q .normal ⟨List.toArray ((.slice (some ⟨g,0,none⟩) pn pc)::u1::u2::u3::u4::(.int .i64 (i:Int))::u6::u7::u8::u9::u10::u11::(.pointer (some ⟨hb,0,none⟩))::u13::u14::u15::u16::u17::u18::u19::u20::u21::u22::u23::u24::u25::u26::u27::u28::u29::u30::u31::u32::u33::u34::u35::u36::u37::u38::v39::v40::v41::v42::v43::v44::v45::v46::v47::v48::v49::v50::v51::v52::v53::v54::v55::v56::v57::v58::v59::v60::v61::v62::v63::v64::v65::v66::v67::v68::v69::v70::v71::v72::v73::(.bool true)::u75::u76::u77::u78::u79::[]),[]⟩ w') :
  Code.wp Tryz.prog (Code.region 8 saysOps8 true) Q ⟨List.toArray ((.slice (some ⟨g,0,none⟩) pn pc)::u1::u2::u3::u4::(.int .i64 (i:Int))::u6::u7::u8::u9::u10::u11::(.pointer (some ⟨hb,0,none⟩))::u13::u14::u15::u16::u17::u18::u19::u20::u21::u22::u23::u24::u25::u26::u27::u28::u29::u30::u31::u32::u33::u34::u35::u36::u37::u38::u39::u40::u41::u42::u43::u44::u45::u46::u47::u48::u49::u50::u51::u52::u53::u54::u55::u56::u57::u58::u59::u60::u61::u62::u63::u64::u65::u66::u67::u68::u69::u70::u71::u72::u73::u74::u75::u76::u77::u78::u79::[]),[]⟩ W:=by
 have HQ:=Lib.hid HQ
 unfold saysOps8
 refine wp_region_held_drew (S:=SaysS W hb C z g i p gl j y False) (by kernel_rfl) (hS.next (Kept.refl _ _).drew) (fun hS0=>?_)
 clear hS
 generalize World.drew W=W0 at *
 refine tp 0 hS0 HP ?_
 refine tp 1 hS0 HP ?_ (hy:=by (refine Or.inl ⟨by rfl,fun w hSw=>?_⟩;obtain⟨s1,s2,s3,s4,s5⟩:=hSw;go_simp;(try with_reducible rfl)))
 refine tp 2 hS0 HP ?_
 refine tp 3 hS0 HP ?_
 refine tp0 4 hS0 HP ?_
 refine tp0 5 hS0 HP ?_
 refine tp0 6 hS0 HP ?_
 refine tp 7 hS0 HP ?_
 refine tp 8 hS0 HP ?_
 refine tp0 9 hS0 HP ?_
 refine tp0 10 hS0 HP ?_
 refine tp0 11 hS0 HP ?_
 refine tp0 12 hS0 HP ?_
 refine tp0 13 hS0 HP ?_
 refine tp0 14 hS0 HP ?_
 refine tp0 15 hS0 HP ?_
 refine tp 16 hS0 HP ?_
 refine tp 17 hS0 HP ?_
 refine tp0 18 hS0 HP ?_
 refine tp0 19 hS0 HP ?_
 refine tp 20 hS0 HP ?_
 refine tp 21 hS0 HP ?_
 refine tp0 22 hS0 HP ?_
 refine tp0 23 hS0 HP ?_
 refine tp0 24 hS0 HP ?_
 refine tp0 25 hS0 HP ?_
 refine tp0 26 hS0 HP ?_
 refine tp0 27 hS0 HP ?_
 refine tp0 28 hS0 HP ?_
 refine tp0 29 hS0 HP ?_
 refine tp0 30 hS0 HP ?_
 refine tp0 31 hS0 HP ?_
 refine tp0 32 hS0 HP ?_
 refine tp0 33 hS0 HP ?_
 refine tp0 34 hS0 HP ?_
 refine tp 35 hS0 HP ?_
 refine dn ?_
 exact HQ.out _ _ _ _ _ _ _ _ _ _ _ _ _ _ _ _ _ _ _ _ _ _ _ _ _ _ _ _ _ _ _ _ _ _ _ _ hS0.kept
theorem says_r2 {W:World} {hb g i pn pc gl j lc:Nat} {z y:Int} {C:List Value} {p N:By} {Q:Exit->Act->World->Prop} {u1 u2 u3 u4 u6 u7 u8 u9 u10 u11 u13 u14 u15 u16 u17 u18 u19 u20 u21 u22 u23 u24 u25 u26 u27 u28 u29 u30 u31 u32 u33 u34 u35 u36 u37 u38 u39 u40 u41 u42 u43 u44 u45 u46 u47 u48 u49 u50 u51 u52 u53 u54 u55 u56 u57 u58 u59 u60 u61 u62 u63 u64 u65 u66 u67 u68 u69 u70 u71 u72 u73 u74 u75 u76 u77 u78 u79:Value} (hS:SaysS W hb C z g i p gl j y False W) (hlt:i<pn) (z1:decide (z<1)=false) (z2:decide (4096<z)=true)
  (HP:∀ c a (k:Nat) v w,Q (.panic c) (Act.put a (some k) v) w->Q (.panic c) a w) (HQ:∀ (v39 v40 v41 v42 v43 v44 v45 v46 v47 v48 v49 v50 v51 v52 v53 v54 v55 v56 v57 v58 v59 v60 v61 v62 v63 v64 v65 v66 v67 v68 v69 v70 v71 v72 v73:Value) (w':World),Kept (fun _=>False) W w'->Q .normal ⟨List.toArray ((.slice (some ⟨g,0,none⟩) pn pc)::u1::u2::u3::u4::(.int .i64 (i:Int))::u6::u7::u8::u9::u10::u11::(.pointer (some ⟨hb,0,none⟩))::u13::u14::u15::u16::u17::u18::u19::u20::u21::u22::u23::u24::u25::u26::u27::u28::u29::u30::u31::u32::u33::u34::u35::u36::u37::u38::v39::v40::v41::v42::v43::v44::v45::v46::v47::v48::v49::v50::v51::v52::v53::v54::v55::v56::v57::v58::v59::v60::v61::v62::v63::v64::v65::v66::v67::v68::v69::v70::v71::v72::v73::(.bool true)::u75::u76::u77::u78::u79::[]),[]⟩ w') :
  Code.wp Tryz.prog (Code.region 8 saysOps8 true) Q ⟨List.toArray ((.slice (some ⟨g,0,none⟩) pn pc)::u1::u2::u3::u4::(.int .i64 (i:Int))::u6::u7::u8::u9::u10::u11::(.pointer (some ⟨hb,0,none⟩))::u13::u14::u15::u16::u17::u18::u19::u20::u21::u22::u23::u24::u25::u26::u27::u28::u29::u30::u31::u32::u33::u34::u35::u36::u37::u38::u39::u40::u41::u42::u43::u44::u45::u46::u47::u48::u49::u50::u51::u52::u53::u54::u55::u56::u57::u58::u59::u60::u61::u62::u63::u64::u65::u66::u67::u68::u69::u70::u71::u72::u73::u74::u75::u76::u77::u78::u79::[]),[]⟩ W:=by
 have HQ:=Lib.hid HQ
 unfold saysOps8
 refine wp_region_held_drew (S:=SaysS W hb C z g i p gl j y False) (by kernel_rfl) (hS.next (Kept.refl _ _).drew) (fun hS0=>?_)
 clear hS
 generalize World.drew W=W0 at *
 refine tp 0 hS0 HP ?_
 refine tp 1 hS0 HP ?_ (hy:=by (refine Or.inl ⟨by rfl,fun w hSw=>?_⟩;obtain⟨s1,s2,s3,s4,s5⟩:=hSw;go_simp;(try with_reducible rfl)))
 refine tp 2 hS0 HP ?_
 refine tp 3 hS0 HP ?_
 refine tp 4 hS0 HP ?_
 refine tp 5 hS0 HP ?_ (hy:=by (refine Or.inl ⟨by rfl,fun w hSw=>?_⟩;obtain⟨s1,s2,s3,s4,s5⟩:=hSw;go_simp;(try with_reducible rfl)))
 refine tp 6 hS0 HP ?_
 refine tp 7 hS0 HP ?_
 refine tp 8 hS0 HP ?_
 refine tp0 9 hS0 HP ?_
 refine tp0 10 hS0 HP ?_
 refine tp0 11 hS0 HP ?_
 refine tp0 12 hS0 HP ?_
 refine tp0 13 hS0 HP ?_
 refine tp0 14 hS0 HP ?_
 refine tp0 15 hS0 HP ?_
 refine tp 16 hS0 HP ?_
 refine tp 17 hS0 HP ?_
 refine tp0 18 hS0 HP ?_
 refine tp0 19 hS0 HP ?_
 refine tp 20 hS0 HP ?_
 refine tp 21 hS0 HP ?_
 refine tp0 22 hS0 HP ?_
 refine tp0 23 hS0 HP ?_
 refine tp0 24 hS0 HP ?_
 refine tp0 25 hS0 HP ?_
 refine tp0 26 hS0 HP ?_
 refine tp0 27 hS0 HP ?_
 refine tp0 28 hS0 HP ?_
 refine tp0 29 hS0 HP ?_
 refine tp0 30 hS0 HP ?_
 refine tp0 31 hS0 HP ?_
 refine tp0 32 hS0 HP ?_
 refine tp0 33 hS0 HP ?_
 refine tp0 34 hS0 HP ?_
 refine tp 35 hS0 HP ?_
 refine dn ?_
 exact HQ.out _ _ _ _ _ _ _ _ _ _ _ _ _ _ _ _ _ _ _ _ _ _ _ _ _ _ _ _ _ _ _ _ _ _ _ _ hS0.kept
theorem says_r3 {W:World} {hb g i pn pc gl j lc:Nat} {z y:Int} {C:List Value} {p N:By} {Q:Exit->Act->World->Prop} {u1 u2 u3 u4 u6 u7 u8 u9 u10 u11 u13 u14 u15 u16 u17 u18 u19 u20 u21 u22 u23 u24 u25 u26 u27 u28 u29 u30 u31 u32 u33 u34 u35 u36 u37 u38 u39 u40 u41 u42 u43 u44 u45 u46 u47 u48 u49 u50 u51 u52 u53 u54 u55 u56 u57 u58 u59 u60 u61 u62 u63 u64 u65 u66 u67 u68 u69 u70 u71 u72 u73 u74 u75 u76 u77 u78 u79:Value} (hS:SaysS W hb C z g i p gl j y False W) (hlt:i<pn) (z1:decide (z<1)=false) (z2:decide (4096<z)=false) (zr:(N==p)=false) (hi:(Tryz.prog.info? 32).map (·.size)=some C.length) (hrec:∀ w',Calls Tryz.prog 7 #[.agg C.toArray] w' fun e w2=>e = .returned (.string (strB N))/\Kept (fun _=>False) w' w2)
  (HP:∀ c a (k:Nat) v w,Q (.panic c) (Act.put a (some k) v) w->Q (.panic c) a w) (HQ:∀ (v39 v40 v41 v42 v43 v44 v45 v46 v47 v48 v49 v50 v51 v52 v53 v54 v55 v56 v57 v58 v59 v60 v61 v62 v63 v64 v65 v66 v67 v68 v69 v70 v71 v72 v73:Value) (w':World),Kept (fun _=>False) W w'->Q .normal ⟨List.toArray ((.slice (some ⟨g,0,none⟩) pn pc)::u1::u2::u3::u4::(.int .i64 (i:Int))::u6::u7::u8::u9::u10::u11::(.pointer (some ⟨hb,0,none⟩))::u13::u14::u15::u16::u17::u18::u19::u20::u21::u22::u23::u24::u25::u26::u27::u28::u29::u30::u31::u32::u33::u34::u35::u36::u37::u38::v39::v40::v41::v42::v43::v44::v45::v46::v47::v48::v49::v50::v51::v52::v53::v54::v55::v56::v57::v58::v59::v60::v61::v62::v63::v64::v65::v66::v67::v68::v69::v70::v71::v72::v73::(.bool true)::u75::u76::u77::u78::u79::[]),[]⟩ w') :
  Code.wp Tryz.prog (Code.region 8 saysOps8 true) Q ⟨List.toArray ((.slice (some ⟨g,0,none⟩) pn pc)::u1::u2::u3::u4::(.int .i64 (i:Int))::u6::u7::u8::u9::u10::u11::(.pointer (some ⟨hb,0,none⟩))::u13::u14::u15::u16::u17::u18::u19::u20::u21::u22::u23::u24::u25::u26::u27::u28::u29::u30::u31::u32::u33::u34::u35::u36::u37::u38::u39::u40::u41::u42::u43::u44::u45::u46::u47::u48::u49::u50::u51::u52::u53::u54::u55::u56::u57::u58::u59::u60::u61::u62::u63::u64::u65::u66::u67::u68::u69::u70::u71::u72::u73::u74::u75::u76::u77::u78::u79::[]),[]⟩ W:=by
 have HQ:=Lib.hid HQ
 unfold saysOps8
 refine wp_region_held_drew (S:=SaysS W hb C z g i p gl j y False) (by kernel_rfl) (hS.next (Kept.refl _ _).drew) (fun hS0=>?_)
 clear hS
 generalize World.drew W=W0 at *
 refine tp 0 hS0 HP ?_
 refine tp 1 hS0 HP ?_ (hy:=by (refine Or.inl ⟨by rfl,fun w hSw=>?_⟩;obtain⟨s1,s2,s3,s4,s5⟩:=hSw;go_simp;(try with_reducible rfl)))
 refine tp 2 hS0 HP ?_
 refine tp 3 hS0 HP ?_
 refine tp 4 hS0 HP ?_
 refine tp 5 hS0 HP ?_ (hy:=by (refine Or.inl ⟨by rfl,fun w hSw=>?_⟩;obtain⟨s1,s2,s3,s4,s5⟩:=hSw;go_simp;(try with_reducible rfl)))
 refine tp 6 hS0 HP ?_
 refine tp 7 hS0 HP ?_
 refine tp 8 hS0 HP ?_
 refine tky 9 rfl (fun _ _ _ h=>HP _ _ _ _ _ h) (yieldsIf_load_mid (by rfl) _ _ rfl hb 0 rfl C _ (fun w h=>h.rg) Tryz.underlying32 rfl hi) hS0 ?_
 refine tp 11 hS0 HP ?_
 refine tp 12 hS0 HP ?_
 refine tp 13 hS0 HP ?_
 refine tp 14 hS0 HP ?_ (hy:=by (refine Or.inl ⟨by rfl,fun w hSw=>?_⟩;obtain⟨s1,s2,s3,s4,s5⟩:=hSw;go_simp;(try with_reducible rfl)))
 refine rd1 10 (fun K hK=>?_)
 go_simp
 refine(hrec _).mono ?_
 rintro e w3 ⟨rfl,hk3⟩
 refine hK.out _ _ (hS0.next hk3) (fun hS1=>?_)
 clear hK K
 try simp only[lyA,lyB,lyC,lyD]
 refine tp 15 hS1 HP ?_
 refine tp 16 hS1 HP ?_
 refine tp 17 hS1 HP ?_
 refine tp0 18 hS1 HP ?_
 refine tp0 19 hS1 HP ?_
 refine tp 20 hS1 HP ?_
 refine tp 21 hS1 HP ?_
 refine tp0 22 hS1 HP ?_
 refine tp0 23 hS1 HP ?_
 refine tp0 24 hS1 HP ?_
 refine tp0 25 hS1 HP ?_
 refine tp0 26 hS1 HP ?_
 refine tp0 27 hS1 HP ?_
 refine tp0 28 hS1 HP ?_
 refine tp0 29 hS1 HP ?_
 refine tp0 30 hS1 HP ?_
 refine tp0 31 hS1 HP ?_
 refine tp0 32 hS1 HP ?_
 refine tp0 33 hS1 HP ?_
 refine tp0 34 hS1 HP ?_
 refine tp 35 hS1 HP ?_
 refine dn ?_
 exact HQ.out _ _ _ _ _ _ _ _ _ _ _ _ _ _ _ _ _ _ _ _ _ _ _ _ _ _ _ _ _ _ _ _ _ _ _ _ hS1.kept
theorem says_r4 {W:World} {hb g i pn pc gl j lc:Nat} {z y:Int} {C:List Value} {p N:By} {Q:Exit->Act->World->Prop} {u1 u2 u3 u4 u6 u7 u8 u9 u10 u11 u13 u14 u15 u16 u17 u18 u19 u20 u21 u22 u23 u24 u25 u26 u27 u28 u29 u30 u31 u32 u33 u34 u35 u36 u37 u38 u39 u40 u41 u42 u43 u44 u45 u46 u47 u48 u49 u50 u51 u52 u53 u54 u55 u56 u57 u58 u59 u60 u61 u62 u63 u64 u65 u66 u67 u68 u69 u70 u71 u72 u73 u74 u75 u76 u77 u78 u79:Value} (hS:SaysS W hb C z g i p gl j y False W) (hlt:i<pn) (z1:decide (z<1)=false) (z2:decide (4096<z)=false) (zr:(N==p)=true) (hi:(Tryz.prog.info? 32).map (·.size)=some C.length) (hrec:∀ w',Calls Tryz.prog 7 #[.agg C.toArray] w' fun e w2=>e = .returned (.string (strB N))/\Kept (fun _=>False) w' w2) (z7:decide ((7:Int)<(i:Int))=true) (z7':decide (7<i)=true)
  (HP:∀ c a (k:Nat) v w,Q (.panic c) (Act.put a (some k) v) w->Q (.panic c) a w) (HQ:∀ (v39 v40 v41 v42 v43 v44 v45 v46 v47 v48 v49 v50 v51 v52 v53 v54 v55 v56 v57 v58 v59 v60 v61 v62 v63 v64 v65 v66 v67 v68 v69 v70 v71 v72 v73:Value) (w':World),Kept (fun _=>False) W w'->Q .normal ⟨List.toArray ((.slice (some ⟨g,0,none⟩) pn pc)::u1::u2::u3::u4::(.int .i64 (i:Int))::u6::u7::u8::u9::u10::u11::(.pointer (some ⟨hb,0,none⟩))::u13::u14::u15::u16::u17::u18::u19::u20::u21::u22::u23::u24::u25::u26::u27::u28::u29::u30::u31::u32::u33::u34::u35::u36::u37::u38::v39::v40::v41::v42::v43::v44::v45::v46::v47::v48::v49::v50::v51::v52::v53::v54::v55::v56::v57::v58::v59::v60::v61::v62::v63::v64::v65::v66::v67::v68::v69::v70::v71::v72::v73::(.bool true)::u75::u76::u77::u78::u79::[]),[]⟩ w') :
  Code.wp Tryz.prog (Code.region 8 saysOps8 true) Q ⟨List.toArray ((.slice (some ⟨g,0,none⟩) pn pc)::u1::u2::u3::u4::(.int .i64 (i:Int))::u6::u7::u8::u9::u10::u11::(.pointer (some ⟨hb,0,none⟩))::u13::u14::u15::u16::u17::u18::u19::u20::u21::u22::u23::u24::u25::u26::u27::u28::u29::u30::u31::u32::u33::u34::u35::u36::u37::u38::u39::u40::u41::u42::u43::u44::u45::u46::u47::u48::u49::u50::u51::u52::u53::u54::u55::u56::u57::u58::u59::u60::u61::u62::u63::u64::u65::u66::u67::u68::u69::u70::u71::u72::u73::u74::u75::u76::u77::u78::u79::[]),[]⟩ W:=by
 have HQ:=Lib.hid HQ
 unfold saysOps8
 refine wp_region_held_drew (S:=SaysS W hb C z g i p gl j y False) (by kernel_rfl) (hS.next (Kept.refl _ _).drew) (fun hS0=>?_)
 clear hS
 generalize World.drew W=W0 at *
 refine tp 0 hS0 HP ?_
 refine tp 1 hS0 HP ?_ (hy:=by (refine Or.inl ⟨by rfl,fun w hSw=>?_⟩;obtain⟨s1,s2,s3,s4,s5⟩:=hSw;go_simp;(try with_reducible rfl)))
 refine tp 2 hS0 HP ?_
 refine tp 3 hS0 HP ?_
 refine tp 4 hS0 HP ?_
 refine tp 5 hS0 HP ?_ (hy:=by (refine Or.inl ⟨by rfl,fun w hSw=>?_⟩;obtain⟨s1,s2,s3,s4,s5⟩:=hSw;go_simp;(try with_reducible rfl)))
 refine tp 6 hS0 HP ?_
 refine tp 7 hS0 HP ?_
 refine tp 8 hS0 HP ?_
 refine tky 9 rfl (fun _ _ _ h=>HP _ _ _ _ _ h) (yieldsIf_load_mid (by rfl) _ _ rfl hb 0 rfl C _ (fun w h=>h.rg) Tryz.underlying32 rfl hi) hS0 ?_
 refine tp 11 hS0 HP ?_
 refine tp 12 hS0 HP ?_
 refine tp 13 hS0 HP ?_
 refine tp 14 hS0 HP ?_ (hy:=by (refine Or.inl ⟨by rfl,fun w hSw=>?_⟩;obtain⟨s1,s2,s3,s4,s5⟩:=hSw;go_simp;(try with_reducible rfl)))
 refine rd1 10 (fun K hK=>?_)
 go_simp
 refine(hrec _).mono ?_
 rintro e w3 ⟨rfl,hk3⟩
 refine hK.out _ _ (hS0.next hk3) (fun hS1=>?_)
 clear hK K
 try simp only[lyA,lyB,lyC,lyD]
 refine tp 15 hS1 HP ?_
 refine tp 16 hS1 HP ?_
 refine tp 17 hS1 HP ?_
 refine tp 18 hS1 HP ?_
 refine tp 19 hS1 HP ?_
 refine tp 20 hS1 HP ?_
 refine tp 21 hS1 HP ?_
 refine tp0 22 hS1 HP ?_
 refine tp0 23 hS1 HP ?_
 refine tp0 24 hS1 HP ?_
 refine tp0 25 hS1 HP ?_
 refine tp0 26 hS1 HP ?_
 refine tp0 27 hS1 HP ?_
 refine tp0 28 hS1 HP ?_
 refine tp0 29 hS1 HP ?_
 refine tp0 30 hS1 HP ?_
 refine tp0 31 hS1 HP ?_
 refine tp0 32 hS1 HP ?_
 refine tp0 33 hS1 HP ?_
 refine tp0 34 hS1 HP ?_
 refine tp 35 hS1 HP ?_
 refine dn ?_
 exact HQ.out _ _ _ _ _ _ _ _ _ _ _ _ _ _ _ _ _ _ _ _ _ _ _ _ _ _ _ _ _ _ _ _ _ _ _ _ hS1.kept
theorem says_r5 {W:World} {hb g i pn pc gl j lc:Nat} {z y:Int} {C:List Value} {p N:By} {Q:Exit->Act->World->Prop} {u1 u2 u3 u6 u7 u8 u9 u10 u11 u13 u14 u15 u16 u17 u18 u19 u20 u21 u22 u23 u24 u25 u26 u27 u28 u29 u30 u31 u32 u33 u34 u35 u36 u37 u38 u39 u40 u41 u42 u43 u44 u45 u46 u47 u48 u49 u50 u51 u52 u53 u54 u55 u56 u57 u58 u59 u60 u61 u62 u63 u64 u65 u66 u67 u68 u69 u70 u71 u72 u73 u74 u75 u76 u77 u78 u79:Value} (hS:SaysS W hb C z g i p gl j y True W) (hlt:i<pn) (z1:decide (z<1)=false) (z2:decide (4096<z)=false) (zr:(N==p)=true) (hi:(Tryz.prog.info? 32).map (·.size)=some C.length) (hrec:∀ w',Calls Tryz.prog 7 #[.agg C.toArray] w' fun e w2=>e = .returned (.string (strB N))/\Kept (fun _=>False) w' w2) (z7:decide ((7:Int)<(i:Int))=false) (z7':decide (7<i)=false) (z0:decide ((0:Int)<(i:Int))=true) (z0':decide (0<i)=true) (zl:decide (z<=y)=true) (ej:IntKind.i64.wrap ((i:Int)-1)=(j:Int)) (hj:j<i)
  (HP:∀ c a (k:Nat) v w,Q (.panic c) (Act.put a (some k) v) w->Q (.panic c) a w) (HQ:∀ (v39 v40 v41 v42 v43 v44 v45 v46 v47 v48 v49 v50 v51 v52 v53 v54 v55 v56 v57 v58 v59 v60 v61 v62 v63 v64 v65 v66 v67 v68 v69 v70 v71 v72 v73:Value) (w':World),Kept (fun _=>False) W w'->Q .normal ⟨List.toArray ((.slice (some ⟨g,0,none⟩) pn pc)::u1::u2::u3::(.slice (some ⟨gl,0,none⟩) i lc)::(.int .i64 (i:Int))::u6::u7::u8::u9::u10::u11::(.pointer (some ⟨hb,0,none⟩))::u13::u14::u15::u16::u17::u18::u19::u20::u21::u22::u23::u24::u25::u26::u27::u28::u29::u30::u31::u32::u33::u34::u35::u36::u37::u38::v39::v40::v41::v42::v43::v44::v45::v46::v47::v48::v49::v50::v51::v52::v53::v54::v55::v56::v57::v58::v59::v60::v61::v62::v63::v64::v65::v66::v67::v68::v69::v70::v71::v72::v73::(.bool true)::u75::u76::u77::u78::u79::[]),[]⟩ w') :
  Code.wp Tryz.prog (Code.region 8 saysOps8 true) Q ⟨List.toArray ((.slice (some ⟨g,0,none⟩) pn pc)::u1::u2::u3::(.slice (some ⟨gl,0,none⟩) i lc)::(.int .i64 (i:Int))::u6::u7::u8::u9::u10::u11::(.pointer (some ⟨hb,0,none⟩))::u13::u14::u15::u16::u17::u18::u19::u20::u21::u22::u23::u24::u25::u26::u27::u28::u29::u30::u31::u32::u33::u34::u35::u36::u37::u38::u39::u40::u41::u42::u43::u44::u45::u46::u47::u48::u49::u50::u51::u52::u53::u54::u55::u56::u57::u58::u59::u60::u61::u62::u63::u64::u65::u66::u67::u68::u69::u70::u71::u72::u73::u74::u75::u76::u77::u78::u79::[]),[]⟩ W:=by
 have HQ:=Lib.hid HQ
 unfold saysOps8
 refine wp_region_held_drew (S:=SaysS W hb C z g i p gl j y True) (by kernel_rfl) (hS.next (Kept.refl _ _).drew) (fun hS0=>?_)
 clear hS
 generalize World.drew W=W0 at *
 refine tp 0 hS0 HP ?_
 refine tp 1 hS0 HP ?_ (hy:=by (refine Or.inl ⟨by rfl,fun w hSw=>?_⟩;obtain⟨s1,s2,s3,s4,s5⟩:=hSw;go_simp;(try with_reducible rfl)))
 refine tp 2 hS0 HP ?_
 refine tp 3 hS0 HP ?_
 refine tp 4 hS0 HP ?_
 refine tp 5 hS0 HP ?_ (hy:=by (refine Or.inl ⟨by rfl,fun w hSw=>?_⟩;obtain⟨s1,s2,s3,s4,s5⟩:=hSw;go_simp;(try with_reducible rfl)))
 refine tp 6 hS0 HP ?_
 refine tp 7 hS0 HP ?_
 refine tp 8 hS0 HP ?_
 refine tky 9 rfl (fun _ _ _ h=>HP _ _ _ _ _ h) (yieldsIf_load_mid (by rfl) _ _ rfl hb 0 rfl C _ (fun w h=>h.rg) Tryz.underlying32 rfl hi) hS0 ?_
 refine tp 11 hS0 HP ?_
 refine tp 12 hS0 HP ?_
 refine tp 13 hS0 HP ?_
 refine tp 14 hS0 HP ?_ (hy:=by (refine Or.inl ⟨by rfl,fun w hSw=>?_⟩;obtain⟨s1,s2,s3,s4,s5⟩:=hSw;go_simp;(try with_reducible rfl)))
 refine rd1 10 (fun K hK=>?_)
 go_simp
 refine(hrec _).mono ?_
 rintro e w3 ⟨rfl,hk3⟩
 refine hK.out _ _ (hS0.next hk3) (fun hS1=>?_)
 clear hK K
 try simp only[lyA,lyB,lyC,lyD]
 refine tp 15 hS1 HP ?_
 refine tp 16 hS1 HP ?_
 refine tp 17 hS1 HP ?_
 refine tp 18 hS1 HP ?_
 refine tp 19 hS1 HP ?_
 refine tp 20 hS1 HP ?_
 refine tp 21 hS1 HP ?_
 refine tp 22 hS1 HP ?_
 refine tp 23 hS1 HP ?_
 refine tp 24 hS1 HP ?_
 refine tp 25 hS1 HP ?_
 refine tp 26 hS1 HP ?_
 refine tp 27 hS1 HP ?_
 refine tp 28 hS1 HP ?_
 refine tp 29 hS1 HP ?_
 refine tp 30 hS1 HP ?_ (hy:=by (refine Or.inl ⟨by rfl,fun w hSw=>?_⟩;obtain⟨s1,s2,s3,s4,s5⟩:=hSw;have s6:=s4 trivial;go_simp;(try with_reducible rfl)))
 refine tp 31 hS1 HP ?_
 refine tp 32 hS1 HP ?_ (hy:=by (refine Or.inl ⟨by rfl,fun w hSw=>?_⟩;obtain⟨s1,s2,s3,s4,s5⟩:=hSw;go_simp;(try with_reducible rfl)))
 refine tp 33 hS1 HP ?_
 refine tp 34 hS1 HP ?_
 refine tp 35 hS1 HP ?_
 refine dn ?_
 exact HQ.out _ _ _ _ _ _ _ _ _ _ _ _ _ _ _ _ _ _ _ _ _ _ _ _ _ _ _ _ _ _ _ _ _ _ _ _ hS1.kept
theorem says_r6 {W:World} {hb g i pn pc gl j lc:Nat} {z y:Int} {C:List Value} {p N:By} {Q:Exit->Act->World->Prop} {u1 u2 u3 u6 u7 u8 u9 u10 u11 u13 u14 u15 u16 u17 u18 u19 u20 u21 u22 u23 u24 u25 u26 u27 u28 u29 u30 u31 u32 u33 u34 u35 u36 u37 u38 u39 u40 u41 u42 u43 u44 u45 u46 u47 u48 u49 u50 u51 u52 u53 u54 u55 u56 u57 u58 u59 u60 u61 u62 u63 u64 u65 u66 u67 u68 u69 u70 u71 u72 u73 u74 u75 u76 u77 u78 u79:Value} (hS:SaysS W hb C z g i p gl j y True W) (hlt:i<pn) (z1:decide (z<1)=false) (z2:decide (4096<z)=false) (zr:(N==p)=true) (hi:(Tryz.prog.info? 32).map (·.size)=some C.length) (hrec:∀ w',Calls Tryz.prog 7 #[.agg C.toArray] w' fun e w2=>e = .returned (.string (strB N))/\Kept (fun _=>False) w' w2) (z7:decide ((7:Int)<(i:Int))=false) (z7':decide (7<i)=false) (z0:decide ((0:Int)<(i:Int))=true) (z0':decide (0<i)=true) (zl:decide (z<=y)=false) (ej:IntKind.i64.wrap ((i:Int)-1)=(j:Int)) (hj:j<i)
  (HP:∀ c a (k:Nat) v w,Q (.panic c) (Act.put a (some k) v) w->Q (.panic c) a w) (HQ:∀ (v39 v40 v41 v42 v43 v44 v45 v46 v47 v48 v49 v50 v51 v52 v53 v54 v55 v56 v57 v58 v59 v60 v61 v62 v63 v64 v65 v66 v67 v68 v69 v70 v71 v72 v73:Value) (w':World),Kept (fun _=>False) W w'->Q .normal ⟨List.toArray ((.slice (some ⟨g,0,none⟩) pn pc)::u1::u2::u3::(.slice (some ⟨gl,0,none⟩) i lc)::(.int .i64 (i:Int))::u6::u7::u8::u9::u10::u11::(.pointer (some ⟨hb,0,none⟩))::u13::u14::u15::u16::u17::u18::u19::u20::u21::u22::u23::u24::u25::u26::u27::u28::u29::u30::u31::u32::u33::u34::u35::u36::u37::u38::v39::v40::v41::v42::v43::v44::v45::v46::v47::v48::v49::v50::v51::v52::v53::v54::v55::v56::v57::v58::v59::v60::v61::v62::v63::v64::v65::v66::v67::v68::v69::v70::v71::v72::v73::(.bool false)::u75::u76::u77::u78::u79::[]),[]⟩ w') :
  Code.wp Tryz.prog (Code.region 8 saysOps8 true) Q ⟨List.toArray ((.slice (some ⟨g,0,none⟩) pn pc)::u1::u2::u3::(.slice (some ⟨gl,0,none⟩) i lc)::(.int .i64 (i:Int))::u6::u7::u8::u9::u10::u11::(.pointer (some ⟨hb,0,none⟩))::u13::u14::u15::u16::u17::u18::u19::u20::u21::u22::u23::u24::u25::u26::u27::u28::u29::u30::u31::u32::u33::u34::u35::u36::u37::u38::u39::u40::u41::u42::u43::u44::u45::u46::u47::u48::u49::u50::u51::u52::u53::u54::u55::u56::u57::u58::u59::u60::u61::u62::u63::u64::u65::u66::u67::u68::u69::u70::u71::u72::u73::u74::u75::u76::u77::u78::u79::[]),[]⟩ W:=by
 have HQ:=Lib.hid HQ
 unfold saysOps8
 refine wp_region_held_drew (S:=SaysS W hb C z g i p gl j y True) (by kernel_rfl) (hS.next (Kept.refl _ _).drew) (fun hS0=>?_)
 clear hS
 generalize World.drew W=W0 at *
 refine tp 0 hS0 HP ?_
 refine tp 1 hS0 HP ?_ (hy:=by (refine Or.inl ⟨by rfl,fun w hSw=>?_⟩;obtain⟨s1,s2,s3,s4,s5⟩:=hSw;go_simp;(try with_reducible rfl)))
 refine tp 2 hS0 HP ?_
 refine tp 3 hS0 HP ?_
 refine tp 4 hS0 HP ?_
 refine tp 5 hS0 HP ?_ (hy:=by (refine Or.inl ⟨by rfl,fun w hSw=>?_⟩;obtain⟨s1,s2,s3,s4,s5⟩:=hSw;go_simp;(try with_reducible rfl)))
 refine tp 6 hS0 HP ?_
 refine tp 7 hS0 HP ?_
 refine tp 8 hS0 HP ?_
 refine tky 9 rfl (fun _ _ _ h=>HP _ _ _ _ _ h) (yieldsIf_load_mid (by rfl) _ _ rfl hb 0 rfl C _ (fun w h=>h.rg) Tryz.underlying32 rfl hi) hS0 ?_
 refine tp 11 hS0 HP ?_
 refine tp 12 hS0 HP ?_
 refine tp 13 hS0 HP ?_
 refine tp 14 hS0 HP ?_ (hy:=by (refine Or.inl ⟨by rfl,fun w hSw=>?_⟩;obtain⟨s1,s2,s3,s4,s5⟩:=hSw;go_simp;(try with_reducible rfl)))
 refine rd1 10 (fun K hK=>?_)
 go_simp
 refine(hrec _).mono ?_
 rintro e w3 ⟨rfl,hk3⟩
 refine hK.out _ _ (hS0.next hk3) (fun hS1=>?_)
 clear hK K
 try simp only[lyA,lyB,lyC,lyD]
 refine tp 15 hS1 HP ?_
 refine tp 16 hS1 HP ?_
 refine tp 17 hS1 HP ?_
 refine tp 18 hS1 HP ?_
 refine tp 19 hS1 HP ?_
 refine tp 20 hS1 HP ?_
 refine tp 21 hS1 HP ?_
 refine tp 22 hS1 HP ?_
 refine tp 23 hS1 HP ?_
 refine tp 24 hS1 HP ?_
 refine tp 25 hS1 HP ?_
 refine tp 26 hS1 HP ?_
 refine tp 27 hS1 HP ?_
 refine tp 28 hS1 HP ?_
 refine tp 29 hS1 HP ?_
 refine tp 30 hS1 HP ?_ (hy:=by (refine Or.inl ⟨by rfl,fun w hSw=>?_⟩;obtain⟨s1,s2,s3,s4,s5⟩:=hSw;have s6:=s4 trivial;go_simp;(try with_reducible rfl)))
 refine tp 31 hS1 HP ?_
 refine tp 32 hS1 HP ?_ (hy:=by (refine Or.inl ⟨by rfl,fun w hSw=>?_⟩;obtain⟨s1,s2,s3,s4,s5⟩:=hSw;go_simp;(try with_reducible rfl)))
 refine tp 33 hS1 HP ?_
 refine tp 34 hS1 HP ?_
 refine tp 35 hS1 HP ?_
 refine dn ?_
 exact HQ.out _ _ _ _ _ _ _ _ _ _ _ _ _ _ _ _ _ _ _ _ _ _ _ _ _ _ _ _ _ _ _ _ _ _ _ _ hS1.kept
theorem says_r7 {W:World} {hb g i pn pc gl j lc:Nat} {z y:Int} {C:List Value} {p N:By} {Q:Exit->Act->World->Prop} {u1 u2 u3 u4 u6 u7 u8 u9 u10 u11 u13 u14 u15 u16 u17 u18 u19 u20 u21 u22 u23 u24 u25 u26 u27 u28 u29 u30 u31 u32 u33 u34 u35 u36 u37 u38 u39 u40 u41 u42 u43 u44 u45 u46 u47 u48 u49 u50 u51 u52 u53 u54 u55 u56 u57 u58 u59 u60 u61 u62 u63 u64 u65 u66 u67 u68 u69 u70 u71 u72 u73 u74 u75 u76 u77 u78 u79:Value} (hS:SaysS W hb C z g i p gl j y False W) (hlt:i<pn) (z1:decide (z<1)=false) (z2:decide (4096<z)=false) (zr:(N==p)=true) (hi:(Tryz.prog.info? 32).map (·.size)=some C.length) (hrec:∀ w',Calls Tryz.prog 7 #[.agg C.toArray] w' fun e w2=>e = .returned (.string (strB N))/\Kept (fun _=>False) w' w2) (z7:decide ((7:Int)<(i:Int))=false) (z7':decide (7<i)=false) (z0:decide ((0:Int)<(i:Int))=false) (z0':decide (0<i)=false)
  (HP:∀ c a (k:Nat) v w,Q (.panic c) (Act.put a (some k) v) w->Q (.panic c) a w) (HQ:∀ (v39 v40 v41 v42 v43 v44 v45 v46 v47 v48 v49 v50 v51 v52 v53 v54 v55 v56 v57 v58 v59 v60 v61 v62 v63 v64 v65 v66 v67 v68 v69 v70 v71 v72 v73:Value) (w':World),Kept (fun _=>False) W w'->Q .normal ⟨List.toArray ((.slice (some ⟨g,0,none⟩) pn pc)::u1::u2::u3::u4::(.int .i64 (i:Int))::u6::u7::u8::u9::u10::u11::(.pointer (some ⟨hb,0,none⟩))::u13::u14::u15::u16::u17::u18::u19::u20::u21::u22::u23::u24::u25::u26::u27::u28::u29::u30::u31::u32::u33::u34::u35::u36::u37::u38::v39::v40::v41::v42::v43::v44::v45::v46::v47::v48::v49::v50::v51::v52::v53::v54::v55::v56::v57::v58::v59::v60::v61::v62::v63::v64::v65::v66::v67::v68::v69::v70::v71::v72::v73::(.bool false)::u75::u76::u77::u78::u79::[]),[]⟩ w') :
  Code.wp Tryz.prog (Code.region 8 saysOps8 true) Q ⟨List.toArray ((.slice (some ⟨g,0,none⟩) pn pc)::u1::u2::u3::u4::(.int .i64 (i:Int))::u6::u7::u8::u9::u10::u11::(.pointer (some ⟨hb,0,none⟩))::u13::u14::u15::u16::u17::u18::u19::u20::u21::u22::u23::u24::u25::u26::u27::u28::u29::u30::u31::u32::u33::u34::u35::u36::u37::u38::u39::u40::u41::u42::u43::u44::u45::u46::u47::u48::u49::u50::u51::u52::u53::u54::u55::u56::u57::u58::u59::u60::u61::u62::u63::u64::u65::u66::u67::u68::u69::u70::u71::u72::u73::u74::u75::u76::u77::u78::u79::[]),[]⟩ W:=by
 have HQ:=Lib.hid HQ
 unfold saysOps8
 refine wp_region_held_drew (S:=SaysS W hb C z g i p gl j y False) (by kernel_rfl) (hS.next (Kept.refl _ _).drew) (fun hS0=>?_)
 clear hS
 generalize World.drew W=W0 at *
 refine tp 0 hS0 HP ?_
 refine tp 1 hS0 HP ?_ (hy:=by (refine Or.inl ⟨by rfl,fun w hSw=>?_⟩;obtain⟨s1,s2,s3,s4,s5⟩:=hSw;go_simp;(try with_reducible rfl)))
 refine tp 2 hS0 HP ?_
 refine tp 3 hS0 HP ?_
 refine tp 4 hS0 HP ?_
 refine tp 5 hS0 HP ?_ (hy:=by (refine Or.inl ⟨by rfl,fun w hSw=>?_⟩;obtain⟨s1,s2,s3,s4,s5⟩:=hSw;go_simp;(try with_reducible rfl)))
 refine tp 6 hS0 HP ?_
 refine tp 7 hS0 HP ?_
 refine tp 8 hS0 HP ?_
 refine tky 9 rfl (fun _ _ _ h=>HP _ _ _ _ _ h) (yieldsIf_load_mid (by rfl) _ _ rfl hb 0 rfl C _ (fun w h=>h.rg) Tryz.underlying32 rfl hi) hS0 ?_
 refine tp 11 hS0 HP ?_
 refine tp 12 hS0 HP ?_
 refine tp 13 hS0 HP ?_
 refine tp 14 hS0 HP ?_ (hy:=by (refine Or.inl ⟨by rfl,fun w hSw=>?_⟩;obtain⟨s1,s2,s3,s4,s5⟩:=hSw;go_simp;(try with_reducible rfl)))
 refine rd1 10 (fun K hK=>?_)
 go_simp
 refine(hrec _).mono ?_
 rintro e w3 ⟨rfl,hk3⟩
 refine hK.out _ _ (hS0.next hk3) (fun hS1=>?_)
 clear hK K
 try simp only[lyA,lyB,lyC,lyD]
 refine tp 15 hS1 HP ?_
 refine tp 16 hS1 HP ?_
 refine tp 17 hS1 HP ?_
 refine tp 18 hS1 HP ?_
 refine tp 19 hS1 HP ?_
 refine tp 20 hS1 HP ?_
 refine tp 21 hS1 HP ?_
 refine tp 22 hS1 HP ?_
 refine tp 23 hS1 HP ?_
 refine tp 24 hS1 HP ?_
 refine tp0 25 hS1 HP ?_
 refine tp0 26 hS1 HP ?_
 refine tp0 27 hS1 HP ?_
 refine tp0 28 hS1 HP ?_
 refine tp0 29 hS1 HP ?_
 refine tp0 30 hS1 HP ?_
 refine tp0 31 hS1 HP ?_
 refine tp0 32 hS1 HP ?_
 refine tp0 33 hS1 HP ?_
 refine tp 34 hS1 HP ?_
 refine tp 35 hS1 HP ?_
 refine dn ?_
 exact HQ.out _ _ _ _ _ _ _ _ _ _ _ _ _ _ _ _ _ _ _ _ _ _ _ _ _ _ _ _ _ _ _ _ _ _ _ _ hS1.kept
theorem hd_fresh (w2:World) {C:List Value} (hC:C.length=33):Blk ((w2.alloc (.cells (headC 0 (List.replicate 32 0)).toArray 32)).setCells w2.heap.size 0 C) w2.heap.size C 32/\Kept (fun _=>False) w2 ((w2.alloc (.cells (headC 0 (List.replicate 32 0)).toArray 32)).setCells w2.heap.size 0 C)/\(w2.alloc (.cells (headC 0 (List.replicate 32 0)).toArray 32)).there w2.heap.size 0 C.toArray.size:=by
 have hz:(headC 0 (List.replicate 32 0)).length=33:=headC_len (by simp)
 have b0:=Blk.new w2 (headC 0 (List.replicate 32 0)) 32
 have c0:=b0.setCells 0 C (by omega)
 rw[splice_whole (by omega)]at c0
 exact⟨c0,((Kept.refl (fun _=>False) w2).alloc _).then_ (kept_setCells _ w2.heap.size 0 _) (fun i hi e=>by omega),b0.there 0 _ (by rw[List.size_toArray];omega)⟩
structure SaysW (w:World) (x:Value) (l:List Hd) (wr:World):Prop where
 row:Row wr 32 33 x (hdC l)
 own:∀ k,x.ownBlock=some k->w.heap.size<=k
 kept:Kept (fun _=>False) w wr
theorem SaysW.last {w wr:World} {x:Value} {l:List Hd} (h:SaysW w x l wr) (h32:∀ y∈l,y.2.length=32) {i:Nat} (hi:l.length=i+1):∃ gl lc y:Nat,x = .slice (some ⟨gl,0,none⟩) (i+1) lc/\wr.cell? ⟨gl,i*33,none⟩=some (.int .i64 (y:Int))/\lastS 0 l=y:=by
 obtain⟨a,n,lc,rfl,hm,hml,hcl⟩:=h.row.form (by omega)
 rw[hdC_len h32]at hm
 obtain rfl:n=i+1:=by omega
 obtain⟨gl,rfl,_,hc⟩:=hcl (by omega)
 obtain⟨y,hy⟩:∃ y,l[i]? = some y:=⟨_,List.getElem?_eq_getElem (by omega)⟩
 refine⟨gl,lc,y.1,rfl,hc (i*33) _ ?_,?_⟩
 ·have e:=congrArg (·[0]?) (hdC_at h32 i hy)
  simpa[List.getElem?_take,List.getElem?_drop]using e
 ·unfold lastS
  rw[List.getLast?_eq_getElem?,hi,Nat.add_sub_cancel,hy]
  rfl
theorem SaysW.app {w wr w5:World} {x:Value} {l:List Hd} (h:SaysW w x l wr) (h32:∀ y∈l,y.2.length=32) (hl:l.length<=1000000) (hk:Kept (fun _=>False) wr w5) {s:Nat} {root:By} (hr:root.length=32) {C:List Value} (hC:headC (s:Int) root=C) :
  ∃ v' w6,(Builtin.append_ #[22,22] 22 #[x,.slice (some ⟨w5.heap.size,0,none⟩) 1 1]).run Tryz.prog (w5.alloc (.cells C.toArray 32)) = .ok v' w6/\Hid (SaysW w v' (l++[(s,root)]) w6):=by
 obtain⟨v',w6,h6,g1,g2,g3⟩:=append_head1 (h.row.kept hk (fun _ _=>id)) h32 (s,root) hr hl
 rw[<- hC]
 have hk2:=h.kept.trans hk
 refine⟨v',w6,h6,Lib.hid ⟨g1,fun k q=>?_,hk2.then_ g2 (fun i hi e=>by have:=h.own i e;omega)⟩⟩
 rcases g3 k q with q|q
 ·exact h.own k q
 ·have:=hk2.size;omega
theorem rsays_any (w:World) (v:Value) (ps:List By) (hv:Row w 9 1 v (strV ps)) (hps:∀ p∈ps,p.length<=65536) (hn:ps.length<=1000000) :
  Calls Tryz.prog 44 #[v] w (ReadPost w ps):=by
 obtain⟨a,n,c,rfl,hm,hml,hcs⟩:=hv.form (by omega)
 rw[strV_len,Nat.mul_one]at hm
 subst hm
 have HCS:=Lib.hid (show ∀ (i:Nat) (p:By),ps[i]? = some p->∃ g,a=some ⟨g,0,none⟩/\w.cell? ⟨g,i,none⟩=some (.string (strB p))from fun i p hp=>by
  have hi:=(List.getElem?_eq_some_iff.1 hp).1
  obtain⟨g,rfl,_,hc⟩:=hcs (by omega)
  exact⟨g,rfl,hc i _ (by simp[strV,hp])⟩)
 have HPS:=Lib.hid hps
 clear hcs hv hml hps
 go_enter Tryz.func44,Tryz.ntmps44
 go_wp2_with fail
 go_loopw [4,5] (fun x y wr=>∃ (i:Nat) (l:List Hd),y = .int .i64 (i:Int)/\i<=ps.length/\Hid (SaysI ps i l/\SaysW w x l wr)) (fun _ y _=>ps.length-(intOf y).toNat)
 case atStart=>exact⟨0,[],rfl,Nat.zero_le _,Lib.hid ⟨SaysI.start ps,Row.nil _ _ _,fun k q=>by simp[Value.ownBlock]at q,Kept.refl _ _⟩⟩
 case round =>
  obtain⟨i,l,rfl,hi,HR⟩:=hrel
  by_cases hlt:i<ps.length
  ·have z1:decide ((i:Int)<(ps.length:Int))=true:=decide_eq_true (by omega)
   have z2:decide (i<ps.length)=true:=decide_eq_true hlt
   obtain⟨p,hp⟩:∃ p,ps[i]? = some p:=⟨_,List.getElem?_eq_getElem hlt⟩
   obtain⟨g,rfl,hc0⟩:=HCS.out i p hp
   have hc1:=HR.out.2.kept.cell hc0 id
   have hpl:=HPS.out p (List.mem_of_getElem? hp)
   have HRD:=Lib.hid (fun w'=>rread_any w' (strB p) (by rw[strB_size];omega))
   have HP:=Lib.hid (And.intro hp hpl)
   have HLT:=Lib.hid hlt
   clear hp hc0 hpl hi
   go_upto_region 6 with (go_at_call 84;refine(HRD.out _).mono ?_;rintro e w1 ⟨n,t,b,rfl,hn64,hts,hfm,hk1⟩;have HM:=Lib.hid (And.intro hn64 (And.intro hts (And.intro hfm hk1)));clear hn64 hts hfm hk1)
   clear z1 z2 HRD
   have HUN:=Lib.hid (fun w'=>runhash_any w' t (Nat.le_trans HM.out.2.1 (by rw[strB_size];exact Nat.le_trans HP.out.2 (by omega))))
   go_upto_region 7 with (first
    | (go_at_call 85;refine(HUN.out _).mono ?_;rintro e w2 ⟨root,t2,b2,hr32,rfl,hrt,hk2⟩;have HU:=Lib.hid (And.intro hr32 (And.intro hrt hk2));clear hr32 hrt hk2)
    | ((with_reducible show wpList _ _ _ (⟨none,.store _ (.tmp 9) _,_,_,_,_⟩::_) _ _);refine wpList_store_mid rfl 30 _ _ rfl w2.heap.size 0 (bytes8 root).toArray rfl rfl ?hth ?hi ?h1 ?hk;(case' hk=>generalize hw3:World.setCells _ w2.heap.size 0 _=w3)))
   case hth=>exact(store_fresh w2 root HU.out.1).2.2
   case hi=>exact info_hash HU.out.1
   case h1=>exact all_oneCell_toArray (fun y hy=>u8_oneCell y hy)
   have HW3:=Lib.hid (show Blk w3 w2.heap.size (bytes8 root) 30/\Kept (fun _=>False) wr w3 from by
    rw[<- hw3]
    exact⟨(store_fresh w2 root HU.out.1).1,(HM.out.2.2.2.trans HU.out.2.2).trans (store_fresh w2 root HU.out.1).2.1⟩)
   clear hw3 HUN
   obtain⟨s,hs⟩:∃ s:Nat,n%65536=s:=⟨_,rfl⟩
   have e1:(n:Int)%65536=(s:Int):=by omega
   have hs16:s<65536:=by omega
   have e2:wrap64 (s:Int)=(s:Int):=IntWalk.wrap64_in _ (by omega)
   obtain⟨C,hC⟩:∃ C:List Value,headC (s:Int) root=C:=⟨_,rfl⟩
   have hf1:=fold_build (size:=(s:Int)) HU.out.1
   have lC:=headC_len (size:=(s:Int)) HU.out.1
   rw[hC]at hf1 lC
   simp only[zeros,List.replicate]at hf1
   have lH:(bytes8 root).length=32:=by rw[bytes8_len,HU.out.1]
   have HI:=Lib.hid (show(Tryz.prog.info? 30).map (·.size)=some (bytes8 root).length by rw[bytes8_len,HU.out.1];exact info_h32)
   have HIC:=Lib.hid (show(Tryz.prog.info? 32).map (·.size)=some C.length by rw[lC];exact info_head)
   have HCE:=Lib.hid (And.intro hC (And.intro lC hs))
   clear hC hs hs16
   go_upto_region 8 with (first
    | ((with_reducible show wpList _ _ _ (⟨some 37,_,_,_,_,_⟩::_) _ _);refine wpList_load_mid rfl 30 _ rfl w2.heap.size 0 rfl (bytes8 root) _ HW3.out.1.range0 Tryz.underlying30 rfl HI.out ?_)
    | ((with_reducible show wpList _ _ _ (⟨none,.store _ (.tmp 12) _,_,_,_,_⟩::_) _ _);refine wpList_store_mid rfl 32 _ _ rfl w3.heap.size 0 C.toArray rfl rfl ?hthC ?hiC ?h1C ?hkC;(case' hkC=>generalize hw4:World.setCells _ w3.heap.size 0 _=w4)))
   case hthC=>exact(hd_fresh w3 HCE.out.2.1).2.2
   case hiC=>rw[List.size_toArray];exact HIC.out
   case h1C=>exact all_oneCell_toArray (fun y hy=>by rw[<- HCE.out.1]at hy;exact head_oneCell y hy)
   have HW4:=Lib.hid (show Blk w4 w3.heap.size C 32/\Kept (fun _=>False) wr w4 from by
    rw[<- hw4]
    exact⟨(hd_fresh w3 HCE.out.2.1).1,HW3.out.2.trans (hd_fresh w3 HCE.out.2.1).2.1⟩)
   clear hw4 HW3 hf1 lH e1 e2 lC
   generalize hhb:w3.heap.size=hb at *
   have hsi:=HR.out.1
   have hsw:=HR.out.2
   have hroot:=HU.out.1
   have hl32:∀ y∈l,y.2.length=32:=fun y hy=>(hsi.ok y hy).2.2
   have hfm:=HM.out.2.2.1
   rw[strB_data]at hfm
   have hrt:=HU.out.2.1
   have hun:∀ x:Hd,HdOk x->recordF x=p->x.1=s/\x.2=root:=fun x hx he=>by
    obtain⟨q1,q2⟩:=hfm x.1 x.2 hx.2.1 he.symm
    have q3:=hrt x.2 hx.2.2 q2
    have:=hx.2.1
    have:=HCE.out.2.2
    exact⟨by omega,q3.symm⟩
   have hS:∀ (gl j:Nat) (y:Int) (has:Prop),(has->w4.cell? ⟨gl,j*33,none⟩=some (.int .i64 y))->SaysS w4 hb C (s:Int) g i p gl j y has w4:=fun gl j y has hcl =>
    ⟨HW4.out.1.cell (by rw[<- HCE.out.1];rfl),HW4.out.1.range0,HW4.out.2.cell hc1 id,hcl,Kept.refl _ _⟩
   have hRC:=fun w'=>rrecord_any w' (s:Int) root hroot
   have hcg:=HCE.out.1
   rw[show headV (s:Int) root = .agg C.toArray from by rw[<- hcg]]at hRC
   have HKW:=Lib.hid (hsw.kept.trans HW4.out.2)
   have HBAD:=Lib.hid (fun (hno:∀ x,HdOk x->recordF x=p->7<i\/x.1<=lastS 0 l)=>hsi.stop HP.out.1 hno)
   obtain⟨N,hN⟩:∃ N,recG (s:Int) root=N:=⟨_,rfl⟩
   rw[hN]at hRC
   have hs16:s<65536:=by have:=HCE.out.2.2;omega
   by_cases a1:s<1
   ·have HB:=Lib.hid (HBAD.out (fun x hx he=>by obtain⟨q1,q2⟩:=hun x hx he;have:=hx.1;omega))
    refine says_r1 (N:=N) (lc:=0) (hS 0 0 0 False False.elim) HLT.out (decide_eq_true (by omega)) (fun _ _ _ _ _ h=>h) ?_
    intro _ _ _ _ _ _ _ _ _ _ _ _ _ _ _ _ _ _ _ _ _ _ _ _ _ _ _ _ _ _ _ _ _ _ _ w5 hk5
    clear hun hfm hrt hS hRC hcg hroot hl32 hsi hsw hN HBAD a1
    go_wp2_with fail
    go_ret2
    exact⟨_,by rw[HB.out];rfl,fun l' hl'=>by (rw[HB.out]at hl';cases hl'),fun k hk'=>by simp[Value.ownBlock]at hk',HKW.out.trans hk5⟩
   by_cases a2:4096<s
   ·have HB:=Lib.hid (HBAD.out (fun x hx he=>by obtain⟨q1,q2⟩:=hun x hx he;have:=hx.2.1;omega))
    refine says_r2 (N:=N) (lc:=0) (hS 0 0 0 False False.elim) HLT.out (decide_eq_false (by omega)) (decide_eq_true (by omega)) (fun _ _ _ _ _ h=>h) ?_
    intro _ _ _ _ _ _ _ _ _ _ _ _ _ _ _ _ _ _ _ _ _ _ _ _ _ _ _ _ _ _ _ _ _ _ _ w5 hk5
    clear hun hfm hrt hS hRC hcg hroot hl32 hsi hsw hN HBAD a1 a2
    go_wp2_with fail
    go_ret2
    exact⟨_,by rw[HB.out];rfl,fun l' hl'=>by (rw[HB.out]at hl';cases hl'),fun k hk'=>by simp[Value.ownBlock]at hk',HKW.out.trans hk5⟩
   by_cases a3:N=p
   ·by_cases a4:7<i
    ·have HB:=Lib.hid (HBAD.out (fun x hx he=>by obtain⟨q1,q2⟩:=hun x hx he;exact Or.inl a4))
     refine says_r4 (N:=N) (lc:=0) (hS 0 0 0 False False.elim) HLT.out (decide_eq_false (by omega)) (decide_eq_false (by omega)) (by rw[beq_iff_eq];exact a3) HIC.out hRC (decide_eq_true (by omega)) (decide_eq_true a4) (fun _ _ _ _ _ h=>h) ?_
     intro _ _ _ _ _ _ _ _ _ _ _ _ _ _ _ _ _ _ _ _ _ _ _ _ _ _ _ _ _ _ _ _ _ _ _ w5 hk5
     clear hun hfm hrt hS hRC hcg hroot hl32 hsi hsw hN HBAD a1 a2 a3 a4
     go_wp2_with fail
     go_ret2
     exact⟨_,by rw[HB.out];rfl,fun l' hl'=>by (rw[HB.out]at hl';cases hl'),fun k hk'=>by simp[Value.ownBlock]at hk',HKW.out.trans hk5⟩
    rcases Nat.eq_zero_or_pos i with a5|a5
    ·have hl0:l=[]:=List.eq_nil_of_length_eq_zero (by rw[hsi.len,a5])
     have hHd:HdOk (s,root):=⟨by show 1<=s;omega,by show s<=4096;omega,hroot⟩
     have HNX:=Lib.hid (hsi.next HP.out.1 hHd (by rw[<- recG_rec s (by omega),hN];exact a3) (by omega) (by rw[hl0];show 0<s;omega))
     have HAP:=Lib.hid (fun (w5:World) (hk5:Kept (fun _=>False) w4 w5)=>hsw.app hl32 (by have:=hsi.len;omega) (HW4.out.2.trans hk5) hroot hcg)
     have hf2:=fold_head (size:=(s:Int)) hroot
     rw[hcg]at hf2
     simp only[zeros,List.replicate]at hf2
     have lC:=HCE.out.2.1
     refine says_r7 (N:=N) (lc:=0) (hS 0 0 0 False False.elim) HLT.out (decide_eq_false (by omega)) (decide_eq_false (by omega)) (by rw[beq_iff_eq];exact a3) HIC.out hRC (decide_eq_false (by omega)) (decide_eq_false a4) (decide_eq_false (by omega)) (decide_eq_false (by omega)) (fun _ _ _ _ _ h=>h) ?_
     intro _ _ _ _ _ _ _ _ _ _ _ _ _ _ _ _ _ _ _ _ _ _ _ _ _ _ _ _ _ _ _ _ _ _ _ w5 hk5
     obtain⟨v',w6,hr6,H6⟩:=HAP.out w5 hk5
     have HB5:=Lib.hid (HW4.out.1.kept hk5 id)
     clear hun hfm hrt hS hRC hcg hroot hl32 hsi hsw hN HBAD HAP hHd a1 a2 a3 a4 a5 hl0
     go_wp2_with (first
      | ((with_reducible show wpList _ _ _ (⟨some 76,_,_,_,_,_⟩::_) _ _);refine wpList_load_mid rfl 32 _ rfl hb 0 rfl C _ HB5.out.range0 Tryz.underlying32 rfl HIC.out ?_)
      | (at_builtin;refine Lib.wpList_append_run _ rfl _ _ 22 22 rfl _ _ rfl rfl _ _ hr6 ?_))
     have hlt:=HLT.out
     have HFI:=Lib.hid (And.intro HNX.out H6.out)
     exact⟨⟨i+1,_,by go_num,hlt,HFI⟩,by simp[intOf];omega⟩
    ·obtain⟨j,rfl⟩:∃ j,i=j+1:=⟨i-1,by omega⟩
     obtain⟨gl,lc,y,rfl,hcl,hly⟩:=hsw.last hl32 hsi.len
     have hcl4:=HW4.out.2.cell hcl id
     have ej:IntKind.i64.wrap (((j+1:Nat):Int)-1)=(j:Int):=by rw[show((j+1:Nat):Int)-1=(j:Int) by omega];exact IntWalk.i64_in _ (by omega)
     by_cases a6:s<=y
     ·have HB:=Lib.hid (HBAD.out (fun x hx he=>by obtain⟨q1,q2⟩:=hun x hx he;right;omega))
      refine says_r5 (N:=N) (lc:=lc) (hS gl j y True (fun _=>hcl4)) HLT.out (decide_eq_false (by omega)) (decide_eq_false (by omega)) (by rw[beq_iff_eq];exact a3) HIC.out hRC (decide_eq_false (by omega)) (decide_eq_false a4) (decide_eq_true (by omega)) (decide_eq_true (by omega)) (decide_eq_true (by omega)) ej (by omega) (fun _ _ _ _ _ h=>h) ?_
      intro _ _ _ _ _ _ _ _ _ _ _ _ _ _ _ _ _ _ _ _ _ _ _ _ _ _ _ _ _ _ _ _ _ _ _ w5 hk5
      clear hun hfm hrt hS hRC hcg hroot hl32 hsi hsw hN HBAD a1 a2 a3 a4 a5 a6 hcl hly hcl4 ej
      go_wp2_with fail
      go_ret2
      exact⟨_,by rw[HB.out];rfl,fun l' hl'=>by (rw[HB.out]at hl';cases hl'),fun k hk'=>by simp[Value.ownBlock]at hk',HKW.out.trans hk5⟩
     ·have hHd:HdOk (s,root):=⟨by show 1<=s;omega,by show s<=4096;omega,hroot⟩
      have HNX:=Lib.hid (hsi.next HP.out.1 hHd (by rw[<- recG_rec s (by omega),hN];exact a3) (by omega) (by rw[hly];show y<s;omega))
      have HAP:=Lib.hid (fun (w5:World) (hk5:Kept (fun _=>False) w4 w5)=>hsw.app hl32 (by have:=hsi.len;omega) (HW4.out.2.trans hk5) hroot hcg)
      have hf2:=fold_head (size:=(s:Int)) hroot
      rw[hcg]at hf2
      simp only[zeros,List.replicate]at hf2
      have lC:=HCE.out.2.1
      refine says_r6 (N:=N) (lc:=lc) (hS gl j y True (fun _=>hcl4)) HLT.out (decide_eq_false (by omega)) (decide_eq_false (by omega)) (by rw[beq_iff_eq];exact a3) HIC.out hRC (decide_eq_false (by omega)) (decide_eq_false a4) (decide_eq_true (by omega)) (decide_eq_true (by omega)) (decide_eq_false (by omega)) ej (by omega) (fun _ _ _ _ _ h=>h) ?_
      intro _ _ _ _ _ _ _ _ _ _ _ _ _ _ _ _ _ _ _ _ _ _ _ _ _ _ _ _ _ _ _ _ _ _ _ w5 hk5
      obtain⟨v',w6,hr6,H6⟩:=HAP.out w5 hk5
      have HB5:=Lib.hid (HW4.out.1.kept hk5 id)
      clear hun hfm hrt hS hRC hcg hroot hl32 hsi hsw hN HBAD HAP hHd a1 a2 a3 a4 a5 a6 hcl hly hcl4 ej
      go_wp2_with (first
       | ((with_reducible show wpList _ _ _ (⟨some 76,_,_,_,_,_⟩::_) _ _);refine wpList_load_mid rfl 32 _ rfl hb 0 rfl C _ HB5.out.range0 Tryz.underlying32 rfl HIC.out ?_)
       | (at_builtin;refine Lib.wpList_append_run _ rfl _ _ 22 22 rfl _ _ rfl rfl _ _ hr6 ?_))
      have hlt:=HLT.out
      have HFI:=Lib.hid (And.intro HNX.out H6.out)
      exact⟨⟨j+1+1,_,by go_num,hlt,HFI⟩,by simp[intOf];omega⟩
   ·have HB:=Lib.hid (HBAD.out (fun x hx he=>by obtain⟨q1,q2⟩:=hun x hx he;exfalso;refine a3 ?_;rw[<- hN,recG_rec s (by omega),<- q1,<- q2];exact he))
    refine says_r3 (N:=N) (lc:=0) (hS 0 0 0 False False.elim) HLT.out (decide_eq_false (by omega)) (decide_eq_false (by omega)) (by rw[beq_eq_false_iff_ne];exact a3) HIC.out hRC (fun _ _ _ _ _ h=>h) ?_
    intro _ _ _ _ _ _ _ _ _ _ _ _ _ _ _ _ _ _ _ _ _ _ _ _ _ _ _ _ _ _ _ _ _ _ _ w5 hk5
    clear hun hfm hrt hS hRC hcg hroot hl32 hsi hsw hN HBAD a1 a2 a3
    go_wp2_with fail
    go_ret2
    exact⟨_,by rw[HB.out];rfl,fun l' hl'=>by (rw[HB.out]at hl';cases hl'),fun k hk'=>by simp[Value.ownBlock]at hk',HKW.out.trans hk5⟩
  ·obtain rfl:i=ps.length:=by omega
   have z1:decide ((ps.length:Int)<(ps.length:Int))=false:=decide_eq_false (by omega)
   have z2:decide (ps.length<ps.length)=false:=decide_eq_false hlt
   have HE:=Lib.hid (And.intro HR.out.1.last HR.out.2)
   clear HR hlt hi
   go_wp2_with fail
   go_ret2
   exact⟨_,by rw[HE.out.1];rfl,fun l' hl'=>by (rw[HE.out.1]at hl';cases hl';exact HE.out.2.row),HE.out.2.own,HE.out.2.kept⟩
theorem pathF_low {l:List By} {i:Nat} (h:2<=l.length) (hi:i<splitN l.length):pathF l i=pathF (l.take (splitN l.length)) i++[rootF (l.drop (splitN l.length))]:=by
 unfold pathF;rw[topF_low h hi,List.reverse_cons]
theorem pathF_high {l:List By} {i:Nat} (h:2<=l.length) (hi:¬ i<splitN l.length):pathF l i=pathF (l.drop (splitN l.length)) (i-splitN l.length)++[rootF (l.take (splitN l.length))]:=by
 unfold pathF;rw[topF_high h hi,List.reverse_cons]
theorem pathF_few {l:List By} {i:Nat} (h:¬ 2<=l.length):pathF l i=[]:=by unfold pathF;rw[topF_few h];rfl
theorem path_32 (n:Nat):∀ {l:List By} {i:Nat},l.length<=n->(∀ x∈l,x.length=32)->(∀ x∈pathF l i,x.length=32)/\(pathF l i).length<=l.length:=by
 induction n with
 | zero=>intro l i h _;rw[pathF_few (by omega)];exact⟨(fun _ h=>nomatch h),by simp⟩
 | succ n ih =>
  intro l i h h32
  by_cases h2:2<=l.length
  ·have hin:=splitN_in h2
   have t32:∀ x∈l.take (splitN l.length),x.length=32:=fun x hx=>h32 x (List.mem_of_mem_take hx)
   have d32:∀ x∈l.drop (splitN l.length),x.length=32:=fun x hx=>h32 x (List.mem_of_mem_drop hx)
   by_cases hi:i<splitN l.length
   ·rw[pathF_low h2 hi]
    obtain⟨q1,q2⟩:=ih (l:=l.take (splitN l.length)) (i:=i) (by rw[List.length_take];omega) t32
    refine⟨fun x hx=>?_,by rw[List.length_append];rw[List.length_take]at q2;simp only[List.length_cons,List.length_nil];omega⟩
    rcases List.mem_append.1 hx with q|q
    ·exact q1 x q
    ·rw[List.mem_singleton.1 q];exact rootF_len d32
   ·rw[pathF_high h2 hi]
    obtain⟨q1,q2⟩:=ih (l:=l.drop (splitN l.length)) (i:=i-splitN l.length) (by rw[List.length_drop];omega) d32
    refine⟨fun x hx=>?_,by rw[List.length_append];rw[List.length_drop]at q2;simp only[List.length_cons,List.length_nil];omega⟩
    rcases List.mem_append.1 hx with q|q
    ·exact q1 x q
    ·rw[List.mem_singleton.1 q];exact rootF_len t32
  ·rw[pathF_few h2];exact⟨(fun _ h=>nomatch h),by simp⟩
theorem rpath_any (n:Nat):∀ (w:World) (v:Value) (L:List By) (i:Nat),L.length<=n->View w 32 v (hcells L)->(∀ x∈L,x.length=32)->L.length<=1000000->i<L.length->Tab w ->
  Calls Tryz.prog 120 #[v,.int .i64 (i:Int)] w fun e w'=>∃ v',e = .returned (.tuple #[v',.int .i64 0])/\NewH w v' (pathF L i) w':=by
 induction n with
 | zero=>intro w v L i hL hv h32 hlen hi ht;omega
 | succ n ih =>
  intro w v L i hL hv h32 hlen hi ht
  have hv0:=hv
  obtain⟨a,m,cap,rfl,h1,h2,h3,h4,h5⟩:=hv
  rw[hcells_len h32]at h1
  obtain rfl:m=L.length:=by omega
  obtain⟨g,off,rfl,hg,hc⟩:=h5 (by omega)
  have y1:decide ((i:Int)<0)=false:=decide_eq_false (by omega)
  have y2:decide ((L.length:Int)<=(i:Int))=false:=decide_eq_false (by omega)
  have y3:decide (L.length<=i)=false:=decide_eq_false (by omega)
  by_cases hone:L.length=1
  ·have hp:pathF L i=[]:=pathF_few (by omega)
   rw[hp]
   have z1:((L.length:Int)==1)=true:=by rw[beq_iff_eq];omega
   clear hp h1 h2 h3 h4 h5 hv0 hc hg ih hL hlen
   generalize L.length=len at *
   go_enter Tryz.func120,Tryz.ntmps120
   go_wp2_with fail
   go_ret2
   exact⟨_,rfl,NewH.start w⟩
  ·have z1:((L.length:Int)==1)=false:=by rw[beq_eq_false_iff_ne];omega
   have hin:=splitN_in (n:=L.length) (by omega)
   have HSP:=Lib.hid (fun w'=>rsplit_any w' L.length hlen)
   have hlow:=pathF_low (l:=L) (i:=i) (by omega)
   have hhigh:=pathF_high (l:=L) (i:=i) (by omega)
   generalize hKe:splitN L.length=K at *
   have hr1:∀ w0,(Instr.slice 59 (.slice (some ⟨g,off,none⟩) L.length cap) none (some (.int .i64 (K:Int))) none).run Tryz.prog w0 = .ok (.slice (some ⟨g,off,none⟩) K cap) w0:=fun w0=>hv0.run_head elem_hashes size_hashes K (by omega) w0
   have hr3:∀ w0,(Instr.slice 59 (.slice (some ⟨g,off,none⟩) L.length cap) (some (.int .i64 (K:Int))) none none).run Tryz.prog w0 = .ok (.slice (if cap=K then some ⟨g,off,none⟩else(some ⟨g,off,none⟩:Option Addr).map (·.add (K*32))) (L.length-K) (cap-K)) w0:=fun w0=>hv0.run_tail elem_hashes size_hashes K (by omega) w0
   obtain⟨ta,hta⟩:∃ ta:Option Addr,(if cap=K then some ⟨g,off,none⟩else(some ⟨g,off,none⟩:Option Addr).map (·.add (K*32)))=ta:=⟨_,rfl⟩
   have hvt:=hv0.tail K (by omega)
   have hvh:=hv0.head K (by omega)
   rw[hcells_drop h32]at hvt
   rw[hcells_take h32]at hvh
   rw[hta]at hvt hr3
   have t32:∀ x∈L.take K,x.length=32:=fun x hx=>h32 x (List.mem_of_mem_take hx)
   have d32:∀ x∈L.drop K,x.length=32:=fun x hx=>h32 x (List.mem_of_mem_drop hx)
   have ltk:(L.take K).length=K:=by rw[List.length_take];omega
   have ldp:(L.drop K).length=L.length-K:=by rw[List.length_drop]
   have HRT:=Lib.hid (fun (W:World) (hk:Kept (fun _=>False) w W)=>rroot_any Tab (fun _ h=>h) (fun _ _ h hk=>h.same hk) (L.take K).length W _ (L.take K) (Nat.le_refl _) (hvh.same hk (by omega)) t32 (by omega) (ht.same hk))
   have HRD:=Lib.hid (fun (W:World) (hk:Kept (fun _=>False) w W)=>rroot_any Tab (fun _ h=>h) (fun _ _ h hk=>h.same hk) (L.drop K).length W _ (L.drop K) (Nat.le_refl _) (hvt.same hk (by omega)) d32 (by omega) (ht.same hk))
   by_cases hik:i<K
   ·have x1:decide ((i:Int)<(K:Int))=true:=decide_eq_true (by omega)
    have x2:decide (i<K)=true:=decide_eq_true hik
    have HP:=Lib.hid (ih w _ (L.take K) i (by omega) hvh t32 (by omega) (by omega) ht)
    have HE:=Lib.hid (hlow hik)
    have hp32:=path_32 _ (i:=i) (Nat.le_refl _) t32
    rw[ltk]at hp32
    have lR:=rootF_len d32
    generalize pathF L i=Q at *
    generalize pathF (L.take K) i=P at *
    generalize rootF (L.drop K)=R at *
    generalize rootF (L.take K)=R' at *
    have HAPP:=Lib.hid (fun (v':Value) (W W2:World) (h:NewH w v' P W) (hk:Kept (fun _=>False) W W2)=>(h.same hk).app hp32.1 (by omega) R lR)
    have lB:(bytes8 R).length=32:=by rw[bytes8_len,lR]
    have hfold:=fold_hash lR
    simp only[zeros,List.replicate]at hfold
    have hKl:K<=L.length:=by omega
    generalize L.length=len at *
    clear hhigh hlow hp32 lR t32 d32 ltk ldp hvt hvh hv0 h1 h2 h3 h4 h5 hc hg ih hL hlen hKe hta hin hi h32 HRT hik hone
    go_enter Tryz.func120,Tryz.ntmps120
    go_wp2_with (first
     | (go_at_call 136;refine(HSP.out _).mono ?_;rintro e w' ⟨rfl,rfl⟩)
     | (go_at_call 120;refine HP.out.mono ?_;rintro e w1 ⟨v1,rfl,hn1⟩;have H1:=Lib.hid hn1;have HR1:=Lib.hid (HRD.out _ hn1.kept);clear hn1)
     | (go_at_call 116;refine HR1.out.mono ?_;rintro e w2 ⟨rfl,hk2⟩;obtain⟨v3,w3,hr4,H3⟩:=HAPP.out _ _ _ H1.out hk2)
     | (at_builtin;refine Lib.wpList_append_run _ rfl _ _ 59 59 rfl _ _ rfl rfl _ _ hr4 ?_))
    go_ret2
    exact⟨_,rfl,by rw[HE.out];exact H3.out⟩
   ·have x1:decide ((i:Int)<(K:Int))=false:=decide_eq_false (by omega)
    have x2:decide (i<K)=false:=decide_eq_false hik
    have HP:=Lib.hid (ih w _ (L.drop K) (i-K) (by omega) hvt d32 (by omega) (by omega) ht)
    have HE:=Lib.hid (hhigh hik)
    have hp32:=path_32 _ (i:=i-K) (Nat.le_refl _) d32
    rw[ldp]at hp32
    have lR:=rootF_len t32
    generalize pathF L i=Q at *
    generalize pathF (L.drop K) (i-K)=P at *
    generalize rootF (L.take K)=R at *
    generalize rootF (L.drop K)=R' at *
    have HAPP:=Lib.hid (fun (v':Value) (W W2:World) (h:NewH w v' P W) (hk:Kept (fun _=>False) W W2)=>(h.same hk).app hp32.1 (by omega) R lR)
    have lB:(bytes8 R).length=32:=by rw[bytes8_len,lR]
    have hfold:=fold_hash lR
    simp only[zeros,List.replicate]at hfold
    have hKl:K<=L.length:=by omega
    have e0:((i-K:Nat):Int)=(i:Int)-(K:Int):=by omega
    rw[e0]at HP
    have hi6:i<1000000:=by omega
    have hik':K<=i:=by omega
    generalize L.length=len at *
    clear hhigh hlow hp32 lR t32 d32 ltk ldp hvt hvh hv0 h1 h2 h3 h4 h5 hc hg ih hL hlen hKe hta hin hi h32 HRD hik hone e0
    go_enter Tryz.func120,Tryz.ntmps120
    go_wp2_with (first
     | (go_at_call 136;refine(HSP.out _).mono ?_;rintro e w' ⟨rfl,rfl⟩)
     | (go_at_call 120;refine HP.out.mono ?_;rintro e w1 ⟨v1,rfl,hn1⟩;have H1:=Lib.hid hn1;have HR1:=Lib.hid (HRT.out _ hn1.kept);clear hn1)
     | (go_at_call 116;refine HR1.out.mono ?_;rintro e w2 ⟨rfl,hk2⟩;obtain⟨v3,w3,hr4,H3⟩:=HAPP.out _ _ _ H1.out hk2)
     | (at_builtin;refine Lib.wpList_append_run _ rfl _ _ 59 59 rfl _ _ rfl rfl _ _ hr4 ?_))
    go_ret2
    exact⟨_,rfl,by rw[HE.out];exact H3.out⟩
theorem bit_next (b k j:Nat) (h:j<=k):b/2^(k-j)/2=b/2^(k+1-j):=by
 rw[Nat.div_div_eq_div_mul,<- Nat.pow_succ,show k+1-j=(k-j)+1 by omega]
theorem rbit_any (w:World) (d:By) (hd:d.length=32) (i:Nat) (hi:i<256) :
  Calls Tryz.prog 141 #[.string ⟨d.toArray⟩,.int .i64 (i:Int)] w fun e w'=>e = .returned (.int .i64 (bitAt d i:Int))/\w=w':=by
 obtain⟨c,hc⟩:∃ c,d[i/8]? = some c:=⟨_,List.getElem?_eq_getElem (by omega)⟩
 have hb:bitAt d i=c.toNat/2^(7-i%8)%2:=by unfold bitAt;rw[hc];rfl
 rw[hb]
 obtain⟨s,hs⟩:∃ s:ByteArray,⟨d.toArray⟩=s:=⟨_,rfl⟩
 have hsz:s.size=32:=by rw[<- hs];show d.toArray.size=32;simp[hd]
 have hcs:∀ h:i/8<s.size,s[i/8]'h=c:=by
  intro h
  subst hs
  show d.toArray[i/8]'(by simp;omega)=c
  rw[List.getElem_toArray]
  exact(List.getElem?_eq_some_iff.1 hc).2
 rw[hs]
 have y1:decide ((i:Int)<0)=false:=decide_eq_false (by omega)
 obtain⟨q,hq⟩:∃ q:Nat,i/8=q:=⟨_,rfl⟩
 obtain⟨m,hm⟩:∃ m:Nat,i%8=m:=⟨_,rfl⟩
 have hm8:m<8:=by omega
 have hq32:q<32:=by omega
 have q1:(i:Int)/8=(q:Int):=by omega
 have m1:(i:Int)%8=(m:Int):=by omega
 have y2:decide ((32:Int)<=(q:Int))=false:=decide_eq_false (by omega)
 have y3:decide (32<=q)=false:=decide_eq_false (by omega)
 rw[hm]
 obtain⟨R,hR⟩:∃ R:Nat,c.toNat/2^(7-m)%2=R:=⟨_,rfl⟩
 rw[hR]
 have HR:=Lib.hid hR
 rw[hq]at hcs
 have hcq:=hcs (by omega)
 have hcb:c.toNat<256:=c.toNat_lt
 clear hb hc hs hcs hq hm hd hR
 go_enter Tryz.func141,Tryz.ntmps141
 go_wp2_with fail
 go_loop [5,6] (fun x y=>∃ k:Nat,x = .int .u8 ((c.toNat/2^(k-m):Nat):Int)/\y = .int .i64 (k:Int)/\m<=k/\k<=7) (fun _ y=>7-(intOf y).toNat)
 case atStart=>exact⟨m,by simp,by rw[m1],by omega,by omega⟩
 case round =>
  obtain⟨k,rfl,rfl,hk1,hk2⟩:=hrel
  have HN:=Lib.hid (bit_next c.toNat k m hk1)
  have HE:=Lib.hid (fun (h:k=7)=>(by have:=HR.out;rw[<- h]at this;exact this:c.toNat/2^(k-m)%2=R))
  have hlt:=Nat.div_le_self c.toNat (2^(k-m))
  generalize c.toNat/2^(k-m)=C at *
  by_cases h7:k<7
  ·have z1:decide ((k:Int)<7)=true:=decide_eq_true (by omega)
   have z2:decide (k<7)=true:=decide_eq_true h7
   have HK:=Lib.hid (And.intro h7 hk1)
   clear hk1 hk2
   go_wp2_with fail
   go_round
   case rel=>exact⟨k+1,by rw[<- HN.out];exact congrArg (Value.int .u8) (by omega),by go_num,by have:=HK.out;omega,by have:=HK.out;omega⟩
   case measure=>have:=HK.out;simp only[intOf];omega
  ·obtain rfl:k=7:=by omega
   have hce:=HE.out rfl
   clear h7 hk1 hk2 HN
   go_wp2_with fail
   go_ret
   exact⟨congrArg Ending.returned (congrArg (Value.int .i64) (by show(C:Int)%2=(R:Int);omega)),rfl⟩
theorem rdigest_any (w:World) (size:Nat) (root:By) (hz:size<=4096) (hr:root.length=32) (ht:Tab w) :
  Calls Tryz.prog 95 #[headV (size:Int) root] w fun e w'=>e = .returned (hashV (digestF size root))/\Kept (fun _=>False) w w':=by
 have hput:∀ w',Calls Tryz.prog 25 #[.int .u64 (size:Int),.int .i64 8] w' fun e w''=>e = .returned (.string ⟨(be 8 size).toArray⟩)/\Kept (fun _=>False) w' w'':=fun w'=>rput_any w' size (by omega) 8 (by omega)
 have HP:=Lib.hid hput
 clear hput
 have HH:=Lib.hid (fun w'=>rhash_any w' root hr)
 have hb8:(⟨(be 8 size).toArray⟩:ByteArray).size=8:=by show(be 8 size).toArray.size=8;rw[List.size_toArray,be_len]
 have hcat:(⟨#[5]⟩:ByteArray)++⟨(be 8 size).toArray⟩++⟨root.toArray⟩=⟨(5::(be 8 size++root)).toArray⟩:=bstr_eq (by simp[ByteArray.data_append])
 have hsum:∀ w',Calls Tryz.prog 26 #[.string (⟨#[5]⟩++⟨(be 8 size).toArray⟩++⟨root.toArray⟩)] w' fun e w''=>e = .returned (.agg (bytes8 (digestF size root)).toArray)/\Kept (fun _=>False) w' w'':=by
  intro w'
  rw[hcat]
  exact rsum_any w' ⟨(5::(be 8 size++root)).toArray⟩ (by show(5::(be 8 size++root)).toArray.size<=1000000;simp[be_len];omega)
 have HS:=Lib.hid hsum
 have hN:=digestF_len size root
 clear hsum hcat
 generalize hDG:digestF size root=H at *
 have HDG:=Lib.hid hDG
 clear hDG
 generalize be 8 size=B at *
 have x1:(⟨#[5]⟩:ByteArray).size+(⟨B.toArray⟩:ByteArray).size<=9:=by rw[hb8];show 1+8<=9;omega
 have x2:(⟨#[5]⟩++⟨B.toArray⟩:ByteArray).size+(⟨root.toArray⟩:ByteArray).size<=41:=by rw[ByteArray.size_append,hb8];show 1+8+root.toArray.size<=41;simp[hr]
 have u1:=wrap_u64 (n:=size) (U64n.small (by omega))
 obtain⟨W,hW⟩:∃ W:World,W=(w.alloc (.cells (headC (size:Int) root).toArray 32)).alloc (.cells (zeros 32).toArray 30):=⟨_,rfl⟩
 have b0:Blk W w.heap.size (headC (size:Int) root) 32:=by rw[hW];exact(Blk.new w (headC (size:Int) root) 32).alloc _
 have b1:Blk W (w.heap.size+1) (zeros 32) 30:=by
  have:=Blk.new (w.alloc (.cells (headC (size:Int) root).toArray 32)) (zeros 32) 30
  rw[World.size_alloc]at this
  rw[hW];exact this
 have kW:Kept (fun _=>False) w W:=by rw[hW];exact((Kept.refl _ _).alloc _).alloc _
 have l0:=b0.lt
 have S0:DigS W W.drew w.heap.size (w.heap.size+1) (size:Int) root:=by
  refine⟨(b0.drew).cell (i:=0) rfl,?_,(b1.drew).there 0 32 (by rw[zeros_len];omega),⟨_,zeros_len 32,b1.drew⟩,(Kept.refl _ _).drew⟩
  intro j u hu
  refine(b0.drew).cell ?_
  rw[Nat.add_comm,List.getElem?_cons_succ]
  exact hu
 have ia:(Tryz.prog.info? 30).map (·.size)=some (bytes8 root).length:=by rw[bytes8_len,hr];exact info_h32
 have iH:(Tryz.prog.info? 30).map (·.size)=some (bytes8 H).length:=by rw[bytes8_len,hN];exact info_h32
 have oH:∀ v∈bytes8 H,v.oneCell'=true:=u8_oneCell
 have lH:(bytes8 H).length=32:=by rw[bytes8_len,hN]
 have hu:=Tryz.underlying30
 have n1:w.heap.size≠w.heap.size+1:=by omega
 go_enter Tryz.func95,Tryz.ntmps95
 go_wp2_with fail
 change Code.wp _ _ _ _ ((w.alloc (.cells (headC (size:Int) root).toArray 32)).alloc (.cells (zeros 32).toArray 30))
 rw[<- hW]
 clear hW
 go_region_held3 (fun w'=>w'.cell? ⟨w.heap.size,0,none⟩=some (.int .i64 (size:Int))/\w'.rangeAt w.heap.size 1 (bytes8 root)/\w'.there (w.heap.size+1) 0 32/\(∃ C:List Value,C.length=32/\Blk w' (w.heap.size+1) C 30)/\Kept (· = w.heap.size+1) W w') (first|exact S0|exact digS_next (by assumption) l0 (by assumption)|exact digS_store (by assumption) l0 n1 lH) (first|(go_at_call 25;with_reducible refine(HP.out _).mono ?_;rintro e w3 ⟨rfl,hk3⟩)|(go_at_call 28;with_reducible refine(HH.out _).mono ?_;rintro e w3 ⟨rfl,hk3⟩)|(go_at_call 26;with_reducible refine(HS.out _).mono ?_;rintro e w3 ⟨rfl,hk3⟩))
 rename_i wa ka wb kb hh
 obtain⟨_,_,_,⟨C,hC,hbC⟩,hkC⟩:=digS_next (digS_next (digS_next S0 l0 ka) l0 kb) l0 hk3
 have hlN:H.length=32:=by rwa[bytes8_len]at lH
 have hst:=hash_stored hbC hC hlN
 go_wp2_with fail
 refine bodyPost_ret (hst.2.result rfl rfl Tryz.underlying30 rfl iH) rfl ⟨by first|rfl|(rw[HDG.out];rfl),?_⟩
 exact kW.then_ hh.2.2.2.2 (fun i hi e=>by omega)
theorem Row.ne_rowD {w:World} {e e':TypeId} {size size':Nat} {v v':Value} {xs ys:List Value} (h:Row w e size v xs) (h':Row w e' size' v' ys) (hne:e≠e') {k:Nat} (hk:v.ownBlock=some k):v'.ownBlock≠some k:=fun e=>hne ((h.cellsT hk).same (h'.cellsT e))
structure Sg8 (w:World) (d:By) (v a b:Value) (P:List By) (la lb:By) (W:World):Prop where
 dg:Blk W w.heap.size (bytes8 d) 30
 pub:Row W 30 32 v (hcells P)
 pown:∀ k,v.ownBlock=some k->w.heap.size+1<=k
 ra:Row W 5 1 a (bytes8 la)
 rb:Row W 5 1 b (bytes8 lb)
 oa:∀ k,a.ownBlock=some k->w.heap.size+1<=k
 ob:∀ k,b.ownBlock=some k->w.heap.size+1<=k
 ne:∀ k,a.ownBlock=some k->b.ownBlock≠some k
 kept:Kept (fun _=>False) w W
section
variable {w W W' : World} {d : By} {v a b : Value} {P : List By} {la lb : By}
theorem Sg8.same (h:Sg8 w d v a b P la lb W) (hk:Kept (fun _=>False) W W'):Sg8 w d v a b P la lb W' :=
 ⟨h.dg.kept hk id,h.pub.kept hk (fun _ _=>id),h.pown,h.ra.kept hk (fun _ _=>id),h.rb.kept hk (fun _ _=>id),h.oa,h.ob,h.ne,h.kept.trans hk⟩
theorem Sg8.start {w W0 W:World} {d:By} {v:Value} {P:List By} (hb:Blk W0 w.heap.size (bytes8 d) 30) (hk:Kept (fun _=>False) w W0) (h:NewH W0 v P W):Sg8 w d v (.slice none 0 0) (.slice none 0 0) P [] [] W :=
 ⟨hb.kept h.kept id,h.row,fun k q=>by have:=h.own k q;have:=hb.lt;omega,Row.nil _ _ _,Row.nil _ _ _,fun k q=>by simp[Value.ownBlock]at q,fun k q=>by simp[Value.ownBlock]at q,fun k q=>by simp[Value.ownBlock]at q,hk.trans h.kept⟩
theorem Sg8.appA (h:Sg8 w d v a b P la lb W) (g off:Nat) {p:By} (hp:p.length=32) (hr:W.rangeAt g off (bytes8 p)) (hl:la.length<=10000000) :
  ∃ v' w',(Builtin.append_ #[72,72] 72 #[a,.slice (some ⟨g,off,none⟩) 32 32]).run Tryz.prog W = .ok v' w'/\Hid (Sg8 w d v v' b P (la++p) lb w'):=by
 obtain⟨v',w',hrun,hrow,hk,ho⟩:=append_bytes h.ra g off hp hr hl
 have hn:=h.ne
 have hz:=h.kept.size
 have hd:=h.dg.lt
 refine⟨v',w',hrun,Lib.hid ⟨h.dg.kept hk (fun q=>by have:=h.oa _ q;omega),h.pub.kept hk (fun k q=>h.pub.ne_rowD h.ra (by decide) q),h.pown,hrow,h.rb.kept hk (fun k q e=>hn k e q),fun k q=>?_,h.ob,fun k q e=>?_,h.kept.then_ hk (fun i hi e=>by have:=h.oa i e;omega)⟩⟩
 ·rcases ho k q with q|q
  ·exact h.oa k q
  ·omega
 ·rcases ho k q with q|q
  ·exact hn k q e
  ·have:=h.rb.lt e;omega
theorem Sg8.appB (h:Sg8 w d v a b P la lb W) (g off:Nat) {p:By} (hp:p.length=32) (hr:W.rangeAt g off (bytes8 p)) (hl:lb.length<=10000000) :
  ∃ v' w',(Builtin.append_ #[72,72] 72 #[b,.slice (some ⟨g,off,none⟩) 32 32]).run Tryz.prog W = .ok v' w'/\Hid (Sg8 w d v a v' P la (lb++p) w'):=by
 obtain⟨v',w',hrun,hrow,hk,ho⟩:=append_bytes h.rb g off hp hr hl
 have hn:=h.ne
 have hz:=h.kept.size
 have hd:=h.dg.lt
 refine⟨v',w',hrun,Lib.hid ⟨h.dg.kept hk (fun q=>by have:=h.ob _ q;omega),h.pub.kept hk (fun k q=>h.pub.ne_rowD h.rb (by decide) q),h.pown,h.ra.kept hk (fun k q e=>hn k q e),hrow,h.oa,fun k q=>?_,fun k q e=>?_,h.kept.then_ hk (fun i hi e=>by have:=h.ob i e;omega)⟩⟩
 ·rcases ho k q with q|q
  ·exact h.ob k q
  ·omega
 ·rcases ho k e with z|z
  ·exact hn k q z
  ·have:=h.ra.lt q;omega
theorem Sg8.end_ (h:Sg8 w d v a b P la lb W) (h0:0<lb.length) (hl:la.length+lb.length<=10000000) :
  ∃ v' w',(Builtin.append_ #[72,72] 72 #[a,b]).run Tryz.prog W = .ok v' w'/\Hid ((convert 72 9 v').run Tryz.prog w' = .ok (.string ⟨(la++lb).toArray⟩) w')/\Hid (Kept (fun _=>False) w w'):=by
 obtain⟨a1,n,c,rfl,hn,-⟩:=h.rb.form (by omega)
 rw[bytes8_len]at hn
 obtain⟨i0,hi,hz,hsz,hby⟩:=info_parts info_u8
 have hv:=h.rb.view
 obtain⟨a2,n2,c2,e2,q1,q2,q3,q4,q5⟩:=hv
 simp only[Value.slice.injEq]at e2
 obtain⟨rfl,rfl,rfl⟩:=e2
 obtain⟨g,off,rfl,hg,hrg⟩:=q5 (by omega)
 obtain⟨v',w',hrun,hrow,hk,ho⟩:=h.ra.append_cells (P:=Tryz.prog) (t:=72) Tryz.underlying72 hi hz hsz rfl (by omega) (by rw[hby];decide) ⟨g,off,none⟩ n c (bytes8 lb) (by rw[bytes8_len];omega)
  (fun j u hu=>by rw[Addr.add_mid];exact hrg j u hu) u8_oneCell (by omega) (by rw[bytes8_len,bytes8_len];omega) 72
 refine⟨v',w',hrun,Lib.hid ?_,Lib.hid (h.kept.then_ hk (fun i hi e=>by have:=h.oa i e;omega))⟩
 have e:bytes8 (la++lb)=bytes8 la++bytes8 lb:=by simp[bytes8]
 rw[<- e]at hrow
 obtain⟨a3,n3,c3,rfl,hn3,_⟩:=hrow.form (by omega)
 have e3:n3=(la++lb).length:=by rw[bytes8_len]at hn3;omega
 subst e3
 exact hrow.view.text
end
theorem secretsF_next (seed:By) (index:Nat) (d:By) (i:Nat):secretsF seed index d (i+1)=secretsF seed index d i++secretF seed index i (bitAt d i):=by
 unfold secretsF;rw[List.range_succ,List.flatMap_append];simp
theorem othersF_next (seed:By) (index:Nat) (d:By) (i:Nat):othersF seed index d (i+1)=othersF seed index d i++((publicF seed index)[2*i+1-bitAt d i]?).getD []:=by
 unfold othersF;rw[List.range_succ,List.flatMap_append];simp
theorem rsign8_any (w:World) (seed:ByteArray) (index:Nat) (d:By) (hs:seed.size<=1000) (h1:index<2147483648) (hd:d.length=32) :
  Calls Tryz.prog 121 #[.string seed,.int .i64 (index:Int),hashV d] w fun e w'=>e = .returned (.string ⟨(signF seed.data.toList index d).toArray⟩)/\Kept (fun _=>False) w w':=by
 obtain⟨W,hW⟩:∃ W:World,W=w.alloc (.cells (bytes8 d).toArray 30):=⟨_,rfl⟩
 have hb:Blk W w.heap.size (bytes8 d) 30:=by rw[hW];exact Blk.new w (bytes8 d) 30
 have hkW:Kept (fun _=>False) w W:=by rw[hW];exact(Kept.refl _ _).alloc _
 have HB:=Lib.hid (And.intro hb hkW)
 have HPU:=Lib.hid (rpublic_any W seed index hs h1)
 have HSE:=Lib.hid (fun w' i b (h2:i<256) (h3:b<2)=>rsecret_any w' seed index i b hs h1 h2 h3)
 have HSN:=Lib.hid (secretsF_next seed.data.toList index d)
 have HON:=Lib.hid (othersF_next seed.data.toList index d)
 have HSL:=Lib.hid (fun i=>secretsF_len seed.data.toList index d i)
 have HOL:=Lib.hid (fun i (h:i<=256)=>othersF_len seed.data.toList index d i h)
 have HBT:=Lib.hid (fun w' i (h:i<256)=>rbit_any w' d hd i h)
 have HTX:=Lib.hid (fun (W':World) (h:Blk W' w.heap.size (bytes8 d) 30)=>hash_text h hd)
 have h32:=public_32 seed.data.toList index
 have hL:=publicF_len seed.data.toList index
 have HR:=Lib.hid (show signF seed.data.toList index d=secretsF seed.data.toList index d 256++othersF seed.data.toList index d 256 from rfl)
 generalize signF seed.data.toList index d=SG at *
 generalize publicF seed.data.toList index=P at *
 have HP:=Lib.hid (And.intro h32 hL)
 have lD:(bytes8 d).length=32:=by rw[bytes8_len,hd]
 clear h32 hL hb hkW
 go_enter Tryz.func121,Tryz.ntmps121
 go_upto_region 1 with fail
 generalize hWx:World.alloc _ _=Wx
 obtain rfl:W=Wx:=by rw[hW,<- hWx]
 clear hW hWx
 go_upto_region 2 with (go_at_call 88;refine HPU.out.mono ?_;rintro e w1 ⟨v1,rfl,hn1⟩;have H1:=Lib.hid hn1;clear hn1)
 obtain⟨va,vn,vc,rfl,hvn,-⟩:=H1.out.row.form (by omega)
 rw[hcells_len HP.out.1,HP.out.2]at hvn
 obtain rfl:vn=512:=by omega
 have HS0:=Lib.hid (Sg8.start HB.out.1 HB.out.2 H1.out)
 have z0:((512:Int)==0)=false:=by decide
 clear hvn HPU H1
 go_wp2_with fail
 go_loopw [8,9,10] (fun x y z wr=>∃ i:Nat,z = .int .i64 (i:Int)/\i<=256/\Hid (Sg8 w d (.slice va 512 vc) x y P (secretsF seed.data.toList index d i) (othersF seed.data.toList index d i) wr)) (fun _ _ z _=>256-(intOf z).toNat)
 case atStart=>exact⟨0,rfl,by omega,HS0⟩
 case round =>
  obtain⟨i,rfl,hi,HG⟩:=hrel
  by_cases hlt:i<256
  ·have y1:decide ((i:Int)<256)=true:=decide_eq_true (by omega)
   have y2:decide (i<256)=true:=decide_eq_true hlt
   have hsn:=HSN.out i
   have hon:=HON.out i
   have hsl:=HSL.out i
   have hol:=HOL.out i hi
   have hbt:=fun w'=>HBT.out w' i hlt
   have hse:=fun w'=>HSE.out w' i (bitAt d i) hlt (bitAt_lt d i)
   have hbl:=bitAt_lt d i
   have hsc:=secretF_len seed.data.toList index i (bitAt d i)
   generalize bitAt d i=t at *
   obtain⟨j,hj⟩:∃ j:Nat,2*i+1-t=j:=⟨_,rfl⟩
   rw[hj]at hon
   have hj5:j<512:=by omega
   obtain⟨p,hp⟩:∃ p,P[j]? = some p:=⟨_,List.getElem?_eq_getElem (by rw[HP.out.2];exact hj5)⟩
   have hp32:=HP.out.1 p (List.mem_of_getElem? hp)
   rw[hp,Option.getD_some]at hon
   generalize secretsF seed.data.toList index d i=A1 at *
   generalize othersF seed.data.toList index d i=B1 at *
   generalize secretF seed.data.toList index i t=S at *
   have HBT1:=Lib.hid hbt
   have HSE1:=Lib.hid hse
   have hst:=HTX.out _ HG.out.dg
   have HF:=Lib.hid (fun (W2:World)=>store_fresh W2 S hsc)
   have HI:=Lib.hid (show(Tryz.prog.info? 30).map (·.size)=some (bytes8 S).length by rw[bytes8_len,hsc];exact info_h32)
   have HE:=Lib.hid (And.intro hsn (And.intro hon (And.intro hsl (And.intro hol (And.intro hsc (And.intro hp32 hp))))))
   have HLT:=Lib.hid hlt
   have hj2:(2:Int)*(i:Int)+1-(t:Int)=(j:Int):=by omega
   have v1:IntKind.i64.wrap (2*(i:Int))=2*(i:Int):=IntWalk.i64_in _ (by omega)
   have v2:IntKind.i64.wrap (2*(i:Int)+1)=2*(i:Int)+1:=IntWalk.i64_in _ (by omega)
   have v3:IntKind.i64.wrap (2*(i:Int)+1-(t:Int))=(j:Int):=by rw[hj2];exact IntWalk.i64_in _ (by omega)
   have j0:(0:Int)<=(j:Int):=by omega
   have j1:(j:Int)<512:=by omega
   clear hbt hse hsn hon hsl hol hsc hp hp32 hj hlt
   go_upto_region 10 with (first
    | (go_at_call 141;refine(HBT1.out _).mono ?_;rintro e w2 ⟨rfl,rfl⟩)
    | (go_at_call 115;refine(HSE1.out _).mono ?_;rintro e w3 ⟨rfl,hk3⟩)
    | ((with_reducible show wpList _ _ _ (⟨none,.store _ (.tmp 12) _,_,_,_,_⟩::_) _ _);refine wpList_store_mid rfl 30 _ _ rfl w3.heap.size 0 (bytes8 S).toArray rfl rfl ?hth ?hi ?h1 ?hk))
   case hth=>exact(HF.out w3).2.2
   case hi=>first|exact HI.out|simpa using HI.out
   case h1=>exact all_oneCell_toArray (fun y hy=>u8_oneCell y hy)
   generalize hW4:World.setCells _ w3.heap.size 0 _=W4
   have H4:=Lib.hid (show Blk W4 w3.heap.size (bytes8 S) 30/\Kept (fun _=>False) w3 W4 from(by rw[<- hW4];exact⟨(HF.out w3).1,(HF.out w3).2.1⟩))
   clear hW4 hst
   simp only[Act.put]
   refine wp_region_held_drew (S:=fun _=>True) (by kernel_rfl) trivial (fun hT0=>?_)
   have HG5:=Lib.hid (((HG.out.same hk3).same H4.out.2).same (Kept.refl _ _).drew)
   have hb5:=(H4.out.1.drew).range0
   generalize World.drew W4=W5 at *
   obtain⟨a6,w6,hr6,H6⟩:=HG5.out.appA w3.heap.size 0 HE.out.2.2.2.2.1 hb5 (by rw[HE.out.2.2.1];omega)
   obtain⟨gp,op,rfl,hgp,hrp⟩:∃ gp op,va=some ⟨gp,op,none⟩/\gp<w6.heap.size/\w6.rangeAt gp op (hcells P):=by
    obtain⟨a2,n2,c2,e2,q1,q2,q3,q4,q5⟩:=H6.out.pub.view
    simp only[Value.slice.injEq]at e2
    obtain⟨rfl,rfl,rfl⟩:=e2
    exact q5 (by omega)
   have hrj:=rangeAt_mid hrp (j*32) 32
   rw[hcells_at HP.out.1 j p HE.out.2.2.2.2.2.2]at hrj
   obtain⟨b7,w7,hr7,H7⟩:=H6.out.appB gp (op+j*32) HE.out.2.2.2.2.2.1 hrj (by rw[HE.out.2.2.2.1];omega)
   rw[<- HE.out.1,<- HE.out.2.1]at H7
   clear hrj hrp hb5 hj2
   refine ti 0 hT0 ?_
   refine ti 1 hT0 ?_
   refine ti 3 hT0 ?_
   refine ti 4 hT0 ?_
   refine ti 5 hT0 ?_
   refine ti 6 hT0 ?_
   refine ti 7 hT0 ?_
   refine ti 8 hT0 ?_
   refine ti 9 hT0 ?_
   refine ti 10 hT0 ?_
   refine ti 11 hT0 ?_
   refine rd1 2 (fun K hK=>?_)
   refine step_append_run rfl _ _ 72 72 rfl _ _ rfl rfl _ _ hr6 ?_
   refine hK.out _ _ trivial (fun _=>?_)
   clear hK K
   try simp only[lyA,lyB,lyC,lyD]
   refine rd1 12 (fun K hK=>?_)
   refine step_append_run rfl _ _ 72 72 rfl _ _ rfl rfl _ _ hr7 ?_
   refine hK.out _ _ trivial (fun hT7=>?_)
   clear hK K
   try simp only[lyA,lyB,lyC,lyD]
   refine ti 13 hT7 ?_
   refine ti 14 hT7 ?_
   refine dn ?_
   go_wp2_with fail
   go_roundw
   case rel=>exact⟨i+1,by go_num,HLT.out,H7⟩
   case measure=>have:=HLT.out;simp[intOf];omega
  ·obtain rfl:i=256:=by omega
   obtain⟨v8,w8,hr8,HC,HK⟩:=HG.out.end_ (by rw[HOL.out 256 hi];omega) (by rw[HOL.out 256 hi,HSL.out 256];omega)
   have hcv:=HC.out
   rw[<- HR.out]at hcv
   clear hlt hi
   go_wp2_with (at_builtin;refine Lib.wpList_append_run _ rfl _ _ 72 72 rfl _ _ rfl rfl _ _ hr8 ?_)
   go_ret
   exact⟨rfl,HK.out⟩
theorem rsign9_any (w:World) (seed:ByteArray) (v:Value) (L:List By) (i:Nat) (d:By) (hs:seed.size<=1000) (hv:View w 32 v (hcells L)) (h32:∀ x∈L,x.length=32) (hL:L.length=8) (hi:i<8) (hd:d.length=32) (ht:Tab w) :
  Calls Tryz.prog 94 #[.string seed,v,.int .i64 (i:Int),hashV d] w fun e w'=>∃ v',e = .returned (.tuple #[.agg #[.int .i64 (i:Int),.string ⟨(signF seed.data.toList i d).toArray⟩,v'],.int .i64 0])/\NewH w v' (pathF L i) w':=by
 have ka:Kept (fun _=>False) w ((w.alloc (.cells (bytes8 d).toArray 30)).alloc (.cells #[.int .i64 0,.string ⟨#[]⟩,.slice none 0 0] 61)):=((Kept.refl _ _).alloc _).alloc _
 have hbd:=(Blk.new w (bytes8 d) 30).alloc (.cells #[.int .i64 0,.string ⟨#[]⟩,.slice none 0 0] 61)
 have hbr:=Blk.new (w.alloc (.cells (bytes8 d).toArray 30)) [.int .i64 0,.string ⟨#[]⟩,.slice none 0 0] 61
 rw[World.size_alloc]at hbr
 obtain⟨W,hW⟩:∃ W:World,W=((w.alloc (.cells (bytes8 d).toArray 30)).alloc (.cells #[.int .i64 0,.string ⟨#[]⟩,.slice none 0 0] 61)):=⟨_,rfl⟩
 rw[<- hW]at ka hbd
 have hbr:Blk W (w.heap.size+1) [.int .i64 0,.string ⟨#[]⟩,.slice none 0 0] 61:=by rw[hW];exact hbr
 have hpath:=rpath_any 8 W v L i (by omega) (hv.same ka (by omega)) h32 (by omega) (by omega) (ht.same ka)
 have hs8:=fun w'=>rsign8_any w' seed i d hs (by omega) hd
 obtain⟨a,n,c,rfl,-⟩:=hv
 have HP:=Lib.hid hpath
 have HS:=Lib.hid hs8
 have HB:=Lib.hid (And.intro hbd (And.intro hbr ka))
 have id':(Tryz.prog.info? 30).map (·.size)=some (bytes8 d).length:=by rw[bytes8_len,hd];exact info_h32
 have ID:=Lib.hid id'
 have y1:decide ((i:Int)<0)=false:=decide_eq_false (by omega)
 have y2:decide ((7:Int)<(i:Int))=false:=decide_eq_false (by omega)
 have y3:decide (7<i)=false:=decide_eq_false (by omega)
 generalize signF seed.data.toList i d=SG at *
 clear hpath hs8 hbd hbr id' h32 hL hi hd ht
 go_enter Tryz.func94,Tryz.ntmps94
 go_upto_region 1 with fail
 generalize hWx:World.alloc _ _=Wx
 obtain rfl:W=Wx:=by rw[hW,<- hWx]
 clear hW hWx ka
 go_upto_region 4 with (go_at_call 120;refine HP.out.mono ?_;rintro e w2 ⟨v2,rfl,hn2⟩;have H2:=Lib.hid hn2;clear hn2)
 obtain⟨pa,pn,pc,rfl,-⟩:=H2.out.row.form (by omega)
 have hrd:=(HB.out.1.kept H2.out.kept id).range0
 clear HP
 go_wp2_with (first
  | ((with_reducible show wpList _ _ _ (⟨some 28,_,_,_,_,_⟩::_) _ _);refine wpList_load_mid rfl 30 _ rfl w.heap.size 0 rfl (bytes8 d) _ hrd Tryz.underlying30 rfl ID.out ?_)
  | (go_at_call 121;refine(HS.out _).mono ?_;rintro e w3 ⟨rfl,hk3⟩;have HK3:=Lib.hid hk3;have hb3:=(HB.out.2.1.kept H2.out.kept id).kept hk3 id;have q0:=hb3.cell (i:=0) rfl;have q1:=hb3.cell (i:=1) rfl;have q2:=hb3.cell (i:=2) rfl;have f0:=hb3.free 0;have f1:=hb3.free 1;have f2:=hb3.free 2))
 have hf:Blk (((w3.setCell ⟨w.heap.size+1,0,none⟩ (.int .i64 (i:Int))).setCell ⟨w.heap.size+1,1,none⟩ (.string ⟨SG.toArray⟩)).setCell ⟨w.heap.size+1,2,none⟩ (.slice pa pn pc)) (w.heap.size+1) [.int .i64 (i:Int),.string ⟨SG.toArray⟩,.slice pa pn pc] 61:=((hb3.set 0 _).set 1 _).set 2 _
 have kf:Kept (· = w.heap.size+1) w3 (((w3.setCell ⟨w.heap.size+1,0,none⟩ (.int .i64 (i:Int))).setCell ⟨w.heap.size+1,1,none⟩ (.string ⟨SG.toArray⟩)).setCell ⟨w.heap.size+1,2,none⟩ (.slice pa pn pc)):=((kept_cell w3 (w.heap.size+1) 0 _).trans (kept_cell _ (w.heap.size+1) 1 _)).trans (kept_cell _ (w.heap.size+1) 2 _)
 have hlt:=HB.out.2.1.lt
 refine bodyPost_ret (hf.result2 rfl rfl Tryz.underlying61 rfl (by rw[info_seal];rfl)) rfl ⟨.slice pa pn pc,rfl,(H2.out.row.kept HK3.out (fun _ _=>id)).kept kf (fun k hk e=>?_),fun k hk=>?_,((HB.out.2.2.trans H2.out.kept).trans HK3.out).then_ kf (fun b hb e=>by omega)⟩
 ·have:=H2.out.own k hk
  omega
 ·have:=H2.out.own k hk
  have:=HB.out.2.2.size
  omega
theorem signed_range0 {w:World} {b:Nat} {size:Int} {root:By} {i:Int} {sig:ByteArray} {v:Value} {t:TypeId} (h:Blk w b (signedC size root i sig v) t):w.rangeAt b 0 (headC size root):=by
 intro j u hu
 rw[Nat.zero_add]
 exact h.cell (by unfold signedC;rw[List.getElem?_append_left (List.getElem?_eq_some_iff.1 hu).1];exact hu)
theorem view_hash {w:World} {a:Option Addr} {n c:Nat} {L:List By} (hv:View w 32 (.slice a n c) (hcells L)) (h32:∀ x∈L,x.length=32) (h0:0<L.length):n=L.length/\∃ g off,a=some ⟨g,off,none⟩/\∀ W,Kept (fun _=>False) w W->∀ (k:Nat) (h:By),L[k]? = some h->W.rangeAt g (off+k*32) (bytes8 h):=by
 obtain⟨a2,n2,c2,e2,q1,q2,q3,q4,q5⟩:=hv
 simp only[Value.slice.injEq]at e2
 obtain⟨rfl,rfl,rfl⟩:=e2
 rw[hcells_len h32]at q1
 obtain⟨g,off,rfl,hg,hrg⟩:=q5 (by omega)
 refine⟨by omega,g,off,rfl,fun W hk k h hh=>?_⟩
 have:=rangeAt_mid (rangeAt_kept hrg hk hg id) (k*32) 32
 rwa[hcells_at h32 k h hh]at this
theorem view_zero {w:World} {a:Option Addr} {n c:Nat} (hv:View w 32 (.slice a n c) (hcells [])):n=0:=by
 obtain⟨a2,n2,c2,e2,q1,-⟩:=hv
 simp only[Value.slice.injEq]at e2
 obtain⟨rfl,rfl,rfl⟩:=e2
 simp[hcells,bytes8]at q1
 omega
theorem rsame_any (w:World) (size:Int) (root:By) (i:Int) (sig:ByteArray) (u v:Value) (L:List By) (hr:root.length=32) (hu:View w 32 u (hcells L)) (hv:View w 32 v (hcells L)) (h32:∀ x∈L,x.length=32) (hL:L.length<=1000000) :
  Calls Tryz.prog 62 #[signedV size root i sig u,signedV size root i sig v] w fun e w'=>e = .returned (.bool true)/\Kept (fun _=>False) w w':=by
 obtain⟨a,n,c,rfl,-⟩:=id hu
 obtain⟨a',n',c',rfl,-⟩:=id hv
 obtain⟨rfl,rfl⟩:n=L.length/\n'=L.length:=by
  rcases Nat.eq_zero_or_pos L.length with h|h
  ·obtain rfl:=List.eq_nil_of_length_eq_zero h
   exact⟨view_zero hu,view_zero hv⟩
  ·exact⟨(view_hash hu h32 h).1,(view_hash hv h32 h).1⟩
 have HV:=Lib.hid (And.intro (fun h0=>(view_hash hu h32 h0).2) (fun h0=>(view_hash hv h32 h0).2))
 obtain⟨W,hW⟩:∃ W:World,W=(w.alloc (.cells (signedC size root i sig (.slice a L.length c)).toArray 63)).alloc (.cells (signedC size root i sig (.slice a' L.length c')).toArray 63):=⟨_,rfl⟩
 have b0:Blk W w.heap.size (signedC size root i sig (.slice a L.length c)) 63:=by rw[hW];exact(Blk.new w (signedC size root i sig (.slice a L.length c)) 63).alloc (.cells (signedC size root i sig (.slice a' L.length c')).toArray 63)
 have b1:Blk W (w.heap.size+1) (signedC size root i sig (.slice a' L.length c')) 63:=by
  have:=Blk.new (w.alloc (.cells (signedC size root i sig (.slice a L.length c)).toArray 63)) (signedC size root i sig (.slice a' L.length c')) 63
  rw[World.size_alloc]at this
  rw[hW];exact this
 have kW:Kept (fun _=>False) w W:=by rw[hW];exact((Kept.refl _ _).alloc _).alloc _
 obtain⟨q0,q1,q2,q3⟩:=signed_at (size:=size) (i:=i) (sig:=sig) (v:=.slice a L.length c) hr
 obtain⟨p0,p1,p2,p3⟩:=signed_at (size:=size) (i:=i) (sig:=sig) (v:=.slice a' L.length c') hr
 have c1:=b0.cell q1
 have c2:=b0.cell q2
 have c3:=b0.cell q3
 have d1:=b1.cell p1
 have d2:=b1.cell p2
 have d3:=b1.cell p3
 have HR0:=Lib.hid (signed_range0 b0)
 have HR1:=Lib.hid (signed_range0 b1)
 have HI0:=Lib.hid (show(Tryz.prog.info? 32).map (·.size)=some (headC size root).length by rw[headC_len hr];exact info_head)
 have heq:=fun w'=>neq_head w' size size root root hr hr
 simp only[true_and,decide_true,and_self,Bool.not_true]at heq
 have HK:=Lib.hid kW
 have HLT:=Lib.hid (show w.heap.size+1<W.heap.size from b1.lt)
 have HC:=Lib.hid (fun (W':World) (hk:Kept (fun _=>False) W W')=>And.intro (hk.cell c3 id) (hk.cell d3 id))
 have H32:=Lib.hid h32
 generalize hlen:L.length=len at *
 have v1:((len:Int)!=(len:Int))=false:=by simp
 have v2:(sig.toList != sig.toList)=false:=by simp
 have v2':(sig.toList==sig.toList)=true:=by simp
 have v3:(i != i)=false:=by simp
 clear q0 q1 q2 q3 p0 p1 p2 p3 b0 b1 hu hv kW h32
 go_enter Tryz.func62,Tryz.ntmps62
 go_upto_region 1 with fail
 generalize hWx:World.alloc _ _=Wx
 obtain rfl:W=Wx:=by rw[hW,<- hWx]
 clear hW hWx
 go_wp2_with (first
  | ((with_reducible show wpList _ _ _ (⟨some 7,_,_,_,_,_⟩::_) _ _);refine wpList_load_mid rfl 32 _ rfl w.heap.size 0 rfl (headC size root) _ HR0.out Tryz.underlying32 rfl HI0.out ?_)
  | ((with_reducible show wpList _ _ _ (⟨some 9,_,_,_,_,_⟩::_) _ _);refine wpList_load_mid rfl 32 _ rfl (w.heap.size+1) 0 rfl (headC size root) _ HR1.out Tryz.underlying32 rfl HI0.out ?_))
 clear c1 c2 d1 d2 c3 d3 heq v1 v2 v2' v3 HR0 HR1 HI0
 go_loopw [5] (fun x wr=>∃ k:Nat,x = .int .i64 (k:Int)/\k<=len/\Hid (Kept (fun _=>False) W wr)) (fun x _=>len-(intOf x).toNat)
 case atStart=>exact⟨0,rfl,by omega,Lib.hid (Kept.refl _ _)⟩
 case round =>
  obtain⟨k,rfl,hk,HW⟩:=hrel
  have hcc:=HC.out _ HW.out
  obtain⟨c3,d3⟩:=hcc
  by_cases hlt:k<len
  ·have y1:decide ((k:Int)<(len:Int))=true:=decide_eq_true (by omega)
   have y2:decide (k<len)=true:=decide_eq_true hlt
   obtain⟨h,hh⟩:∃ h,L[k]? = some h:=⟨_,List.getElem?_eq_getElem (by omega)⟩
   have hh32:=H32.out h (List.mem_of_getElem? hh)
   obtain⟨g,off,rfl,hra⟩:=HV.out.1 (by omega)
   obtain⟨g2,off2,rfl,hrb⟩:=HV.out.2 (by omega)
   have HI:=Lib.hid (And.intro hh32 (show(Tryz.prog.info? 30).map (·.size)=some (bytes8 h).length by rw[bytes8_len,hh32];exact info_h32))
   have heqk:=fun w'=>neq_hash w' h h hh32 hh32
   rw[decide_eq_true (rfl:h=h)]at heqk
   simp only[Bool.not_true]at heqk
   have HLT2:=Lib.hid hlt
   have k0:(0:Int)<=(k:Int):=by omega
   have k1:(k:Int)<(len:Int):=by omega
   have hfacts:=fun (W':World) (hk:Kept (fun _=>False) W W')=>And.intro (hra W' (HK.out.trans hk) k h hh) (hrb W' (HK.out.trans hk) k h hh)
   clear hh hh32 hra hrb
   go_upto_region 6 with fail
   have HD:=Lib.hid (HW.out.trans (Kept.refl (fun _=>False) wr).drew)
   have hS:wr.drew.cell? ⟨w.heap.size,35,none⟩=some (.slice (some ⟨g,off,none⟩) len c)/\wr.drew.cell? ⟨w.heap.size+1,35,none⟩=some (.slice (some ⟨g2,off2,none⟩) len c')/\wr.drew.rangeAt g (off+k*32) (bytes8 h)/\wr.drew.rangeAt g2 (off2+k*32) (bytes8 h):=⟨(HC.out _ HD.out).1,(HC.out _ HD.out).2,(hfacts _ HD.out).1,(hfacts _ HD.out).2⟩
   clear hfacts c3 d3
   refine wp_region_held_drew (S:=fun W'=>W'.cell? ⟨w.heap.size,35,none⟩=some (.slice (some ⟨g,off,none⟩) len c)/\W'.cell? ⟨w.heap.size+1,35,none⟩=some (.slice (some ⟨g2,off2,none⟩) len c')/\W'.rangeAt g (off+k*32) (bytes8 h)/\W'.rangeAt g2 (off2+k*32) (bytes8 h)) (by kernel_rfl) hS (fun hS0=>?_)
   generalize World.drew wr=W5 at *
   refine ti 0 hS0 ?_
   refine ti 1 hS0 ?_
   refine ti 2 hS0 ?_ (hy:=by (refine Or.inl ⟨by rfl,fun w hSw=>?_⟩;obtain⟨s1,s2,s3,s4⟩:=hSw;go_simp;(try with_reducible rfl)))
   refine ti 3 hS0 ?_
   refine ti 4 hS0 ?_
   refine tky 5 rfl (fun _ _ _ h=>h) (yieldsIf_load_mid (by rfl) _ _ rfl g (off+k*32) rfl (bytes8 h) _ (fun w q=>q.2.2.1) Tryz.underlying30 rfl HI.out.2) hS0 ?_
   refine ti 6 hS0 ?_
   refine ti 7 hS0 ?_
   refine ti 8 hS0 ?_ (hy:=by (refine Or.inl ⟨by rfl,fun w hSw=>?_⟩;obtain⟨s1,s2,s3,s4⟩:=hSw;go_simp;(try with_reducible rfl)))
   refine ti 9 hS0 ?_
   refine ti 10 hS0 ?_
   refine tky 11 rfl (fun _ _ _ h=>h) (yieldsIf_load_mid (by rfl) _ _ rfl g2 (off2+k*32) rfl (bytes8 h) _ (fun w q=>q.2.2.2) Tryz.underlying30 rfl HI.out.2) hS0 ?_
   refine ti 12 hS0 ?_
   refine dn ?_
   clear hS0 hS hlt
   go_wp2_with fail
   go_roundw
   case rel=>exact⟨k+1,by go_num,HLT2.out,HD⟩
   case measure=>have:=HLT2.out;simp[intOf];omega
  ·obtain rfl:k=len:=by omega
   have y1:decide ((k:Int)<(k:Int))=false:=decide_eq_false (by omega)
   have y2:decide (k<k)=false:=decide_eq_false hlt
   clear hlt hk
   go_wp2_with fail
   go_ret
   exact⟨rfl,HK.out.trans HW.out⟩
end Go.Proofs.YtdmedbhbefdnkaaGreatDoor
