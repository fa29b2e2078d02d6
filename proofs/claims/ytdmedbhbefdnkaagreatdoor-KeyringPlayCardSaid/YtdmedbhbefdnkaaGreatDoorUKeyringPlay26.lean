/- Codec4 Frames1 ReadP Trees1 Trees2 Lam1 SignC -/
import Derived.Lib.SlBuf
import Derived.Test.YtdmedbhbefdnkaaGreatDoorUKeyringPlay25
set_option linter.unusedVariables false
set_option linter.unusedSimpArgs false
set_option maxRecDepth 100000
set_option maxHeartbeats 16000000
namespace Go.Proofs.YtdmedbhbefdnkaaGreatDoor
open Go.RowKit
theorem Blk.result3 {P:Program} {w:World} {b:Nat} {c:List Value} {t ty:TypeId} {d:TypeDesc} {fn:Func} {p u v:Tmp} {tmps:Array Value} (h:Blk w b c t) (hf:fn.results = #[.cell p ty,.tmp u,.tmp v]) (hp:tmps.getD p undef = .pointer (some ⟨b,0,none⟩))
  (hu:P.underlying ty=some d) (hd:(match d with | .struct _ | .array _ _=>true|_=>false)=true) (hi:(P.info? ty).map (·.size)=some c.length) :
  (results fn tmps).run P w = .ok (.tuple #[.agg c.toArray,tmps.getD u undef,tmps.getD v undef]) w:=by
 have hp':tmps[p]?.getD undef = .pointer (some ⟨b,0,none⟩):=by simpa using hp
 simp[results,hf,hp',asAddr,run_loadVar_row w b t ty c.toArray (0,0) d h hu hd (by rw[hi,List.size_toArray])]
theorem zeros_bytes8 (k:Nat):zeros k=bytes8 (List.replicate k 0):=by simp[zeros,bytes8]
def unhashAt (s:ByteArray):Array Value:=if 32<=s.size then #[hashV (s.extract 0 32).data.toList,.string (s.extract 32 s.size),.bool true]
 else #[hashV (List.replicate 32 0),.string "".toUTF8,.bool false]
theorem copy_hash {w:World} {b:Nat} {c:List Value} (h:Blk w b c 30) (hc:c.length=32) (t:ByteArray) (ht:t.size<=32) :
  (Builtin.copy_ #[72,9] 3 #[.slice (some ⟨b,0,none⟩) 32 32,.string t]).run Tryz.prog w = .ok (.int .i64 (t.size:Int)) (w.setCells b 0 (bytes8 t.data.toList)):=by
 have hth:=h.there 0 t.size (by omega)
 exact run_copy_string (P:=Tryz.prog) w 72 9 3 5 b 0 32 32 t Tryz.underlying72 sizeU8 ht (fun j hj=>(hth j hj).1) (fun j hj=>(hth j hj).2)
theorem unhash_any (w:World) (s:ByteArray) (hs:Short s.size) :
  Calls Tryz.prog 108 #[.string s] w fun e w'=>e = .returned (.tuple (unhashAt s))/\Kept (fun _=>False) w w':=by
 have hb:=Blk.new w (zeros 32) 30
 have HT:=Lib.hid (fun w'=>take_any w' s 32 hs)
 obtain⟨t,r,ok,l,hl,ht,hcp,hte,hu⟩:∃ (t r:ByteArray) (ok:Bool) (l:List UInt8),l.length=32/\t.size<=32/\splice (zeros 32) 0 (bytes8 t.data.toList)=bytes8 l /\
   ((if 32<=s.size then #[Value.string (s.extract 0 32),.string (s.extract 32 s.size),.bool true]else #[.string "".toUTF8,.string "".toUTF8,.bool false]):Array Value) = #[.string t,.string r,.bool ok]/\unhashAt s = #[hashV l,.string r,.bool ok]:=by
  by_cases hle:32<=s.size
  ·have h32:(s.extract 0 32).size=32:=by rw[ByteArray.size_extract];omega
   have h33:(s.extract 0 32).data.toList.length=32:=by rw[<- h32];simp
   exact⟨s.extract 0 32,s.extract 32 s.size,true,(s.extract 0 32).data.toList,h33,by omega,splice_whole (by rw[bytes8_len,zeros_len,h33]),if_pos hle,if_pos hle⟩
  ·exact⟨"".toUTF8,"".toUTF8,false,List.replicate 32 0,by simp,by decide,zeros_bytes8 32,if_neg hle,if_neg hle⟩
 rw[hu]
 have HTE:=Lib.hid hte
 have HCP:=Lib.hid hcp
 have hinf:(Tryz.prog.info? 30).map (·.size)=some (bytes8 l).length:=by rw[bytes8_len,hl];exact info_h32
 have HI:=Lib.hid hinf
 clear hte hu hcp hinf
 go_enter Tryz.func108,Tryz.ntmps108
 go_wp2_with (first|(go_at_call 132;refine(HT.out _).mono ?_;rintro e w1 ⟨rfl,hk1⟩;rw[HTE.out];have hb1:=hb.kept hk1 id;have hrun:=copy_hash hb1 (zeros_len 32) t ht;have hb2:=hb1.setCells 0 (bytes8 t.data.toList) (by rw[bytes8_len,zeros_len];simpa using ht);rw[HCP.out]at hb2;have HB:=Lib.hid hb2;have HK:=Lib.hid hk1;clear hb1 hb2 hk1;generalize hw2:w1.setCells w.heap.size 0 (bytes8 t.data.toList)=w2 at hrun HB)|(refine wpList_load_mid rfl 30 _ rfl w.heap.size 0 rfl (bytes8 l) _ HB.out.range0 Tryz.underlying30 rfl HI.out ?_)|(refine wpList_store_mid rfl 30 _ _ rfl w.heap.size 0 (bytes8 l).toArray rfl rfl ?hth ?hi ?h1 ?_))
 case hth=>rw[List.size_toArray];exact HB.out.there 0 _ (Nat.le_of_eq (Nat.zero_add _))
 case hi=>simpa using HI.out
 case h1=>exact all_oneCell_toArray (fun x hx=>u8_oneCell x hx)
 have hb3:=HB.out.setCells 0 (bytes8 l) (Nat.le_of_eq (Nat.zero_add _))
 rw[splice_whole rfl]at hb3
 refine bodyPost_ret (hb3.result3 rfl rfl Tryz.underlying30 rfl HI.out) rfl ⟨rfl,?_⟩
 subst hw2
 exact((((Kept.refl _ _).alloc _).trans HK.out).then_ (kept_setCells _ _ _ _) (fun i hi e=>by omega)).then_ (kept_setCells _ _ _ _) (fun i hi e=>by omega)
def markF (p:List UInt8):List UInt8:=be 4 p.length++(shaF (be 4 p.length++p)).take 8
theorem markF_len (p:List UInt8):(markF p).length=12:=by simp[markF,be_len,shaF_len]
theorem bstr_len (s:ByteArray):s.data.toList.length=s.size:=by simp
theorem bstr_append (l:List UInt8) (s:ByteArray):((⟨l.toArray⟩:ByteArray)++s).data.toList=l++s.data.toList:=by
 rw[ByteArray.data_append];simp
theorem bstr_eq {s t:ByteArray} (h:s.data.toList=t.data.toList):s=t:=by
 obtain⟨⟨a⟩⟩:=s;obtain⟨⟨b⟩⟩:=t
 simp at h
 subst h;rfl
theorem hash_stored {w:World} {b:Nat} {c:List Value} {t:TypeId} (h:Blk w b c t) (hc:c.length=32) {H:List UInt8} (hl:H.length=32):w.there b 0 (bytes8 H).toArray.size/\Blk (w.setCells b 0 (bytes8 H)) b (bytes8 H) t:=by
 constructor
 ·rw[List.size_toArray,bytes8_len,hl];exact h.there 0 32 (by omega)
 ·have:=h.setCells 0 (bytes8 H) (by rw[bytes8_len];omega)
  rwa[splice_whole (by rw[bytes8_len];omega)]at this
theorem head_string {w:World} {b n cap:Nat} {H:List UInt8} {t:TypeId} (h:Blk w b (bytes8 H) t) (hn:n<=H.length) :
  (convert 72 9 (.slice (some ⟨b,0,none⟩) n cap)).run Tryz.prog w = .ok (.string ⟨(H.take n).toArray⟩) w:=by
 refine run_string_of (H.take n) (by rw[List.length_take];omega) fun j u hu=>?_
 rw[Nat.zero_add]
 refine h.cell ?_
 simp only[bytes8,List.map_take]at hu ⊢
 have:=(List.getElem?_eq_some_iff.1 hu).1
 rw[List.getElem?_take_of_lt (by simp at this;omega)]at hu
 exact hu
theorem info_hash {H:List UInt8} (hl:H.length=32):(Tryz.prog.info? 30).map (·.size)=some (bytes8 H).toArray.size:=by rw[List.size_toArray,bytes8_len,hl];exact info_h32
theorem bstr_cat (l r:List UInt8):(⟨l.toArray⟩:ByteArray)++(⟨r.toArray⟩:ByteArray)=⟨(l++r).toArray⟩:=bstr_eq (by rw[bstr_append])
theorem mark_any (w:World) (s:ByteArray) (hs:s.size<=900000) (ht:Tab w) :
  Calls Tryz.prog 122 #[.string s] w fun e w'=>e = .returned (.string ⟨(markF s.data.toList).toArray⟩)/\Kept (fun _=>False) w w':=by
 have x1:=wrap_u64 (n:=s.size) (U64n.small (by omega))
 have HP:=Lib.hid (fun w'=>put_int w' (s.size:Int) s.size 4 4 rfl rfl (by omega) (by omega))
 have hb4:(⟨(be 4 s.size).toArray⟩:ByteArray).size=4:=by show(be 4 s.size).toArray.size=4;rw[List.size_toArray,be_len]
 have x2:(⟨(be 4 s.size).toArray⟩:ByteArray).size+s.size<=900004:=by omega
 have hsum:∀ w',Tab w'->Calls Tryz.prog 100 #[.string (⟨(be 4 s.size).toArray⟩++s)] w' fun e w''=>e = .returned (.agg (bytes8 (shaF (be 4 s.size++s.data.toList))).toArray)/\Kept (fun _=>False) w' w'':=by
  intro w' ht'
  have:=sum_any w' (⟨(be 4 s.size).toArray⟩++s) (by rw[ByteArray.size_append];omega) ht'
  rwa[bstr_append]at this
 have HS:=Lib.hid hsum
 clear hsum
 have hm:markF s.data.toList=be 4 s.size++(shaF (be 4 s.size++s.data.toList)).take 8:=by unfold markF;rw[bstr_len]
 rw[hm]
 clear hm
 have hl:=shaF_len (be 4 s.size++s.data.toList)
 generalize shaF (be 4 s.size++s.data.toList)=H at *
 generalize be 4 s.size=B at *
 have HI:=Lib.hid (info_hash hl)
 have HL:=Lib.hid hl
 clear hl
 go_enter Tryz.func122,Tryz.ntmps122
 go_wp2_with (first|(go_at_call 101;refine(HP.out _).mono ?_;rintro e w1 ⟨rfl,hk1⟩)|(go_at_call 100;refine(HS.out _ (ht.same hk1)).mono ?_;rintro e w2 ⟨rfl,hk2⟩;have HB:=Lib.hid (hash_stored (Blk.new w2 (zeros 32) 30) (zeros_len 32) HL.out))|(refine wpList_store_mid rfl 30 _ _ rfl w2.heap.size 0 (bytes8 H).toArray rfl rfl ?hth ?hi ?h1 ?hk;(case' hk=>generalize hw3:World.setCells _ w2.heap.size 0 _=w3;have hb3:Blk w3 w2.heap.size (bytes8 H) 30:=(by rw[<- hw3];exact HB.out.2);have hst:=head_string (n:=8) (cap:=32) hb3 (by rw[HL.out];omega))))
 case hth=>exact HB.out.1
 case hi=>exact HI.out
 case h1=>exact all_oneCell_toArray (fun x hx=>u8_oneCell x hx)
 go_ret
 refine⟨by rw[bstr_cat];rfl,?_⟩
 subst hw3
 exact((hk1.trans hk2).alloc _).then_ (kept_setCells _ _ _ _) (fun i hi e=>by have:=(hk1.trans hk2).size;omega)
def frameF (p:List UInt8):List UInt8:=markF p++p
theorem frameF_len (p:List UInt8):(frameF p).length=12+p.length:=by simp[frameF,markF_len]
theorem frame_any (w:World) (s:ByteArray) (hs:s.size<=65536) (ht:Tab w) :
  Calls Tryz.prog 96 #[.string s] w fun e w'=>e = .returned (.tuple #[.string ⟨(frameF s.data.toList).toArray⟩,.int .i64 0])/\Kept (fun _=>False) w w':=by
 have x1:decide (65536<(s.size:Int))=false:=by simp;omega
 have hm:=mark_any w s (by omega) ht
 have hml:=markF_len s.data.toList
 unfold frameF
 generalize hB:markF s.data.toList=B at *
 clear hB
 have hb4:(⟨B.toArray⟩:ByteArray).size=12:=by show B.toArray.size=12;rw[List.size_toArray,hml]
 have x2:(⟨B.toArray⟩:ByteArray).size+s.size<=900004:=by omega
 go_enter Tryz.func96,Tryz.ntmps96
 go_wp2_with (go_at_call 122;refine hm.mono ?_;rintro e w1 ⟨rfl,hk1⟩)
 go_ret2
 have e:(⟨B.toArray⟩:ByteArray)++s=⟨(B++s.data.toList).toArray⟩:=bstr_eq (bstr_append B s)
 exact⟨by rw[<- e];rfl,hk1⟩
theorem readGo_cons (c:UInt8) (l:By) (n:Nat) (h1:¬ ((n=0/\c.toNat=128)\/144115188075855872<=n)) :
  readGo (c::l) n=if c.toNat<128 then some (n*128+c.toNat%128,1)else(readGo l (n*128+c.toNat%128)).map fun x=>(x.1,x.2+1):=by
 conv=>lhs;unfold readGo
 rw[if_neg h1]
theorem byte_nat (c:Nat) (h:c<256):(UInt8.ofNat c).toNat=c:=by simp;omega
theorem readGo_more (k:Nat):∀ (m:Nat) (acc rest:By),m<=k->U64n m->0<m->(moreL m acc).length=(moreL m []).length+acc.length/\readGo (moreL m acc++rest) 0=(readGo (acc++rest) m).map fun x=>(x.1,x.2+(moreL m []).length):=by
 induction k with
 | zero=>intro m acc rest h _ h0;omega
 | succ k ih =>
  intro m acc rest hk hm h0
  unfold U64n at hm
  have hc:=byte_nat (m%128+128) (by omega)
  have e1:=moreL_pos h0 acc
  have e2:=moreL_pos h0 []
  rcases Nat.eq_zero_or_pos (m/128)with hz|hz
  ·have hm128:m%128=m:=by omega
   rw[hz,moreL_zero]at e1 e2
   rw[e1,e2]
   refine⟨by simp;omega,?_⟩
   rw[List.cons_append,readGo_cons _ _ _ (by rw[hc];omega),hc,if_neg (by omega),show 0*128+(m%128+128)%128=m by omega]
   rfl
  ·have hm2:U64n (m/128):=by unfold U64n;omega
   obtain⟨l1,r1⟩:=ih (m/128) (UInt8.ofNat (m%128+128)::acc) rest (by omega) hm2 hz
   obtain⟨l2,_⟩:=ih (m/128) [UInt8.ofNat (m%128+128)] [] (by omega) hm2 hz
   rw[e1,e2,l1,l2,r1]
   refine⟨by simp;omega,?_⟩
   rw[List.cons_append,readGo_cons _ _ _ (by rw[hc];omega),hc,if_neg (by omega),show m/128*128+(m%128+128)%128=m by omega]
   cases readGo (acc++rest) m with
   | none=>rfl
   | some x=>simp only[Option.map_some,List.length_cons,List.length_nil];congr 2;omega
theorem readGo_num (n:Nat) (hn:U64n n) (rest:By):readGo (numL n++rest) 0=some (n,(numL n).length):=by
 unfold U64n at hn
 have hc:=byte_nat (n%128) (by omega)
 unfold numL
 rcases Nat.eq_zero_or_pos (n/128)with hz|hz
 ·rw[hz,moreL_zero,List.cons_append,readGo_cons _ _ _ (by rw[hc];omega),hc,if_pos (by omega)]
  congr 2
  omega
 ·have hm2:U64n (n/128):=by unfold U64n;omega
  obtain⟨l1,r1⟩:=readGo_more (n/128) (n/128) [UInt8.ofNat (n%128)] rest (Nat.le_refl _) hm2 hz
  rw[r1,l1,List.cons_append,readGo_cons _ _ _ (by rw[hc];omega),hc,if_pos (by omega)]
  simp only[Option.map_some,List.length_cons,List.length_nil,List.nil_append]
  congr 2
  ·omega
  ·omega
theorem readGo_le (l:By) (n:Nat) {x:Nat × Nat} (h:readGo l n=some x):1<=x.2/\x.2<=l.length:=by
 induction l generalizing n x with
 | nil=>unfold readGo at h;cases h
 | cons c l ih =>
  unfold readGo at h
  split at h
  ·cases h
  ·split at h
   ·cases h;simp
   ·cases hg:readGo l (n*128+c.toNat%128)with
    | none=>rw[hg]at h;cases h
    | some y=>rw[hg]at h;cases h;have:=ih _ hg;simp;omega
theorem readAt_yes {s:ByteArray} {n k:Nat} (h:readGo s.data.toList 0=some (n,k)):readAt s 0 0 = #[.int .u64 (n:Int),.string (s.extract k s.size),.bool true]:=by
 unfold readAt
 rw[List.drop_zero,h]
 simp
theorem readAt_no {s:ByteArray} (h:readGo s.data.toList 0=none):readAt s 0 0 = #[.int .u64 0,.string "".toUTF8,.bool false]:=by
 unfold readAt
 rw[List.drop_zero,h]
theorem rangeAt_kept {S:Nat->Prop} {w w':World} {b o:Nat} {cs:List Value} (h:w.rangeAt b o cs) (k:Kept S w w') (hb:b<w.heap.size) (hS:¬ S b):w'.rangeAt b o cs:=by
 intro j v hv
 have:=h j v hv
 simp only[World.cell?]at this ⊢
 rw[k.block b hb hS]
 exact this
theorem node_next {w1 w2 W:World} {b0 b1 b2:Nat} {A B:List Value} {t:TypeId} (h:w1.rangeAt b0 0 A/\w1.rangeAt b1 0 B/\(∃ C:List Value,C.length=32/\Blk w1 b2 C t)/\Kept (· = b2) W w1)
  (h0:b0<W.heap.size) (h1:b1<W.heap.size) (k:Kept (fun _=>False) w1 w2):w2.rangeAt b0 0 A/\w2.rangeAt b1 0 B/\(∃ C:List Value,C.length=32/\Blk w2 b2 C t)/\Kept (· = b2) W w2:=by
 obtain⟨r0,r1,⟨C,hC,hb⟩,hk⟩:=h
 have:=hk.size
 exact⟨rangeAt_kept r0 k (by omega) id,rangeAt_kept r1 k (by omega) id,⟨C,hC,hb.kept k id⟩,hk.then_ k (fun _ _=>False.elim)⟩
theorem node_store {w1 W:World} {b0 b1 b2:Nat} {A B:List Value} {t:TypeId} {H:List Value} (h:w1.rangeAt b0 0 A/\w1.rangeAt b1 0 B/\(∃ C:List Value,C.length=32/\Blk w1 b2 C t)/\Kept (· = b2) W w1)
  (h0:b0<W.heap.size) (h1:b1<W.heap.size) (n0:b0≠b2) (n1:b1≠b2) (hH:H.length=32):(w1.setCells b2 0 H).rangeAt b0 0 A/\(w1.setCells b2 0 H).rangeAt b1 0 B/\(∃ C:List Value,C.length=32/\Blk (w1.setCells b2 0 H) b2 C t)/\Kept (· = b2) W (w1.setCells b2 0 H):=by
 obtain⟨r0,r1,⟨C,hC,hb⟩,hk⟩:=h
 have:=hk.size
 have hk2:=kept_setCells w1 b2 0 H
 refine⟨rangeAt_kept r0 hk2 (by omega) n0,rangeAt_kept r1 hk2 (by omega) n1,⟨_,?_,hb.setCells 0 H (by omega)⟩,hk.then_ hk2 (fun _ _ e=>e)⟩
 rw[splice_len (by omega),hC]
theorem node_tab {w w1 W:World} {b0 b1 b2:Nat} {A B:List Value} {t:TypeId} (h:w1.rangeAt b0 0 A/\w1.rangeAt b1 0 B/\(∃ C:List Value,C.length=32/\Blk w1 b2 C t)/\Kept (· = b2) W w1)
  (ht:Tab w) (hW:Kept (fun _=>False) w W) (hb:w.heap.size<=b2):Tab w1:=ht.same (hW.then_ h.2.2.2 (fun i hi e=>by omega))
theorem node_any (w:World) (a b:By) (ha:a.length=32) (hb:b.length=32) (ht:Tab w) :
  Calls Tryz.prog 129 #[hashV a,hashV b] w fun e w'=>e = .returned (hashV (nodeF a b))/\Kept (fun _=>False) w w':=by
 have HA:=Lib.hid (fun w'=>hash_any w' a ha)
 have HB:=Lib.hid (fun w'=>hash_any w' b hb)
 have hcat:(⟨#[1]⟩:ByteArray)++⟨a.toArray⟩++⟨b.toArray⟩=⟨(1::(a++b)).toArray⟩:=bstr_eq (by simp[ByteArray.data_append])
 have hsum:∀ w',Tab w'->Calls Tryz.prog 100 #[.string (⟨#[1]⟩++⟨a.toArray⟩++⟨b.toArray⟩)] w' fun e w''=>e = .returned (.agg (bytes8 (nodeF a b)).toArray)/\Kept (fun _=>False) w' w'':=by
  intro w' ht'
  rw[hcat]
  exact sum_any w' ⟨(1::(a++b)).toArray⟩ (by show(1::(a++b)).toArray.size<=1000000;simp;omega) ht'
 have HS:=Lib.hid hsum
 have hN:=nodeF_len a b
 clear hsum hcat
 generalize nodeF a b=H at *
 have x1:(⟨#[1]⟩:ByteArray).size+(⟨a.toArray⟩:ByteArray).size<=33:=by show 1+a.toArray.size<=33;simp;omega
 have hW:∃ W:World,W=((w.alloc (.cells (bytes8 a).toArray 30)).alloc (.cells (bytes8 b).toArray 30)).alloc (.cells (zeros 32).toArray 30):=⟨_,rfl⟩
 obtain⟨W,hW⟩:=hW
 have b0:Blk W w.heap.size (bytes8 a) 30:=by rw[hW];exact((Blk.new w (bytes8 a) 30).alloc _).alloc _
 have b1:Blk W (w.heap.size+1) (bytes8 b) 30:=by
  have:=Blk.new (w.alloc (.cells (bytes8 a).toArray 30)) (bytes8 b) 30
  rw[World.size_alloc]at this
  rw[hW];exact this.alloc _
 have b2:Blk W (w.heap.size+1+1) (zeros 32) 30:=by
  have:=Blk.new ((w.alloc (.cells (bytes8 a).toArray 30)).alloc (.cells (bytes8 b).toArray 30)) (zeros 32) 30
  rw[World.size_alloc,World.size_alloc]at this
  rw[hW];exact this
 have kW:Kept (fun _=>False) w W:=by rw[hW];exact(((Kept.refl _ _).alloc _).alloc _).alloc _
 have l0:=b0.lt
 have l1:=b1.lt
 have S0:W.drew.rangeAt w.heap.size 0 (bytes8 a)/\W.drew.rangeAt (w.heap.size+1) 0 (bytes8 b)/\(∃ C:List Value,C.length=32/\Blk W.drew (w.heap.size+1+1) C 30)/\Kept (· = w.heap.size+1+1) W W.drew :=
  ⟨(b0.drew).range0,(b1.drew).range0,⟨_,zeros_len 32,b2.drew⟩,(Kept.refl _ _).drew⟩
 have ia:(Tryz.prog.info? 30).map (·.size)=some (bytes8 a).length:=by rw[bytes8_len,ha];exact info_h32
 have ib:(Tryz.prog.info? 30).map (·.size)=some (bytes8 b).length:=by rw[bytes8_len,hb];exact info_h32
 have iH:(Tryz.prog.info? 30).map (·.size)=some (bytes8 H).length:=by rw[bytes8_len,hN];exact info_h32
 have oH:∀ v∈bytes8 H,v.oneCell'=true:=u8_oneCell
 have lH:(bytes8 H).length=32:=by rw[bytes8_len,hN]
 have hu:=Tryz.underlying30
 go_enter Tryz.func129,Tryz.ntmps129
 go_wp2_with fail
 change Code.wp _ _ _ _ (((w.alloc (.cells (bytes8 a).toArray 30)).alloc (.cells (bytes8 b).toArray 30)).alloc (.cells (zeros 32).toArray 30))
 rw[<- hW]
 clear hW
 refine wp_region_held_drew (S:=(fun w'=>w'.rangeAt w.heap.size 0 (bytes8 a)/\w'.rangeAt (w.heap.size+1) 0 (bytes8 b)/\(∃ C:List Value,C.length=32/\Blk w' (w.heap.size+1+1) C 30)/\Kept (· = w.heap.size+1+1) W w')) (by kernel_rfl) S0 (fun hH0=>?_)
 refine tky 0 rfl (fun _ _ _ h=>h) (yieldsIf_load_mid (by rfl) _ _ rfl _ _ rfl (bytes8 a) _ (fun w h=>h.1) hu rfl ia) hH0 ?_
 refine tky 3 rfl (fun _ _ _ h=>h) (yieldsIf_load_mid (by rfl) _ _ rfl _ _ rfl (bytes8 b) _ (fun w h=>h.2.1) hu rfl ib) hH0 ?_
 refine rd1 1 (fun K hK=>?_)
 go_simp
 refine(HA.out _).mono ?_
 rintro e w3 ⟨rfl,hk3⟩
 refine hK.out _ _ (node_next hH0 l0 l1 hk3) (fun hH1=>?_)
 clear hK K
 try simp only[lyA,lyB,lyC,lyD]
 refine tl 2 (v:=.string (⟨#[1]⟩++⟨a.toArray⟩)) rfl (fun _ _ _ h=>h) (Or.inl ⟨by rfl,fun w hSw=>?_⟩) hH1 ?_
 ·clear hSw;go_simp
 try simp only[lyA,lyB,lyC,lyD]
 refine rd1 4 (fun K hK=>?_)
 go_simp
 refine(HB.out _).mono ?_
 rintro e w4 ⟨rfl,hk4⟩
 refine hK.out _ _ (node_next hH1 l0 l1 hk4) (fun hH2=>?_)
 clear hK K
 try simp only[lyA,lyB,lyC,lyD]
 refine tl 5 (v:=.string (⟨#[1]⟩++⟨a.toArray⟩++⟨b.toArray⟩)) rfl (fun _ _ _ h=>h) (Or.inl ⟨by rfl,fun w hSw=>?_⟩) hH2 ?_
 ·clear hSw;go_simp
 try simp only[lyA,lyB,lyC,lyD]
 refine rd1 6 (fun K hK=>?_)
 go_simp
 refine(HS.out _ (node_tab hH2 ht kW (by omega))).mono ?_
 rintro e w5 ⟨rfl,hk5⟩
 refine hK.out _ _ (node_next hH2 l0 l1 hk5) (fun hH3=>?_)
 clear hK K
 try simp only[lyA,lyB,lyC,lyD]
 refine rd1 7 (fun K hK=>?_)
 obtain⟨_,_,⟨C,hC,hb5⟩,hk6⟩:=id hH3
 have hst:=hash_stored hb5 hC hN
 rw[if_pos (by rfl)]
 refine wp_store_mid _ _ _ rfl (w.heap.size+1+1) 0 (bytes8 H).toArray rfl rfl hst.1 ?_ (all_oneCell_toArray oH) ?_
 ·rw[List.size_toArray];exact iH
 simp only[Act.put]
 refine hK.out _ _ (node_store hH3 l0 l1 (by omega) (by omega) lH) (fun hH4=>?_)
 clear hK K
 refine dn ?_
 go_wp2_with fail
 refine bodyPost_ret (hst.2.result rfl rfl Tryz.underlying30 rfl iH) rfl ⟨rfl,?_⟩
 exact kW.then_ hH4.2.2.2 (fun i hi e=>by omega)
theorem split_any (w:World) (n:Nat) (hn:n<=1000000000) :
  Calls Tryz.prog 124 #[.int .i64 (n:Int)] w fun e w'=>e = .returned (.int .i64 (splitN n:Int))/\w=w':=by
 by_cases h2:n<2
 ·have x1:decide ((n:Int)<2)=true:=by simp;omega
  have HS:=Lib.hid (splitN_small h2)
  go_enter Tryz.func124,Tryz.ntmps124
  go_wp2
  go_ret
  exact⟨by rw[HS.out];rfl,rfl⟩
 ·have x1:decide ((n:Int)<2)=false:=by simp;omega
  have hs:splitN n=splitGo n 1:=by unfold splitN;rw[if_neg h2]
  have HS:=Lib.hid hs
  clear hs
  go_enter Tryz.func124,Tryz.ntmps124
  go_wp2
  go_loopw [3] (fun x wr=>∃ k:Nat,x = .int .i64 (k:Int)/\0<k/\k<n/\Hid (splitN n=splitGo n k)/\w=wr) (fun x _=>n-(intOf x).toNat)
  case atStart=>exact⟨1,rfl,by omega,by omega,HS,rfl⟩
  case round =>
   obtain⟨k,rfl,hk0,hkn,HG,rfl⟩:=hrel
   have a1:wrap64 ((n:Int)-(k:Int))=(n:Int)-(k:Int):=IntWalk.wrap64_in _ (by omega)
   have HG:splitN n=splitGo n k:=HG
   by_cases hlt:k<n-k
   ·rw[splitGo_yes hk0 hlt]at HG
    have HH:=Lib.hid HG
    have y1:decide ((k:Int)<(n:Int)-(k:Int))=true:=by simp;omega
    have a2:wrap64 ((k:Int)*2)=((k*2:Nat):Int):=by rw[IntWalk.wrap64_in _ (by clear a1;omega)];omega
    clear HG
    go_wp2
    exact⟨⟨k*2,by rw[Int.natCast_mul];rfl,by omega,by clear a1 a2;omega,HH,trivial⟩,by show n-((k:Int)*2).toNat<n-((k:Int)).toNat;clear a1 a2;omega⟩
   ·rw[splitGo_no hlt]at HG
    have HH:=Lib.hid HG
    have y1:decide ((k:Int)<(n:Int)-(k:Int))=false:=by simp;omega
    clear HG
    go_wp2
    go_ret
    exact⟨by rw[HH.out];rfl,rfl⟩
theorem sum_ready {w w1:World} (s:ByteArray) (l:By) (hl:s.data.toList=l) (hs:s.size<=1000000) (ht:Tab w) (hk:Kept (fun _=>False) (w.alloc (.cells (zeros 32).toArray 30)) w1) :
  Calls Tryz.prog 100 #[.string s] w1 fun e w2=>e = .returned (.agg (bytes8 (shaF l)).toArray)/\Hid (Blk w2 w.heap.size (zeros 32) 30/\Kept (fun _=>False) w w2):=by
 subst hl
 have k1:Kept (fun _=>False) w w1:=((Kept.refl _ _).alloc _).trans hk
 refine(sum_any w1 s hs (ht.same k1)).mono ?_
 rintro e w2 ⟨rfl,hk2⟩
 exact⟨rfl,Lib.hid ⟨((Blk.new w (zeros 32) 30).kept hk id).kept hk2 id,k1.trans hk2⟩⟩
theorem shown_any (w:World) (s:ByteArray) (hs:s.size<=900000) (ht:Tab w) :
  Calls Tryz.prog 112 #[.string s] w fun e w'=>e = .returned (hashV (shownF s.data.toList))/\Kept (fun _=>False) w w':=by
 have x1:(⟨#[3]⟩:ByteArray).size+s.size<=900001:=by show 1+s.size<=900001;omega
 have hcall:=sum_ready (⟨#[3]⟩++s) (3::s.data.toList) (by rw[ByteArray.data_append];simp) (by rw[ByteArray.size_append];omega) ht (Kept.refl _ _)
 have hl:=shownF_len s.data.toList
 have he:shaF (3::s.data.toList)=shownF s.data.toList:=rfl
 rw[he]at hcall
 clear he
 generalize shownF s.data.toList=R at *
 have HI:=Lib.hid (show(Tryz.prog.info? 30).map (·.size)=some (bytes8 R).length by rw[bytes8_len,hl];exact info_h32)
 have HR:=Lib.hid hl
 clear hl
 go_enter Tryz.func112,Tryz.ntmps112
 go_wp2_with (first|(go_at_call 100;refine hcall.mono ?_;rintro e w5 ⟨rfl,HB⟩)|(refine wpList_store_mid rfl 30 _ _ rfl w.heap.size 0 (bytes8 R).toArray rfl rfl ?hth ?hi ?h1 ?_))
 case hth=>exact(hash_stored HB.out.1 (zeros_len 32) HR.out).1
 case hi=>exact info_hash HR.out
 case h1=>exact all_oneCell_toArray (fun y hy=>u8_oneCell y hy)
 have hst:=hash_stored HB.out.1 (zeros_len 32) HR.out
 refine bodyPost_ret (hst.2.result rfl rfl Tryz.underlying30 rfl HI.out) rfl ⟨rfl,?_⟩
 exact HB.out.2.then_ (kept_setCells _ _ _ _) (fun i hi e=>by omega)
theorem secret_any (w:World) (seed:ByteArray) (index i bit:Nat) (hs:seed.size<=1000) (h1:index<2147483648) (h2:i<256) (h3:bit<2) (ht:Tab w) :
  Calls Tryz.prog 113 #[.string seed,.int .i64 (index:Int),.int .i64 (i:Int),.int .i64 (bit:Int)] w fun e w'=>e = .returned (hashV (secretF seed.data.toList index i bit))/\Kept (fun _=>False) w w':=by
 have hnl:=numL_len (n:=seed.size) (U64n.small (by omega))
 obtain⟨T,hT⟩:∃ T:ByteArray,T=⟨(numL seed.size).toArray⟩++seed:=⟨_,rfl⟩
 have hTd:T.data.toList=numL seed.size++seed.data.toList:=by rw[hT,bstr_append]
 have hTs:T.size<=1100:=by rw[<- bstr_len,hTd,List.length_append,bstr_len];omega
 have HT:=Lib.hid (fun w'=>text_any w' seed (by unfold Short;omega))
 have HP4:=Lib.hid (fun w'=>put_int w' (index:Int) index 4 4 rfl rfl (by omega) (by omega))
 have HP2:=Lib.hid (fun w'=>put_int w' (2*(i:Int)+(bit:Int)) (2*i+bit) 2 2 (by omega) rfl (by omega) (by omega))
 have hb4:(⟨(be 4 index).toArray⟩:ByteArray).size=4:=by show(be 4 index).toArray.size=4;rw[List.size_toArray,be_len]
 have hb2:(⟨(be 2 (2*i+bit)).toArray⟩:ByteArray).size=2:=by show(be 2 (2*i+bit)).toArray.size=2;rw[List.size_toArray,be_len]
 rw[<- hT]at HT
 have hsec:secretF seed.data.toList index i bit=shaF (2::(numL seed.size++seed.data.toList++be 4 index++be 2 (2*i+bit))):=by unfold secretF;rw[bstr_len]
 have hbytes:(⟨#[2]⟩++T++⟨(be 4 index).toArray⟩++⟨(be 2 (2*i+bit)).toArray⟩:ByteArray).data.toList=2::(numL seed.size++seed.data.toList++be 4 index++be 2 (2*i+bit)):=by
  simp only[ByteArray.data_append,Array.toList_append,hTd]
  simp
 have hsz:(⟨#[2]⟩++T++⟨(be 4 index).toArray⟩++⟨(be 2 (2*i+bit)).toArray⟩:ByteArray).size<=1000000:=by
  rw[ByteArray.size_append,ByteArray.size_append,ByteArray.size_append,hb4,hb2]
  show 1+T.size+4+2<=1000000
  omega
 have HC:=Lib.hid (fun w1 (hk:Kept (fun _=>False) (w.alloc (.cells (zeros 32).toArray 30)) w1)=>sum_ready (w:=w) (w1:=w1) (⟨#[2]⟩++T++⟨(be 4 index).toArray⟩++⟨(be 2 (2*i+bit)).toArray⟩) _ hbytes hsz ht hk)
 rw[<- hsec]at HC
 have hl:=secretF_len seed.data.toList index i bit
 generalize secretF seed.data.toList index i bit=R at *
 generalize be 4 index=B4 at *
 generalize be 2 (2*i+bit)=B2 at *
 have x1:(⟨#[2]⟩:ByteArray).size+T.size<=1101:=by show 1+T.size<=1101;omega
 have x2:(⟨#[2]⟩++T:ByteArray).size+(⟨B4.toArray⟩:ByteArray).size<=1105:=by rw[ByteArray.size_append];omega
 have x3:(⟨#[2]⟩++T++⟨B4.toArray⟩:ByteArray).size+(⟨B2.toArray⟩:ByteArray).size<=1107:=by rw[ByteArray.size_append,ByteArray.size_append];omega
 have HI:=Lib.hid (show(Tryz.prog.info? 30).map (·.size)=some (bytes8 R).length by rw[bytes8_len,hl];exact info_h32)
 have HR:=Lib.hid hl
 have y1:decide ((index:Int)<0)=false:=decide_eq_false (by omega)
 have y2:decide ((2147483648:Int)<=(index:Int))=false:=decide_eq_false (by omega)
 have y3:decide ((i:Int)<0)=false:=decide_eq_false (by omega)
 have y4:decide ((256:Int)<=(i:Int))=false:=decide_eq_false (by omega)
 have y5:decide ((bit:Int)<0)=false:=decide_eq_false (by omega)
 have y6:decide ((1:Int)<(bit:Int))=false:=decide_eq_false (by omega)
 have u1:=wrap_u64 (n:=index) (U64n.small (by omega))
 have u2:IntKind.u64.wrap (2*(i:Int)+(bit:Int))=2*(i:Int)+(bit:Int):=by have:=wrap_u64 (n:=2*i+bit) (U64n.small (by omega));simpa using this
 have j1:(i:Int)<256:=by omega
 have j2:(bit:Int)<2:=by omega
 have j3:(0:Int)<=(i:Int):=by omega
 have j4:(0:Int)<=(bit:Int):=by omega
 clear hl hsec hbytes hsz hT hTd hnl h1 h2 h3
 go_enter Tryz.func113,Tryz.ntmps113
 go_wp2_with (first|(go_at_call 134;refine(HT.out _).mono ?_;rintro e w1 ⟨rfl,hk1⟩)|(go_at_call 101;with_reducible refine(HP4.out _).mono ?_;rintro e w2 ⟨rfl,hk2⟩)|(go_at_call 101;with_reducible refine(HP2.out _).mono ?_;rintro e w3 ⟨rfl,hk3⟩)|(go_at_call 100;refine(HC.out _ ((hk1.trans hk2).trans hk3)).mono ?_;rintro e w5 ⟨rfl,HB⟩)|(refine wpList_store_mid rfl 30 _ _ rfl w.heap.size 0 (bytes8 R).toArray rfl rfl ?hth ?hi ?h1 ?_))
 case hth=>exact(hash_stored HB.out.1 (zeros_len 32) HR.out).1
 case hi=>exact info_hash HR.out
 case h1=>exact all_oneCell_toArray (fun y hy=>u8_oneCell y hy)
 have hst:=hash_stored HB.out.1 (zeros_len 32) HR.out
 refine bodyPost_ret (hst.2.result rfl rfl Tryz.underlying30 rfl HI.out) rfl ⟨rfl,?_⟩
 exact HB.out.2.then_ (kept_setCells _ _ _ _) (fun i hi e=>by omega)
abbrev headC (size:Int) (root:By):List Value:=.int .i64 size::bytes8 root
abbrev headV (size:Int) (root:By):Value:=.agg (headC size root).toArray
def signedC (size:Int) (root:By) (i:Int) (sig:ByteArray) (v:Value):List Value:=headC size root++[.int .i64 i,.string sig,v]
abbrev signedV (size:Int) (root:By) (i:Int) (sig:ByteArray) (v:Value):Value:=.agg (signedC size root i sig v).toArray
theorem signed_at {size:Int} {root:By} {i:Int} {sig:ByteArray} {v:Value} (hr:root.length=32):(signedC size root i sig v)[0]? = some (.int .i64 size)/\(signedC size root i sig v)[33]? = some (.int .i64 i)/\(signedC size root i sig v)[34]? = some (.string sig)/\(signedC size root i sig v)[35]? = some v:=by
 have hl:(headC size root).length=33:=by rw[List.length_cons,bytes8_len,hr]
 unfold signedC
 refine⟨rfl,?_,?_,?_⟩
 ·rw[List.getElem?_append_right (by omega),hl];rfl
 ·rw[List.getElem?_append_right (by omega),hl];rfl
 ·rw[List.getElem?_append_right (by omega),hl];rfl
theorem valid_ok (w:World) (size i:Nat) (root:By) (sig:ByteArray) (a:Option Addr) (c:Nat) (hr:root.length=32) (hz:size<=4096) (hi:i<8) (hs:sig.size=16384) :
  Calls Tryz.prog 70 #[signedV (size:Int) root (i:Int) sig (.slice a 3 c)] w fun e w'=>e = .returned (.bool true)/\Kept (fun _=>False) w w':=by
 have hb:=Blk.new w (signedC (size:Int) root (i:Int) sig (.slice a 3 c)) 63
 obtain⟨q0,q1,q2,q3⟩:=signed_at (size:=(size:Int)) (i:=(i:Int)) (sig:=sig) (v:=.slice a 3 c) hr
 have c0:=hb.cell q0
 have c1:=hb.cell q1
 have c2:=hb.cell q2
 have c3:=hb.cell q3
 have y1:decide ((0:Int)<=(size:Int))=true:=decide_eq_true (by omega)
 have y2:decide ((size:Int)<=4096)=true:=decide_eq_true (by omega)
 have y3:decide ((0:Int)<=(i:Int))=true:=decide_eq_true (by omega)
 have y4:decide ((i:Int)<8)=true:=decide_eq_true (by omega)
 clear q0 q1 q2 q3 hb
 go_enter Tryz.func70,Tryz.ntmps70
 go_wp2_with fail
 go_ret
 exact⟨rfl,(Kept.refl _ _).alloc _⟩
end Go.Proofs.YtdmedbhbefdnkaaGreatDoor
