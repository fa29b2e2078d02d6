/- RE21 RE22 RE23 RE24 RE26 RE27 RE28 RE30 RE31 RE32 RE33 RE34 -/
import Derived.Test.YtdmedbhbefdnkaaGreatDoorUKeyringPlay51
import Derived.Test.YtdmedbhbefdnkaaGreatDoorUKeyringPlay48
set_option linter.unusedVariables false
set_option linter.unusedSimpArgs false
set_option maxRecDepth 100000
set_option maxHeartbeats 16000000
namespace Go.Proofs.YtdmedbhbefdnkaaGreatDoor
open Go.RowKit
def DoPost (w0:World) (d r kb qb n:Nat) (e:Ending) (w':World):Prop:=e = .returned (.bool true)/\∃ M' o',PlayG w0 w' d r kb qb M' M' [] o'/\Bd M' n
abbrev doE (xb hb:Nat) (X:List Value) (size:Int) (root:By):List Og:=[Og.blk hb (headC size root) 32,Og.blk xb X 53]
section
variable {w0 w w' : World} {d r kb qb n : Nat} {M : DiskM} {o : Option RingM} {X C : List Value} {k z oo N Ma : Int} {s : ByteArray}
theorem PlayG.put (h:PlayG w0 w d r kb qb M M [] o) (X:List Value):PlayG w0 (w.alloc (.cells X.toArray 53)) d r kb qb M M [Og.blk w.heap.size X 53] o :=
 h.add ((Kept.refl _ _).alloc _) (Blk.new w X _) (fun k e=>by have:k=w.heap.size:=e;omega)
theorem PlayG.put2 {W1:World} {E:List Og} (h:PlayG w0 W1 d r kb qb M M E o) {H:List Value} (hH:H.length=33):PlayG w0 ((W1.alloc (.cells (headC 0 (List.replicate 32 0)).toArray 32)).setCells W1.heap.size 0 H) d r kb qb M M (Og.blk W1.heap.size H 32::E) o:=by
 obtain⟨h1,h2,h3⟩:=hd_fresh W1 hH
 exact h.add h2 h1 (fun k e=>by have:k=W1.heap.size:=e;omega)
theorem PlayG.xcell {xb hb:Nat} {size:Int} {root:By} {N1 M1:DiskM} (h:PlayG w0 w d r kb qb N1 M1 (doE xb hb X size root) o) {j:Nat} {v:Value} (hv:X[j]? = some v):w.cell? ⟨xb,j,none⟩=some v:=Blk.cell (h.has (g:=Og.blk xb X 53) (by simp)) hv
def DoS (xb:Nat) (N Ma:Int) (s:ByteArray) (W:World):Prop:=W.cell? ⟨xb,36,none⟩=some (.int .i64 N)/\W.cell? ⟨xb,37,none⟩=some (.int .i64 Ma)/\W.cell? ⟨xb,38,none⟩=some (.string s)
theorem PlayG.dos {xb hb:Nat} {size:Int} {root:By} {N1 M1:DiskM} (h:PlayG w0 w d r kb qb N1 M1 (doE xb hb X size root) o) (hX:ActL X k z oo N Ma C s):DoS xb N Ma s w:=⟨h.xcell hX.c36,h.xcell hX.c37,h.xcell hX.c38⟩
theorem PlayG.done {E:List Og} (h:PlayG w0 w d r kb qb M M E o) (hb:Bd M n):DoPost w0 d r kb qb n (.returned (.bool true)) w:=⟨rfl,M,o,h.bare,hb⟩
theorem PlayG.room {E:List Og} {N1 M1:DiskM} (h:PlayG w0 w d r kb qb N1 M1 E o) (hb:Bd M1 n) (hn:n<=1000001):M1.files.length+M1.loose.length<300000000:=by have:=h.few;have:=hb.1;omega
theorem do_10 (hp:PlayG w0 w d r kb qb M M [] o) (hbd:Bd M n) (hn:n<=1000000) (hX:ActL X k z oo N Ma C s) (hs:s.size<=300) (hk:k%13=10) :
  Calls Tryz.prog 19 #[.agg X.toArray,.pointer (some ⟨d,0,none⟩),.pointer (some ⟨r,0,none⟩),.pointer (some ⟨kb,0,none⟩),.pointer (some ⟨qb,0,none⟩)] w (DoPost w0 d r kb qb (n+2)):=by
 have HX:=Lib.hid hX
 have lX:=hX.len
 have ht:k.tmod 13=10:=by rw[Int.tmod_eq_emod_of_nonneg hX.k0.1];exact hk
 obtain⟨H,hH⟩:∃ H,headC ((hdA z oo).1:Int) (hdA z oo).2=H:=⟨_,rfl⟩
 have lH:H.length=33:=by rw[<- hH];exact headC_len (rootA_len oo)
 have HHd:=Lib.hid (fun w'=>(by rw[<- hH];exact act_head w' hX:Calls Tryz.prog 53 #[.agg X.toArray] w' fun e w''=>e = .returned (.agg H.toArray)/\Kept (fun _=>False) w' w''))
 have HPP:=Lib.hid (hp.put X)
 have HIX:=Lib.hid (show(Tryz.prog.info? 53).map (·.size)=some X.length by rw[hX.len];exact c_act34')
 have HIH:=Lib.hid (show(Tryz.prog.info? 32).map (·.size)=some H.length by rw[lH];exact info_head)
 have HBD:=Lib.hid hbd
 have HHE:=Lib.hid hH
 obtain⟨W,hW⟩:∃ W,w.alloc (.cells X.toArray 53)=W:=⟨_,rfl⟩
 rw[hW]at HPP
 have rX:=Blk.range0 (HPP.out.has (g:=Og.blk w.heap.size X 53) (by simp))
 clear hp hbd hH
 go_enter Tryz.func19,Tryz.ntmps19
 go_upto_region 1 with fail
 generalize hWx:World.alloc _ _=Wx
 obtain rfl:W=Wx:=by rw[<- hW,<- hWx]
 clear hW hWx
 go_upto_region 2 with (first
  | ((with_reducible show wpList _ _ _ (⟨some 22,_,_,_,_,_⟩::_) _ _);refine wpList_load_mid rfl 53 _ rfl w.heap.size 0 rfl X _ rX Tryz.underlying53 rfl HIX.out ?_)
  | (go_at_call 53;refine(HHd.out _).mono ?_;rintro e w2 ⟨rfl,hk2⟩;have HP2:=Lib.hid (HPP.out.same hk2);clear hk2)
  | ((with_reducible show wpList _ _ _ (⟨none,.store _ (.tmp 11) _,_,_,_,_⟩::_) _ _);refine wpList_store_mid rfl 32 _ _ rfl w2.heap.size 0 H.toArray rfl rfl ?hth ?hi ?h1 ?_))
 case hth=>exact(hd_fresh w2 lH).2.2
 case hi=>first|exact(by rw[List.size_toArray];exact HIH.out)|simpa using HIH.out
 case h1=>first|exact all_oneCell_toArray (fun y hy=>by rw[<- HHE.out]at hy;exact head_oneCell y hy)|exact fun y hy=>by rw[<- HHE.out]at hy;exact head_oneCell y hy
 simp only[Act.put]
 generalize hW4:World.setCells _ w2.heap.size 0 _=W4
 have HP4:Hid (PlayG w0 W4 d r kb qb M M (doE w.heap.size w2.heap.size X ((hdA z oo).1:Int) (hdA z oo).2) o):=Lib.hid (by
  have e:doE w.heap.size w2.heap.size X ((hdA z oo).1:Int) (hdA z oo).2=[Og.blk w2.heap.size H 32,Og.blk w.heap.size X 53]:=by unfold doE;rw[HHE.out]
  rw[e,<- hW4]
  exact HP2.out.put2 lH)
 clear hW4
 generalize w2.heap.size=hb at *
 have c0:=HP4.out.xcell HX.out.c0
 clear rX HPP HP2 HHd HIX
 obtain⟨e1,M1,he⟩:∃ e1 M1,M.append 990 s.data.toList=(e1,M1):=⟨_,_,rfl⟩
 have HB1:=Lib.hid (show Bd M1 (n+2)from by have:=HBD.out.append 990 s.data.toList;rw[he]at this;exact this.more (by omega))
 have HRM:=HP4.out.room HBD.out (by omega)
 have HPG:=Lib.hid (fun (W:World) (h:PlayG w0 W d r kb qb M M (doE w.heap.size hb X ((hdA z oo).1:Int) (hdA z oo).2) o)=>h.prog (fun Os hO=>hO.dappend 990 (by omega) s HRM he))
 have HDC:=Lib.hid (fun (W:World) (h:PlayG w0 W d r kb qb M1 M (doE w.heap.size hb X ((hdA z oo).1:Int) (hdA z oo).2) o)=>h.docu (fun x y hat=>(by have:=append_atf hat 990 s.data.toList (by simp;omega) HRM he;rwa[strB_eq]at this)))
 have ve:(e1==e1)=true:=by simp
 clear he HRM
 go_upto_region 18 with fail
 refine wp_region_held_drew (S:=DoS w.heap.size N Ma s) (by kernel_rfl) ((HP4.out.same (Kept.refl _ _).drew).dos HX.out) (fun hS0=>?_)
 have HP5:=Lib.hid (HP4.out.same (Kept.refl (fun _=>False) W4).drew)
 generalize World.drew W4=W5 at *
 refine ti 0 hS0 ?_
 refine ti 1 hS0 ?_
 refine ti 2 hS0 ?_ (hy:=by (refine Or.inl ⟨by rfl,fun w hSw=>?_⟩;unfold DoS at hSw;obtain⟨s1,s2,s3⟩:=hSw;go_simp;(try with_reducible rfl)))
 refine ti 4 hS0 ?_
 refine ti 5 hS0 ?_
 refine ti 6 hS0 ?_ (hy:=by (refine Or.inl ⟨by rfl,fun w hSw=>?_⟩;unfold DoS at hSw;obtain⟨s1,s2,s3⟩:=hSw;go_simp;(try with_reducible rfl)))
 refine rd1 3 (fun K hK=>?_)
 go_simp
 refine(HPG.out _ HP5.out).mono ?_
 rintro e' w6 ⟨rfl,hp6⟩
 have hS3:=hp6.dos HX.out
 refine hK.out _ _ hS3 (fun _=>?_)
 clear hK K
 try simp only[lyA,lyB,lyC,lyD]
 refine rd1 7 (fun K hK=>?_)
 go_simp
 refine(HDC.out _ hp6).mono ?_
 rintro e' w7 ⟨rfl,hp7⟩
 have hS7:=hp7.dos HX.out
 refine hK.out _ _ hS7 (fun _=>?_)
 clear hK K
 try simp only[lyA,lyB,lyC,lyD]
 refine ti 8 hS7 ?_
 refine ti 9 hS7 ?_
 refine dn ?_
 have HDN:=Lib.hid (hp7.done HB1.out)
 clear hp6 hp7 hS0 hS3 hS7 HP4 HP5 HPG HDC HB1
 go_wp2_with fail
 go_ret
 exact HDN.out
theorem do_11 (hp:PlayG w0 w d r kb qb M M [] o) (hbd:Bd M n) (hn:n<=1000000) (hX:ActL X k z oo N Ma C s) (hs:s.size<=300) (hk:k%13=11) :
  Calls Tryz.prog 19 #[.agg X.toArray,.pointer (some ⟨d,0,none⟩),.pointer (some ⟨r,0,none⟩),.pointer (some ⟨kb,0,none⟩),.pointer (some ⟨qb,0,none⟩)] w (DoPost w0 d r kb qb (n+2)):=by
 have HX:=Lib.hid hX
 have lX:=hX.len
 have ht:k.tmod 13=11:=by rw[Int.tmod_eq_emod_of_nonneg hX.k0.1];exact hk
 obtain⟨H,hH⟩:∃ H,headC ((hdA z oo).1:Int) (hdA z oo).2=H:=⟨_,rfl⟩
 have lH:H.length=33:=by rw[<- hH];exact headC_len (rootA_len oo)
 have HHd:=Lib.hid (fun w'=>(by rw[<- hH];exact act_head w' hX:Calls Tryz.prog 53 #[.agg X.toArray] w' fun e w''=>e = .returned (.agg H.toArray)/\Kept (fun _=>False) w' w''))
 have HPP:=Lib.hid (hp.put X)
 have HIX:=Lib.hid (show(Tryz.prog.info? 53).map (·.size)=some X.length by rw[hX.len];exact c_act34')
 have HIH:=Lib.hid (show(Tryz.prog.info? 32).map (·.size)=some H.length by rw[lH];exact info_head)
 have HBD:=Lib.hid hbd
 have HHE:=Lib.hid hH
 obtain⟨W,hW⟩:∃ W,w.alloc (.cells X.toArray 53)=W:=⟨_,rfl⟩
 rw[hW]at HPP
 have rX:=Blk.range0 (HPP.out.has (g:=Og.blk w.heap.size X 53) (by simp))
 clear hp hbd hH
 go_enter Tryz.func19,Tryz.ntmps19
 go_upto_region 1 with fail
 generalize hWx:World.alloc _ _=Wx
 obtain rfl:W=Wx:=by rw[<- hW,<- hWx]
 clear hW hWx
 go_upto_region 2 with (first
  | ((with_reducible show wpList _ _ _ (⟨some 22,_,_,_,_,_⟩::_) _ _);refine wpList_load_mid rfl 53 _ rfl w.heap.size 0 rfl X _ rX Tryz.underlying53 rfl HIX.out ?_)
  | (go_at_call 53;refine(HHd.out _).mono ?_;rintro e w2 ⟨rfl,hk2⟩;have HP2:=Lib.hid (HPP.out.same hk2);clear hk2)
  | ((with_reducible show wpList _ _ _ (⟨none,.store _ (.tmp 11) _,_,_,_,_⟩::_) _ _);refine wpList_store_mid rfl 32 _ _ rfl w2.heap.size 0 H.toArray rfl rfl ?hth ?hi ?h1 ?_))
 case hth=>exact(hd_fresh w2 lH).2.2
 case hi=>first|exact(by rw[List.size_toArray];exact HIH.out)|simpa using HIH.out
 case h1=>first|exact all_oneCell_toArray (fun y hy=>by rw[<- HHE.out]at hy;exact head_oneCell y hy)|exact fun y hy=>by rw[<- HHE.out]at hy;exact head_oneCell y hy
 simp only[Act.put]
 generalize hW4:World.setCells _ w2.heap.size 0 _=W4
 have HP4:Hid (PlayG w0 W4 d r kb qb M M (doE w.heap.size w2.heap.size X ((hdA z oo).1:Int) (hdA z oo).2) o):=Lib.hid (by
  have e:doE w.heap.size w2.heap.size X ((hdA z oo).1:Int) (hdA z oo).2=[Og.blk w2.heap.size H 32,Og.blk w.heap.size X 53]:=by unfold doE;rw[HHE.out]
  rw[e,<- hW4]
  exact HP2.out.put2 lH)
 clear hW4
 generalize w2.heap.size=hb at *
 have c0:=HP4.out.xcell HX.out.c0
 clear rX HPP HP2 HHd HIX
 obtain⟨e1,M1,he⟩:∃ e1 M1,M.truncate 990 N=(e1,M1):=⟨_,_,rfl⟩
 have HB1:=Lib.hid (show Bd M1 (n+2)from by have:=HBD.out.truncate 990 N;rw[he]at this;exact this.more (by omega))
 have HRM:=HP4.out.room HBD.out (by omega)
 have HPG:=Lib.hid (fun (W:World) (h:PlayG w0 W d r kb qb M M (doE w.heap.size hb X ((hdA z oo).1:Int) (hdA z oo).2) o)=>h.prog (fun Os hO=>hO.dtruncate 990 N (by omega) he))
 have HDC:=Lib.hid (fun (W:World) (h:PlayG w0 W d r kb qb M1 M (doE w.heap.size hb X ((hdA z oo).1:Int) (hdA z oo).2) o)=>h.docu (fun x y hat=>truncate_atf hat 990 N HX.out.n0 he))
 have ve:(e1==e1)=true:=by simp
 clear he HRM
 go_upto_region 20 with fail
 refine wp_region_held_drew (S:=DoS w.heap.size N Ma s) (by kernel_rfl) ((HP4.out.same (Kept.refl _ _).drew).dos HX.out) (fun hS0=>?_)
 have HP5:=Lib.hid (HP4.out.same (Kept.refl (fun _=>False) W4).drew)
 generalize World.drew W4=W5 at *
 refine ti 0 hS0 ?_
 refine ti 1 hS0 ?_
 refine ti 2 hS0 ?_ (hy:=by (refine Or.inl ⟨by rfl,fun w hSw=>?_⟩;unfold DoS at hSw;obtain⟨s1,s2,s3⟩:=hSw;go_simp;(try with_reducible rfl)))
 refine ti 4 hS0 ?_
 refine ti 5 hS0 ?_
 refine ti 6 hS0 ?_ (hy:=by (refine Or.inl ⟨by rfl,fun w hSw=>?_⟩;unfold DoS at hSw;obtain⟨s1,s2,s3⟩:=hSw;go_simp;(try with_reducible rfl)))
 refine rd1 3 (fun K hK=>?_)
 go_simp
 refine(HPG.out _ HP5.out).mono ?_
 rintro e' w6 ⟨rfl,hp6⟩
 have hS3:=hp6.dos HX.out
 refine hK.out _ _ hS3 (fun _=>?_)
 clear hK K
 try simp only[lyA,lyB,lyC,lyD]
 refine rd1 7 (fun K hK=>?_)
 go_simp
 refine(HDC.out _ hp6).mono ?_
 rintro e' w7 ⟨rfl,hp7⟩
 have hS7:=hp7.dos HX.out
 refine hK.out _ _ hS7 (fun _=>?_)
 clear hK K
 try simp only[lyA,lyB,lyC,lyD]
 refine ti 8 hS7 ?_
 refine ti 9 hS7 ?_
 refine dn ?_
 have HDN:=Lib.hid (hp7.done HB1.out)
 clear hp6 hp7 hS0 hS3 hS7 HP4 HP5 HPG HDC HB1
 go_wp2_with fail
 go_ret
 exact HDN.out
theorem do_6 (hp:PlayG w0 w d r kb qb M M [] o) (hbd:Bd M n) (hn:n<=1000000) (hX:ActL X k z oo N Ma C s) (hs:s.size<=300) (hk:k%13=6) :
  Calls Tryz.prog 19 #[.agg X.toArray,.pointer (some ⟨d,0,none⟩),.pointer (some ⟨r,0,none⟩),.pointer (some ⟨kb,0,none⟩),.pointer (some ⟨qb,0,none⟩)] w (DoPost w0 d r kb qb (n+2)):=by
 have HX:=Lib.hid hX
 have lX:=hX.len
 have ht:k.tmod 13=6:=by rw[Int.tmod_eq_emod_of_nonneg hX.k0.1];exact hk
 obtain⟨H,hH⟩:∃ H,headC ((hdA z oo).1:Int) (hdA z oo).2=H:=⟨_,rfl⟩
 have lH:H.length=33:=by rw[<- hH];exact headC_len (rootA_len oo)
 have HHd:=Lib.hid (fun w'=>(by rw[<- hH];exact act_head w' hX:Calls Tryz.prog 53 #[.agg X.toArray] w' fun e w''=>e = .returned (.agg H.toArray)/\Kept (fun _=>False) w' w''))
 have HPP:=Lib.hid (hp.put X)
 have HIX:=Lib.hid (show(Tryz.prog.info? 53).map (·.size)=some X.length by rw[hX.len];exact c_act34')
 have HIH:=Lib.hid (show(Tryz.prog.info? 32).map (·.size)=some H.length by rw[lH];exact info_head)
 have HBD:=Lib.hid hbd
 have HHE:=Lib.hid hH
 obtain⟨W,hW⟩:∃ W,w.alloc (.cells X.toArray 53)=W:=⟨_,rfl⟩
 rw[hW]at HPP
 have rX:=Blk.range0 (HPP.out.has (g:=Og.blk w.heap.size X 53) (by simp))
 clear hp hbd hH
 go_enter Tryz.func19,Tryz.ntmps19
 go_upto_region 1 with fail
 generalize hWx:World.alloc _ _=Wx
 obtain rfl:W=Wx:=by rw[<- hW,<- hWx]
 clear hW hWx
 go_upto_region 2 with (first
  | ((with_reducible show wpList _ _ _ (⟨some 22,_,_,_,_,_⟩::_) _ _);refine wpList_load_mid rfl 53 _ rfl w.heap.size 0 rfl X _ rX Tryz.underlying53 rfl HIX.out ?_)
  | (go_at_call 53;refine(HHd.out _).mono ?_;rintro e w2 ⟨rfl,hk2⟩;have HP2:=Lib.hid (HPP.out.same hk2);clear hk2)
  | ((with_reducible show wpList _ _ _ (⟨none,.store _ (.tmp 11) _,_,_,_,_⟩::_) _ _);refine wpList_store_mid rfl 32 _ _ rfl w2.heap.size 0 H.toArray rfl rfl ?hth ?hi ?h1 ?_))
 case hth=>exact(hd_fresh w2 lH).2.2
 case hi=>first|exact(by rw[List.size_toArray];exact HIH.out)|simpa using HIH.out
 case h1=>first|exact all_oneCell_toArray (fun y hy=>by rw[<- HHE.out]at hy;exact head_oneCell y hy)|exact fun y hy=>by rw[<- HHE.out]at hy;exact head_oneCell y hy
 simp only[Act.put]
 generalize hW4:World.setCells _ w2.heap.size 0 _=W4
 have HP4:Hid (PlayG w0 W4 d r kb qb M M (doE w.heap.size w2.heap.size X ((hdA z oo).1:Int) (hdA z oo).2) o):=Lib.hid (by
  have e:doE w.heap.size w2.heap.size X ((hdA z oo).1:Int) (hdA z oo).2=[Og.blk w2.heap.size H 32,Og.blk w.heap.size X 53]:=by unfold doE;rw[HHE.out]
  rw[e,<- hW4]
  exact HP2.out.put2 lH)
 clear hW4
 generalize w2.heap.size=hb at *
 have c0:=HP4.out.xcell HX.out.c0
 clear rX HPP HP2 HHd HIX
 obtain⟨e1,M1,he⟩:∃ e1 M1,M.crashR N=(e1,M1):=⟨_,_,rfl⟩
 have hb1:Bd M1 n:=by have:=HBD.out.crashR N;rw[he]at this;exact this
 obtain⟨e2,M2,he2⟩:∃ e2 M2,M1.startR=(e2,M2):=⟨_,_,rfl⟩
 have HB2:=Lib.hid (show Bd M2 (n+2)from by have:=hb1.startR;rw[he2]at this;exact this.more (by omega))
 have hst:0<=M1.starts/\M1.starts<9223372036854775807:=⟨hb1.2.1,by have:=hb1.2.2;omega⟩
 have HPG:=Lib.hid (fun (W:World) (h:PlayG w0 W d r kb qb M M (doE w.heap.size hb X ((hdA z oo).1:Int) (hdA z oo).2) o)=>h.prog (fun Os hO=>hO.crash N HX.out.n0 he))
 have HDC:=Lib.hid (fun (W:World) (h:PlayG w0 W d r kb qb M1 M (doE w.heap.size hb X ((hdA z oo).1:Int) (hdA z oo).2) o)=>h.docu (fun x y hat=>crash_atf hat N he))
 have HPG2:=Lib.hid (fun (W:World) (h:PlayG w0 W d r kb qb M1 M1 (doE w.heap.size hb X ((hdA z oo).1:Int) (hdA z oo).2) o)=>h.prog (fun Os hO=>hO.start hst he2))
 have HDC2:=Lib.hid (fun (W:World) (h:PlayG w0 W d r kb qb M2 M1 (doE w.heap.size hb X ((hdA z oo).1:Int) (hdA z oo).2) o)=>h.docu (fun x y hat=>start_atf hat hst he2))
 have ve:(e1==e1)=true:=by simp
 have ve2:(e2==e2)=true:=by simp
 clear he he2 hb1 hst
 go_upto_region 6 with fail
 refine wp_region_held_drew (S:=DoS w.heap.size N Ma s) (by kernel_rfl) ((HP4.out.same (Kept.refl _ _).drew).dos HX.out) (fun hS0=>?_)
 have HP5:=Lib.hid (HP4.out.same (Kept.refl (fun _=>False) W4).drew)
 generalize World.drew W4=W5 at *
 refine ti 0 hS0 ?_
 refine ti 1 hS0 ?_
 refine ti 2 hS0 ?_ (hy:=by (refine Or.inl ⟨by rfl,fun w hSw=>?_⟩;unfold DoS at hSw;obtain⟨s1,s2,s3⟩:=hSw;go_simp;(try with_reducible rfl)))
 refine ti 4 hS0 ?_
 refine ti 5 hS0 ?_
 refine ti 6 hS0 ?_ (hy:=by (refine Or.inl ⟨by rfl,fun w hSw=>?_⟩;unfold DoS at hSw;obtain⟨s1,s2,s3⟩:=hSw;go_simp;(try with_reducible rfl)))
 refine rd1 3 (fun K hK=>?_)
 go_simp
 refine(HPG.out _ HP5.out).mono ?_
 rintro e' w6 ⟨rfl,hp6⟩
 have hS3:=hp6.dos HX.out
 refine hK.out _ _ hS3 (fun _=>?_)
 clear hK K
 try simp only[lyA,lyB,lyC,lyD]
 refine rd1 7 (fun K hK=>?_)
 go_simp
 refine(HDC.out _ hp6).mono ?_
 rintro e' w7 ⟨rfl,hp7⟩
 have hS7:=hp7.dos HX.out
 refine hK.out _ _ hS7 (fun _=>?_)
 clear hK K
 try simp only[lyA,lyB,lyC,lyD]
 refine ti 8 hS7 ?_
 refine ti 9 hS7 ?_
 refine ti 10 hS7 ?_
 refine ti 12 hS7 ?_
 refine rd1 11 (fun K hK=>?_)
 go_simp
 refine(HPG2.out _ hp7).mono ?_
 rintro e' w8 ⟨rfl,hp8⟩
 have hS11:=hp8.dos HX.out
 refine hK.out _ _ hS11 (fun _=>?_)
 clear hK K
 try simp only[lyA,lyB,lyC,lyD]
 refine rd1 13 (fun K hK=>?_)
 go_simp
 refine(HDC2.out _ hp8).mono ?_
 rintro e' w9 ⟨rfl,hp9⟩
 have hS13:=hp9.dos HX.out
 refine hK.out _ _ hS13 (fun _=>?_)
 clear hK K
 try simp only[lyA,lyB,lyC,lyD]
 refine ti 14 hS13 ?_
 refine ti 15 hS13 ?_
 refine ti 16 hS13 ?_
 refine dn ?_
 have HDN:=Lib.hid (hp9.done HB2.out)
 clear hp6 hp7 hp8 hp9 hS0 hS3 hS7 hS11 hS13 HP4 HP5 HPG HDC HPG2 HDC2 HB2
 go_wp2_with fail
 go_ret
 exact HDN.out
end
section
variable {w0 w w' : World} {d r kb qb n : Nat} {M : DiskM} {o : Option RingM} {X C : List Value} {k z oo N Ma : Int} {s : ByteArray}
theorem and7 (N:Int):∃ v:Int,bits BinOp.and IntKind.i64 N 7=v/\0<=v/\v<=7:=by
 refine⟨_,rfl,?_⟩
 have h:(BitVec.ofInt IntKind.i64.bits N &&& BitVec.ofInt IntKind.i64.bits 7).toNat<=7:=by
  rw[BitVec.toNat_and]
  exact Nat.and_le_right
 have e:bits BinOp.and IntKind.i64 N 7=IntKind.i64.wrap ((BitVec.ofInt IntKind.i64.bits N &&& BitVec.ofInt IntKind.i64.bits 7).toNat:Int):=rfl
 rw[e,IntWalk.i64_in _ (by omega)]
 omega
theorem do_9 (hp:PlayG w0 w d r kb qb M M [] o) (hbd:Bd M n) (hn:n<=1000000) (hX:ActL X k z oo N Ma C s) (hs:s.size<=300) (hk:k%13=9) :
  Calls Tryz.prog 19 #[.agg X.toArray,.pointer (some ⟨d,0,none⟩),.pointer (some ⟨r,0,none⟩),.pointer (some ⟨kb,0,none⟩),.pointer (some ⟨qb,0,none⟩)] w (DoPost w0 d r kb qb (n+2)):=by
 have HX:=Lib.hid hX
 have lX:=hX.len
 have ht:k.tmod 13=9:=by rw[Int.tmod_eq_emod_of_nonneg hX.k0.1];exact hk
 obtain⟨H,hH⟩:∃ H,headC ((hdA z oo).1:Int) (hdA z oo).2=H:=⟨_,rfl⟩
 have lH:H.length=33:=by rw[<- hH];exact headC_len (rootA_len oo)
 have HHd:=Lib.hid (fun w'=>(by rw[<- hH];exact act_head w' hX:Calls Tryz.prog 53 #[.agg X.toArray] w' fun e w''=>e = .returned (.agg H.toArray)/\Kept (fun _=>False) w' w''))
 have HPP:=Lib.hid (hp.put X)
 have HIX:=Lib.hid (show(Tryz.prog.info? 53).map (·.size)=some X.length by rw[hX.len];exact c_act34')
 have HIH:=Lib.hid (show(Tryz.prog.info? 32).map (·.size)=some H.length by rw[lH];exact info_head)
 have HBD:=Lib.hid hbd
 have HHE:=Lib.hid hH
 obtain⟨W,hW⟩:∃ W,w.alloc (.cells X.toArray 53)=W:=⟨_,rfl⟩
 rw[hW]at HPP
 have rX:=Blk.range0 (HPP.out.has (g:=Og.blk w.heap.size X 53) (by simp))
 clear hp hbd hH
 go_enter Tryz.func19,Tryz.ntmps19
 go_upto_region 1 with fail
 generalize hWx:World.alloc _ _=Wx
 obtain rfl:W=Wx:=by rw[<- hW,<- hWx]
 clear hW hWx
 go_upto_region 2 with (first
  | ((with_reducible show wpList _ _ _ (⟨some 22,_,_,_,_,_⟩::_) _ _);refine wpList_load_mid rfl 53 _ rfl w.heap.size 0 rfl X _ rX Tryz.underlying53 rfl HIX.out ?_)
  | (go_at_call 53;refine(HHd.out _).mono ?_;rintro e w2 ⟨rfl,hk2⟩;have HP2:=Lib.hid (HPP.out.same hk2);clear hk2)
  | ((with_reducible show wpList _ _ _ (⟨none,.store _ (.tmp 11) _,_,_,_,_⟩::_) _ _);refine wpList_store_mid rfl 32 _ _ rfl w2.heap.size 0 H.toArray rfl rfl ?hth ?hi ?h1 ?_))
 case hth=>exact(hd_fresh w2 lH).2.2
 case hi=>first|exact(by rw[List.size_toArray];exact HIH.out)|simpa using HIH.out
 case h1=>first|exact all_oneCell_toArray (fun y hy=>by rw[<- HHE.out]at hy;exact head_oneCell y hy)|exact fun y hy=>by rw[<- HHE.out]at hy;exact head_oneCell y hy
 simp only[Act.put]
 generalize hW4:World.setCells _ w2.heap.size 0 _=W4
 have HP4:Hid (PlayG w0 W4 d r kb qb M M (doE w.heap.size w2.heap.size X ((hdA z oo).1:Int) (hdA z oo).2) o):=Lib.hid (by
  have e:doE w.heap.size w2.heap.size X ((hdA z oo).1:Int) (hdA z oo).2=[Og.blk w2.heap.size H 32,Og.blk w.heap.size X 53]:=by unfold doE;rw[HHE.out]
  rw[e,<- hW4]
  exact HP2.out.put2 lH)
 clear hW4
 generalize w2.heap.size=hb at *
 have c0:=HP4.out.xcell HX.out.c0
 clear rX HPP HP2 HHd HIX
 obtain⟨v,hv,hv0,hv7⟩:=and7 N
 obtain⟨e1,M1,he⟩:∃ e1 M1,M.failR v Ma=(e1,M1):=⟨_,_,rfl⟩
 have HB1:=Lib.hid (show Bd M1 (n+2)from by have:=HBD.out.failR v Ma;rw[he]at this;exact this.more (by omega))
 have hm0:=hX.m0
 have HPG:=Lib.hid (fun (W:World) (h:PlayG w0 W d r kb qb M M (doE w.heap.size hb X ((hdA z oo).1:Int) (hdA z oo).2) o)=>h.prog (fun Os hO=>hO.fail v Ma (by omega) hm0 he))
 have HDC:=Lib.hid (fun (W:World) (h:PlayG w0 W d r kb qb M1 M (doE w.heap.size hb X ((hdA z oo).1:Int) (hdA z oo).2) o)=>h.docu (fun x y hat=>fail_atf hat v Ma (by omega) hm0 he))
 have ve:(e1==e1)=true:=by simp
 clear he
 go_upto_region 16 with fail
 refine wp_region_held_drew (S:=DoS w.heap.size N Ma s) (by kernel_rfl) ((HP4.out.same (Kept.refl _ _).drew).dos HX.out) (fun hS0=>?_)
 have HP5:=Lib.hid (HP4.out.same (Kept.refl (fun _=>False) W4).drew)
 generalize World.drew W4=W5 at *
 refine ti 0 hS0 ?_
 refine ti 1 hS0 ?_
 refine ti 2 hS0 ?_ (hy:=by (refine Or.inl ⟨by rfl,fun w hSw=>?_⟩;unfold DoS at hSw;obtain⟨s1,s2,s3⟩:=hSw;go_simp;(try with_reducible rfl)))
 refine ti 3 hS0 ?_
 refine ti 4 hS0 ?_
 refine ti 5 hS0 ?_ (hy:=by (refine Or.inl ⟨by rfl,fun w hSw=>?_⟩;unfold DoS at hSw;obtain⟨s1,s2,s3⟩:=hSw;go_simp;(try with_reducible rfl)))
 refine ti 7 hS0 ?_
 refine ti 8 hS0 ?_
 refine ti 9 hS0 ?_ (hy:=by (refine Or.inl ⟨by rfl,fun w hSw=>?_⟩;unfold DoS at hSw;obtain⟨s1,s2,s3⟩:=hSw;go_simp;(try with_reducible rfl)))
 refine ti 10 hS0 ?_
 refine ti 11 hS0 ?_
 refine ti 12 hS0 ?_ (hy:=by (refine Or.inl ⟨by rfl,fun w hSw=>?_⟩;unfold DoS at hSw;obtain⟨s1,s2,s3⟩:=hSw;go_simp;(try with_reducible rfl)))
 refine rd1 6 (fun K hK=>?_)
 go_simp
 refine(HPG.out _ HP5.out).mono ?_
 rintro e' w6 ⟨rfl,hp6⟩
 have hS6:=hp6.dos HX.out
 refine hK.out _ _ hS6 (fun _=>?_)
 clear hK K
 try simp only[lyA,lyB,lyC,lyD]
 refine rd1 13 (fun K hK=>?_)
 go_simp
 refine(HDC.out _ hp6).mono ?_
 rintro e' w7 ⟨rfl,hp7⟩
 have hS13:=hp7.dos HX.out
 refine hK.out _ _ hS13 (fun _=>?_)
 clear hK K
 try simp only[lyA,lyB,lyC,lyD]
 refine ti 14 hS13 ?_
 refine ti 15 hS13 ?_
 refine dn ?_
 have HDN:=Lib.hid (hp7.done HB1.out)
 clear hp6 hp7 hS0 hS6 hS13 HP4 HP5 HPG HDC HB1
 go_wp2_with fail
 go_ret
 exact HDN.out
end
section
variable {w0 w w' : World} {d r kb qb n : Nat} {M : DiskM} {o : Option RingM} {X C : List Value} {k z oo N Ma : Int} {s : ByteArray}
theorem do_12 (hp:PlayG w0 w d r kb qb M M [] o) (hbd:Bd M n) (hn:n<=1000000) (hX:ActL X k z oo N Ma C s) (hs:s.size<=300) (hk:k%13=12) :
  Calls Tryz.prog 19 #[.agg X.toArray,.pointer (some ⟨d,0,none⟩),.pointer (some ⟨r,0,none⟩),.pointer (some ⟨kb,0,none⟩),.pointer (some ⟨qb,0,none⟩)] w (DoPost w0 d r kb qb (n+2)):=by
 have HX:=Lib.hid hX
 have lX:=hX.len
 have ht:k.tmod 13=12:=by rw[Int.tmod_eq_emod_of_nonneg hX.k0.1];exact hk
 obtain⟨H,hH⟩:∃ H,headC ((hdA z oo).1:Int) (hdA z oo).2=H:=⟨_,rfl⟩
 have lH:H.length=33:=by rw[<- hH];exact headC_len (rootA_len oo)
 have HHd:=Lib.hid (fun w'=>(by rw[<- hH];exact act_head w' hX:Calls Tryz.prog 53 #[.agg X.toArray] w' fun e w''=>e = .returned (.agg H.toArray)/\Kept (fun _=>False) w' w''))
 have HPP:=Lib.hid (hp.put X)
 have HIX:=Lib.hid (show(Tryz.prog.info? 53).map (·.size)=some X.length by rw[hX.len];exact c_act34')
 have HIH:=Lib.hid (show(Tryz.prog.info? 32).map (·.size)=some H.length by rw[lH];exact info_head)
 have HBD:=Lib.hid hbd
 have HHE:=Lib.hid hH
 obtain⟨W,hW⟩:∃ W,w.alloc (.cells X.toArray 53)=W:=⟨_,rfl⟩
 rw[hW]at HPP
 have rX:=Blk.range0 (HPP.out.has (g:=Og.blk w.heap.size X 53) (by simp))
 clear hp hbd hH
 go_enter Tryz.func19,Tryz.ntmps19
 go_upto_region 1 with fail
 generalize hWx:World.alloc _ _=Wx
 obtain rfl:W=Wx:=by rw[<- hW,<- hWx]
 clear hW hWx
 go_upto_region 2 with (first
  | ((with_reducible show wpList _ _ _ (⟨some 22,_,_,_,_,_⟩::_) _ _);refine wpList_load_mid rfl 53 _ rfl w.heap.size 0 rfl X _ rX Tryz.underlying53 rfl HIX.out ?_)
  | (go_at_call 53;refine(HHd.out _).mono ?_;rintro e w2 ⟨rfl,hk2⟩;have HP2:=Lib.hid (HPP.out.same hk2);clear hk2)
  | ((with_reducible show wpList _ _ _ (⟨none,.store _ (.tmp 11) _,_,_,_,_⟩::_) _ _);refine wpList_store_mid rfl 32 _ _ rfl w2.heap.size 0 H.toArray rfl rfl ?hth ?hi ?h1 ?_))
 case hth=>exact(hd_fresh w2 lH).2.2
 case hi=>first|exact(by rw[List.size_toArray];exact HIH.out)|simpa using HIH.out
 case h1=>first|exact all_oneCell_toArray (fun y hy=>by rw[<- HHE.out]at hy;exact head_oneCell y hy)|exact fun y hy=>by rw[<- HHE.out]at hy;exact head_oneCell y hy
 simp only[Act.put]
 generalize hW4:World.setCells _ w2.heap.size 0 _=W4
 have HP4:Hid (PlayG w0 W4 d r kb qb M M (doE w.heap.size w2.heap.size X ((hdA z oo).1:Int) (hdA z oo).2) o):=Lib.hid (by
  have e:doE w.heap.size w2.heap.size X ((hdA z oo).1:Int) (hdA z oo).2=[Og.blk w2.heap.size H 32,Og.blk w.heap.size X 53]:=by unfold doE;rw[HHE.out]
  rw[e,<- hW4]
  exact HP2.out.put2 lH)
 clear hW4
 generalize w2.heap.size=hb at *
 have c0:=HP4.out.xcell HX.out.c0
 clear rX HPP HP2 HHd HIX
 have hok:=hdA_ok (z:=z) oo HX.out.z0.1
 have hrec:=fun w'=>rrecord_any w' ((hdA z oo).1:Int) (hdA z oo).2 hok.2.2
 rw[recG_rec _ (by have:=hok.2.1;omega) (hdA z oo).2,show((hdA z oo).1,(hdA z oo).2)=hdA z oo from rfl]at hrec
 have hrl:=recordF_len hok
 have hfr:=fun w'=>rframe_any w' (strB (recordF (hdA z oo))) (by rw[strB_size];omega)
 rw[strB_data]at hfr
 have hfl:=frameF_len (recordF (hdA z oo))
 rw[show headV ((hdA z oo).1:Int) (hdA z oo).2 = .agg H.toArray from by rw[<- HHE.out]]at hrec
 have rH:=Blk.range0 (HP4.out.has (g:=Og.blk hb (headC ((hdA z oo).1:Int) (hdA z oo).2) 32) (by simp))
 rw[HHE.out]at rH
 obtain⟨FL,hFL⟩:∃ FL,frameF (recordF (hdA z oo))=FL:=⟨_,rfl⟩
 rw[hFL]at hfr hfl
 generalize recordF (hdA z oo)=NR at *
 obtain⟨e1,M1,he⟩:∃ e1 M1,M.append 990 FL=(e1,M1):=⟨_,_,rfl⟩
 have HB1:=Lib.hid (show Bd M1 (n+2)from by have:=HBD.out.append 990 FL;rw[he]at this;exact this.more (by omega))
 have HRM:=HP4.out.room HBD.out (by omega)
 have HPG:=Lib.hid (fun (W:World) (h:PlayG w0 W d r kb qb M M (doE w.heap.size hb X ((hdA z oo).1:Int) (hdA z oo).2) o)=>h.prog (fun Os hO=>hO.dappend 990 (by omega) (strB FL) HRM (show M.append 990 (strB FL).data.toList=(e1,M1)from by rw[strB_data];exact he)))
 have HDC:=Lib.hid (fun (W:World) (h:PlayG w0 W d r kb qb M1 M (doE w.heap.size hb X ((hdA z oo).1:Int) (hdA z oo).2) o)=>h.docu (fun x y hat=>append_atf hat 990 FL (by omega) HRM he))
 have ve:(e1==e1)=true:=by simp
 have HRC:=Lib.hid hrec
 have HFR:=Lib.hid hfr
 obtain⟨F,hF⟩:∃ F,strB FL=F:=⟨_,rfl⟩
 rw[hF]at HFR HPG HDC
 clear he HRM hrec hfr hfl hFL hrl hF
 go_wp2_with (first
  | ((with_reducible show wpList _ _ _ (⟨some 129,_,_,_,_,_⟩::_) _ _);refine wpList_load_mid rfl 32 _ rfl hb 0 rfl H _ rH Tryz.underlying32 rfl HIH.out ?_)
  | (go_at_call 7;refine(HRC.out _).mono ?_;rintro e w5 ⟨rfl,hk5⟩;have HP5:=Lib.hid (HP4.out.same hk5);clear hk5)
  | (go_at_call 6;refine(HFR.out _).mono ?_;rintro e w6 ⟨rfl,hk6⟩;have HP6:=Lib.hid (HP5.out.same hk6);clear hk6)
  | (go_at_call 12;refine(HPG.out _ HP6.out).mono ?_;rintro e w7 ⟨rfl,hp7⟩;have HP7:=Lib.hid hp7;clear hp7)
  | (go_at_call 13;refine(HDC.out _ HP7.out).mono ?_;rintro e w8 ⟨rfl,hp8⟩;have HDN:=Lib.hid (hp8.done HB1.out);clear hp8))
 go_ret
 exact HDN.out
end
section
variable {w0 w w' : World} {d r kb qb n : Nat} {M : DiskM} {o : Option RingM} {X C : List Value} {k z oo N Ma : Int} {s : ByteArray}
theorem DiskM.openR_starts (M:DiskM):M.openR.2.2.starts=M.starts:=by
 have ht:∀ (A:DiskM),A.tick.starts=A.starts:=fun A=>A.tick_rest.2
 have hs:∀ (A:DiskM),A.sunk.starts=A.starts:=fun A=>A.tick_rest.2
 have hsy:∀ (A:DiskM),A.sync.2.starts=A.starts:=fun A=>by
  unfold DiskM.sync
  split;· rfl
  split;· exact hs A
  exact ht A
 have hcr:∀ (A:DiskM) (k:Int),(A.create k).2.starts=A.starts:=fun A k=>by
  unfold DiskM.create
  split;· rfl
  split;· rfl
  split;· rfl
  split;· rfl
  split;· exact hs A
  exact ht A
 have htr:∀ (A:DiskM) (k s:Int),(A.truncate k s).2.starts=A.starts:=fun A k s=>by
  unfold DiskM.truncate
  split;· rfl
  split;· rfl
  split;· exact hs A
  exact ht A
 unfold DiskM.openR
 split;· rfl
 unfold DiskM.mend
 split
 ·split
  ·exact hcr _ _
  ·exact(hsy _).trans (hcr _ _)
 ·split
  ·rfl
  ·split
   ·exact hsy _
   ·split
    ·exact htr _ _ _
    ·exact(hsy _).trans (htr _ _ _)
theorem Owg.vark {P E:List Og} {kv:Value} {N1:DiskM} (h:Owg w0 w d N1 (P++kbO kb kv::E)) (v:Value):Owg w0 (w.setCell ⟨kb,0,none⟩ v) d N1 (P++kbO kb v::E):=by
 have h1:=h.perm List.perm_middle
 have hb:Blk w kb [kv] 41:=h1.has (x:=kbO kb kv) (List.mem_cons_self ..)
 exact(h1.turn (c':=[v]) (kept_cell w kb 0 v) (hb.set 0 v)).perm List.perm_middle.symm
theorem Owg.varq {P E:List Og} {qv:Value} {N1:DiskM} (h:Owg w0 w d N1 (P++qbO qb qv::E)) (v:Value):Owg w0 (w.setCell ⟨qb,0,none⟩ v) d N1 (P++qbO qb v::E):=by
 have h1:=h.perm List.perm_middle
 have hb:Blk w qb [qv] 44:=h1.has (x:=qbO qb qv) (List.mem_cons_self ..)
 exact(h1.turn (c':=[v]) (kept_cell w qb 0 v) (hb.set 0 v)).perm List.perm_middle.symm
theorem PlayG.base {E:List Og} {N1 M1:DiskM} (h:PlayG w0 w d r kb qb N1 M1 E o):∃ x y kv qv,Owg w0 w d N1 (Og.reff r M1 x y::kbO kb kv::qbO qb qv::E):=by
 cases h with
 | nor h=>exact⟨_,_,_,_,h⟩
 | both h=>exact⟨_,_,_,_,(h.two.drop).unring⟩
theorem do_7_down (hdn:M.down=true) (hp:PlayG w0 w d r kb qb M M [] o) (hbd:Bd M n) (hn:n<=1000000) (hX:ActL X k z oo N Ma C s) (hs:s.size<=300) (hk:k%13=7) :
  Calls Tryz.prog 19 #[.agg X.toArray,.pointer (some ⟨d,0,none⟩),.pointer (some ⟨r,0,none⟩),.pointer (some ⟨kb,0,none⟩),.pointer (some ⟨qb,0,none⟩)] w (DoPost w0 d r kb qb (n+2)):=by
 have HX:=Lib.hid hX
 have lX:=hX.len
 have ht:k.tmod 13=7:=by rw[Int.tmod_eq_emod_of_nonneg hX.k0.1];exact hk
 obtain⟨H,hH⟩:∃ H,headC ((hdA z oo).1:Int) (hdA z oo).2=H:=⟨_,rfl⟩
 have lH:H.length=33:=by rw[<- hH];exact headC_len (rootA_len oo)
 have HHd:=Lib.hid (fun w'=>(by rw[<- hH];exact act_head w' hX:Calls Tryz.prog 53 #[.agg X.toArray] w' fun e w''=>e = .returned (.agg H.toArray)/\Kept (fun _=>False) w' w''))
 have HPP:=Lib.hid (hp.put X)
 have HIX:=Lib.hid (show(Tryz.prog.info? 53).map (·.size)=some X.length by rw[hX.len];exact c_act34')
 have HIH:=Lib.hid (show(Tryz.prog.info? 32).map (·.size)=some H.length by rw[lH];exact info_head)
 have HBD:=Lib.hid hbd
 have HHE:=Lib.hid hH
 obtain⟨W,hW⟩:∃ W,w.alloc (.cells X.toArray 53)=W:=⟨_,rfl⟩
 rw[hW]at HPP
 have rX:=Blk.range0 (HPP.out.has (g:=Og.blk w.heap.size X 53) (by simp))
 clear hp hbd hH
 go_enter Tryz.func19,Tryz.ntmps19
 go_upto_region 1 with fail
 generalize hWx:World.alloc _ _=Wx
 obtain rfl:W=Wx:=by rw[<- hW,<- hWx]
 clear hW hWx
 go_upto_region 2 with (first
  | ((with_reducible show wpList _ _ _ (⟨some 22,_,_,_,_,_⟩::_) _ _);refine wpList_load_mid rfl 53 _ rfl w.heap.size 0 rfl X _ rX Tryz.underlying53 rfl HIX.out ?_)
  | (go_at_call 53;refine(HHd.out _).mono ?_;rintro e w2 ⟨rfl,hk2⟩;have HP2:=Lib.hid (HPP.out.same hk2);clear hk2)
  | ((with_reducible show wpList _ _ _ (⟨none,.store _ (.tmp 11) _,_,_,_,_⟩::_) _ _);refine wpList_store_mid rfl 32 _ _ rfl w2.heap.size 0 H.toArray rfl rfl ?hth ?hi ?h1 ?_))
 case hth=>exact(hd_fresh w2 lH).2.2
 case hi=>first|exact(by rw[List.size_toArray];exact HIH.out)|simpa using HIH.out
 case h1=>first|exact all_oneCell_toArray (fun y hy=>by rw[<- HHE.out]at hy;exact head_oneCell y hy)|exact fun y hy=>by rw[<- HHE.out]at hy;exact head_oneCell y hy
 simp only[Act.put]
 generalize hW4:World.setCells _ w2.heap.size 0 _=W4
 have HP4:Hid (PlayG w0 W4 d r kb qb M M (doE w.heap.size w2.heap.size X ((hdA z oo).1:Int) (hdA z oo).2) o):=Lib.hid (by
  have e:doE w.heap.size w2.heap.size X ((hdA z oo).1:Int) (hdA z oo).2=[Og.blk w2.heap.size H 32,Og.blk w.heap.size X 53]:=by unfold doE;rw[HHE.out]
  rw[e,<- hW4]
  exact HP2.out.put2 lH)
 clear hW4
 generalize w2.heap.size=hb at *
 have c0:=HP4.out.xcell HX.out.c0
 clear rX HPP HP2 HHd HIX
 obtain⟨x0,y0,hat0,-⟩:=HP4.out.ref
 obtain⟨-,-,-,-,c3,-,-⟩:=hat0.cells
 rw[hdn]at c3
 obtain⟨e2,M2,he2⟩:∃ e2 M2,M.startR=(e2,M2):=⟨_,_,rfl⟩
 have HB2:=Lib.hid (show Bd M2 (n+2)from by have:=HBD.out.startR;rw[he2]at this;exact this.more (by omega))
 have hst:0<=M.starts/\M.starts<9223372036854775807:=⟨HBD.out.2.1,by have:=HBD.out.2.2;omega⟩
 have HPG2:=Lib.hid (fun (W:World) (h:PlayG w0 W d r kb qb M M (doE w.heap.size hb X ((hdA z oo).1:Int) (hdA z oo).2) o)=>h.prog (fun Os hO=>hO.start hst he2))
 have HDC2:=Lib.hid (fun (W:World) (h:PlayG w0 W d r kb qb M2 M (doE w.heap.size hb X ((hdA z oo).1:Int) (hdA z oo).2) o)=>h.docu (fun x y hat=>start_atf hat hst he2))
 have ve2:(e2==e2)=true:=by simp
 clear he2 hst hat0 hdn
 go_wp2_with (first
  | (go_at_call 56;refine(HPG2.out _ HP4.out).mono ?_;rintro e w7 ⟨rfl,hp7⟩;have HP7:=Lib.hid hp7;clear hp7)
  | (go_at_call 57;refine(HDC2.out _ HP7.out).mono ?_;rintro e w8 ⟨rfl,hp8⟩;have HDN:=Lib.hid (hp8.done HB2.out);clear hp8))
 go_ret
 exact HDN.out
theorem do_8_down (hdn:M.down=true) (hp:PlayG w0 w d r kb qb M M [] o) (hbd:Bd M n) (hn:n<=1000000) (hX:ActL X k z oo N Ma C s) (hs:s.size<=300) (hk:k%13=8) :
  Calls Tryz.prog 19 #[.agg X.toArray,.pointer (some ⟨d,0,none⟩),.pointer (some ⟨r,0,none⟩),.pointer (some ⟨kb,0,none⟩),.pointer (some ⟨qb,0,none⟩)] w (DoPost w0 d r kb qb (n+2)):=by
 have HX:=Lib.hid hX
 have lX:=hX.len
 have ht:k.tmod 13=8:=by rw[Int.tmod_eq_emod_of_nonneg hX.k0.1];exact hk
 obtain⟨H,hH⟩:∃ H,headC ((hdA z oo).1:Int) (hdA z oo).2=H:=⟨_,rfl⟩
 have lH:H.length=33:=by rw[<- hH];exact headC_len (rootA_len oo)
 have HHd:=Lib.hid (fun w'=>(by rw[<- hH];exact act_head w' hX:Calls Tryz.prog 53 #[.agg X.toArray] w' fun e w''=>e = .returned (.agg H.toArray)/\Kept (fun _=>False) w' w''))
 have HPP:=Lib.hid (hp.put X)
 have HIX:=Lib.hid (show(Tryz.prog.info? 53).map (·.size)=some X.length by rw[hX.len];exact c_act34')
 have HIH:=Lib.hid (show(Tryz.prog.info? 32).map (·.size)=some H.length by rw[lH];exact info_head)
 have HBD:=Lib.hid hbd
 have HHE:=Lib.hid hH
 obtain⟨W,hW⟩:∃ W,w.alloc (.cells X.toArray 53)=W:=⟨_,rfl⟩
 rw[hW]at HPP
 have rX:=Blk.range0 (HPP.out.has (g:=Og.blk w.heap.size X 53) (by simp))
 clear hp hbd hH
 go_enter Tryz.func19,Tryz.ntmps19
 go_upto_region 1 with fail
 generalize hWx:World.alloc _ _=Wx
 obtain rfl:W=Wx:=by rw[<- hW,<- hWx]
 clear hW hWx
 go_upto_region 2 with (first
  | ((with_reducible show wpList _ _ _ (⟨some 22,_,_,_,_,_⟩::_) _ _);refine wpList_load_mid rfl 53 _ rfl w.heap.size 0 rfl X _ rX Tryz.underlying53 rfl HIX.out ?_)
  | (go_at_call 53;refine(HHd.out _).mono ?_;rintro e w2 ⟨rfl,hk2⟩;have HP2:=Lib.hid (HPP.out.same hk2);clear hk2)
  | ((with_reducible show wpList _ _ _ (⟨none,.store _ (.tmp 11) _,_,_,_,_⟩::_) _ _);refine wpList_store_mid rfl 32 _ _ rfl w2.heap.size 0 H.toArray rfl rfl ?hth ?hi ?h1 ?_))
 case hth=>exact(hd_fresh w2 lH).2.2
 case hi=>first|exact(by rw[List.size_toArray];exact HIH.out)|simpa using HIH.out
 case h1=>first|exact all_oneCell_toArray (fun y hy=>by rw[<- HHE.out]at hy;exact head_oneCell y hy)|exact fun y hy=>by rw[<- HHE.out]at hy;exact head_oneCell y hy
 simp only[Act.put]
 generalize hW4:World.setCells _ w2.heap.size 0 _=W4
 have HP4:Hid (PlayG w0 W4 d r kb qb M M (doE w.heap.size w2.heap.size X ((hdA z oo).1:Int) (hdA z oo).2) o):=Lib.hid (by
  have e:doE w.heap.size w2.heap.size X ((hdA z oo).1:Int) (hdA z oo).2=[Og.blk w2.heap.size H 32,Og.blk w.heap.size X 53]:=by unfold doE;rw[HHE.out]
  rw[e,<- hW4]
  exact HP2.out.put2 lH)
 clear hW4
 generalize w2.heap.size=hb at *
 have c0:=HP4.out.xcell HX.out.c0
 clear rX HPP HP2 HHd HIX
 obtain⟨x0,y0,hat0,-⟩:=HP4.out.ref
 obtain⟨-,-,-,-,c3,-,-⟩:=hat0.cells
 rw[hdn]at c3
 obtain⟨e2,M2,he2⟩:∃ e2 M2,M.startR=(e2,M2):=⟨_,_,rfl⟩
 have HB2:=Lib.hid (show Bd M2 (n+2)from by have:=HBD.out.startR;rw[he2]at this;exact this.more (by omega))
 have hst:0<=M.starts/\M.starts<9223372036854775807:=⟨HBD.out.2.1,by have:=HBD.out.2.2;omega⟩
 have HPG2:=Lib.hid (fun (W:World) (h:PlayG w0 W d r kb qb M M (doE w.heap.size hb X ((hdA z oo).1:Int) (hdA z oo).2) o)=>h.prog (fun Os hO=>hO.start hst he2))
 have HDC2:=Lib.hid (fun (W:World) (h:PlayG w0 W d r kb qb M2 M (doE w.heap.size hb X ((hdA z oo).1:Int) (hdA z oo).2) o)=>h.docu (fun x y hat=>start_atf hat hst he2))
 have ve2:(e2==e2)=true:=by simp
 clear he2 hst hat0 hdn
 go_wp2_with (first
  | (go_at_call 56;refine(HPG2.out _ HP4.out).mono ?_;rintro e w7 ⟨rfl,hp7⟩;have HP7:=Lib.hid hp7;clear hp7)
  | (go_at_call 57;refine(HDC2.out _ HP7.out).mono ?_;rintro e w8 ⟨rfl,hp8⟩;have HDN:=Lib.hid (hp8.done HB2.out);clear hp8))
 go_ret
 exact HDN.out
theorem do_7_up (hdn:M.down=false) (hp:PlayG w0 w d r kb qb M M [] o) (hbd:Bd M n) (hn:n<=1000000) (hX:ActL X k z oo N Ma C s) (hs:s.size<=300) (hk:k%13=7) :
  Calls Tryz.prog 19 #[.agg X.toArray,.pointer (some ⟨d,0,none⟩),.pointer (some ⟨r,0,none⟩),.pointer (some ⟨kb,0,none⟩),.pointer (some ⟨qb,0,none⟩)] w (DoPost w0 d r kb qb (n+2)):=by
 have HX:=Lib.hid hX
 have lX:=hX.len
 have ht:k.tmod 13=7:=by rw[Int.tmod_eq_emod_of_nonneg hX.k0.1];exact hk
 obtain⟨H,hH⟩:∃ H,headC ((hdA z oo).1:Int) (hdA z oo).2=H:=⟨_,rfl⟩
 have lH:H.length=33:=by rw[<- hH];exact headC_len (rootA_len oo)
 have HHd:=Lib.hid (fun w'=>(by rw[<- hH];exact act_head w' hX:Calls Tryz.prog 53 #[.agg X.toArray] w' fun e w''=>e = .returned (.agg H.toArray)/\Kept (fun _=>False) w' w''))
 have HPP:=Lib.hid (hp.put X)
 have HIX:=Lib.hid (show(Tryz.prog.info? 53).map (·.size)=some X.length by rw[hX.len];exact c_act34')
 have HIH:=Lib.hid (show(Tryz.prog.info? 32).map (·.size)=some H.length by rw[lH];exact info_head)
 have HBD:=Lib.hid hbd
 have HHE:=Lib.hid hH
 obtain⟨W,hW⟩:∃ W,w.alloc (.cells X.toArray 53)=W:=⟨_,rfl⟩
 rw[hW]at HPP
 have rX:=Blk.range0 (HPP.out.has (g:=Og.blk w.heap.size X 53) (by simp))
 clear hp hbd hH
 go_enter Tryz.func19,Tryz.ntmps19
 go_upto_region 1 with fail
 generalize hWx:World.alloc _ _=Wx
 obtain rfl:W=Wx:=by rw[<- hW,<- hWx]
 clear hW hWx
 go_upto_region 2 with (first
  | ((with_reducible show wpList _ _ _ (⟨some 22,_,_,_,_,_⟩::_) _ _);refine wpList_load_mid rfl 53 _ rfl w.heap.size 0 rfl X _ rX Tryz.underlying53 rfl HIX.out ?_)
  | (go_at_call 53;refine(HHd.out _).mono ?_;rintro e w2 ⟨rfl,hk2⟩;have HP2:=Lib.hid (HPP.out.same hk2);clear hk2)
  | ((with_reducible show wpList _ _ _ (⟨none,.store _ (.tmp 11) _,_,_,_,_⟩::_) _ _);refine wpList_store_mid rfl 32 _ _ rfl w2.heap.size 0 H.toArray rfl rfl ?hth ?hi ?h1 ?_))
 case hth=>exact(hd_fresh w2 lH).2.2
 case hi=>first|exact(by rw[List.size_toArray];exact HIH.out)|simpa using HIH.out
 case h1=>first|exact all_oneCell_toArray (fun y hy=>by rw[<- HHE.out]at hy;exact head_oneCell y hy)|exact fun y hy=>by rw[<- HHE.out]at hy;exact head_oneCell y hy
 simp only[Act.put]
 generalize hW4:World.setCells _ w2.heap.size 0 _=W4
 have HP4:Hid (PlayG w0 W4 d r kb qb M M (doE w.heap.size w2.heap.size X ((hdA z oo).1:Int) (hdA z oo).2) o):=Lib.hid (by
  have e:doE w.heap.size w2.heap.size X ((hdA z oo).1:Int) (hdA z oo).2=[Og.blk w2.heap.size H 32,Og.blk w.heap.size X 53]:=by unfold doE;rw[HHE.out]
  rw[e,<- hW4]
  exact HP2.out.put2 lH)
 clear hW4
 generalize w2.heap.size=hb at *
 have c0:=HP4.out.xcell HX.out.c0
 clear rX HPP HP2 HHd HIX
 obtain⟨x0,y0,hat0,-⟩:=HP4.out.ref
 obtain⟨-,-,-,-,c3,-,-⟩:=hat0.cells
 rw[hdn]at c3
 obtain⟨x1,y1,kv,qv,hba⟩:=HP4.out.base
 have HBA:=Lib.hid hba
 have HRM:=HP4.out.room HBD.out (by omega)
 obtain⟨zz,hz⟩:∃ zz,M.openR=zz:=⟨_,rfl⟩
 have HB1:=Lib.hid (show Bd zz.2.2 (n+2)from by have:=HBD.out.openR;rw[hz]at this;exact this.more (by omega))
 have hsz:zz.2.2.starts=M.starts:=by rw[<- hz];exact M.openR_starts
 have hseed:(strB [114,105,110,103]).size<=1000:=by decide
 have HKO:=Lib.hid (HBA.out.kopen (strB [114,105,110,103]) hseed HRM hz)
 have HRO:=Lib.hid (fun (W:World) (x y:Value) (h:RefAtF W r M x y)=>rropenF_up h hdn HRM (strB [114,105,110,103]) hseed)
 rw[hz]at HRO
 obtain⟨ze,zl,zM⟩:=zz
 simp only at hsz
 clear hat0 hdn hba HRM hz hseed
 by_cases hz0:ze=0
 ·subst hz0
  go_upto_region 13 with (first
   | (go_at_call 14;refine HKO.out.mono ?_;rintro e' w7 hq7;obtain⟨k9,S9,rfl,h7⟩:=(hq7.resolve_left (fun q=>q.1 rfl)).2;have H7:=Lib.hid (Owg.two h7);clear hq7 h7)
   | (go_at_call 15;refine(HRO.out _ _ _ (H7.out.has (x:=Og.reff r M x1 y1) (List.mem_cons_self ..))).mono ?_;rintro e' w8 hq8;obtain⟨q9,ks,vs,x8,y8,rfl,h8⟩:=((H7.out.rropenF hq8).resolve_left (fun q=>q.1 rfl)).2;have H8:=Lib.hid h8;clear hq8 h8))
  have hkb:=H8.out.has (x:=kbO kb kv) (by simp)
  have hqb:=H8.out.has (x:=qbO qb qv) (by simp)
  have ck:=Blk.cell hkb (i:=0) rfl
  have fk:=Blk.free hkb 0
  have h9:=Owg.vark (P:=[_,_]) H8.out (.pointer (some ⟨k9,0,none⟩))
  have hqb9:=h9.has (x:=qbO qb qv) (by simp)
  have cq:=Blk.cell hqb9 (i:=0) rfl
  have fq:=Blk.free hqb9 0
  have h10:=Owg.varq (P:=[_,_,_]) h9 (.pointer (some ⟨q9,0,none⟩))
  have HDN:=Lib.hid (show DoPost w0 d r kb qb (n+2) (.returned (.bool true)) _ from(PlayG.both (by rw[hsz]at h10;exact h10)).done HB1.out)
  clear HKO HRO H7 H8 hkb hqb h9 hqb9 h10 HBA HB1 hsz
  go_wp2_with fail
  go_ret
  exact HDN.out
 ·have HZ0:=Lib.hid hz0
  have ve:(ze==ze)=true:=by simp
  clear hz0
  go_upto_region 13 with (first
   | (go_at_call 14;refine HKO.out.mono ?_;rintro e' w7 hq7;obtain⟨-,rfl,h7⟩:=hq7.resolve_right (fun q=>HZ0.out q.1);have H7:=Lib.hid h7;clear hq7 h7)
   | (go_at_call 15;refine(HRO.out _ _ _ (H7.out.has (x:=Og.reff r M x1 y1) (List.mem_cons_self ..))).mono ?_;rintro e' w8 hq8;obtain⟨-,rfl,x8,y8,h8⟩:=(H7.out.rropenF hq8).resolve_right (fun q=>HZ0.out q.1);have H8:=Lib.hid h8;clear hq8 h8))
  have hkb:=H8.out.has (x:=kbO kb kv) (by simp)
  have hqb:=H8.out.has (x:=qbO qb qv) (by simp)
  have ck:=Blk.cell hkb (i:=0) rfl
  have fk:=Blk.free hkb 0
  have h9:=Owg.vark (P:=[_]) H8.out (.pointer none)
  have hqb9:=h9.has (x:=qbO qb qv) (by simp)
  have cq:=Blk.cell hqb9 (i:=0) rfl
  have fq:=Blk.free hqb9 0
  have h10:=Owg.varq (P:=[_,_]) h9 (.pointer none)
  have HDN:=Lib.hid (show DoPost w0 d r kb qb (n+2) (.returned (.bool true)) _ from(PlayG.nor h10).done HB1.out)
  clear HKO HRO H7 H8 hkb hqb h9 hqb9 h10 HBA HB1 hsz
  go_wp2_with fail
  go_ret
  exact HDN.out
theorem do_8_up (hdn:M.down=false) (hp:PlayG w0 w d r kb qb M M [] o) (hbd:Bd M n) (hn:n<=1000000) (hX:ActL X k z oo N Ma C s) (hs:s.size<=300) (hk:k%13=8) :
  Calls Tryz.prog 19 #[.agg X.toArray,.pointer (some ⟨d,0,none⟩),.pointer (some ⟨r,0,none⟩),.pointer (some ⟨kb,0,none⟩),.pointer (some ⟨qb,0,none⟩)] w (DoPost w0 d r kb qb (n+2)):=by
 have HX:=Lib.hid hX
 have lX:=hX.len
 have ht:k.tmod 13=8:=by rw[Int.tmod_eq_emod_of_nonneg hX.k0.1];exact hk
 obtain⟨H,hH⟩:∃ H,headC ((hdA z oo).1:Int) (hdA z oo).2=H:=⟨_,rfl⟩
 have lH:H.length=33:=by rw[<- hH];exact headC_len (rootA_len oo)
 have HHd:=Lib.hid (fun w'=>(by rw[<- hH];exact act_head w' hX:Calls Tryz.prog 53 #[.agg X.toArray] w' fun e w''=>e = .returned (.agg H.toArray)/\Kept (fun _=>False) w' w''))
 have HPP:=Lib.hid (hp.put X)
 have HIX:=Lib.hid (show(Tryz.prog.info? 53).map (·.size)=some X.length by rw[hX.len];exact c_act34')
 have HIH:=Lib.hid (show(Tryz.prog.info? 32).map (·.size)=some H.length by rw[lH];exact info_head)
 have HBD:=Lib.hid hbd
 have HHE:=Lib.hid hH
 obtain⟨W,hW⟩:∃ W,w.alloc (.cells X.toArray 53)=W:=⟨_,rfl⟩
 rw[hW]at HPP
 have rX:=Blk.range0 (HPP.out.has (g:=Og.blk w.heap.size X 53) (by simp))
 clear hp hbd hH
 go_enter Tryz.func19,Tryz.ntmps19
 go_upto_region 1 with fail
 generalize hWx:World.alloc _ _=Wx
 obtain rfl:W=Wx:=by rw[<- hW,<- hWx]
 clear hW hWx
 go_upto_region 2 with (first
  | ((with_reducible show wpList _ _ _ (⟨some 22,_,_,_,_,_⟩::_) _ _);refine wpList_load_mid rfl 53 _ rfl w.heap.size 0 rfl X _ rX Tryz.underlying53 rfl HIX.out ?_)
  | (go_at_call 53;refine(HHd.out _).mono ?_;rintro e w2 ⟨rfl,hk2⟩;have HP2:=Lib.hid (HPP.out.same hk2);clear hk2)
  | ((with_reducible show wpList _ _ _ (⟨none,.store _ (.tmp 11) _,_,_,_,_⟩::_) _ _);refine wpList_store_mid rfl 32 _ _ rfl w2.heap.size 0 H.toArray rfl rfl ?hth ?hi ?h1 ?_))
 case hth=>exact(hd_fresh w2 lH).2.2
 case hi=>first|exact(by rw[List.size_toArray];exact HIH.out)|simpa using HIH.out
 case h1=>first|exact all_oneCell_toArray (fun y hy=>by rw[<- HHE.out]at hy;exact head_oneCell y hy)|exact fun y hy=>by rw[<- HHE.out]at hy;exact head_oneCell y hy
 simp only[Act.put]
 generalize hW4:World.setCells _ w2.heap.size 0 _=W4
 have HP4:Hid (PlayG w0 W4 d r kb qb M M (doE w.heap.size w2.heap.size X ((hdA z oo).1:Int) (hdA z oo).2) o):=Lib.hid (by
  have e:doE w.heap.size w2.heap.size X ((hdA z oo).1:Int) (hdA z oo).2=[Og.blk w2.heap.size H 32,Og.blk w.heap.size X 53]:=by unfold doE;rw[HHE.out]
  rw[e,<- hW4]
  exact HP2.out.put2 lH)
 clear hW4
 generalize w2.heap.size=hb at *
 have c0:=HP4.out.xcell HX.out.c0
 clear rX HPP HP2 HHd HIX
 obtain⟨x0,y0,hat0,-⟩:=HP4.out.ref
 obtain⟨-,-,-,-,c3,-,-⟩:=hat0.cells
 rw[hdn]at c3
 obtain⟨x1,y1,kv,qv,hba⟩:=HP4.out.base
 have HBA:=Lib.hid hba
 have HRM:=HP4.out.room HBD.out (by omega)
 obtain⟨zz,hz⟩:∃ zz,M.openR=zz:=⟨_,rfl⟩
 have HB1:=Lib.hid (show Bd zz.2.2 (n+2)from by have:=HBD.out.openR;rw[hz]at this;exact this.more (by omega))
 have hsz:zz.2.2.starts=M.starts:=by rw[<- hz];exact M.openR_starts
 have hseed:(strB [114,105,110,103]).size<=1000:=by decide
 have HKO:=Lib.hid (HBA.out.kopen (strB [114,105,110,103]) hseed HRM hz)
 have HRO:=Lib.hid (fun (W:World) (x y:Value) (h:RefAtF W r M x y)=>rropenF_up h hdn HRM (strB [114,105,110,103]) hseed)
 rw[hz]at HRO
 obtain⟨ze,zl,zM⟩:=zz
 simp only at hsz
 clear hat0 hdn hba HRM hz hseed
 by_cases hz0:ze=0
 ·subst hz0
  go_upto_region 13 with (first
   | (go_at_call 14;refine HKO.out.mono ?_;rintro e' w7 hq7;obtain⟨k9,S9,rfl,h7⟩:=(hq7.resolve_left (fun q=>q.1 rfl)).2;have H7:=Lib.hid (Owg.two h7);clear hq7 h7)
   | (go_at_call 15;refine(HRO.out _ _ _ (H7.out.has (x:=Og.reff r M x1 y1) (List.mem_cons_self ..))).mono ?_;rintro e' w8 hq8;obtain⟨q9,ks,vs,x8,y8,rfl,h8⟩:=((H7.out.rropenF hq8).resolve_left (fun q=>q.1 rfl)).2;have H8:=Lib.hid h8;clear hq8 h8))
  have hkb:=H8.out.has (x:=kbO kb kv) (by simp)
  have hqb:=H8.out.has (x:=qbO qb qv) (by simp)
  have ck:=Blk.cell hkb (i:=0) rfl
  have fk:=Blk.free hkb 0
  have h9:=Owg.vark (P:=[_,_]) H8.out (.pointer (some ⟨k9,0,none⟩))
  have hqb9:=h9.has (x:=qbO qb qv) (by simp)
  have cq:=Blk.cell hqb9 (i:=0) rfl
  have fq:=Blk.free hqb9 0
  have h10:=Owg.varq (P:=[_,_,_]) h9 (.pointer (some ⟨q9,0,none⟩))
  have HDN:=Lib.hid (show DoPost w0 d r kb qb (n+2) (.returned (.bool true)) _ from(PlayG.both (by rw[hsz]at h10;exact h10)).done HB1.out)
  clear HKO HRO H7 H8 hkb hqb h9 hqb9 h10 HBA HB1 hsz
  go_wp2_with fail
  go_ret
  exact HDN.out
 ·have HZ0:=Lib.hid hz0
  have ve:(ze==ze)=true:=by simp
  clear hz0
  go_upto_region 13 with (first
   | (go_at_call 14;refine HKO.out.mono ?_;rintro e' w7 hq7;obtain⟨-,rfl,h7⟩:=hq7.resolve_right (fun q=>HZ0.out q.1);have H7:=Lib.hid h7;clear hq7 h7)
   | (go_at_call 15;refine(HRO.out _ _ _ (H7.out.has (x:=Og.reff r M x1 y1) (List.mem_cons_self ..))).mono ?_;rintro e' w8 hq8;obtain⟨-,rfl,x8,y8,h8⟩:=(H7.out.rropenF hq8).resolve_right (fun q=>HZ0.out q.1);have H8:=Lib.hid h8;clear hq8 h8))
  have hkb:=H8.out.has (x:=kbO kb kv) (by simp)
  have hqb:=H8.out.has (x:=qbO qb qv) (by simp)
  have ck:=Blk.cell hkb (i:=0) rfl
  have fk:=Blk.free hkb 0
  have h9:=Owg.vark (P:=[_]) H8.out (.pointer none)
  have hqb9:=h9.has (x:=qbO qb qv) (by simp)
  have cq:=Blk.cell hqb9 (i:=0) rfl
  have fq:=Blk.free hqb9 0
  have h10:=Owg.varq (P:=[_,_]) h9 (.pointer none)
  have HDN:=Lib.hid (show DoPost w0 d r kb qb (n+2) (.returned (.bool true)) _ from(PlayG.nor h10).done HB1.out)
  clear HKO HRO H7 H8 hkb hqb h9 hqb9 h10 HBA HB1 hsz
  go_wp2_with fail
  go_ret
  exact HDN.out
end
def S26 (kb qb hb k9 q9:Nat) (K:List Value) (W:World):Prop:=W.cell? ⟨kb,0,none⟩=some (.pointer (some ⟨k9,0,none⟩))/\W.cell? ⟨qb,0,none⟩=some (.pointer (some ⟨q9,0,none⟩))/\W.rangeAt hb 0 K/\hb<W.heap.size
section
variable {w0 w w' : World} {d r kb qb hb k9 q9 n : Nat} {M N1 : DiskM} {o : Option RingM} {R : RingM} {Os E : List Og} {K X : List Value}
theorem s26_next (h:S26 kb qb hb k9 q9 K w) (hk:Kept (fun _=>False) w w'):S26 kb qb hb k9 q9 K w':=⟨hk.cell h.1 id,hk.cell h.2.1 id,rangeAt_kept h.2.2.1 hk h.2.2.2 id,Nat.lt_of_lt_of_le h.2.2.2 hk.size⟩
theorem s26_of (h:Owg w0 w d N1 Os) (h1:kbO kb (.pointer (some ⟨k9,0,none⟩))∈Os) (h2:qbO qb (.pointer (some ⟨q9,0,none⟩))∈Os) (h3:Og.blk hb K 32∈Os):S26 kb qb hb k9 q9 K w :=
 ⟨Blk.cell (h.has h1) (i:=0) rfl,Blk.cell (h.has h2) (i:=0) rfl,Blk.range0 (h.has h3),Blk.lt (h.has h3)⟩
theorem PlayG.some_ (h:PlayG w0 w d r kb qb N1 M E (some R)):∃ x y ks vs k q S,Owg w0 w d N1 (Og.ring k R S::Og.rringF r x y M q ks vs R::kbO kb (.pointer (some ⟨k,0,none⟩))::qbO qb (.pointer (some ⟨q,0,none⟩))::E):=by
 cases h with
 | both h=>exact⟨_,_,_,_,_,_,_,h.two⟩
theorem PlayG.none_ (h:PlayG w0 w d r kb qb N1 M E none):w.cell? ⟨qb,0,none⟩=some (.pointer none):=by
 cases h with
 | nor h=>exact Blk.cell (h.has (x:=qbO qb (.pointer none)) (by simp)) (i:=0) rfl
theorem signed0_eq:signed0C.toArray = #[.int .i64 0,.int .u8 0,.int .u8 0,.int .u8 0,.int .u8 0,.int .u8 0,.int .u8 0,.int .u8 0,.int .u8 0,.int .u8 0,.int .u8 0,.int .u8 0,.int .u8 0,.int .u8 0,.int .u8 0,.int .u8 0,.int .u8 0,.int .u8 0,.int .u8 0,.int .u8 0,.int .u8 0,.int .u8 0,.int .u8 0,.int .u8 0,.int .u8 0,.int .u8 0,.int .u8 0,.int .u8 0,.int .u8 0,.int .u8 0,.int .u8 0,.int .u8 0,.int .u8 0,.int .i64 0,.string ⟨#[]⟩,.slice none 0 0]:=by rfl
theorem Owg.place (h:Owg w0 w d N1 Os) (hW:w.alloc (.cells signed0C.toArray 63)=w'):Owg w0 w' d N1 (Og.blk w.heap.size signed0C 63::Os):=by
 subst hW
 exact h.add ((Kept.refl _ _).alloc _) (Blk.new w signed0C _) (fun k e=>by have:k=w.heap.size:=e;omega)
theorem Owg.write {sb:Nat} {Y:List Value} (h:Owg w0 w d N1 (Og.blk sb signed0C 63::Os)) (hY:Y.length=36):w.there sb 0 Y.toArray.size/\Owg w0 (w.setCells sb 0 Y) d N1 (Og.blk sb Y 63::Os):=by
 have hb:Blk w sb signed0C 63:=h.has (x:=Og.blk sb signed0C 63) (List.mem_cons_self ..)
 obtain⟨h1,h2⟩:=sign_fin hb hY
 exact⟨by rw[List.size_toArray];exact h1,h.turn (kept_setCells w sb 0 Y) h2⟩
end
def doOps26:Array Oper:=#[
 ⟨some 146,.move (.tmp 3),55,"law.go:68", #[],none⟩,
 ⟨some 147,.nilCheck (.tmp 146),0,"law.go:68", #[⟨0,.data⟩],none⟩,
 ⟨some 148,.load 41 (.tmp 147),41,"law.go:68", #[⟨1,.data⟩],none⟩,
 ⟨some 149,.load 32 (.tmp 11),32,"law.go:68", #[],none⟩,
 ⟨some 150,.call { callee := .value (.func 21),args := #[.tmp 148,.tmp 149],argTypes := #[41,32] },64,"law.go:68", #[⟨2,.data⟩,⟨3,.data⟩],none⟩,
 ⟨some 145,.move (.tmp 150),64,"law.go:68", #[⟨4,.data⟩],none⟩,
 ⟨some 151,.extract (.tmp 145) 0,63,"law.go:68", #[⟨5,.data⟩],none⟩,
 ⟨some 152,.extract (.tmp 145) 1,25,"law.go:68", #[⟨5,.data⟩,⟨9,.gcOnly .lateStores⟩],none⟩,
 ⟨some 18,.alloc 63,0,"law.go:68", #[],none⟩,
 ⟨none,.store 63 (.tmp 18) (.tmp 151),0,"law.go:68", #[⟨8,.data⟩,⟨6,.data⟩,⟨4,.chain⟩,⟨0,.phase⟩,⟨1,.phase⟩,⟨2,.phase⟩,⟨3,.phase⟩,⟨4,.phase⟩,⟨5,.phase⟩,⟨6,.phase⟩,⟨7,.textOnly .lateStores⟩,⟨8,.phase⟩],none⟩,
 ⟨some 19,.assign (.tmp 152),25,"law.go:68", #[⟨7,.data⟩,⟨9,.chain⟩,⟨0,.phase⟩,⟨1,.phase⟩,⟨2,.phase⟩,⟨3,.phase⟩,⟨4,.phase⟩,⟨5,.phase⟩,⟨6,.phase⟩,⟨7,.phase⟩,⟨8,.phase⟩,⟨9,.phase⟩],none⟩]
theorem do_r26 {w0 W:World} {d r kb qb hb k9 q9:Nat} {M N1:DiskM} {R:RingM} {x y ks vs:Value} {S:Nat->Prop} {Os:List Og} {SZ:Int} {RT:By} {Q:Exit->Act->World->Prop} {u0 u1 u2 u4 u5 u6 u7 u8 u9 u10 u12 u13 u14 u15 u16 u17 u18 u19 u20 u21 u22 u23 u24 u25 u26 u27 u28 u29 u30 u31 u32 u33 u34 u35 u36 u37 u38 u39 u40 u41 u42 u43 u44 u45 u46 u47 u48 u49 u50 u51 u52 u53 u54 u55 u56 u57 u58 u59 u60 u61 u62 u63 u64 u65 u66 u67 u68 u69 u70 u71 u72 u73 u74 u75 u76 u77 u78 u79 u80 u81 u82 u83 u84 u85 u86 u87 u88 u89 u90 u91 u92 u93 u94 u95 u96 u97 u98 u99 u100 u101 u102 u103 u104 u105 u106 u107 u108 u109 u110 u111 u112 u113 u114 u115 u116 u117 u118 u119 u120 u121 u122 u123 u124 u125 u126 u127 u128 u129 u130 u131 u132 u133 u134 u135 u136 u137 u138 u139 u140 u141 u142 u143 u144 u145 u146 u147 u148 u149 u150 u151 u152 u153 u154 u155 u156 u157 u158 u159 u160 u161 u162 u163 u164 u165 u166 u167 u168:Value} (h:Owg w0 W d M (Og.ring k9 R S::Os)) (hroot:RT.length=32) (hc:M.files.length+M.loose.length<300000000) (m1:kbO kb (.pointer (some ⟨k9,0,none⟩))∈Os) (m2:qbO qb (.pointer (some ⟨q9,0,none⟩))∈Os) (m3:Og.blk hb (headC SZ RT) 32∈Os)
  (HP:∀ c a (k:Nat) v w,Q (.panic c) (Act.put a (some k) v) w->Q (.panic c) a w) (HQ:∀ (v146 v147 v148 v149 v150 v145 v151 v152 v18:Value) (w':World),(fun w'=>∃ sb a6 n6 c6 S1,v18 = .pointer (some ⟨sb,0,none⟩)/\Owg w0 w' d (R.sign M SZ RT).2.2.2 (Og.blk sb (signedC (ansZ R M SZ RT) (ansR R M SZ RT) (ansI R M SZ RT) (ansS R M SZ RT) (.slice a6 n6 c6)) 63::Og.ring k9 (R.sign M SZ RT).2.2.1 S1::Os)/\Row w' 30 32 (.slice a6 n6 c6) (hcells (ansP R M SZ RT))/\∀ b,(Value.slice a6 n6 c6).ownBlock=some b->W.heap.size<=b) w'->Q .normal ⟨List.toArray (u0::u1::u2::(.pointer (some ⟨kb,0,none⟩))::u4::u5::u6::u7::u8::u9::u10::(.pointer (some ⟨hb,0,none⟩))::u12::u13::u14::u15::u16::u17::v18::(.int .i64 (R.sign M SZ RT).1)::u20::u21::u22::u23::u24::u25::u26::u27::u28::u29::u30::u31::u32::u33::u34::u35::u36::u37::u38::u39::u40::u41::u42::u43::u44::u45::u46::u47::u48::u49::u50::u51::u52::u53::u54::u55::u56::u57::u58::u59::u60::u61::u62::u63::u64::u65::u66::u67::u68::u69::u70::u71::u72::u73::u74::u75::u76::u77::u78::u79::u80::u81::u82::u83::u84::u85::u86::u87::u88::u89::u90::u91::u92::u93::u94::u95::u96::u97::u98::u99::u100::u101::u102::u103::u104::u105::u106::u107::u108::u109::u110::u111::u112::u113::u114::u115::u116::u117::u118::u119::u120::u121::u122::u123::u124::u125::u126::u127::u128::u129::u130::u131::u132::u133::u134::u135::u136::u137::u138::u139::u140::u141::u142::u143::u144::v145::v146::v147::v148::v149::v150::v151::v152::u153::u154::u155::u156::u157::u158::u159::u160::u161::u162::u163::u164::u165::u166::u167::u168::[]),[]⟩ w') :
  Code.wp Tryz.prog (Code.region 26 doOps26 true) Q ⟨List.toArray (u0::u1::u2::(.pointer (some ⟨kb,0,none⟩))::u4::u5::u6::u7::u8::u9::u10::(.pointer (some ⟨hb,0,none⟩))::u12::u13::u14::u15::u16::u17::u18::u19::u20::u21::u22::u23::u24::u25::u26::u27::u28::u29::u30::u31::u32::u33::u34::u35::u36::u37::u38::u39::u40::u41::u42::u43::u44::u45::u46::u47::u48::u49::u50::u51::u52::u53::u54::u55::u56::u57::u58::u59::u60::u61::u62::u63::u64::u65::u66::u67::u68::u69::u70::u71::u72::u73::u74::u75::u76::u77::u78::u79::u80::u81::u82::u83::u84::u85::u86::u87::u88::u89::u90::u91::u92::u93::u94::u95::u96::u97::u98::u99::u100::u101::u102::u103::u104::u105::u106::u107::u108::u109::u110::u111::u112::u113::u114::u115::u116::u117::u118::u119::u120::u121::u122::u123::u124::u125::u126::u127::u128::u129::u130::u131::u132::u133::u134::u135::u136::u137::u138::u139::u140::u141::u142::u143::u144::u145::u146::u147::u148::u149::u150::u151::u152::u153::u154::u155::u156::u157::u158::u159::u160::u161::u162::u163::u164::u165::u166::u167::u168::[]),[]⟩ W:=by
 have HQ:=Lib.hid HQ
 unfold doOps26
 have lY:=Lib.hid (show ∀ v:Value,(signedC (ansZ R M SZ RT) (ansR R M SZ RT) (ansI R M SZ RT) (ansS R M SZ RT) v).length=36 from fun v=>signedC_len (ansR_len R M SZ hroot))
 have hps:=fun (W1:World) (Os:List Og) (h:Owg w0 W1 d M (Og.ring k9 R S::Os))=>h.psignA SZ RT hroot hc
 obtain⟨CK,hCK⟩:∃ CK,headC SZ RT=CK:=⟨_,rfl⟩
 have lK:CK.length=33:=by rw[<- hCK];exact headC_len hroot
 have HIK:=Lib.hid (show(Tryz.prog.info? 32).map (·.size)=some CK.length by rw[lK];exact info_head)
 rw[show headV SZ RT = .agg CK.toArray from by rw[<- hCK]]at hps
 rw[hCK]at m3
 have HPS:=Lib.hid hps
 have hS:=s26_next (s26_of h (List.mem_cons_of_mem _ m1) (List.mem_cons_of_mem _ m2) (List.mem_cons_of_mem _ m3)) (Kept.refl (fun _=>False) W).drew
 have H5:=Lib.hid (h.same (Kept.refl (fun _=>False) W).drew)
 have hk0:Kept (fun _=>False) W W.drew:=(Kept.refl _ _).drew
 have hz0:=hk0.size
 clear hps hCK h
 refine wp_region_held_drew (S:=S26 kb qb hb k9 q9 CK) (by kernel_rfl) hS (fun hH0=>?_)
 generalize World.drew W=W5 at *
 refine tp 0 hH0 HP ?_
 refine tp 1 hH0 HP ?_
 refine tp 2 hH0 HP ?_ (hy:=by (refine Or.inl ⟨by rfl,fun w hSw=>?_⟩;unfold S26 at hSw;obtain⟨s1,s2,s3,s4⟩:=hSw;go_simp;(try with_reducible rfl)))
 refine tky 3 rfl (fun _ _ _ h=>HP _ _ _ _ _ h) (yieldsIf_load_mid (by rfl) _ _ rfl hb 0 rfl CK _ (fun w z=>z.2.2.1) Tryz.underlying32 rfl HIK.out) hH0 ?_
 refine wpAnyH_ready (rs:=[4,8]) (by kernel_rfl) (by simp) ?_
 refine AllReadyH.cons (o:=⟨some 150,.call { callee := .value (.func 21),args := #[.tmp 148,.tmp 149],argTypes := #[41,32] },64,"law.go:68", #[⟨2,.data⟩,⟨3,.data⟩],none⟩) rfl (fun K hK=>?_) ?_
 ·go_simp
  refine(HPS.out _ _ H5.out).mono ?_
  rintro e w6 ⟨v1,S1,rfl,hr6,ho6,h6⟩
  obtain⟨a6,n6,c6,rfl,-⟩:=hr6.form (by omega)
  refine hK.out _ _ (s26_of h6 (List.mem_cons_of_mem _ m1) (List.mem_cons_of_mem _ m2) (List.mem_cons_of_mem _ m3)) (fun hH1=>?_)
  clear hK K
  try simp only[lyA,lyB,lyC,lyD]
  refine tp 5 hH1 HP ?_
  refine tp 6 hH1 HP ?_
  refine tp 7 hH1 HP ?_
  refine rd1 8 (fun K hK=>?_)
  go_simp
  refine hK.out _ _ (s26_next hH1 ((Kept.refl _ _).alloc _)) (fun hH2=>?_)
  clear hK K
  try simp only[lyA,lyB,lyC,lyD]
  generalize hWa:World.alloc _ _=Wa at hH2 ⊢
  have h8:=h6.place (w':=Wa) (by rw[signed0_eq];exact hWa)
  have hka:Kept (fun _=>False) w6 Wa:=by rw[<- hWa];exact(Kept.refl _ _).alloc _
  obtain⟨hth,h9⟩:=h8.write (Y:=signedC (ansZ R M SZ RT) (ansR R M SZ RT) (ansI R M SZ RT) (ansS R M SZ RT) (.slice a6 n6 c6)) (lY.out _)
  have hrow9:=(hr6.kept hka (fun _ _=>id)).kept (kept_setCells Wa w6.heap.size 0 (signedC (ansZ R M SZ RT) (ansR R M SZ RT) (ansI R M SZ RT) (ansS R M SZ RT) (.slice a6 n6 c6))) (fun k e e2=>(hr6.kept hka (fun _ _=>id)).ne_blk e (h8.has (x:=Og.blk w6.heap.size signed0C 63) (List.mem_cons_self ..)) (by decide) e2)
  have hz1:W5.heap.size<=W5.heap.size:=Nat.le_refl _
  refine rd1 9 (fun K hK=>?_)
  rw[if_pos (by rfl)]
  refine wp_store_mid _ _ _ rfl w6.heap.size 0 (signedC (ansZ R M SZ RT) (ansR R M SZ RT) (ansI R M SZ RT) (ansS R M SZ RT) (.slice a6 n6 c6)).toArray rfl rfl hth (by rw[List.size_toArray];exact info_sized (lY.out _)) (all_oneCell_toArray (signedC_one rfl)) ?_
  simp only[Act.put]
  refine hK.out _ _ (s26_of h9 (List.mem_cons_of_mem _ (List.mem_cons_of_mem _ m1)) (List.mem_cons_of_mem _ (List.mem_cons_of_mem _ m2)) (List.mem_cons_of_mem _ (List.mem_cons_of_mem _ m3))) (fun hH3=>?_)
  clear hK K
  try simp only[lyA,lyB,lyC,lyD]
  refine tp 10 hH3 HP ?_
  refine dn ?_
  refine HQ.out _ _ _ _ _ _ _ _ _ _ ?_
  exact⟨_,a6,n6,c6,S1,rfl,h9,hrow9,fun b e=>Nat.le_trans hz0 (Nat.le_trans hz1 (ho6 b e))⟩
 refine AllReadyH.cons (o:=⟨some 18,.alloc 63,0,"law.go:68", #[],none⟩) rfl (fun K hK=>?_) AllReadyH.nil
 go_simp
 refine hK.out _ _ (s26_next hH0 ((Kept.refl _ _).alloc _)) (fun hH1=>?_)
 clear hK K
 try simp only[lyA,lyB,lyC,lyD]
 generalize hWa:World.alloc _ _=Wa at hH1 ⊢
 have h8:=(H5.out.place (w':=Wa) (by rw[signed0_eq];exact hWa)).two
 have hka:Kept (fun _=>False) W5 Wa:=by rw[<- hWa];exact(Kept.refl _ _).alloc _
 refine rd1 4 (fun K hK=>?_)
 go_simp
 refine(HPS.out _ _ h8).mono ?_
 rintro e w6 ⟨v1,S1,rfl,hr6,ho6,h6⟩
 obtain⟨a6,n6,c6,rfl,-⟩:=hr6.form (by omega)
 refine hK.out _ _ (s26_of h6 (List.mem_cons_of_mem _ (List.mem_cons_of_mem _ m1)) (List.mem_cons_of_mem _ (List.mem_cons_of_mem _ m2)) (List.mem_cons_of_mem _ (List.mem_cons_of_mem _ m3))) (fun hH2=>?_)
 clear hK K
 try simp only[lyA,lyB,lyC,lyD]
 refine tp 5 hH2 HP ?_
 refine tp 6 hH2 HP ?_
 refine tp 7 hH2 HP ?_
 have h7:=h6.two
 obtain⟨hth,h9⟩:=h7.write (Y:=signedC (ansZ R M SZ RT) (ansR R M SZ RT) (ansI R M SZ RT) (ansS R M SZ RT) (.slice a6 n6 c6)) (lY.out _)
 have hrow9:=hr6.kept (kept_setCells w6 W5.heap.size 0 (signedC (ansZ R M SZ RT) (ansR R M SZ RT) (ansI R M SZ RT) (ansS R M SZ RT) (.slice a6 n6 c6))) (fun k e e2=>hr6.ne_blk e (h7.has (x:=Og.blk W5.heap.size signed0C 63) (List.mem_cons_self ..)) (by decide) e2)
 have hz1:=hka.size
 refine rd1 9 (fun K hK=>?_)
 rw[if_pos (by rfl)]
 refine wp_store_mid _ _ _ rfl W5.heap.size 0 (signedC (ansZ R M SZ RT) (ansR R M SZ RT) (ansI R M SZ RT) (ansS R M SZ RT) (.slice a6 n6 c6)).toArray rfl rfl hth (by rw[List.size_toArray];exact info_sized (lY.out _)) (all_oneCell_toArray (signedC_one rfl)) ?_
 simp only[Act.put]
 refine hK.out _ _ (s26_of h9 (List.mem_cons_of_mem _ (List.mem_cons_of_mem _ m1)) (List.mem_cons_of_mem _ (List.mem_cons_of_mem _ m2)) (List.mem_cons_of_mem _ (List.mem_cons_of_mem _ m3))) (fun hH3=>?_)
 clear hK K
 try simp only[lyA,lyB,lyC,lyD]
 refine tp 10 hH3 HP ?_
 refine dn ?_
 refine HQ.out _ _ _ _ _ _ _ _ _ _ ?_
 exact⟨_,a6,n6,c6,S1,rfl,h9,hrow9,fun b e=>Nat.le_trans hz0 (Nat.le_trans hz1 (ho6 b e))⟩
def doOps27:Array Oper:=#[
 ⟨some 154,.move (.tmp 4),56,"law.go:69", #[],none⟩,
 ⟨some 155,.nilCheck (.tmp 154),0,"law.go:69", #[⟨0,.data⟩],none⟩,
 ⟨some 156,.load 44 (.tmp 155),44,"law.go:69", #[⟨1,.data⟩],none⟩,
 ⟨some 157,.load 32 (.tmp 11),32,"law.go:69", #[],none⟩,
 ⟨some 158,.call { callee := .value (.func 61),args := #[.tmp 156,.tmp 157],argTypes := #[44,32] },64,"law.go:69", #[⟨2,.data⟩,⟨3,.data⟩],none⟩,
 ⟨some 153,.move (.tmp 158),64,"law.go:69", #[⟨4,.data⟩],none⟩,
 ⟨some 159,.extract (.tmp 153) 0,63,"law.go:69", #[⟨5,.data⟩],none⟩,
 ⟨some 160,.extract (.tmp 153) 1,25,"law.go:69", #[⟨5,.data⟩,⟨9,.gcOnly .lateStores⟩],none⟩,
 ⟨some 20,.alloc 63,0,"law.go:69", #[],none⟩,
 ⟨none,.store 63 (.tmp 20) (.tmp 159),0,"law.go:69", #[⟨8,.data⟩,⟨6,.data⟩,⟨4,.chain⟩,⟨0,.phase⟩,⟨1,.phase⟩,⟨2,.phase⟩,⟨3,.phase⟩,⟨4,.phase⟩,⟨5,.phase⟩,⟨6,.phase⟩,⟨7,.textOnly .lateStores⟩,⟨8,.phase⟩],none⟩,
 ⟨some 21,.assign (.tmp 160),25,"law.go:69", #[⟨7,.data⟩,⟨9,.chain⟩,⟨0,.phase⟩,⟨1,.phase⟩,⟨2,.phase⟩,⟨3,.phase⟩,⟨4,.phase⟩,⟨5,.phase⟩,⟨6,.phase⟩,⟨7,.phase⟩,⟨8,.phase⟩,⟨9,.phase⟩],none⟩]
theorem do_r27 {w0 W:World} {d r kb qb hb k9 q9:Nat} {M N1:DiskM} {R:RingM} {x y ks vs:Value} {S:Nat->Prop} {Os:List Og} {SZ:Int} {RT:By} {Q:Exit->Act->World->Prop} {u0 u1 u2 u3 u5 u6 u7 u8 u9 u10 u12 u13 u14 u15 u16 u17 u18 u19 u20 u21 u22 u23 u24 u25 u26 u27 u28 u29 u30 u31 u32 u33 u34 u35 u36 u37 u38 u39 u40 u41 u42 u43 u44 u45 u46 u47 u48 u49 u50 u51 u52 u53 u54 u55 u56 u57 u58 u59 u60 u61 u62 u63 u64 u65 u66 u67 u68 u69 u70 u71 u72 u73 u74 u75 u76 u77 u78 u79 u80 u81 u82 u83 u84 u85 u86 u87 u88 u89 u90 u91 u92 u93 u94 u95 u96 u97 u98 u99 u100 u101 u102 u103 u104 u105 u106 u107 u108 u109 u110 u111 u112 u113 u114 u115 u116 u117 u118 u119 u120 u121 u122 u123 u124 u125 u126 u127 u128 u129 u130 u131 u132 u133 u134 u135 u136 u137 u138 u139 u140 u141 u142 u143 u144 u145 u146 u147 u148 u149 u150 u151 u152 u153 u154 u155 u156 u157 u158 u159 u160 u161 u162 u163 u164 u165 u166 u167 u168:Value} (h:Owg w0 W d N1 (Og.rringF r x y M q9 ks vs R::Os)) (hroot:RT.length=32) (hc:M.files.length+M.loose.length<300000000) (m1:kbO kb (.pointer (some ⟨k9,0,none⟩))∈Os) (m2:qbO qb (.pointer (some ⟨q9,0,none⟩))∈Os) (m3:Og.blk hb (headC SZ RT) 32∈Os)
  (HP:∀ c a (k:Nat) v w,Q (.panic c) (Act.put a (some k) v) w->Q (.panic c) a w) (HQ:∀ (v154 v155 v156 v157 v158 v153 v159 v160 v20:Value) (w':World),(fun w'=>∃ sb a6 n6 c6 x1 y1 vs1,v20 = .pointer (some ⟨sb,0,none⟩)/\Owg w0 w' d N1 (Og.blk sb (signedC (ansZ R M SZ RT) (ansR R M SZ RT) (ansI R M SZ RT) (ansS R M SZ RT) (.slice a6 n6 c6)) 63::Og.rringF r x1 y1 (R.sign M SZ RT).2.2.2 q9 ks vs1 (R.sign M SZ RT).2.2.1::Os)/\Row w' 30 32 (.slice a6 n6 c6) (hcells (ansP R M SZ RT))/\Kept (fun k=>k=r\/k=q9) W w') w'->Q .normal ⟨List.toArray (u0::u1::u2::u3::(.pointer (some ⟨qb,0,none⟩))::u5::u6::u7::u8::u9::u10::(.pointer (some ⟨hb,0,none⟩))::u12::u13::u14::u15::u16::u17::u18::u19::v20::(.int .i64 (R.sign M SZ RT).1)::u22::u23::u24::u25::u26::u27::u28::u29::u30::u31::u32::u33::u34::u35::u36::u37::u38::u39::u40::u41::u42::u43::u44::u45::u46::u47::u48::u49::u50::u51::u52::u53::u54::u55::u56::u57::u58::u59::u60::u61::u62::u63::u64::u65::u66::u67::u68::u69::u70::u71::u72::u73::u74::u75::u76::u77::u78::u79::u80::u81::u82::u83::u84::u85::u86::u87::u88::u89::u90::u91::u92::u93::u94::u95::u96::u97::u98::u99::u100::u101::u102::u103::u104::u105::u106::u107::u108::u109::u110::u111::u112::u113::u114::u115::u116::u117::u118::u119::u120::u121::u122::u123::u124::u125::u126::u127::u128::u129::u130::u131::u132::u133::u134::u135::u136::u137::u138::u139::u140::u141::u142::u143::u144::u145::u146::u147::u148::u149::u150::u151::u152::v153::v154::v155::v156::v157::v158::v159::v160::u161::u162::u163::u164::u165::u166::u167::u168::[]),[]⟩ w') :
  Code.wp Tryz.prog (Code.region 27 doOps27 true) Q ⟨List.toArray (u0::u1::u2::u3::(.pointer (some ⟨qb,0,none⟩))::u5::u6::u7::u8::u9::u10::(.pointer (some ⟨hb,0,none⟩))::u12::u13::u14::u15::u16::u17::u18::u19::u20::u21::u22::u23::u24::u25::u26::u27::u28::u29::u30::u31::u32::u33::u34::u35::u36::u37::u38::u39::u40::u41::u42::u43::u44::u45::u46::u47::u48::u49::u50::u51::u52::u53::u54::u55::u56::u57::u58::u59::u60::u61::u62::u63::u64::u65::u66::u67::u68::u69::u70::u71::u72::u73::u74::u75::u76::u77::u78::u79::u80::u81::u82::u83::u84::u85::u86::u87::u88::u89::u90::u91::u92::u93::u94::u95::u96::u97::u98::u99::u100::u101::u102::u103::u104::u105::u106::u107::u108::u109::u110::u111::u112::u113::u114::u115::u116::u117::u118::u119::u120::u121::u122::u123::u124::u125::u126::u127::u128::u129::u130::u131::u132::u133::u134::u135::u136::u137::u138::u139::u140::u141::u142::u143::u144::u145::u146::u147::u148::u149::u150::u151::u152::u153::u154::u155::u156::u157::u158::u159::u160::u161::u162::u163::u164::u165::u166::u167::u168::[]),[]⟩ W:=by
 have HQ:=Lib.hid HQ
 unfold doOps27
 have lY:=Lib.hid (show ∀ v:Value,(signedC (ansZ R M SZ RT) (ansR R M SZ RT) (ansI R M SZ RT) (ansS R M SZ RT) v).length=36 from fun v=>signedC_len (ansR_len R M SZ hroot))
 have hps:=fun (W1:World) (Os:List Og) (h:Owg w0 W1 d N1 (Og.rringF r x y M q9 ks vs R::Os))=>h.rsignA SZ RT hroot hc
 obtain⟨CK,hCK⟩:∃ CK,headC SZ RT=CK:=⟨_,rfl⟩
 have lK:CK.length=33:=by rw[<- hCK];exact headC_len hroot
 have HIK:=Lib.hid (show(Tryz.prog.info? 32).map (·.size)=some CK.length by rw[lK];exact info_head)
 rw[show headV SZ RT = .agg CK.toArray from by rw[<- hCK]]at hps
 rw[hCK]at m3
 have HPS:=Lib.hid hps
 have hS:=s26_next (s26_of h (List.mem_cons_of_mem _ m1) (List.mem_cons_of_mem _ m2) (List.mem_cons_of_mem _ m3)) (Kept.refl (fun _=>False) W).drew
 have H5:=Lib.hid (h.same (Kept.refl (fun _=>False) W).drew)
 have hk0:Kept (fun _=>False) W W.drew:=(Kept.refl _ _).drew
 have hz0:=hk0.size
 clear hps hCK h
 refine wp_region_held_drew (S:=S26 kb qb hb k9 q9 CK) (by kernel_rfl) hS (fun hH0=>?_)
 generalize World.drew W=W5 at *
 refine tp 0 hH0 HP ?_
 refine tp 1 hH0 HP ?_
 refine tp 2 hH0 HP ?_ (hy:=by (refine Or.inl ⟨by rfl,fun w hSw=>?_⟩;unfold S26 at hSw;obtain⟨s1,s2,s3,s4⟩:=hSw;go_simp;(try with_reducible rfl)))
 refine tky 3 rfl (fun _ _ _ h=>HP _ _ _ _ _ h) (yieldsIf_load_mid (by rfl) _ _ rfl hb 0 rfl CK _ (fun w z=>z.2.2.1) Tryz.underlying32 rfl HIK.out) hH0 ?_
 refine wpAnyH_ready (rs:=[4,8]) (by kernel_rfl) (by simp) ?_
 refine AllReadyH.cons (o:=⟨some 158,.call { callee := .value (.func 61),args := #[.tmp 156,.tmp 157],argTypes := #[44,32] },64,"law.go:69", #[⟨2,.data⟩,⟨3,.data⟩],none⟩) rfl (fun K hK=>?_) ?_
 ·go_simp
  refine(HPS.out _ _ H5.out).mono ?_
  rintro e w6 ⟨v1,rfl,hr6,ho6,x1,y1,vs1,h6⟩
  obtain⟨a6,n6,c6,rfl,-⟩:=hr6.form (by omega)
  refine hK.out _ _ (s26_of h6 (List.mem_cons_of_mem _ m1) (List.mem_cons_of_mem _ m2) (List.mem_cons_of_mem _ m3)) (fun hH1=>?_)
  clear hK K
  try simp only[lyA,lyB,lyC,lyD]
  refine tp 5 hH1 HP ?_
  refine tp 6 hH1 HP ?_
  refine tp 7 hH1 HP ?_
  refine rd1 8 (fun K hK=>?_)
  go_simp
  refine hK.out _ _ (s26_next hH1 ((Kept.refl _ _).alloc _)) (fun hH2=>?_)
  clear hK K
  try simp only[lyA,lyB,lyC,lyD]
  generalize hWa:World.alloc _ _=Wa at hH2 ⊢
  have h8:=h6.place (w':=Wa) (by rw[signed0_eq];exact hWa)
  have hka:Kept (fun _=>False) w6 Wa:=by rw[<- hWa];exact(Kept.refl _ _).alloc _
  obtain⟨hth,h9⟩:=h8.write (Y:=signedC (ansZ R M SZ RT) (ansR R M SZ RT) (ansI R M SZ RT) (ansS R M SZ RT) (.slice a6 n6 c6)) (lY.out _)
  have hrow9:=(hr6.kept hka (fun _ _=>id)).kept (kept_setCells Wa w6.heap.size 0 (signedC (ansZ R M SZ RT) (ansR R M SZ RT) (ansI R M SZ RT) (ansS R M SZ RT) (.slice a6 n6 c6))) (fun k e e2=>(hr6.kept hka (fun _ _=>id)).ne_blk e (h8.has (x:=Og.blk w6.heap.size signed0C 63) (List.mem_cons_self ..)) (by decide) e2)
  have hkk:=(((hk0.mono (fun _ _=>False.elim)).trans ho6).trans (hka.mono (fun _ _=>False.elim)):Kept (fun k=>k=r\/k=q9) W Wa).then_ (kept_setCells Wa w6.heap.size 0 (signedC (ansZ R M SZ RT) (ansR R M SZ RT) (ansI R M SZ RT) (ansS R M SZ RT) (.slice a6 n6 c6))) (fun i hi e=>by have:=ho6.size;have:=hk0.size;omega)
  refine rd1 9 (fun K hK=>?_)
  rw[if_pos (by rfl)]
  refine wp_store_mid _ _ _ rfl w6.heap.size 0 (signedC (ansZ R M SZ RT) (ansR R M SZ RT) (ansI R M SZ RT) (ansS R M SZ RT) (.slice a6 n6 c6)).toArray rfl rfl hth (by rw[List.size_toArray];exact info_sized (lY.out _)) (all_oneCell_toArray (signedC_one rfl)) ?_
  simp only[Act.put]
  refine hK.out _ _ (s26_of h9 (List.mem_cons_of_mem _ (List.mem_cons_of_mem _ m1)) (List.mem_cons_of_mem _ (List.mem_cons_of_mem _ m2)) (List.mem_cons_of_mem _ (List.mem_cons_of_mem _ m3))) (fun hH3=>?_)
  clear hK K
  try simp only[lyA,lyB,lyC,lyD]
  refine tp 10 hH3 HP ?_
  refine dn ?_
  refine HQ.out _ _ _ _ _ _ _ _ _ _ ?_
  exact⟨_,a6,n6,c6,x1,y1,vs1,rfl,h9,hrow9,hkk⟩
 refine AllReadyH.cons (o:=⟨some 20,.alloc 63,0,"law.go:69", #[],none⟩) rfl (fun K hK=>?_) AllReadyH.nil
 go_simp
 refine hK.out _ _ (s26_next hH0 ((Kept.refl _ _).alloc _)) (fun hH1=>?_)
 clear hK K
 try simp only[lyA,lyB,lyC,lyD]
 generalize hWa:World.alloc _ _=Wa at hH1 ⊢
 have h8:=(H5.out.place (w':=Wa) (by rw[signed0_eq];exact hWa)).two
 have hka:Kept (fun _=>False) W5 Wa:=by rw[<- hWa];exact(Kept.refl _ _).alloc _
 refine rd1 4 (fun K hK=>?_)
 go_simp
 refine(HPS.out _ _ h8).mono ?_
 rintro e w6 ⟨v1,rfl,hr6,ho6,x1,y1,vs1,h6⟩
 obtain⟨a6,n6,c6,rfl,-⟩:=hr6.form (by omega)
 refine hK.out _ _ (s26_of h6 (List.mem_cons_of_mem _ (List.mem_cons_of_mem _ m1)) (List.mem_cons_of_mem _ (List.mem_cons_of_mem _ m2)) (List.mem_cons_of_mem _ (List.mem_cons_of_mem _ m3))) (fun hH2=>?_)
 clear hK K
 try simp only[lyA,lyB,lyC,lyD]
 refine tp 5 hH2 HP ?_
 refine tp 6 hH2 HP ?_
 refine tp 7 hH2 HP ?_
 have h7:=h6.two
 obtain⟨hth,h9⟩:=h7.write (Y:=signedC (ansZ R M SZ RT) (ansR R M SZ RT) (ansI R M SZ RT) (ansS R M SZ RT) (.slice a6 n6 c6)) (lY.out _)
 have hrow9:=hr6.kept (kept_setCells w6 W5.heap.size 0 (signedC (ansZ R M SZ RT) (ansR R M SZ RT) (ansI R M SZ RT) (ansS R M SZ RT) (.slice a6 n6 c6))) (fun k e e2=>hr6.ne_blk e (h7.has (x:=Og.blk W5.heap.size signed0C 63) (List.mem_cons_self ..)) (by decide) e2)
 have hkk:=(((hk0.mono (fun _ _=>False.elim)).trans (hka.mono (fun _ _=>False.elim))).trans ho6:Kept (fun k=>k=r\/k=q9) W w6).then_ (kept_setCells w6 W5.heap.size 0 (signedC (ansZ R M SZ RT) (ansR R M SZ RT) (ansI R M SZ RT) (ansS R M SZ RT) (.slice a6 n6 c6))) (fun i hi e=>by have:=hk0.size;omega)
 refine rd1 9 (fun K hK=>?_)
 rw[if_pos (by rfl)]
 refine wp_store_mid _ _ _ rfl W5.heap.size 0 (signedC (ansZ R M SZ RT) (ansR R M SZ RT) (ansI R M SZ RT) (ansS R M SZ RT) (.slice a6 n6 c6)).toArray rfl rfl hth (by rw[List.size_toArray];exact info_sized (lY.out _)) (all_oneCell_toArray (signedC_one rfl)) ?_
 simp only[Act.put]
 refine hK.out _ _ (s26_of h9 (List.mem_cons_of_mem _ (List.mem_cons_of_mem _ m1)) (List.mem_cons_of_mem _ (List.mem_cons_of_mem _ m2)) (List.mem_cons_of_mem _ (List.mem_cons_of_mem _ m3))) (fun hH3=>?_)
 clear hK K
 try simp only[lyA,lyB,lyC,lyD]
 refine tp 10 hH3 HP ?_
 refine dn ?_
 refine HQ.out _ _ _ _ _ _ _ _ _ _ ?_
 exact⟨_,a6,n6,c6,x1,y1,vs1,rfl,h9,hrow9,hkk⟩
section
variable {w0 w w' : World} {d r kb qb n : Nat} {M : DiskM} {o : Option RingM} {X C : List Value} {k z oo N Ma : Int} {s : ByteArray}
theorem do_low {c:Int} (hp:PlayG w0 w d r kb qb M M [] o) (hbd:Bd M n) (hn:n<=1000000) (hX:ActL X k z oo N Ma C s) (hs:s.size<=300) (hk:k%13=c) (hc:0<=c/\c<=4) :
  Calls Tryz.prog 19 #[.agg X.toArray,.pointer (some ⟨d,0,none⟩),.pointer (some ⟨r,0,none⟩),.pointer (some ⟨kb,0,none⟩),.pointer (some ⟨qb,0,none⟩)] w (DoPost w0 d r kb qb (n+2)):=by
 have HX:=Lib.hid hX
 have lX:=hX.len
 have ht:k.tmod 13=c:=by rw[Int.tmod_eq_emod_of_nonneg hX.k0.1];exact hk
 obtain⟨H,hH⟩:∃ H,headC ((hdA z oo).1:Int) (hdA z oo).2=H:=⟨_,rfl⟩
 have lH:H.length=33:=by rw[<- hH];exact headC_len (rootA_len oo)
 have HHd:=Lib.hid (fun w'=>(by rw[<- hH];exact act_head w' hX:Calls Tryz.prog 53 #[.agg X.toArray] w' fun e w''=>e = .returned (.agg H.toArray)/\Kept (fun _=>False) w' w''))
 have HPP:=Lib.hid (hp.put X)
 have HIX:=Lib.hid (show(Tryz.prog.info? 53).map (·.size)=some X.length by rw[hX.len];exact c_act34')
 have HIH:=Lib.hid (show(Tryz.prog.info? 32).map (·.size)=some H.length by rw[lH];exact info_head)
 have HBD:=Lib.hid hbd
 have HHE:=Lib.hid hH
 obtain⟨W,hW⟩:∃ W,w.alloc (.cells X.toArray 53)=W:=⟨_,rfl⟩
 rw[hW]at HPP
 have rX:=Blk.range0 (HPP.out.has (g:=Og.blk w.heap.size X 53) (by simp))
 clear hp hbd hH
 go_enter Tryz.func19,Tryz.ntmps19
 go_upto_region 1 with fail
 generalize hWx:World.alloc _ _=Wx
 obtain rfl:W=Wx:=by rw[<- hW,<- hWx]
 clear hW hWx
 go_upto_region 2 with (first
  | ((with_reducible show wpList _ _ _ (⟨some 22,_,_,_,_,_⟩::_) _ _);refine wpList_load_mid rfl 53 _ rfl w.heap.size 0 rfl X _ rX Tryz.underlying53 rfl HIX.out ?_)
  | (go_at_call 53;refine(HHd.out _).mono ?_;rintro e w2 ⟨rfl,hk2⟩;have HP2:=Lib.hid (HPP.out.same hk2);clear hk2)
  | ((with_reducible show wpList _ _ _ (⟨none,.store _ (.tmp 11) _,_,_,_,_⟩::_) _ _);refine wpList_store_mid rfl 32 _ _ rfl w2.heap.size 0 H.toArray rfl rfl ?hth ?hi ?h1 ?_))
 case hth=>exact(hd_fresh w2 lH).2.2
 case hi=>first|exact(by rw[List.size_toArray];exact HIH.out)|simpa using HIH.out
 case h1=>first|exact all_oneCell_toArray (fun y hy=>by rw[<- HHE.out]at hy;exact head_oneCell y hy)|exact fun y hy=>by rw[<- HHE.out]at hy;exact head_oneCell y hy
 simp only[Act.put]
 generalize hW4:World.setCells _ w2.heap.size 0 _=W4
 have HP4:Hid (PlayG w0 W4 d r kb qb M M (doE w.heap.size w2.heap.size X ((hdA z oo).1:Int) (hdA z oo).2) o):=Lib.hid (by
  have e:doE w.heap.size w2.heap.size X ((hdA z oo).1:Int) (hdA z oo).2=[Og.blk w2.heap.size H 32,Og.blk w.heap.size X 53]:=by unfold doE;rw[HHE.out]
  rw[e,<- hW4]
  exact HP2.out.put2 lH)
 clear hW4
 generalize w2.heap.size=hb at *
 have c0:=HP4.out.xcell HX.out.c0
 clear rX HPP HP2 HHd HIX
 have e5:(c==(5:Int))=false:=beq_eq_false_iff_ne.2 (by omega)
 have e6:(c==(6:Int))=false:=beq_eq_false_iff_ne.2 (by omega)
 have e7:(c==(7:Int))=false:=beq_eq_false_iff_ne.2 (by omega)
 have e8:(c==(8:Int))=false:=beq_eq_false_iff_ne.2 (by omega)
 have e9:(c==(9:Int))=false:=beq_eq_false_iff_ne.2 (by omega)
 have e10:(c==(10:Int))=false:=beq_eq_false_iff_ne.2 (by omega)
 have e11:(c==(11:Int))=false:=beq_eq_false_iff_ne.2 (by omega)
 have e12:(c==(12:Int))=false:=beq_eq_false_iff_ne.2 (by omega)
 obtain⟨SZ,hSZ⟩:∃ SZ:Int,((hdA z oo).1:Int)=SZ:=⟨_,rfl⟩
 obtain⟨RT,hRT⟩:∃ RT:By,(hdA z oo).2=RT:=⟨_,rfl⟩
 rw[hSZ,hRT]at HP4
 have HR32:=Lib.hid (by rw[<- hRT];exact rootA_len oo:RT.length=32)
 clear hSZ hRT
 cases o with
 | none =>
  have cq:=HP4.out.none_
  have HDN:=Lib.hid (HP4.out.done (n:=n+2) (HBD.out.more (by omega)))
  clear HP4
  go_wp2_with fail
  go_ret
  exact HDN.out
 | some R =>
  obtain⟨x0,y0,ks,vs,k9,q9,S9,h0⟩:=HP4.out.some_
  have ck:=Blk.cell (h0.has (x:=kbO kb (.pointer (some ⟨k9,0,none⟩))) (by simp)) (i:=0) rfl
  have cq:=Blk.cell (h0.has (x:=qbO qb (.pointer (some ⟨q9,0,none⟩))) (by simp)) (i:=0) rfl
  have hrr:=h0.has (x:=Og.rringF r x0 y0 M q9 ks vs R) (by simp)
  have HLT:=Lib.hid (And.intro (hrr.1.lt (Or.inl rfl)) (hrr.2.lt (Or.inl rfl)))
  have HRM:=Lib.hid (HP4.out.room HBD.out (by omega))
  have H0:=Lib.hid h0
  have HB2:=Lib.hid (show Bd (R.sign M (SZ) (RT)).2.2.2 (n+2)from(HBD.out.sign R (SZ) (RT)).more (by omega))
  have ve:((R.sign M (SZ) (RT)).1==(R.sign M (SZ) (RT)).1)=true:=by simp
  clear h0 hrr HP4
  go_upto_region 26 with fail
  clear ck cq
  refine do_r26 (qb:=qb) (q9:=q9) (hb:=hb) (kb:=kb) (k9:=k9) (S:=S9) (R:=R) (x:=x0) (y:=y0) (ks:=ks) (vs:=vs) (r:=r) (N1:=M) (SZ:=SZ) (RT:=RT) H0.out HR32.out HRM.out (List.mem_cons_of_mem _ (List.mem_cons_self ..)) (List.mem_cons_of_mem _ (List.mem_cons_of_mem _ (List.mem_cons_self ..))) (List.mem_cons_of_mem _ (List.mem_cons_of_mem _ (List.mem_cons_of_mem _ (List.mem_cons_self ..)))) (fun _ _ _ _ _ h=>h) ?_
  rintro _ _ _ _ _ _ _ _ v18 w7 ⟨sb,a6,n6,c6,S1,rfl,h7,hrow7,hown7⟩
  have H7:=Lib.hid (h7.perm (List.perm_middle (l₁:=[_,_])))
  have HR7:=Lib.hid (And.intro hrow7 (fun b e=>(⟨fun z=>by have:=hown7 b e;have:=HLT.out.1;omega,fun z=>by have:=hown7 b e;have:=HLT.out.2;omega⟩:b≠r/\b≠q9)))
  clear h7 hrow7 hown7 H0
  go_upto_region 27 with fail
  refine do_r27 (qb:=qb) (q9:=q9) (hb:=hb) (kb:=kb) (S:=S9) (k9:=k9) (SZ:=SZ) (RT:=RT) H7.out HR32.out HRM.out (List.mem_cons_of_mem _ (List.mem_cons_of_mem _ (List.mem_cons_self ..))) (List.mem_cons_of_mem _ (List.mem_cons_of_mem _ (List.mem_cons_of_mem _ (List.mem_cons_self ..)))) (List.mem_cons_of_mem _ (List.mem_cons_of_mem _ (List.mem_cons_of_mem _ (List.mem_cons_of_mem _ (List.mem_cons_self ..))))) (fun _ _ _ _ _ h=>h) ?_
  rintro _ _ _ _ _ _ _ _ v20 w8 ⟨sb2,a8,n8,c8,x1,y1,vs1,rfl,h8,hrow8,hk8⟩
  have hro7:=HR7.out.1.kept hk8 (fun b e z=>z.elim (HR7.out.2 b e).1 (HR7.out.2 b e).2)
  obtain⟨hp1,hp2⟩:=ansP_ok R M (SZ) (RT)
  have hr32:=ansR_len R M (SZ) HR32.out
  have HSM:=Lib.hid (rsame_any w8 (ansZ R M (SZ) (RT)) (ansR R M (SZ) (RT)) (ansI R M (SZ) (RT)) (ansS R M (SZ) (RT)) _ _ _ hr32 hro7.view hrow8.view hp1 hp2)
  have hpg:=PlayG.both (h8.sub ((((List.Sublist.refl _).cons _).cons_cons _).cons _))
  have HPG:=Lib.hid hpg
  obtain⟨Y1,hY1⟩:∃ Y1,signedC (ansZ R M (SZ) (RT)) (ansR R M (SZ) (RT)) (ansI R M (SZ) (RT)) (ansS R M (SZ) (RT)) (.slice a6 n6 c6)=Y1:=⟨_,rfl⟩
  obtain⟨Y2,hY2⟩:∃ Y2,signedC (ansZ R M (SZ) (RT)) (ansR R M (SZ) (RT)) (ansI R M (SZ) (RT)) (ansS R M (SZ) (RT)) (.slice a8 n8 c8)=Y2:=⟨_,rfl⟩
  have l1:Y1.length=36:=by rw[<- hY1];exact signedC_len hr32
  have l2:Y2.length=36:=by rw[<- hY2];exact signedC_len hr32
  rw[hY1,hY2]at h8
  rw[show signedV (ansZ R M (SZ) (RT)) (ansR R M (SZ) (RT)) (ansI R M (SZ) (RT)) (ansS R M (SZ) (RT)) (.slice a6 n6 c6) = .agg Y1.toArray from by rw[<- hY1],show signedV (ansZ R M (SZ) (RT)) (ansR R M (SZ) (RT)) (ansI R M (SZ) (RT)) (ansS R M (SZ) (RT)) (.slice a8 n8 c8) = .agg Y2.toArray from by rw[<- hY2]]at HSM
  have rY1:=Blk.range0 (h8.has (x:=Og.blk sb Y1 63) (by simp))
  have rY2:=Blk.range0 (h8.has (x:=Og.blk sb2 Y2 63) (by simp))
  have HI1:=Lib.hid (info_sized l1)
  have HI2:=Lib.hid (info_sized l2)
  clear h8 hrow8 hk8 hro7 hp1 hp2 hpg hY1 hY2 l1 l2 H7 HR7
  generalize(R.sign M (SZ) (RT)).1=cd at ve ⊢
  go_wp2_with (first
   | ((with_reducible show wpList _ _ _ (⟨some 165,_,_,_,_,_⟩::_) _ _);refine BigFrame.wpList_want (by rfl) (fun K hK=>?_);refine wp_load_mid _ _ rfl sb 0 rfl Y1 _ rY1 Tryz.underlying63 rfl HI1.out ?_;refine hK _ _ ?_;clear hK K)
   | ((with_reducible show wpList _ _ _ (⟨some 166,_,_,_,_,_⟩::_) _ _);refine BigFrame.wpList_want (by rfl) (fun K hK=>?_);refine wp_load_mid _ _ rfl sb2 0 rfl Y2 _ rY2 Tryz.underlying63 rfl HI2.out ?_;refine hK _ _ ?_;clear hK K)
   | (go_at_call 62;refine HSM.out.mono ?_;rintro e w9 ⟨rfl,hk9⟩;have HDN:=Lib.hid ((HPG.out.same hk9).done HB2.out);clear hk9))
  go_ret
  exact HDN.out
end
section
variable {w0 w w' : World} {d r kb qb n : Nat} {M : DiskM} {o : Option RingM} {X C : List Value} {k z oo N Ma : Int} {s : ByteArray}
theorem PlayG.head {xb hb:Nat} {s1 s2:Int} {r1 r2:By} (h:PlayG w0 w d r kb qb M M (doE xb hb X s1 r1) o) (h1:r1.length=32) (h2:r2.length=32):w.there hb 0 (headC s2 r2).toArray.size/\PlayG w0 (w.setCells hb 0 (headC s2 r2)) d r kb qb M M (doE xb hb X s2 r2) o:=by
 have hb0:Blk w hb (headC s1 r1) 32:=h.has (g:=Og.blk hb (headC s1 r1) 32) (by simp)
 have hs:=hb0.setCells 0 (headC s2 r2) (by rw[headC_len h1,headC_len h2];omega)
 rw[splice_whole (by rw[headC_len h1,headC_len h2])]at hs
 have hk:=kept_setCells w hb 0 (headC s2 r2)
 refine⟨hb0.there 0 _ (by rw[List.size_toArray,headC_len h1,headC_len h2];omega),?_⟩
 cases h with
 | nor h=>exact .nor (((h.perm (List.perm_middle (l₁:=[_,_,_]))).turn hk hs).perm (List.perm_middle (l₁:=[_,_,_])).symm)
 | both h=>exact .both (((h.perm (List.perm_middle (l₁:=[_,_,_,_]))).turn hk hs).perm (List.perm_middle (l₁:=[_,_,_,_])).symm)
theorem do_5 (hp:PlayG w0 w d r kb qb M M [] o) (hbd:Bd M n) (hn:n<=1000000) (hX:ActL X k z oo N Ma C s) (hs:s.size<=300) (hk:k%13=5) :
  Calls Tryz.prog 19 #[.agg X.toArray,.pointer (some ⟨d,0,none⟩),.pointer (some ⟨r,0,none⟩),.pointer (some ⟨kb,0,none⟩),.pointer (some ⟨qb,0,none⟩)] w (DoPost w0 d r kb qb (n+2)):=by
 have HX:=Lib.hid hX
 have lX:=hX.len
 have ht:k.tmod 13=5:=by rw[Int.tmod_eq_emod_of_nonneg hX.k0.1];exact hk
 obtain⟨H,hH⟩:∃ H,headC ((hdA z oo).1:Int) (hdA z oo).2=H:=⟨_,rfl⟩
 have lH:H.length=33:=by rw[<- hH];exact headC_len (rootA_len oo)
 have HHd:=Lib.hid (fun w'=>(by rw[<- hH];exact act_head w' hX:Calls Tryz.prog 53 #[.agg X.toArray] w' fun e w''=>e = .returned (.agg H.toArray)/\Kept (fun _=>False) w' w''))
 have HPP:=Lib.hid (hp.put X)
 have HIX:=Lib.hid (show(Tryz.prog.info? 53).map (·.size)=some X.length by rw[hX.len];exact c_act34')
 have HIH:=Lib.hid (show(Tryz.prog.info? 32).map (·.size)=some H.length by rw[lH];exact info_head)
 have HBD:=Lib.hid hbd
 have HHE:=Lib.hid hH
 obtain⟨W,hW⟩:∃ W,w.alloc (.cells X.toArray 53)=W:=⟨_,rfl⟩
 rw[hW]at HPP
 have rX:=Blk.range0 (HPP.out.has (g:=Og.blk w.heap.size X 53) (by simp))
 clear hp hbd hH
 go_enter Tryz.func19,Tryz.ntmps19
 go_upto_region 1 with fail
 generalize hWx:World.alloc _ _=Wx
 obtain rfl:W=Wx:=by rw[<- hW,<- hWx]
 clear hW hWx
 go_upto_region 2 with (first
  | ((with_reducible show wpList _ _ _ (⟨some 22,_,_,_,_,_⟩::_) _ _);refine wpList_load_mid rfl 53 _ rfl w.heap.size 0 rfl X _ rX Tryz.underlying53 rfl HIX.out ?_)
  | (go_at_call 53;refine(HHd.out _).mono ?_;rintro e w2 ⟨rfl,hk2⟩;have HP2:=Lib.hid (HPP.out.same hk2);clear hk2)
  | ((with_reducible show wpList _ _ _ (⟨none,.store _ (.tmp 11) _,_,_,_,_⟩::_) _ _);refine wpList_store_mid rfl 32 _ _ rfl w2.heap.size 0 H.toArray rfl rfl ?hth ?hi ?h1 ?_))
 case hth=>exact(hd_fresh w2 lH).2.2
 case hi=>first|exact(by rw[List.size_toArray];exact HIH.out)|simpa using HIH.out
 case h1=>first|exact all_oneCell_toArray (fun y hy=>by rw[<- HHE.out]at hy;exact head_oneCell y hy)|exact fun y hy=>by rw[<- HHE.out]at hy;exact head_oneCell y hy
 simp only[Act.put]
 generalize hW4:World.setCells _ w2.heap.size 0 _=W4
 have HP4:Hid (PlayG w0 W4 d r kb qb M M (doE w.heap.size w2.heap.size X ((hdA z oo).1:Int) (hdA z oo).2) o):=Lib.hid (by
  have e:doE w.heap.size w2.heap.size X ((hdA z oo).1:Int) (hdA z oo).2=[Og.blk w2.heap.size H 32,Og.blk w.heap.size X 53]:=by unfold doE;rw[HHE.out]
  rw[e,<- hW4]
  exact HP2.out.put2 lH)
 clear hW4
 generalize w2.heap.size=hb at *
 have c0:=HP4.out.xcell HX.out.c0
 clear rX HPP HP2 HHd HIX
 obtain⟨size,root,hroot,-,-,hC⟩:=HX.out.head
 have HR32:=Lib.hid hroot
 have hrx:W4.rangeAt w.heap.size 3 C:=by
  have hb:=Blk.rangeAt (HP4.out.has (g:=Og.blk w.heap.size X 53) (by simp)) 3 33
  rwa[HX.out.c3]at hb
 have lC:C.length=33:=by rw[hC];exact headC_len hroot
 have HIC:=Lib.hid (show(Tryz.prog.info? 32).map (·.size)=some C.length by rw[lC];exact info_head)
 have hph:=HP4.out.head (s2:=size) (r2:=root) (rootA_len oo) hroot
 rw[<- hC]at hph
 have HPH:=Lib.hid hph
 have HCC:=Lib.hid hC
 clear hph hC HP4 lC hroot
 go_upto_region 24 with (first
  | ((with_reducible show wpList _ _ _ (⟨some 30,_,_,_,_,_⟩::_) _ _);refine wpList_load_mid rfl 32 _ rfl w.heap.size 3 rfl C _ hrx Tryz.underlying32 rfl HIC.out ?_)
  | ((with_reducible show wpList _ _ _ (⟨none,.store _ (.tmp 11) _,_,_,_,_⟩::_) _ _);refine wpList_store_mid rfl 32 _ _ rfl hb 0 C.toArray rfl rfl ?hth5 ?hi5 ?h15 ?_))
 case hth5=>exact HPH.out.1
 case hi5=>first|exact(by rw[List.size_toArray];exact HIC.out)|simpa using HIC.out
 case h15=>first|exact all_oneCell_toArray (fun y hy=>by rw[HCC.out]at hy;exact head_oneCell y hy)|exact fun y hy=>by rw[HCC.out]at hy;exact head_oneCell y hy
 simp only[Act.put]
 have HP6:=Lib.hid HPH.out.2
 generalize World.setCells W4 hb 0 C=W6 at HP6 ⊢
 clear HPH hrx c0 HIC
 cases o with
 | none =>
  have cq:=HP6.out.none_
  have HDN:=Lib.hid (HP6.out.done (n:=n+2) (HBD.out.more (by omega)))
  clear HP6
  go_wp2_with fail
  go_ret
  exact HDN.out
 | some R =>
  obtain⟨x0,y0,ks,vs,k9,q9,S9,h0⟩:=HP6.out.some_
  have ck:=Blk.cell (h0.has (x:=kbO kb (.pointer (some ⟨k9,0,none⟩))) (by simp)) (i:=0) rfl
  have cq:=Blk.cell (h0.has (x:=qbO qb (.pointer (some ⟨q9,0,none⟩))) (by simp)) (i:=0) rfl
  have hrr:=h0.has (x:=Og.rringF r x0 y0 M q9 ks vs R) (by simp)
  have HLT:=Lib.hid (And.intro (hrr.1.lt (Or.inl rfl)) (hrr.2.lt (Or.inl rfl)))
  have HRM:=Lib.hid (HP6.out.room HBD.out (by omega))
  have H0:=Lib.hid h0
  have HB2:=Lib.hid (show Bd (R.sign M (size) (root)).2.2.2 (n+2)from(HBD.out.sign R (size) (root)).more (by omega))
  have ve:((R.sign M (size) (root)).1==(R.sign M (size) (root)).1)=true:=by simp
  clear h0 hrr HP6
  go_upto_region 26 with fail
  clear ck cq
  refine do_r26 (qb:=qb) (q9:=q9) (hb:=hb) (kb:=kb) (k9:=k9) (S:=S9) (R:=R) (x:=x0) (y:=y0) (ks:=ks) (vs:=vs) (r:=r) (N1:=M) (SZ:=size) (RT:=root) H0.out HR32.out HRM.out (List.mem_cons_of_mem _ (List.mem_cons_self ..)) (List.mem_cons_of_mem _ (List.mem_cons_of_mem _ (List.mem_cons_self ..))) (List.mem_cons_of_mem _ (List.mem_cons_of_mem _ (List.mem_cons_of_mem _ (List.mem_cons_self ..)))) (fun _ _ _ _ _ h=>h) ?_
  rintro _ _ _ _ _ _ _ _ v18 w7 ⟨sb,a6,n6,c6,S1,rfl,h7,hrow7,hown7⟩
  have H7:=Lib.hid (h7.perm (List.perm_middle (l₁:=[_,_])))
  have HR7:=Lib.hid (And.intro hrow7 (fun b e=>(⟨fun z=>by have:=hown7 b e;have:=HLT.out.1;omega,fun z=>by have:=hown7 b e;have:=HLT.out.2;omega⟩:b≠r/\b≠q9)))
  clear h7 hrow7 hown7 H0
  go_upto_region 27 with fail
  refine do_r27 (qb:=qb) (q9:=q9) (hb:=hb) (kb:=kb) (S:=S9) (k9:=k9) (SZ:=size) (RT:=root) H7.out HR32.out HRM.out (List.mem_cons_of_mem _ (List.mem_cons_of_mem _ (List.mem_cons_self ..))) (List.mem_cons_of_mem _ (List.mem_cons_of_mem _ (List.mem_cons_of_mem _ (List.mem_cons_self ..)))) (List.mem_cons_of_mem _ (List.mem_cons_of_mem _ (List.mem_cons_of_mem _ (List.mem_cons_of_mem _ (List.mem_cons_self ..))))) (fun _ _ _ _ _ h=>h) ?_
  rintro _ _ _ _ _ _ _ _ v20 w8 ⟨sb2,a8,n8,c8,x1,y1,vs1,rfl,h8,hrow8,hk8⟩
  have hro7:=HR7.out.1.kept hk8 (fun b e z=>z.elim (HR7.out.2 b e).1 (HR7.out.2 b e).2)
  obtain⟨hp1,hp2⟩:=ansP_ok R M (size) (root)
  have hr32:=ansR_len R M (size) HR32.out
  have HSM:=Lib.hid (rsame_any w8 (ansZ R M (size) (root)) (ansR R M (size) (root)) (ansI R M (size) (root)) (ansS R M (size) (root)) _ _ _ hr32 hro7.view hrow8.view hp1 hp2)
  have hpg:=PlayG.both (h8.sub ((((List.Sublist.refl _).cons _).cons_cons _).cons _))
  have HPG:=Lib.hid hpg
  obtain⟨Y1,hY1⟩:∃ Y1,signedC (ansZ R M (size) (root)) (ansR R M (size) (root)) (ansI R M (size) (root)) (ansS R M (size) (root)) (.slice a6 n6 c6)=Y1:=⟨_,rfl⟩
  obtain⟨Y2,hY2⟩:∃ Y2,signedC (ansZ R M (size) (root)) (ansR R M (size) (root)) (ansI R M (size) (root)) (ansS R M (size) (root)) (.slice a8 n8 c8)=Y2:=⟨_,rfl⟩
  have l1:Y1.length=36:=by rw[<- hY1];exact signedC_len hr32
  have l2:Y2.length=36:=by rw[<- hY2];exact signedC_len hr32
  rw[hY1,hY2]at h8
  rw[show signedV (ansZ R M (size) (root)) (ansR R M (size) (root)) (ansI R M (size) (root)) (ansS R M (size) (root)) (.slice a6 n6 c6) = .agg Y1.toArray from by rw[<- hY1],show signedV (ansZ R M (size) (root)) (ansR R M (size) (root)) (ansI R M (size) (root)) (ansS R M (size) (root)) (.slice a8 n8 c8) = .agg Y2.toArray from by rw[<- hY2]]at HSM
  have rY1:=Blk.range0 (h8.has (x:=Og.blk sb Y1 63) (by simp))
  have rY2:=Blk.range0 (h8.has (x:=Og.blk sb2 Y2 63) (by simp))
  have HI1:=Lib.hid (info_sized l1)
  have HI2:=Lib.hid (info_sized l2)
  clear h8 hrow8 hk8 hro7 hp1 hp2 hpg hY1 hY2 l1 l2 H7 HR7
  generalize(R.sign M (size) (root)).1=cd at ve ⊢
  go_wp2_with (first
   | ((with_reducible show wpList _ _ _ (⟨some 165,_,_,_,_,_⟩::_) _ _);refine BigFrame.wpList_want (by rfl) (fun K hK=>?_);refine wp_load_mid _ _ rfl sb 0 rfl Y1 _ rY1 Tryz.underlying63 rfl HI1.out ?_;refine hK _ _ ?_;clear hK K)
   | ((with_reducible show wpList _ _ _ (⟨some 166,_,_,_,_,_⟩::_) _ _);refine BigFrame.wpList_want (by rfl) (fun K hK=>?_);refine wp_load_mid _ _ rfl sb2 0 rfl Y2 _ rY2 Tryz.underlying63 rfl HI2.out ?_;refine hK _ _ ?_;clear hK K)
   | (go_at_call 62;refine HSM.out.mono ?_;rintro e w9 ⟨rfl,hk9⟩;have HDN:=Lib.hid ((HPG.out.same hk9).done HB2.out);clear hk9))
  go_ret
  exact HDN.out
end
section
variable {w0 w w' : World} {d r kb qb n : Nat} {M : DiskM} {o : Option RingM} {X C : List Value} {k z oo N Ma : Int} {s : ByteArray}
theorem do_any (hp:PlayG w0 w d r kb qb M M [] o) (hbd:Bd M n) (hn:n<=1000000) (hX:ActL X k z oo N Ma C s) (hs:s.size<=300) :
  Calls Tryz.prog 19 #[.agg X.toArray,.pointer (some ⟨d,0,none⟩),.pointer (some ⟨r,0,none⟩),.pointer (some ⟨kb,0,none⟩),.pointer (some ⟨qb,0,none⟩)] w (DoPost w0 d r kb qb (n+2)):=by
 have hk:k%13=0\/k%13=1\/k%13=2\/k%13=3\/k%13=4\/k%13=5\/k%13=6\/k%13=7\/k%13=8\/k%13=9\/k%13=10\/k%13=11\/k%13=12:=by omega
 rcases hk with h|h|h|h|h|h|h|h|h|h|h|h|h
 ·exact do_low hp hbd hn hX hs h (by omega)
 ·exact do_low hp hbd hn hX hs h (by omega)
 ·exact do_low hp hbd hn hX hs h (by omega)
 ·exact do_low hp hbd hn hX hs h (by omega)
 ·exact do_low hp hbd hn hX hs h (by omega)
 ·exact do_5 hp hbd hn hX hs h
 ·exact do_6 hp hbd hn hX hs h
 ·cases hd:M.down with
  | false=>exact do_7_up hd hp hbd hn hX hs h
  | true=>exact do_7_down hd hp hbd hn hX hs h
 ·cases hd:M.down with
  | false=>exact do_8_up hd hp hbd hn hX hs h
  | true=>exact do_8_down hd hp hbd hn hX hs h
 ·exact do_9 hp hbd hn hX hs h
 ·exact do_10 hp hbd hn hX hs h
 ·exact do_11 hp hbd hn hX hs h
 ·exact do_12 hp hbd hn hX hs h
end
section
variable {w w1 w2 : World} {d r kb qb : Nat} {cap : Int}
theorem relF_new (cap:Int) (h:(DiskM.new cap).Ok):RelF (DiskM.new cap) ⟨cap,[],[],false,0,0,0⟩:=⟨h,by show 0<=100;omega,(fun p hp=>nomatch hp),rfl,rfl,rfl,rfl,rfl,Or.inl ⟨rfl,rfl⟩⟩
theorem kplay_start (hA:Apart (fun k=>k<w.heap.size) d (DiskM.new cap) w1) (ht:Tab w) (hk:Kept (fun _=>False) w w1) (hr:w1.heap.size<=r) (hR:IsRef w2 r ⟨cap,[],[],false,0,0,0⟩ (.slice none 0 0) (.slice none 0 0)) (hk2:Kept (fun _=>False) w1 w2):Owg w w2 d (DiskM.new cap) [Og.reff r (DiskM.new cap) (.slice none 0 0) (.slice none 0 0)]:=by
 refine(Owg.made hA ht hk).add (x:=Og.reff r (DiskM.new cap) (.slice none 0 0) (.slice none 0 0)) hk2 ⟨_,hR,relF_new cap hA.ok⟩ ?_
 rintro k (q|q|q)
 ·omega
 ·simp[Value.ownBlock]at q
 ·simp[Value.ownBlock]at q
theorem bd_new (cap:Int):Bd (DiskM.new cap) 0:=⟨Nat.le_refl _,Int.le_refl _,Int.le_refl _⟩
theorem perm_nor {a b c:Og} : List.Perm [a,b,c] [b,c,a]:=(List.Perm.swap _ _ _).trans (List.Perm.cons _ (List.Perm.swap _ _ _))
theorem perm_both {a b c e:Og} : List.Perm [a,b,c,e] [b,e,c,a]:=(List.Perm.swap _ _ _).trans (List.Perm.cons _ (List.reverse_perm [a,c,e]).symm)
end
theorem keyringPlay_walk0 (w:World) (ht:Tab w) (cap:Int) (hcap:0<=cap/\cap<=65535) (la:Option Addr) (len lc:Nat) (hlm:len<=maxLen) (hacts:Acts34 w la len) :
  Calls Tryz.prog 4 #[.int .u16 cap,.slice la len lc] w fun e w'=>e = .returned (.bool true)/\Kept (fun _=>False) w w':=by
 have HT:=Lib.hid ht
 have HRG:=Lib.hid (fun w1 (hk:Kept (fun _=>False) w w1)=>ringed_any w1 (HT.out.same hk))
 have hgr:Calls Tryz.prog 18 #[.slice la len lc,.int .i64 14] w (GreatPost w la len 14):=great34 w la len lc 14 (by omega) hlm hacts
 have HGR:=Lib.hid hgr
 have a1:IntKind.i64.wrap cap=cap:=IntWalk.i64_in _ (by omega)
 have a2:wrap64 cap=cap:=IntWalk.wrap64_in _ (by omega)
 clear ht hacts hgr hlm
 go_enter Tryz.func4,Tryz.ntmps4
 go_upto_region 2 with (go_at_call 18;refine HGR.out.mono ?_;rintro e w1 ⟨b,rfl,hb,rfl⟩;have HB:=Lib.hid hb;clear hb)
 ·go_wp2_with (go_at_call 5;refine(HRG.out _ (Kept.refl _ _)).mono ?_;rintro e w1 ⟨rfl,hk1⟩)
  go_ret
  exact⟨rfl,hk1⟩
 ·
  obtain⟨hlen,hels⟩:=HB.out (by assumption)
  have HEL:=Lib.hid hels
  clear hels HB HGR
  go_upto_region 7 with (first
   | (go_at_call 8;refine(new_ok _ cap (by omega) (by omega)).mono ?_;rintro e w1 hnew;obtain⟨d,rfl,hA1,k1⟩:=Apart.made _ hnew;have H1:=Lib.hid (And.intro hA1 k1);clear hnew hA1 k1)
   | (go_at_call 9;refine(new_ref _ cap (by omega) (by omega)).mono ?_;rintro e w2 ⟨r0,rfl,hr,hR,hk2⟩;have H2:=Lib.hid (kplay_start H1.out.1 HT.out H1.out.2 hr hR hk2);clear hr hR hk2))
  clear H1 a1 a2
  obtain⟨z,hz⟩:∃ z,(DiskM.new cap).openR=z:=⟨_,rfl⟩
  have hseed:(strB [114,105,110,103]).size<=1000:=by decide
  have hc0:(DiskM.new cap).files.length+(DiskM.new cap).loose.length<300000000:=by show 0+0<300000000;omega
  have HKO:=Lib.hid (H2.out.kopen (strB [114,105,110,103]) hseed hc0 hz)
  have HRO:=Lib.hid (fun (W:World) (x y:Value) (h:RefAtF W r0 (DiskM.new cap) x y)=>rropenF_up h (show(DiskM.new cap).down=false from rfl) hc0 (strB [114,105,110,103]) hseed)
  have hsz:z.2.2.starts=(DiskM.new cap).starts:=by rw[<- hz];exact(DiskM.new cap).openR_starts
  have HBD:=Lib.hid (show Bd z.2.2 0 from by rw[<- hz];exact(bd_new cap).openR)
  rw[hz]at HRO
  obtain⟨ze,zl,zM⟩:=z
  simp only at hsz
  have HSZ:=Lib.hid hsz
  have HLEN:=Lib.hid hlen
  clear hz hseed hc0 hsz
  by_cases hz0:ze=0
  ·subst hz0
   go_upto_region 8 with (go_at_call 14;refine HKO.out.mono ?_;rintro e' w7 hq7;obtain⟨k9,S9,rfl,h7⟩:=(hq7.resolve_left (fun q=>q.1 rfl)).2;have H7:=Lib.hid h7;clear hq7 h7)
   generalize hW8:World.alloc _ _=W8
   have H8:Hid (Owg w W8 d zM [Og.reff r0 (DiskM.new cap) (.slice none 0 0) (.slice none 0 0),kbO w7.heap.size (.pointer (some ⟨k9,0,none⟩)),Og.ring k9 ⟨strB [114,105,110,103],zl,zM.starts,false⟩ S9]):=Lib.hid (by rw[<- hW8];exact(H7.out.new [.pointer (some ⟨k9,0,none⟩)] 41).perm (List.perm_middle (l₁:=[_,_])))
   clear hW8
   go_upto_region 9 with (go_at_call 15;refine(HRO.out _ _ _ (H8.out.has (x:=Og.reff r0 (DiskM.new cap) (.slice none 0 0) (.slice none 0 0)) (List.mem_cons_self ..))).mono ?_;rintro e' w9 hq9;obtain⟨q9,ks,vs,x9,y9,rfl,h9⟩:=((H8.out.rropenF hq9).resolve_left (fun q=>q.1 rfl)).2;have H9:=Lib.hid h9;clear hq9 h9)
   generalize hW10:World.alloc _ _=W10
   have HP:Hid (PlayG w W10 d r0 w7.heap.size w9.heap.size zM zM [] (some ⟨strB [114,105,110,103],zl,zM.starts,false⟩)):=Lib.hid (by rw[<- hW10];have h:=(H9.out.new [.pointer (some ⟨q9,0,none⟩)] 44).perm perm_both;rw[<- HSZ.out]at h;exact PlayG.both h)
   clear hW10 H7 H8 H9 HKO HRO
   obtain⟨ze0,hze⟩:∃ ze0:Int,(0:Int)=ze0:=⟨_,rfl⟩
   clear hze
   obtain⟨kv,qv,ck,cq,-,-,-⟩:=HP.out.vars
   have HAL:=Lib.hid (HP.out.alike ck cq)
   have ve:(ze0 != ze0)=false:=by simp
   go_wp2_with (go_at_call 16;refine HAL.out.mono ?_;rintro e w11 ⟨rfl,hp11⟩;have HP1:=Lib.hid hp11;clear hp11)
   clear ck cq ve HAL HP
   generalize w7.heap.size=kb at *
   generalize w9.heap.size=qb at *
   go_loopw [13] (fun x wr=>∃ i:Nat,x = .int .i64 (i:Int)/\i<=len/\Hid (∃ M o,PlayG w wr d r0 kb qb M M [] o/\Bd M (2*i))) (fun x _=>len-(intOf x).toNat)
   case atStart=>exact⟨0,rfl,Nat.zero_le _,Lib.hid ⟨_,_,HP1.out,HBD.out⟩⟩
   case round =>
    obtain⟨i,rfl,hi,HI⟩:=hrel
    obtain⟨M,o,hp,hbd⟩:=HI.out
    have HP:=Lib.hid hp
    by_cases hlt:i<len
    ·have y1:decide ((i:Int)<(len:Int))=true:=decide_eq_true (by omega)
     have y2:decide (i<len)=true:=decide_eq_true hlt
     obtain⟨X,k,z,oo,N,Ma,C,s,hX,⟨g,off,rfl,hg,hrg⟩,hs⟩:=HEL.out i hlt
     have hrx:wr.rangeAt g (off+i*39) X:=rangeAt_kept (fun j v hv=>hrg j v hv) hp.old hg id
     have HIX:=Lib.hid (show(Tryz.prog.info? 53).map (·.size)=some X.length by rw[hX.len];exact c_act34')
     have HDO:=Lib.hid (do_any hp hbd (by have:=HLEN.out;omega) hX hs)
     have HLT:=Lib.hid hlt
     have i0:(i:Int)<(len:Int):=by omega
     clear hX hrg hs hg hp hbd hlt HI
     go_wp2_with (first
      | ((with_reducible show wpList _ _ _ (⟨some 63,_,_,_,_,_⟩::_) _ _);refine wpList_load_mid rfl 53 _ rfl g (off+i*39) rfl X _ hrx Tryz.underlying53 rfl HIX.out ?_)
      | (go_at_call 19;refine HDO.out.mono ?_;rintro e w12 ⟨rfl,M2,o2,hp2,hb2⟩;have HP2:=Lib.hid hp2;have HB2:=Lib.hid hb2;obtain⟨kv,qv,ck,cq,-,-,-⟩:=hp2.vars;have HAL:=Lib.hid (hp2.alike ck cq);clear hp2 hb2)
      | (go_at_call 16;refine HAL.out.mono ?_;rintro e w13 ⟨rfl,hp3⟩;have HSM:=Lib.hid hp3.sameL;clear hp3)
      | (go_at_call 17;refine HSM.out.mono ?_;rintro e w14 ⟨rfl,hp4⟩;have HP4:=Lib.hid hp4;clear hp4))
     go_roundw
     case rel=>exact⟨i+1,by go_num,HLT.out,Lib.hid ⟨_,_,HP4.out,HB2.out.more (by omega)⟩⟩
     case measure=>have:=HLT.out;simp[intOf];omega
    ·obtain rfl:i=len:=by omega
     have y1:decide ((i:Int)<(i:Int))=false:=decide_eq_false (by omega)
     have y2:decide (i<i)=false:=decide_eq_false hlt
     have HKO:=Lib.hid hp.old
     clear hlt hi hp hbd HI
     go_wp2_with (go_at_call 5;refine(HRG.out _ HKO.out).mono ?_;rintro e w15 ⟨rfl,hk15⟩)
     go_ret
     exact⟨rfl,HKO.out.trans hk15⟩
  ·have HZ0:=Lib.hid hz0
   clear hz0
   go_upto_region 8 with (go_at_call 14;refine HKO.out.mono ?_;rintro e' w7 hq7;obtain⟨-,rfl,h7⟩:=hq7.resolve_right (fun q=>HZ0.out q.1);have H7:=Lib.hid h7;clear hq7 h7)
   generalize hW8:World.alloc _ _=W8
   have H8:Hid (Owg w W8 d zM [Og.reff r0 (DiskM.new cap) (.slice none 0 0) (.slice none 0 0),kbO w7.heap.size (.pointer none)]):=Lib.hid (by rw[<- hW8];exact(H7.out.new [.pointer none] 41).two)
   clear hW8
   go_upto_region 9 with (go_at_call 15;refine(HRO.out _ _ _ (H8.out.has (x:=Og.reff r0 (DiskM.new cap) (.slice none 0 0) (.slice none 0 0)) (List.mem_cons_self ..))).mono ?_;rintro e' w9 hq9;obtain⟨-,rfl,x9,y9,h9⟩:=(H8.out.rropenF hq9).resolve_right (fun q=>HZ0.out q.1);have H9:=Lib.hid h9;clear hq9 h9)
   generalize hW10:World.alloc _ _=W10
   have HP:Hid (PlayG w W10 d r0 w7.heap.size w9.heap.size zM zM [] none):=Lib.hid (by rw[<- hW10];exact PlayG.nor ((H9.out.new [.pointer none] 44).perm perm_nor))
   clear hW10 H7 H8 H9 HKO HRO
   obtain⟨kv,qv,ck,cq,-,-,-⟩:=HP.out.vars
   have HAL:=Lib.hid (HP.out.alike ck cq)
   have ve:(ze != ze)=false:=by simp
   go_wp2_with (go_at_call 16;refine HAL.out.mono ?_;rintro e w11 ⟨rfl,hp11⟩;have HP1:=Lib.hid hp11;clear hp11)
   clear ck cq ve HAL HP
   generalize w7.heap.size=kb at *
   generalize w9.heap.size=qb at *
   go_loopw [13] (fun x wr=>∃ i:Nat,x = .int .i64 (i:Int)/\i<=len/\Hid (∃ M o,PlayG w wr d r0 kb qb M M [] o/\Bd M (2*i))) (fun x _=>len-(intOf x).toNat)
   case atStart=>exact⟨0,rfl,Nat.zero_le _,Lib.hid ⟨_,_,HP1.out,HBD.out⟩⟩
   case round =>
    obtain⟨i,rfl,hi,HI⟩:=hrel
    obtain⟨M,o,hp,hbd⟩:=HI.out
    have HP:=Lib.hid hp
    by_cases hlt:i<len
    ·have y1:decide ((i:Int)<(len:Int))=true:=decide_eq_true (by omega)
     have y2:decide (i<len)=true:=decide_eq_true hlt
     obtain⟨X,k,z,oo,N,Ma,C,s,hX,⟨g,off,rfl,hg,hrg⟩,hs⟩:=HEL.out i hlt
     have hrx:wr.rangeAt g (off+i*39) X:=rangeAt_kept (fun j v hv=>hrg j v hv) hp.old hg id
     have HIX:=Lib.hid (show(Tryz.prog.info? 53).map (·.size)=some X.length by rw[hX.len];exact c_act34')
     have HDO:=Lib.hid (do_any hp hbd (by have:=HLEN.out;omega) hX hs)
     have HLT:=Lib.hid hlt
     have i0:(i:Int)<(len:Int):=by omega
     clear hX hrg hs hg hp hbd hlt HI
     go_wp2_with (first
      | ((with_reducible show wpList _ _ _ (⟨some 63,_,_,_,_,_⟩::_) _ _);refine wpList_load_mid rfl 53 _ rfl g (off+i*39) rfl X _ hrx Tryz.underlying53 rfl HIX.out ?_)
      | (go_at_call 19;refine HDO.out.mono ?_;rintro e w12 ⟨rfl,M2,o2,hp2,hb2⟩;have HP2:=Lib.hid hp2;have HB2:=Lib.hid hb2;obtain⟨kv,qv,ck,cq,-,-,-⟩:=hp2.vars;have HAL:=Lib.hid (hp2.alike ck cq);clear hp2 hb2)
      | (go_at_call 16;refine HAL.out.mono ?_;rintro e w13 ⟨rfl,hp3⟩;have HSM:=Lib.hid hp3.sameL;clear hp3)
      | (go_at_call 17;refine HSM.out.mono ?_;rintro e w14 ⟨rfl,hp4⟩;have HP4:=Lib.hid hp4;clear hp4))
     go_roundw
     case rel=>exact⟨i+1,by go_num,HLT.out,Lib.hid ⟨_,_,HP4.out,HB2.out.more (by omega)⟩⟩
     case measure=>have:=HLT.out;simp[intOf];omega
    ·obtain rfl:i=len:=by omega
     have y1:decide ((i:Int)<(i:Int))=false:=decide_eq_false (by omega)
     have y2:decide (i<i)=false:=decide_eq_false hlt
     have HKO:=Lib.hid hp.old
     clear hlt hi hp hbd HI
     go_wp2_with (go_at_call 5;refine(HRG.out _ HKO.out).mono ?_;rintro e w15 ⟨rfl,hk15⟩)
     go_ret
     exact⟨rfl,HKO.out.trans hk15⟩
theorem keyringPlay_walk (a0:Int) (v1:Value) (W:World) (ht:Tab W) {base1:Nat} {H:Type} {enc:TypeId × Value->H} {d1:DataW H} {p1:List MemPlace} (w0:(Lit.int .u16 a0).wf=true) (hv1:Value.okWide Tryz.prog W .any base1 50 v1) (h1:DataW.Trod enc Tryz.prog W 0 (fun _=>true) true 50 v1 d1 p1) :
  Calls Tryz.prog 4 #[.int .u16 a0,v1] W fun e w'=>e = .returned (.bool true)/\Below W.heap.size W w':=by
 obtain⟨a,len,c,rfl,hl,ha⟩:=acts34_of hv1 h1
 exact(keyringPlay_walk0 W ht a0 (wf_u16 w0) a len c hl ha).mono (fun e w' ⟨he,hk⟩=>⟨he,hk.below (fun _ _=>id) (Nat.le_refl _)⟩)
end Go.Proofs.YtdmedbhbefdnkaaGreatDoor
