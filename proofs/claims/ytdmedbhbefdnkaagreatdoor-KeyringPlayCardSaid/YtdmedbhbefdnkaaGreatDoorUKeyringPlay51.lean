/- RE17 RE18 RK8 RK9 RE19 RE20 RE25 -/
import Derived.Test.YtdmedbhbefdnkaaGreatDoorUKeyringPlay50
import Derived.Test.YtdmedbhbefdnkaaGreatDoorUKeyringPlay39
set_option linter.unusedVariables false
set_option linter.unusedSimpArgs false
set_option maxRecDepth 100000
set_option maxHeartbeats 16000000
namespace Go.Proofs.YtdmedbhbefdnkaaGreatDoor
open Go.RowKit
section
variable {w : World} {r q : Nat} {M : DiskM} {R : RingM} {x y ks vs : Value}
theorem rsign_down (h:RefAtF w r M x y) (hq:IsRRing w q r R ks vs) (size:Int) (root:By) (ho:R.over M=true) :
  Calls Tryz.prog 61 #[.pointer (some ⟨q,0,none⟩),headV size root] w (RSPost w r q x y ks vs size root (61,0, { R with dead:=true },M)):=by
 obtain⟨W,hW⟩:∃ W,signW w size root=W:=⟨_,rfl⟩
 have HM0:=Lib.hid (by rw[<- hW];exact SgM.start h hq size root:SgM w r q x y ks vs size root M R W)
 have HMD:=Lib.hid (HM0.out.same (Kept.refl _ _).drew)
 obtain⟨c0,c4,c5,f5,d3,d4⟩:=HMD.out.go.cells
 have HO:=Lib.hid ho
 clear h hq ho
 go_enter Tryz.func61,Tryz.ntmps61
 go_upto_region 1 with fail
 generalize hWx:World.alloc _ _=Wx
 obtain rfl:W=Wx:=by rw[<- hW,<- hWx];rfl
 clear hW hWx
 cases hd:R.dead with
 | true =>
  rw[hd]at c5
  clear hd
  refine rs_r1a c0 c4 c5 f5 d3 d4 (fun _ _ _ _ _ h=>h) ?_
  intro _ _ _ _ _ _ _ _ _ _ _ _ _ _ _ _ _ _ _ _ _ _ _ _ _ _ _ _ _ _ w1 hw1
  have H1:=Lib.hid (by rw[hw1];exact HMD.out.dead true:SgM w r q x y ks vs size root M { R with dead:=true } w1)
  have c5':w1.cell? ⟨q,5,none⟩=some (.bool true):=H1.out.go.cells.2.2.1
  clear hw1 HMD HM0 HO
  have HN:=Lib.hid H1.out.no
  go_wp2_with (first
   | ((with_reducible show wpList _ _ _ (⟨none,.store _ (.tmp 4) _,_,_,_,_⟩::_) _ _);refine wpList_store_mid rfl 63 _ _ rfl (w.heap.size+1) 0 signed0C.toArray rfl rfl ?hth1 ?hi1 ?h11 ?_))
  case hth1=>exact HN.out.1
  case hi1=>first|exact(by rw[List.size_toArray];exact info_signed0)|simpa using info_signed0
  case h11=>first|exact signed0_one|exact signedC_one rfl
  refine bodyPost_ret (HN.out.2.1.result2 rfl rfl Tryz.underlying63 rfl info_signed0) rfl ?_
  exact Or.inl ⟨(show(61:Int)≠0 by decide),rfl,HN.out.2.2⟩
 | false =>
  rw[hd]at c5
  cases hdn:M.down with
  | true =>
   rw[hdn]at d3
   clear hd hdn
   refine rs_r1b (b1:=true) c0 c4 c5 f5 d3 d4 (fun _ _ _ _ _ h=>h) ?_
   intro _ _ _ _ _ _ _ _ _ _ _ _ _ _ _ _ _ _ _ _ _ _ _ _ _ _ _ _ _ _ w1 hw1
   have H1:=Lib.hid (by rw[hw1];exact HMD.out.dead true:SgM w r q x y ks vs size root M { R with dead:=true } w1)
   have c5':w1.cell? ⟨q,5,none⟩=some (.bool true):=H1.out.go.cells.2.2.1
   clear hw1 HMD HM0 HO
   have HN:=Lib.hid H1.out.no
   go_wp2_with (first
    | ((with_reducible show wpList _ _ _ (⟨none,.store _ (.tmp 4) _,_,_,_,_⟩::_) _ _);refine wpList_store_mid rfl 63 _ _ rfl (w.heap.size+1) 0 signed0C.toArray rfl rfl ?hth2 ?hi2 ?h12 ?_))
   case hth2=>exact HN.out.1
   case hi2=>first|exact(by rw[List.size_toArray];exact info_signed0)|simpa using info_signed0
   case h12=>first|exact signed0_one|exact signedC_one rfl
   refine bodyPost_ret (HN.out.2.1.result2 rfl rfl Tryz.underlying63 rfl info_signed0) rfl ?_
   exact Or.inl ⟨(show(61:Int)≠0 by decide),rfl,HN.out.2.2⟩
  | false =>
   rw[hdn]at d3
   have hne:(M.starts != R.starts)=true:=by
    have:=HO.out
    unfold RingM.over at this
    rw[hd,hdn]at this
    simpa using this
   clear hd hdn
   refine rs_r1c (b1:=true) c0 c4 c5 f5 d3 d4 hne (fun _ _ _ _ _ h=>h) ?_
   intro _ _ _ _ _ _ _ _ _ _ _ _ _ _ _ _ _ _ _ _ _ _ _ _ _ _ _ _ _ _ w1 hw1
   have H1:=Lib.hid (by rw[hw1];exact HMD.out.dead true:SgM w r q x y ks vs size root M { R with dead:=true } w1)
   have c5':w1.cell? ⟨q,5,none⟩=some (.bool true):=H1.out.go.cells.2.2.1
   clear hw1 HMD HM0 HO
   have HN:=Lib.hid H1.out.no
   go_wp2_with (first
    | ((with_reducible show wpList _ _ _ (⟨none,.store _ (.tmp 4) _,_,_,_,_⟩::_) _ _);refine wpList_store_mid rfl 63 _ _ rfl (w.heap.size+1) 0 signed0C.toArray rfl rfl ?hth3 ?hi3 ?h13 ?_))
   case hth3=>exact HN.out.1
   case hi3=>first|exact(by rw[List.size_toArray];exact info_signed0)|simpa using info_signed0
   case h13=>first|exact signed0_one|exact signedC_one rfl
   refine bodyPost_ret (HN.out.2.1.result2 rfl rfl Tryz.underlying63 rfl info_signed0) rfl ?_
   exact Or.inl ⟨(show(61:Int)≠0 by decide),rfl,HN.out.2.2⟩
end
section
variable {w : World} {r q : Nat} {M : DiskM} {R : RingM} {x y ks vs : Value}
theorem rsign_up (h:RefAtF w r M x y) (hq:IsRRing w q r R ks vs) (size:Int) (root:By) (hroot:root.length=32) (ho:R.over M=false) (hc:M.files.length+M.loose.length<300000000) (ht:Tab w) (hT:∀ k,(k=r\/k=q)->k≠0/\k≠1) :
  Calls Tryz.prog 61 #[.pointer (some ⟨q,0,none⟩),headV size root] w (RSPost w r q x y ks vs size root (R.sign M size root)):=by
 obtain⟨W,hW⟩:∃ W,signW w size root=W:=⟨_,rfl⟩
 have HM0:=Lib.hid (by rw[<- hW];exact SgM.start h hq size root:SgM w r q x y ks vs size root M R W)
 have HMD:=Lib.hid (HM0.out.same (Kept.refl _ _).drew)
 obtain⟨c0,c4,c5,f5,d3,d4⟩:=HMD.out.go.cells
 obtain⟨o1,o2,o3⟩:=over_not ho
 rw[o1]at c5
 rw[o2]at d3
 rw[o3]at d4
 have HRT:=Lib.hid hroot
 have HDD:=Lib.hid (dead_same o1)
 have HZ0:=Lib.hid (show R.sign M size root=if(nextF R.signed size root).2.2≠0 then((nextF R.signed size root).2.2,0,R,M)else if(nextF R.signed size root).2.1=false then(0,(nextF R.signed size root).1.toNat,R,M)else if(M.keepR (size.toNat,root)).1≠0 then((M.keepR (size.toNat,root)).1,0, { R with dead:=decide ((M.keepR (size.toNat,root)).1=61) },(M.keepR (size.toNat,root)).2)else(0,(nextF R.signed size root).1.toNat, { R with signed:=R.signed++[(size.toNat,root)] },(M.keepR (size.toNat,root)).2)from by unfold RingM.sign;rw[if_neg (by rw[ho];simp)])
 have HTB:=Lib.hid (fun (M1:DiskM) (R1:RingM) (W1:World) (H:SgM w r q x y ks vs size root M1 R1 W1) (w':World) (hk:Kept (fun _=>False) W1 w')=>((ht.kept H.go.kept (fun e=>(hT _ e).1 rfl) (fun e=>(hT _ e).2 rfl)).same hk:Tab w'))
 have HIH:=Lib.hid (show(Tryz.prog.info? 32).map (·.size)=some (headC size root).length by rw[headC_len hroot];exact info_head)
 have hne:(R.starts != R.starts)=false:=by simp
 have HC:=Lib.hid hc
 have HD0:=Lib.hid o1
 clear h hq ho o1 o2 o3 hT ht hc
 go_enter Tryz.func61,Tryz.ntmps61
 go_upto_region 1 with fail
 generalize hWx:World.alloc _ _=Wx
 obtain rfl:W=Wx:=by rw[<- hW,<- hWx];rfl
 clear hW hWx
 refine rs_r1d (b1:=true) (m1:=0) c0 c4 c5 f5 d3 d4 hne (fun _ _ _ _ _ h=>h) ?_
 intro _ _ _ _ _ _ _ _ _ _ _ _ _ _ _ _ _ _ _ _ _ _ _ _ _ _ _ _ _ _ w1 hw1
 have H1:=Lib.hid (by rw[hw1,<- HDD.out];exact HMD.out.dead false:SgM w r q x y ks vs size root M R w1)
 have c5':w1.cell? ⟨q,5,none⟩=some (.bool false):=by have:=H1.out.go.cells.2.2.1;rw[this,<- HDD.out]
 have ch0:w1.cell? ⟨w.heap.size,0,none⟩=some (.int .i64 size):=H1.out.hd.cell (i:=0) rfl
 clear hw1 HMD HM0 HDD c0 c4 c5 f5 d3 d4 hne
 by_cases hs1:size<1
 ·have y1:decide (size<1)=true:=decide_eq_true hs1
  have HZ:=Lib.hid (show R.sign M size root=(2,0,R,M)from by rw[HZ0.out];unfold nextF;rw[if_pos (Or.inl hs1)];simp)
  clear hs1 HZ0
  have HN:=Lib.hid H1.out.no
  go_wp2_with (first
   | ((with_reducible show wpList _ _ _ (⟨none,.store _ (.tmp 4) _,_,_,_,_⟩::_) _ _);refine wpList_store_mid rfl 63 _ _ rfl (w.heap.size+1) 0 signed0C.toArray rfl rfl ?hth4 ?hi4 ?h14 ?_))
  case hth4=>exact HN.out.1
  case hi4=>first|exact(by rw[List.size_toArray];exact info_signed0)|simpa using info_signed0
  case h14=>first|exact signed0_one|exact signedC_one rfl
  refine bodyPost_ret (HN.out.2.1.result2 rfl rfl Tryz.underlying63 rfl info_signed0) rfl ?_
  rw[HZ.out]
  exact Or.inl ⟨(show(2:Int)≠0 by decide),rfl,HN.out.2.2⟩
 by_cases hs2:4096<size
 ·have y1:decide (size<1)=false:=decide_eq_false hs1
  have y2:decide (4096<size)=true:=decide_eq_true hs2
  have HZ:=Lib.hid (show R.sign M size root=(2,0,R,M)from by rw[HZ0.out];unfold nextF;rw[if_pos (Or.inr hs2)];simp)
  clear hs1 hs2 HZ0
  have HN:=Lib.hid H1.out.no
  go_wp2_with (first
   | ((with_reducible show wpList _ _ _ (⟨none,.store _ (.tmp 4) _,_,_,_,_⟩::_) _ _);refine wpList_store_mid rfl 63 _ _ rfl (w.heap.size+1) 0 signed0C.toArray rfl rfl ?hth5 ?hi5 ?h15 ?_))
  case hth5=>exact HN.out.1
  case hi5=>first|exact(by rw[List.size_toArray];exact info_signed0)|simpa using info_signed0
  case h15=>first|exact signed0_one|exact signedC_one rfl
  refine bodyPost_ret (HN.out.2.1.result2 rfl rfl Tryz.underlying63 rfl info_signed0) rfl ?_
  rw[HZ.out]
  exact Or.inl ⟨(show(2:Int)≠0 by decide),rfl,HN.out.2.2⟩
 have hgood:¬ (size<1\/4096<size):=by omega
 obtain⟨s,rfl⟩:∃ s:Nat,size=(s:Int):=⟨size.toNat,by omega⟩
 have y1:decide ((s:Int)<1)=false:=decide_eq_false (by omega)
 have y2:decide ((4096:Int)<(s:Int))=false:=decide_eq_false (by omega)
 have y1':decide (s<1)=false:=decide_eq_false (by omega)
 have y2':decide (4096<s)=false:=decide_eq_false (by omega)
 have hsn:1<=s/\s<=4096:=by omega
 have hnx:=nextF_eq R.signed hgood root
 have hkeep:M.keepR ((s:Int).toNat,root)=M.keepR (s,root):=rfl
 rw[hkeep,show(s:Int).toNat=s from rfl]at HZ0
 have HNX:=Lib.hid hnx
 clear hgood hnx hkeep hs1 hs2
 obtain⟨ka,kc,vs3,-,-,r3,-,r4,r5,r6,-,-⟩:=H1.out.ring
 obtain⟨va,vn,vc,rfl,hvn,-⟩:=r4.form (by omega)
 have r32:∀ x∈R.signed,x.2.length=32:=fun x hx=>(r5 x hx).2.2
 rw[hdC_len r32]at hvn
 obtain rfl:vn=R.signed.length:=by omega
 have HDG:=Lib.hid (fun w' (ht:Tab w')=>(rdigest_any w' s root hsn.2 HRT.out ht))
 have HSN:=Lib.hid hsn
 go_upto_region 7 with fail
 refine rs_r7 (size:=(s:Int)) (root:=root) r4 r32 r6 HRT.out r3 H1.out.hd.range0 H1.out.hd.lt (fun _ _ _ _ _ h=>h) ?_
 intro _ _ _ _ _ _ _ _ _ _ _ _ _ w2 hk2
 have H2:=Lib.hid (H1.out.same hk2)
 have r3':=hk2.cell r3 id
 have r4':=r4.kept hk2 (fun _ _=>id)
 have HR:=Lib.hid (And.intro r5 r6)
 clear c5' ch0 r3 r4 r5 y1 y2 y1' y2' hk2
 by_cases he:lastEq R.signed (s:Int) root=true
 ·have hlen:R.signed.length≠0:=fun e=>by rw[List.eq_nil_of_length_eq_zero e]at he;simp[lastEq]at he
  obtain⟨m,hm⟩:∃ m,R.signed.length=m+1:=⟨R.signed.length-1,by omega⟩
  have HZ:=Lib.hid (show R.sign M (s:Int) root=(0,m,R,M)from by rw[HZ0.out,HNX.out,if_pos he,hm];simp)
  rw[he]
  rw[hm]at r6 ⊢
  clear HZ0 he hlen hm r3' r4' r32
  go_upto_region 21 with fail
  obtain⟨ka,kc,vs9,hs1,hs2,-,hsk,-,-,-,hs8,-⟩:=H2.out.ring
  have HL9:=Lib.hid H2.out.hd.lt
  refine rs_r21 (i:=m) (DG:=digestF s root) (SG:=signF R.seed.data.toList (m) (digestF s root)) (P:=pathF (leavesF R.seed.data.toList) (m)) hs1 hs2 H2.out.hd.range0 H2.out.hd.lt (Nat.lt_trans H2.out.ql HL9.out) HIH.out (fun w' hk=>HDG.out w' (HTB.out _ _ _ H2.out w' hk)) (fun w' hk=>rsign9_any w' R.seed _ _ (m) _ hs8 (hsk.kept hk (fun _ _=>id)).view (leaves_32 _) (leavesF_len _) (by omega) (digestF_len _ _) (HTB.out _ _ _ H2.out w' hk)) (fun _ _ _ _ _ h=>h) ?_
  rintro _ _ _ _ _ _ _ _ _ _ _ _ _ _ _ v10 w9 ⟨sb,pa,pn,pc,rfl,hsb1,hsb2,hrow9,hown9,hk9⟩
  have H9:=Lib.hid (H2.out.same hk9)
  have HRO:=Lib.hid (And.intro hrow9 (fun q (e:(Value.slice pa pn pc).ownBlock=some q)=>(Nat.le_of_lt (Nat.lt_of_lt_of_le HL9.out (hown9 q e)):w.heap.size<=q)))
  have s0:=hsb2.cell (i:=0) rfl
  have s1:=hsb2.cell (i:=1) rfl
  have s2:=hsb2.cell (i:=2) rfl
  obtain⟨SG,hSG⟩:∃ SG,signF R.seed.data.toList (m) (digestF s root)=SG:=⟨_,rfl⟩
  rw[hSG]at s1 hsb2
  have HSG:=Lib.hid hSG
  have rF:=H9.out.hd.range0
  obtain⟨C,hC⟩:∃ C,headC (s:Int) root=C:=⟨_,rfl⟩
  have lC:C.length=33:=by rw[<- hC];exact headC_len HRT.out
  have HIC:Hid ((Tryz.prog.info? 32).map (·.size)=some C.length):=by rw[<- hC];exact HIH
  rw[hC]at rF
  obtain⟨X,Y,hfA,lX,hfB,HY⟩:=sign_build C lC (.int .i64 ((m:Nat):Int)) (.string ⟨SG.toArray⟩) (.slice pa pn pc)
  simp only[zeros,List.replicate,List.cons_append,List.nil_append]at hfA
  have lY:Hid (Y.length=36):=Lib.hid (by rw[HY.out,List.length_append,lC];rfl)
  have HZF:=Lib.hid (H9.out.yes lY.out HRO.out.1)
  have HCC:=Lib.hid hC
  clear hs1 hs2 hsk hs8 hsb1 hrow9 hown9 hk9 hC hSG
  go_wp2_with (first|((with_reducible show wpList _ _ _ (⟨some 157,_,_,_,_,_⟩::_) _ _);refine wpList_load_mid rfl 32 _ rfl w.heap.size 0 rfl C _ rF Tryz.underlying32 rfl HIC.out ?_)|((with_reducible show wpList _ _ _ (⟨none,.store _ (.tmp 4) _,_,_,_,_⟩::_) _ _);refine wpList_store_mid rfl 63 _ _ rfl (w.heap.size+1) 0 Y.toArray rfl rfl ?ht6 ?hi6 ?h16 ?_))
  case ht6=>exact HZF.out.1
  case hi6=>first|exact info_sized lY.out|simpa using info_sized lY.out
  case h16=>first|exact sign_one HY.out HCC.out|exact all_oneCell_toArray (sign_one HY.out HCC.out)
  refine bodyPost_ret (HZF.out.2.1.result2 rfl rfl Tryz.underlying63 rfl (info_sized lY.out)) rfl ?_
  rw[HZ.out]
  refine Or.inr ⟨rfl,.slice pa pn pc,?_,HZF.out.2.2.2,HRO.out.2,HZF.out.2.2.1⟩
  rw[HY.out,<- HCC.out,<- HSG.out]
  rfl
 rw[Bool.not_eq_true]at he
 rw[he]
 go_upto_region 9 with fail
 refine rs_r9 (size:=(s:Int)) (root:=root) r4' r32 r6 HRT.out r3' H2.out.hd.range0 H2.out.hd.lt (fun _ _ _ _ _ h=>h) ?_
 intro _ _ _ _ _ _ _ _ _ _ _ _ _ _ _ w3 hk3
 have H3:=Lib.hid (H2.out.same hk3)
 have r4'':=r4'.kept hk3 (fun _ _=>id)
 have r3'':=hk3.cell r3' id
 clear r3' r4' hk3 H1 H2
 by_cases hg:lastGe R.signed (s:Int)=true
 ·have HZ:=Lib.hid (show R.sign M (s:Int) root=(83,0,R,M)from by rw[HZ0.out,show nextF R.signed (s:Int) root=(0,false,83)from by rw[HNX.out,if_neg (by rw[he];simp),if_pos hg]];simp)
  rw[hg]
  clear HZ0 he hg r3'' r4'' r32 r6
  have HN:=Lib.hid H3.out.no
  go_wp2_with (first
   | ((with_reducible show wpList _ _ _ (⟨none,.store _ (.tmp 4) _,_,_,_,_⟩::_) _ _);refine wpList_store_mid rfl 63 _ _ rfl (w.heap.size+1) 0 signed0C.toArray rfl rfl ?hth7 ?hi7 ?h17 ?_))
  case hth7=>exact HN.out.1
  case hi7=>first|exact(by rw[List.size_toArray];exact info_signed0)|simpa using info_signed0
  case h17=>first|exact signed0_one|exact signedC_one rfl
  refine bodyPost_ret (HN.out.2.1.result2 rfl rfl Tryz.underlying63 rfl info_signed0) rfl ?_
  rw[HZ.out]
  exact Or.inl ⟨(show(83:Int)≠0 by decide),rfl,HN.out.2.2⟩
 rw[Bool.not_eq_true]at hg
 rw[hg]
 by_cases h8:8<=R.signed.length
 ·have y1:decide ((7:Int)<(R.signed.length:Int))=true:=decide_eq_true (by omega)
  have y2:decide (7<R.signed.length)=true:=decide_eq_true (by omega)
  have HZ:=Lib.hid (show R.sign M (s:Int) root=(85,0,R,M)from by rw[HZ0.out,show nextF R.signed (s:Int) root=(0,false,85)from by rw[HNX.out,if_neg (by rw[he];simp),if_neg (by rw[hg];simp),if_pos h8]];simp)
  clear HZ0 he hg r3'' r4'' r32 r6 h8
  have HN:=Lib.hid H3.out.no
  go_wp2_with (first
   | ((with_reducible show wpList _ _ _ (⟨none,.store _ (.tmp 4) _,_,_,_,_⟩::_) _ _);refine wpList_store_mid rfl 63 _ _ rfl (w.heap.size+1) 0 signed0C.toArray rfl rfl ?hth8 ?hi8 ?h18 ?_))
  case hth8=>exact HN.out.1
  case hi8=>first|exact(by rw[List.size_toArray];exact info_signed0)|simpa using info_signed0
  case h18=>first|exact signed0_one|exact signedC_one rfl
  refine bodyPost_ret (HN.out.2.1.result2 rfl rfl Tryz.underlying63 rfl info_signed0) rfl ?_
  rw[HZ.out]
  exact Or.inl ⟨(show(85:Int)≠0 by decide),rfl,HN.out.2.2⟩
 have y1:decide ((7:Int)<(R.signed.length:Int))=false:=decide_eq_false (by omega)
 have y2:decide (7<R.signed.length)=false:=decide_eq_false (by omega)
 have HZ1:=Lib.hid (show R.sign M (s:Int) root=if(M.keepR (s,root)).1≠0 then((M.keepR (s,root)).1,0, { R with dead:=decide ((M.keepR (s,root)).1=61) },(M.keepR (s,root)).2)else(0,R.signed.length, { R with signed:=R.signed++[(s,root)] },(M.keepR (s,root)).2)from by rw[HZ0.out,show nextF R.signed (s:Int) root=((R.signed.length:Int),true,0)from by rw[HNX.out,if_neg (by rw[he];simp),if_neg (by rw[hg];simp),if_neg h8]];simp)
 have hi8:R.signed.length<8:=by omega
 clear HZ0 he hg r3'' r4'' r6 h8
 have hrec:=fun w'=>rrecord_any w' (s:Int) root HRT.out
 have hrl:=recG_len (s:Int) HRT.out
 have hfr:=fun w'=>rframe_any w' (strB (recG (s:Int) root)) (by rw[strB_size];omega)
 rw[strB_data]at hfr
 have hfl:=frameF_len (recG (s:Int) root)
 rw[recG_rec s (by omega) root]at hrec hrl hfr hfl
 obtain⟨e1,M1,hap⟩:∃ e1 M1,M.append 990 (frameF (recordF (s,root)))=(e1,M1):=⟨_,_,rfl⟩
 have HKR:=Lib.hid (show M.keepR (s,root)=if e1=0 then M1.sync else(e1,M1)from by unfold DiskM.keepR;simp only[hap])
 have HAP:=Lib.hid (fun (W1:World) (x1 y1:Value) (hat:RefAtF W1 r M x1 y1)=>append_atf hat 990 (frameF (recordF (s,root))) (by omega) HC.out hap)
 generalize recordF (s,root)=N at hrec hfr HAP hrl hfl
 have HRC:=Lib.hid hrec
 have HFR:=Lib.hid hfr
 obtain⟨F,hF⟩:∃ F,strB (frameF N)=F:=⟨_,rfl⟩
 rw[hF]at HFR HAP
 have HX8:=Lib.hid hi8
 clear hrec hrl hfr hfl hap hF
 have rh3:=H3.out.hd.range0
 go_upto_region 15 with (first
  | ((with_reducible show wpList _ _ _ (⟨some 98,_,_,_,_,_⟩::_) _ _);refine wpList_load_mid rfl 32 _ rfl w.heap.size 0 rfl (headC (s:Int) root) _ rh3 Tryz.underlying32 rfl HIH.out ?_)
  | (go_at_call 7;refine(HRC.out _).mono ?_;rintro e w4 ⟨rfl,hk4⟩;have HK4:=Lib.hid hk4;clear hk4)
  | (go_at_call 6;refine(HFR.out _).mono ?_;rintro e w5 ⟨rfl,hk5⟩;have H5:=Lib.hid ((H3.out.same HK4.out).same hk5);have c0:=H5.out.go.cells.1;obtain⟨x5,y5,hat5,hdo5⟩:=H5.out.disk;have HA5:=Lib.hid (HAP.out _ _ _ hat5);have HD5:=Lib.hid hdo5;clear hk5 hat5 hdo5)
  | (go_at_call 13;refine HA5.out.mono ?_;rintro e w6 ⟨rfl,hg6⟩;have H6:=Lib.hid (HD5.out _ _ hg6);clear hg6))
 clear y1 y2 HRC HFR HAP HA5 HD5 H5 rh3 c0 H3 HK4
 by_cases h1:e1=0
 ·subst h1
  obtain⟨e2,M2,hsy⟩:∃ e2 M2,M1.sync=(e2,M2):=⟨_,_,rfl⟩
  have HKE:Hid (M.keepR (s,root)=(e2,M2)):=Lib.hid (by rw[HKR.out,if_pos rfl,hsy])
  obtain⟨x6,y6,hat6,hdo6⟩:=H6.out.disk
  have HS6:=Lib.hid (sync_atf hat6 hsy)
  have HD6:=Lib.hid hdo6
  have c06:=H6.out.go.cells.1
  clear hsy hat6 hdo6 HKR
  go_upto_region 17 with (go_at_call 46;refine HS6.out.mono ?_;rintro e w7 ⟨rfl,hg7⟩;have H7:=Lib.hid (HD6.out _ _ hg7);clear hg7)
  clear HS6 HD6 c06 H6
  by_cases h2:e2=0
  ·subst h2
   have HZ:=Lib.hid (show R.sign M (s:Int) root=(0,R.signed.length, { R with signed:=R.signed++[(s,root)] },M2)from by rw[HZ1.out,HKE.out];simp)
   obtain⟨ka7,kc7,vs7,-,-,t3,-,t4,t5,-,-,tb⟩:=H7.out.ring
   go_upto_region 20 with fail
   refine rs_r20 (h:=(s,root)) t4 r32 (by omega) HRT.out H7.out.hd.range0 H7.out.hd.lt (fun e=>by have:=H7.out.ql;omega) t3 tb (fun _ _ _ _ _ h=>h) ?_
   rintro _ _ _ _ _ _ _ _ _ _ _ w8 ⟨v8,wx,rfl,g1,g2,g3⟩
   have H8:=Lib.hid (H7.out.noted g1 g2 g3 ⟨HSN.out.1,HSN.out.2,HRT.out⟩ HX8.out)
   generalize World.setCell wx _ v8=w8 at H8 ⊢
   clear t3 t4 t5 tb g1 g2 g3 HZ1 HKE H7 r32
   generalize { R with signed:=R.signed++[(s,root)] } = R2 at HZ H8
   generalize R.signed.length=n8 at *
   go_upto_region 21 with fail
   obtain⟨ka,kc,vs9,hs1,hs2,-,hsk,-,-,-,hs8,-⟩:=H8.out.ring
   have HL9:=Lib.hid H8.out.hd.lt
   refine rs_r21 (i:=n8) (DG:=digestF s root) (SG:=signF R2.seed.data.toList (n8) (digestF s root)) (P:=pathF (leavesF R2.seed.data.toList) (n8)) hs1 hs2 H8.out.hd.range0 H8.out.hd.lt (Nat.lt_trans H8.out.ql HL9.out) HIH.out (fun w' hk=>HDG.out w' (HTB.out _ _ _ H8.out w' hk)) (fun w' hk=>rsign9_any w' R2.seed _ _ (n8) _ hs8 (hsk.kept hk (fun _ _=>id)).view (leaves_32 _) (leavesF_len _) (by omega) (digestF_len _ _) (HTB.out _ _ _ H8.out w' hk)) (fun _ _ _ _ _ h=>h) ?_
   rintro _ _ _ _ _ _ _ _ _ _ _ _ _ _ _ v10 w9 ⟨sb,pa,pn,pc,rfl,hsb1,hsb2,hrow9,hown9,hk9⟩
   have H9:=Lib.hid (H8.out.same hk9)
   have HRO:=Lib.hid (And.intro hrow9 (fun q (e:(Value.slice pa pn pc).ownBlock=some q)=>(Nat.le_of_lt (Nat.lt_of_lt_of_le HL9.out (hown9 q e)):w.heap.size<=q)))
   have s0:=hsb2.cell (i:=0) rfl
   have s1:=hsb2.cell (i:=1) rfl
   have s2:=hsb2.cell (i:=2) rfl
   obtain⟨SG,hSG⟩:∃ SG,signF R2.seed.data.toList (n8) (digestF s root)=SG:=⟨_,rfl⟩
   rw[hSG]at s1 hsb2
   have HSG:=Lib.hid hSG
   have rF:=H9.out.hd.range0
   obtain⟨C,hC⟩:∃ C,headC (s:Int) root=C:=⟨_,rfl⟩
   have lC:C.length=33:=by rw[<- hC];exact headC_len HRT.out
   have HIC:Hid ((Tryz.prog.info? 32).map (·.size)=some C.length):=by rw[<- hC];exact HIH
   rw[hC]at rF
   obtain⟨X,Y,hfA,lX,hfB,HY⟩:=sign_build C lC (.int .i64 ((n8:Nat):Int)) (.string ⟨SG.toArray⟩) (.slice pa pn pc)
   simp only[zeros,List.replicate,List.cons_append,List.nil_append]at hfA
   have lY:Hid (Y.length=36):=Lib.hid (by rw[HY.out,List.length_append,lC];rfl)
   have HZF:=Lib.hid (H9.out.yes lY.out HRO.out.1)
   have HCC:=Lib.hid hC
   clear hs1 hs2 hsk hs8 hsb1 hrow9 hown9 hk9 hC hSG
   go_wp2_with (first|((with_reducible show wpList _ _ _ (⟨some 157,_,_,_,_,_⟩::_) _ _);refine wpList_load_mid rfl 32 _ rfl w.heap.size 0 rfl C _ rF Tryz.underlying32 rfl HIC.out ?_)|((with_reducible show wpList _ _ _ (⟨none,.store _ (.tmp 4) _,_,_,_,_⟩::_) _ _);refine wpList_store_mid rfl 63 _ _ rfl (w.heap.size+1) 0 Y.toArray rfl rfl ?ht9 ?hi9 ?h19 ?_))
   case ht9=>exact HZF.out.1
   case hi9=>first|exact info_sized lY.out|simpa using info_sized lY.out
   case h19=>first|exact sign_one HY.out HCC.out|exact all_oneCell_toArray (sign_one HY.out HCC.out)
   refine bodyPost_ret (HZF.out.2.1.result2 rfl rfl Tryz.underlying63 rfl (info_sized lY.out)) rfl ?_
   rw[HZ.out]
   refine Or.inr ⟨rfl,.slice pa pn pc,?_,HZF.out.2.2.2,HRO.out.2,HZF.out.2.2.1⟩
   rw[HY.out,<- HCC.out,<- HSG.out]
   rfl
  ·obtain⟨b,hb⟩:∃ b:Bool,(e2==(61:Int))=b:=⟨_,rfl⟩
   have hbd:decide (e2=61)=b:=by rw[<- hb];rfl
   have HZ:=Lib.hid (show R.sign M (s:Int) root=(e2,0, { R with dead:=b },M2)from by rw[HZ1.out,HKE.out];simp only[ne_eq,h2,not_false_eq_true,if_true,hbd])
   have u1:(e2==0)=false:=beq_eq_false_iff_ne.2 h2
   have u2:(e2 != 0)=true:=by rw[bne,u1];rfl
   have HNE:=Lib.hid h2
   have c5:=H7.out.go.cells.2.2.1
   have f5:=H7.out.go.cells.2.2.2.1
   rw[HD0.out]at c5
   have HDE:=Lib.hid (H7.out.dead b)
   clear HZ1 h2 HKE
   go_upto_region 19 with fail
   generalize World.setCell w7 _ (.bool b)=w9 at HDE ⊢
   clear c5 f5 H7 u1 u2 hb hbd
   have HN:=Lib.hid HDE.out.no
   go_wp2_with (first
    | ((with_reducible show wpList _ _ _ (⟨none,.store _ (.tmp 4) _,_,_,_,_⟩::_) _ _);refine wpList_store_mid rfl 63 _ _ rfl (w.heap.size+1) 0 signed0C.toArray rfl rfl ?hth10 ?hi10 ?h110 ?_))
   case hth10=>exact HN.out.1
   case hi10=>first|exact(by rw[List.size_toArray];exact info_signed0)|simpa using info_signed0
   case h110=>first|exact signed0_one|exact signedC_one rfl
   refine bodyPost_ret (HN.out.2.1.result2 rfl rfl Tryz.underlying63 rfl info_signed0) rfl ?_
   rw[HZ.out]
   exact Or.inl ⟨HNE.out,rfl,HN.out.2.2⟩
 ·obtain⟨b,hb⟩:∃ b:Bool,(e1==(61:Int))=b:=⟨_,rfl⟩
  have hbd:decide (e1=61)=b:=by rw[<- hb];rfl
  have HZ:=Lib.hid (show R.sign M (s:Int) root=(e1,0, { R with dead:=b },M1)from by rw[HZ1.out,HKR.out,if_neg h1];simp only[ne_eq,h1,not_false_eq_true,if_true,hbd])
  have u1:(e1==0)=false:=beq_eq_false_iff_ne.2 h1
  have u2:(e1 != 0)=true:=by rw[bne,u1];rfl
  have HNE:=Lib.hid h1
  have c5:=H6.out.go.cells.2.2.1
  have f5:=H6.out.go.cells.2.2.2.1
  rw[HD0.out]at c5
  have HDE:=Lib.hid (H6.out.dead b)
  clear HZ1 h1 HKR
  go_upto_region 19 with fail
  generalize World.setCell w6 _ (.bool b)=w9 at HDE ⊢
  clear c5 f5 H6 u1 u2 hb hbd
  have HN:=Lib.hid HDE.out.no
  go_wp2_with (first
   | ((with_reducible show wpList _ _ _ (⟨none,.store _ (.tmp 4) _,_,_,_,_⟩::_) _ _);refine wpList_store_mid rfl 63 _ _ rfl (w.heap.size+1) 0 signed0C.toArray rfl rfl ?hth11 ?hi11 ?h111 ?_))
  case hth11=>exact HN.out.1
  case hi11=>first|exact(by rw[List.size_toArray];exact info_signed0)|simpa using info_signed0
  case h111=>first|exact signed0_one|exact signedC_one rfl
  refine bodyPost_ret (HN.out.2.1.result2 rfl rfl Tryz.underlying63 rfl info_signed0) rfl ?_
  rw[HZ.out]
  exact Or.inl ⟨HNE.out,rfl,HN.out.2.2⟩
end
def alOps5:Array Oper:=#[
 ⟨some 22,.move (.tmp 0),41,"law.go:80", #[],none⟩,
 ⟨some 23,.call { callee := .value (.func 20),args := #[.tmp 22],argTypes := #[41] },3,"law.go:80", #[⟨0,.data⟩],none⟩,
 ⟨some 24,.move (.tmp 7),3,"law.go:80", #[],none⟩,
 ⟨some 25,.binOp .eql 3 (.tmp 23) (.tmp 24) 3,4,"law.go:80", #[⟨1,.data⟩,⟨2,.data⟩],none⟩,
 ⟨some 26,.move (.tmp 25),4,"law.go:80", #[⟨3,.data⟩,⟨1,.chain⟩],none⟩,
 ⟨some 27,.move (.tmp 6),4,"law.go:80", #[⟨4,.guard⟩],some (4,true)⟩,
 ⟨some 28,.move (.tmp 7),3,"law.go:80", #[⟨4,.guard⟩],some (4,true)⟩,
 ⟨some 29,.binOp .gtr 3 (.tmp 28) (.const (.int .i64 0)) 3,4,"law.go:80", #[⟨6,.data⟩,⟨4,.guard⟩],some (4,true)⟩,
 ⟨some 30,.binOp .eql 4 (.tmp 27) (.tmp 29) 4,4,"law.go:80", #[⟨5,.data⟩,⟨7,.data⟩,⟨4,.guard⟩],some (4,true)⟩,
 ⟨some 31,.pick (.tmp 26) (.tmp 30) (.const (.bool false)),4,"law.go:80", #[⟨4,.data⟩,⟨8,.data⟩],none⟩,
 ⟨some 32,.move (.tmp 31),4,"law.go:80", #[⟨9,.data⟩,⟨4,.chain⟩],none⟩,
 ⟨some 33,.move (.tmp 6),4,"law.go:80", #[⟨10,.guard⟩],some (10,true)⟩,
 ⟨some 34,.unOp .not 4 (.tmp 33),4,"law.go:80", #[⟨11,.data⟩,⟨10,.guard⟩],some (10,true)⟩,
 ⟨some 35,.move (.tmp 34),4,"law.go:80", #[⟨12,.data⟩,⟨10,.chain⟩,⟨10,.guard⟩],some (10,true)⟩,
 ⟨some 36,.load 32 (.tmp 5),32,"law.go:80", #[⟨13,.guard⟩],some (13,false)⟩,
 ⟨some 37,.move (.tmp 1),44,"law.go:80", #[⟨13,.guard⟩],some (13,false)⟩,
 ⟨some 38,.nilCheck (.tmp 37),0,"law.go:80", #[⟨15,.data⟩,⟨13,.guard⟩],some (13,false)⟩,
 ⟨some 39,.fieldAddr 97 (.tmp 38) 3,0,"law.go:80", #[⟨16,.data⟩,⟨13,.guard⟩],some (13,false)⟩,
 ⟨some 40,.load 22 (.tmp 39),22,"law.go:80", #[⟨17,.data⟩,⟨13,.guard⟩],some (13,false)⟩,
 ⟨some 41,.move (.tmp 7),3,"law.go:80", #[⟨13,.guard⟩],some (13,false)⟩,
 ⟨some 42,.binOp .sub 3 (.tmp 41) (.const (.int .i64 1)) 3,3,"law.go:80", #[⟨19,.data⟩,⟨13,.guard⟩],some (13,false)⟩,
 ⟨some 43,.indexAddr 22 (.tmp 40) (.tmp 42),0,"law.go:80", #[⟨18,.data⟩,⟨20,.data⟩,⟨13,.guard⟩],some (13,false)⟩,
 ⟨some 44,.load 32 (.tmp 43),32,"law.go:80", #[⟨21,.data⟩,⟨13,.guard⟩],some (13,false)⟩,
 ⟨some 45,.binOp .eql 32 (.tmp 36) (.tmp 44) 32,4,"law.go:80", #[⟨14,.data⟩,⟨22,.data⟩,⟨13,.guard⟩],some (13,false)⟩,
 ⟨some 46,.pick (.tmp 35) (.const (.bool true)) (.tmp 45),4,"law.go:80", #[⟨13,.data⟩,⟨23,.data⟩,⟨10,.guard⟩],some (10,true)⟩,
 ⟨some 47,.pick (.tmp 32) (.tmp 46) (.const (.bool false)),4,"law.go:80", #[⟨10,.data⟩,⟨24,.data⟩],none⟩,
 ⟨some 48,.move (.tmp 47),4,"law.go:80", #[⟨25,.data⟩,⟨13,.chain⟩],none⟩,
 ⟨some 49,.move (.tmp 0),41,"law.go:80", #[⟨26,.guard⟩],some (26,true)⟩,
 ⟨some 50,.call { callee := .value (.func 24),args := #[.tmp 49],argTypes := #[41] },30,"law.go:80", #[⟨27,.data⟩,⟨26,.chain⟩,⟨26,.guard⟩],some (26,true)⟩,
 ⟨some 51,.move (.tmp 1),44,"law.go:80", #[⟨26,.guard⟩],some (26,true)⟩,
 ⟨some 52,.call { callee := .value (.func 49),args := #[.tmp 51],argTypes := #[44] },30,"law.go:80", #[⟨29,.data⟩,⟨28,.chain⟩,⟨26,.guard⟩],some (26,true)⟩,
 ⟨some 53,.binOp .eql 30 (.tmp 50) (.tmp 52) 30,4,"law.go:80", #[⟨28,.data⟩,⟨30,.data⟩,⟨26,.guard⟩],some (26,true)⟩,
 ⟨some 54,.pick (.tmp 48) (.tmp 53) (.const (.bool false)),4,"law.go:80", #[⟨26,.data⟩,⟨31,.data⟩],none⟩,
 ⟨some 4,.assign (.tmp 54),4,"law.go:80", #[⟨32,.data⟩,⟨30,.chain⟩,⟨0,.phase⟩,⟨1,.phase⟩,⟨2,.phase⟩,⟨3,.phase⟩,⟨4,.phase⟩,⟨5,.phase⟩,⟨6,.phase⟩,⟨7,.phase⟩,⟨8,.phase⟩,⟨9,.phase⟩,⟨10,.phase⟩,⟨11,.phase⟩,⟨12,.phase⟩,⟨13,.phase⟩,⟨14,.phase⟩,⟨15,.phase⟩,⟨16,.phase⟩,⟨17,.phase⟩,⟨18,.phase⟩,⟨19,.phase⟩,⟨20,.phase⟩,⟨21,.phase⟩,⟨22,.phase⟩,⟨23,.phase⟩,⟨24,.phase⟩,⟨25,.phase⟩,⟨26,.phase⟩,⟨27,.phase⟩,⟨28,.phase⟩,⟨29,.phase⟩,⟨30,.phase⟩,⟨31,.phase⟩,⟨32,.phase⟩],none⟩]
section
variable {w w1 W : World} {r q d kb : Nat} {R : RingM} {ks vs : Value} {S : Nat → Prop} {M : DiskM}
theorem rring_key (h:IsRRing w q r R ks vs) (ht:Tab w) :
  Calls Tryz.prog 49 #[.pointer (some ⟨q,0,none⟩)] w fun e w'=>e = .returned (hashV (rootF (leavesF R.seed.data.toList)))/\Kept (fun _=>False) w w':=by
 have ka:Kept (fun _=>False) w (w.alloc (.cells (zeros 32).toArray 30)):=(Kept.refl _ _).alloc _
 have h':=h.kept ka (fun _ _=>id)
 have c1:=h'.blk.cell (i:=2) rfl
 have c1b:=c1
 simp only[zeros,List.replicate]at c1b
 have hb:=Blk.new w (zeros 32) 30
 have l32:=leaves_32 R.seed.data.toList
 have hroot:=(rroot9_any _ _ _ h'.keys.view l32 (by rw[leavesF_len];omega) (ht.same ka)).mono (R':=fun e w2=>e = .returned (hashV (rootF (leavesF R.seed.data.toList)))/\Hid (Blk w2 w.heap.size (zeros 32) 30/\Kept (fun _=>False) w w2)) (fun e w2 q=>⟨q.1,Lib.hid ⟨hb.kept q.2 id,ka.trans q.2⟩⟩)
 have hl:=rootF_len l32
 generalize rootF (leavesF R.seed.data.toList)=H at *
 have HR:=Lib.hid hroot
 have HL:=Lib.hid hl
 have HI:=Lib.hid (show(Tryz.prog.info? 30).map (·.size)=some (bytes8 H).length by rw[bytes8_len,hl];exact info_h32)
 clear hroot hl hb ka h h' l32
 go_enter Tryz.func49,Tryz.ntmps49
 go_wp2_with (first|(go_at_call 89;refine HR.out.mono ?_;rintro e w2 ⟨rfl,HB⟩)|((with_reducible show wpList _ _ _ (⟨none,.store _ (.tmp 2) _,_,_,_,_⟩::_) _ _);refine wpList_store_mid rfl 30 _ _ rfl w.heap.size 0 (bytes8 H).toArray rfl rfl ?hth ?hi ?h1 ?_))
 case hth=>exact(hash_stored HB.out.1 (zeros_len 32) HL.out).1
 case hi=>first|exact info_hash HL.out|simpa using info_hash HL.out
 case h1=>first|exact all_oneCell_toArray (fun y hy=>u8_oneCell y hy)|exact fun y hy=>u8_oneCell y hy
 have hst:=hash_stored HB.out.1 (zeros_len 32) HL.out
 refine bodyPost_ret (hst.2.result rfl rfl Tryz.underlying30 rfl HI.out) rfl ⟨rfl,?_⟩
 exact HB.out.2.then_ (kept_setCells _ _ _ _) (fun i hi e=>by omega)
structure AlS (W:World) (hb:Nat) (C:List Value) (q:Nat) (vs:Value) (gl m:Nat) (has:Prop) (W':World):Prop where
 rg:W'.rangeAt hb 0 C
 cv:W'.cell? ⟨q,3,none⟩=some vs
 cl:has->W'.rangeAt gl (m*33) C
 kept:Kept (fun _=>False) W W'
theorem AlS.next {hb gl m:Nat} {C:List Value} {has:Prop} {W1 W2:World} (h:AlS W hb C q vs gl m has W1) (hk:Kept (fun _=>False) W1 W2):AlS W hb C q vs gl m has W2 :=
 ⟨fun k u hu=>hk.cell (h.rg k u hu) id,hk.cell h.cv id,fun q k u hu=>hk.cell (h.cl q k u hu) id,h.kept.trans hk⟩
theorem al_r1 {hb gl m vc:Nat} {va:Option Addr} {C:List Value} {KY:By} {Q:Exit->Act->World->Prop} {u2 u3 u4 u8 u9 u10 u11 u12 u13 u14 u15 u16 u17 u18 u19 u20 u21 u22 u23 u24 u25 u26 u27 u28 u29 u30 u31 u32 u33 u34 u35 u36 u37 u38 u39 u40 u41 u42 u43 u44 u45 u46 u47 u48 u49 u50 u51 u52 u53 u54:Value} (hS:AlS w hb C q (.slice va 0 vc) 0 0 False W) (hKy:KY.length=32) (hus:∀ w1,Kept (fun _=>False) w w1->Calls Tryz.prog 20 #[.pointer (some ⟨kb,0,none⟩)] w1 fun e w'=>e = .returned (.int .i64 (0))/\w1=w') (hky:∀ w1,Kept (fun _=>False) w w1->Calls Tryz.prog 24 #[.pointer (some ⟨kb,0,none⟩)] w1 fun e w'=>e = .returned (hashV KY)/\Kept (fun _=>False) w1 w') (hqy:∀ w1,Kept (fun _=>False) w w1->Calls Tryz.prog 49 #[.pointer (some ⟨q,0,none⟩)] w1 fun e w'=>e = .returned (hashV KY)/\Kept (fun _=>False) w1 w')
  (HP:∀ c a (k:Nat) v w,Q (.panic c) (Act.put a (some k) v) w->Q (.panic c) a w) (HQ:∀ (v22 v23 v24 v25 v26 v27 v28 v29 v30 v31 v32 v33 v34 v35 v36 v37 v38 v39 v40 v41 v42 v43 v44 v45 v46 v47 v48 v49 v50 v51 v52 v53 v54:Value) (w':World),Kept (fun _=>False) w w'->Q .normal ⟨List.toArray ((.pointer (some ⟨kb,0,none⟩))::(.pointer (some ⟨q,0,none⟩))::u2::u3::(.bool true)::(.pointer (some ⟨hb,0,none⟩))::(.bool false)::(.int .i64 0)::u8::u9::u10::u11::u12::u13::u14::u15::u16::u17::u18::u19::u20::u21::v22::v23::v24::v25::v26::v27::v28::v29::v30::v31::v32::v33::v34::v35::v36::v37::v38::v39::v40::v41::v42::v43::v44::v45::v46::v47::v48::v49::v50::v51::v52::v53::v54::[]),[]⟩ w') :
  Code.wp Tryz.prog (Code.region 5 alOps5 true) Q ⟨List.toArray ((.pointer (some ⟨kb,0,none⟩))::(.pointer (some ⟨q,0,none⟩))::u2::u3::u4::(.pointer (some ⟨hb,0,none⟩))::(.bool false)::(.int .i64 0)::u8::u9::u10::u11::u12::u13::u14::u15::u16::u17::u18::u19::u20::u21::u22::u23::u24::u25::u26::u27::u28::u29::u30::u31::u32::u33::u34::u35::u36::u37::u38::u39::u40::u41::u42::u43::u44::u45::u46::u47::u48::u49::u50::u51::u52::u53::u54::[]),[]⟩ W:=by
 have HQ:=Lib.hid HQ
 have HUS:=Lib.hid hus
 have HKY:=Lib.hid hky
 have HQY:=Lib.hid hqy
 have heqk:=fun w'=>eql_hash w' KY KY hKy hKy
 rw[decide_eq_true (rfl:KY=KY)]at heqk
 unfold alOps5
 clear hus hky hqy
 refine wp_region_held_drew (S:=AlS w hb C q (.slice va 0 vc) 0 0 False) (by kernel_rfl) (hS.next (Kept.refl _ _).drew) (fun hS0=>?_)
 clear hS
 generalize World.drew W=W0 at *
 refine tp 0 hS0 HP ?_
 refine tp 2 hS0 HP ?_
 refine rd1 1 (fun K hK=>?_)
 go_simp
 refine(HUS.out _ hS0.kept).mono ?_
 rintro e' w5 ⟨rfl,rfl⟩
 refine hK.out _ _ (hS0) (fun hS1=>?_)
 clear hK K
 try simp only[lyA,lyB,lyC,lyD]
 refine tp 3 hS1 HP ?_
 refine tp 4 hS1 HP ?_
 refine tp 5 hS1 HP ?_
 refine tp 6 hS1 HP ?_
 refine tp 7 hS1 HP ?_
 refine tp 8 hS1 HP ?_
 refine tp 9 hS1 HP ?_
 refine tp 10 hS1 HP ?_
 refine tp 11 hS1 HP ?_
 refine tp 12 hS1 HP ?_
 refine tp 13 hS1 HP ?_
 refine tp0 14 hS1 HP ?_
 refine tp0 15 hS1 HP ?_
 refine tp0 16 hS1 HP ?_
 refine tp0 17 hS1 HP ?_
 refine tp0 18 hS1 HP ?_
 refine tp0 19 hS1 HP ?_
 refine tp0 20 hS1 HP ?_
 refine tp0 21 hS1 HP ?_
 refine tp0 22 hS1 HP ?_
 refine tp0 23 hS1 HP ?_
 refine tp 24 hS1 HP ?_
 refine tp 25 hS1 HP ?_
 refine tp 26 hS1 HP ?_
 refine tp 27 hS1 HP ?_
 refine tp 29 hS1 HP ?_
 refine rd1 28 (fun K hK=>?_)
 go_simp
 refine(HKY.out _ hS1.kept).mono ?_
 rintro e' w6 ⟨rfl,hk6⟩
 refine hK.out _ _ (hS1.next hk6) (fun hS2=>?_)
 clear hK K
 try simp only[lyA,lyB,lyC,lyD]
 refine rd1 30 (fun K hK=>?_)
 go_simp
 refine(HQY.out _ hS2.kept).mono ?_
 rintro e' w7 ⟨rfl,hk7⟩
 refine hK.out _ _ (hS2.next hk7) (fun hS3=>?_)
 clear hK K
 try simp only[lyA,lyB,lyC,lyD]
 refine tp 31 hS3 HP ?_
 refine tp 32 hS3 HP ?_
 refine tp 33 hS3 HP ?_
 refine dn ?_
 exact HQ.out _ _ _ _ _ _ _ _ _ _ _ _ _ _ _ _ _ _ _ _ _ _ _ _ _ _ _ _ _ _ _ _ _ _ hS3.kept
theorem al_r2 {hb gl m vc:Nat} {va:Option Addr} {C:List Value} {KY:By} {Q:Exit->Act->World->Prop} {u2 u3 u4 u8 u9 u10 u11 u12 u13 u14 u15 u16 u17 u18 u19 u20 u21 u22 u23 u24 u25 u26 u27 u28 u29 u30 u31 u32 u33 u34 u35 u36 u37 u38 u39 u40 u41 u42 u43 u44 u45 u46 u47 u48 u49 u50 u51 u52 u53 u54:Value} (hS:AlS w hb C q (.slice (some ⟨gl,0,none⟩) (m+1) vc) gl m True W) (hKy:KY.length=32) (hus:∀ w1,Kept (fun _=>False) w w1->Calls Tryz.prog 20 #[.pointer (some ⟨kb,0,none⟩)] w1 fun e w'=>e = .returned (.int .i64 (((m+1:Nat):Int)))/\w1=w') (hky:∀ w1,Kept (fun _=>False) w w1->Calls Tryz.prog 24 #[.pointer (some ⟨kb,0,none⟩)] w1 fun e w'=>e = .returned (hashV KY)/\Kept (fun _=>False) w1 w') (hqy:∀ w1,Kept (fun _=>False) w w1->Calls Tryz.prog 49 #[.pointer (some ⟨q,0,none⟩)] w1 fun e w'=>e = .returned (hashV KY)/\Kept (fun _=>False) w1 w') (hic:(Tryz.prog.info? 32).map (·.size)=some C.length) (hm:m<8) (heqh:∀ w',(binOp .eql 32 (.agg C.toArray) (.agg C.toArray)).run Tryz.prog w' = .ok (.bool true) w')
  (HP:∀ c a (k:Nat) v w,Q (.panic c) (Act.put a (some k) v) w->Q (.panic c) a w) (HQ:∀ (v22 v23 v24 v25 v26 v27 v28 v29 v30 v31 v32 v33 v34 v35 v36 v37 v38 v39 v40 v41 v42 v43 v44 v45 v46 v47 v48 v49 v50 v51 v52 v53 v54:Value) (w':World),Kept (fun _=>False) w w'->Q .normal ⟨List.toArray ((.pointer (some ⟨kb,0,none⟩))::(.pointer (some ⟨q,0,none⟩))::u2::u3::(.bool true)::(.pointer (some ⟨hb,0,none⟩))::(.bool true)::(.int .i64 (((m+1):Nat):Int))::u8::u9::u10::u11::u12::u13::u14::u15::u16::u17::u18::u19::u20::u21::v22::v23::v24::v25::v26::v27::v28::v29::v30::v31::v32::v33::v34::v35::v36::v37::v38::v39::v40::v41::v42::v43::v44::v45::v46::v47::v48::v49::v50::v51::v52::v53::v54::[]),[]⟩ w') :
  Code.wp Tryz.prog (Code.region 5 alOps5 true) Q ⟨List.toArray ((.pointer (some ⟨kb,0,none⟩))::(.pointer (some ⟨q,0,none⟩))::u2::u3::u4::(.pointer (some ⟨hb,0,none⟩))::(.bool true)::(.int .i64 (((m+1):Nat):Int))::u8::u9::u10::u11::u12::u13::u14::u15::u16::u17::u18::u19::u20::u21::u22::u23::u24::u25::u26::u27::u28::u29::u30::u31::u32::u33::u34::u35::u36::u37::u38::u39::u40::u41::u42::u43::u44::u45::u46::u47::u48::u49::u50::u51::u52::u53::u54::[]),[]⟩ W:=by
 have HQ:=Lib.hid HQ
 have HUS:=Lib.hid hus
 have HKY:=Lib.hid hky
 have HQY:=Lib.hid hqy
 have heqk:=fun w'=>eql_hash w' KY KY hKy hKy
 rw[decide_eq_true (rfl:KY=KY)]at heqk
 unfold alOps5
 clear hus hky hqy
 have HIC:=Lib.hid hic
 have q1:IntKind.i64.wrap (((m+1:Nat):Int)-1)=(m:Int):=by rw[show((m+1:Nat):Int)-1=(m:Int) by omega];exact IntWalk.i64_in _ (by omega)
 have q1':IntKind.i64.wrap ((m:Int)+1-1)=(m:Int):=by rw[show(m:Int)+1-1=(m:Int) by omega];exact IntWalk.i64_in _ (by omega)
 have q1b:IntKind.i64.wrap (m:Int)=(m:Int):=IntWalk.i64_in _ (by omega)
 have q2:m<m+1:=Nat.lt_succ_self m
 have q2b:(m:Int)<(m:Int)+1:=by omega
 have q3:decide ((0:Int)<((m+1:Nat):Int))=true:=decide_eq_true (by omega)
 have q3':decide ((0:Int)<(m:Int)+1)=true:=decide_eq_true (by omega)
 have z0:(((m+1:Nat):Int)==((m+1:Nat):Int))=true:=by simp
 refine wp_region_held_drew (S:=AlS w hb C q (.slice (some ⟨gl,0,none⟩) (m+1) vc) gl m True) (by kernel_rfl) (hS.next (Kept.refl _ _).drew) (fun hS0=>?_)
 clear hS
 generalize World.drew W=W0 at *
 refine tp 0 hS0 HP ?_
 refine tp 2 hS0 HP ?_
 refine rd1 1 (fun K hK=>?_)
 go_simp
 refine(HUS.out _ hS0.kept).mono ?_
 rintro e' w5 ⟨rfl,rfl⟩
 refine hK.out _ _ (hS0) (fun hS1=>?_)
 clear hK K
 try simp only[lyA,lyB,lyC,lyD]
 refine tp 3 hS1 HP ?_
 refine tp 4 hS1 HP ?_
 refine tp 5 hS1 HP ?_
 refine tp 6 hS1 HP ?_
 refine tp 7 hS1 HP ?_
 refine tp 8 hS1 HP ?_
 refine tp 9 hS1 HP ?_
 refine tp 10 hS1 HP ?_
 refine tp 11 hS1 HP ?_
 refine tp 12 hS1 HP ?_
 refine tp 13 hS1 HP ?_
 refine tky 14 rfl (fun _ _ _ h=>HP _ _ _ _ _ h) (yieldsIf_load_mid (by rfl) _ _ rfl hb 0 rfl C _ (fun w h=>h.rg) Tryz.underlying32 rfl HIC.out) hS1 ?_
 refine tp 15 hS1 HP ?_
 refine tp 16 hS1 HP ?_
 refine tp 17 hS1 HP ?_
 refine tp 18 hS1 HP ?_ (hy:=by (refine Or.inl ⟨by rfl,fun w hSw=>?_⟩;obtain⟨s1,s2,s3,s4⟩:=hSw;go_simp;(try with_reducible rfl)))
 refine tp 19 hS1 HP ?_
 refine tp 20 hS1 HP ?_
 refine tp 21 hS1 HP ?_
 refine tky 22 rfl (fun _ _ _ h=>HP _ _ _ _ _ h) (yieldsIf_load_mid (by rfl) _ _ rfl gl (m*33) rfl C _ (fun w h=>h.cl trivial) Tryz.underlying32 rfl HIC.out) hS1 ?_
 refine tp 23 hS1 HP ?_
 refine tp 24 hS1 HP ?_
 refine tp 25 hS1 HP ?_
 refine tp 26 hS1 HP ?_
 refine tp 27 hS1 HP ?_
 refine tp 29 hS1 HP ?_
 refine rd1 28 (fun K hK=>?_)
 go_simp
 refine(HKY.out _ hS1.kept).mono ?_
 rintro e' w6 ⟨rfl,hk6⟩
 refine hK.out _ _ (hS1.next hk6) (fun hS2=>?_)
 clear hK K
 try simp only[lyA,lyB,lyC,lyD]
 refine rd1 30 (fun K hK=>?_)
 go_simp
 refine(HQY.out _ hS2.kept).mono ?_
 rintro e' w7 ⟨rfl,hk7⟩
 refine hK.out _ _ (hS2.next hk7) (fun hS3=>?_)
 clear hK K
 try simp only[lyA,lyB,lyC,lyD]
 refine tp 31 hS3 HP ?_
 refine tp 32 hS3 HP ?_
 refine tp 33 hS3 HP ?_
 refine dn ?_
 exact HQ.out _ _ _ _ _ _ _ _ _ _ _ _ _ _ _ _ _ _ _ _ _ _ _ _ _ _ _ _ _ _ _ _ _ _ hS3.kept
theorem alike_any {R2:RingM} (h:IsRing w kb d R S) (hq:IsRRing w q r R2 ks vs) (hR:R2.signed=R.signed) (hsd:R2.seed=R.seed) (ht:Tab w) :
  Calls Tryz.prog 16 #[.pointer (some ⟨kb,0,none⟩),.pointer (some ⟨q,0,none⟩)] w fun e w'=>e = .returned (.bool true)/\Kept (fun _=>False) w w':=by
 obtain⟨va,vn,vc,rfl,hm,-,hcl⟩:=hq.signed.form (by omega)
 have h32:∀ x∈R2.signed,x.2.length=32:=fun x hx=>(hq.oks x hx).2.2
 rw[hdC_len h32]at hm
 have hvn:R.signed.length=vn:=by rw[<- hR];omega
 have hvl:vn<=8:=by have:=hq.few;omega
 have cv:=hq.blk.cell (i:=3) rfl
 have HUS:=Lib.hid (fun (W:World) (hk:Kept (fun _=>False) w W)=>ring_used (h.same hk))
 have HKY:=Lib.hid (fun (W:World) (hk:Kept (fun _=>False) w W)=>ring_key (h.same hk) (ht.same hk))
 have HQY:=Lib.hid (fun (W:World) (hk:Kept (fun _=>False) w W)=>rring_key (hq.kept hk (fun _ _=>id)) (ht.same hk))
 rw[hsd]at HQY
 rw[hvn]at HUS
 have hK32:(rootF (leavesF R.seed.data.toList)).length=32:=rootF_len (leaves_32 _)
 generalize rootF (leavesF R.seed.data.toList)=KY at *
 have heqk:=fun w'=>eql_hash w' KY KY hK32 hK32
 rw[decide_eq_true (rfl:KY=KY)]at heqk
 have z0:((vn:Int)==(vn:Int))=true:=by simp
 rcases Nat.eq_zero_or_pos vn with hv0|hv0
 ·subst hv0
  have h0:R.signed=[]:=List.eq_nil_of_length_eq_zero hvn
  obtain⟨C,hC⟩:∃ C,headC 0 zeroRoot=C:=⟨_,rfl⟩
  have HC:=Lib.hid (show headC 0 zeroRoot=C/\C.length=33 from⟨hC,by rw[<- hC];exact head0_len⟩)
  clear hcl hm hvn hvl hq hR hsd h32
  have HLS:=Lib.hid (show Calls Tryz.prog 48 #[.pointer (some ⟨kb,0,none⟩)] w fun e w'=>e = .returned (.tuple #[.agg C.toArray,.bool false])/\Kept (fun _=>False) w w' from by rw[<- hC];exact ring_last0 h h0)
  have lC:C.length=33:=HC.out.2
  have HIC:=Lib.hid (show(Tryz.prog.info? 32).map (·.size)=some C.length by rw[lC];exact info_head)
  have HZ:=Lib.hid (show w.heap.size<=w.heap.size from Nat.le_refl _)
  clear lC HZ hC h0 h
  go_enter Tryz.func16,Tryz.ntmps16
  go_upto_region 5 with (first
   | (go_at_call 48;refine HLS.out.mono ?_;rintro e' w3 ⟨rfl,hk3⟩;have HK3:=Lib.hid hk3;have cv3:=hk3.cell cv id;clear hk3)
   | ((with_reducible show wpList _ _ _ (⟨none,.store _ (.tmp 5) _,_,_,_,_⟩::_) _ _);refine wpList_store_mid rfl 32 _ _ rfl w3.heap.size 0 C.toArray rfl rfl ?hthA ?hiA ?h1A ?hkA;(case' hkA=>generalize hw4:World.setCells _ w3.heap.size 0 _=w4;have h4:=(show Blk w4 w3.heap.size C 32/\Kept (fun _=>False) w w4 from(by rw[<- hw4];exact⟨(hd_fresh w3 HC.out.2).1,HK3.out.trans (hd_fresh w3 HC.out.2).2.1⟩));have cv4:=h4.2.cell cv id;have H4:=Lib.hid h4;clear hw4 h4)))
  case hthA=>exact(hd_fresh w3 HC.out.2).2.2
  case hiA=>rw[List.size_toArray];exact HIC.out
  case h1A=>exact all_oneCell_toArray (fun y hy=>by rw[<- HC.out.1]at hy;exact head_oneCell y hy)
  generalize w3.heap.size=hb at *
  have hS:AlS w hb C q (.slice va 0 vc) 0 0 False w4:=⟨H4.out.1.range0,cv4,False.elim,H4.out.2⟩
  have HKX:=Lib.hid hK32
  refine al_r1 (gl:=0) (m:=0) hS HKX.out HUS.out HKY.out HQY.out (fun _ _ _ _ _ h=>h) ?_
  intro _ _ _ _ _ _ _ _ _ _ _ _ _ _ _ _ _ _ _ _ _ _ _ _ _ _ _ _ _ _ _ _ _ w9 hk9
  clear hS cv4 cv3 cv HUS HKY HQY
  go_wp2_with fail
  go_ret
  exact⟨rfl,hk9⟩
 ·obtain⟨m,rfl⟩:∃ m,vn=m+1:=⟨vn-1,by omega⟩
  obtain⟨a,ha⟩:∃ a,R.signed[m]? = some a:=⟨_,List.getElem?_eq_getElem (by omega)⟩
  obtain⟨gl,rfl,-,hc⟩:=hcl (by omega)
  have ha32:a.2.length=32:=h32 a (by rw[hR];exact List.mem_of_getElem? ha)
  obtain⟨C,hC⟩:∃ C,headC (a.1:Int) a.2=C:=⟨_,rfl⟩
  have HC:=Lib.hid (show headC (a.1:Int) a.2=C/\C.length=33 from⟨hC,by rw[<- hC];exact headC_len ha32⟩)
  have hgl:w.rangeAt gl (m*33) C:=by
   rw[<- hC]
   intro j u hu
   have e:=hdC_at h32 m (by rw[hR];exact ha)
   rw[<- e]at hu
   have hj:j<33:=by have:=(List.getElem?_eq_some_iff.1 hu).1;rw[List.length_take]at this;omega
   rw[List.getElem?_take,if_pos hj,List.getElem?_drop]at hu
   exact hc _ _ hu
  have heqh:=fun w'=>eql_head w' (a.1:Int) (a.1:Int) a.2 a.2 ha32 ha32
  rw[decide_eq_true (⟨rfl,rfl⟩:(a.1:Int)=(a.1:Int)/\a.2=a.2)]at heqh
  rw[show headV (a.1:Int) a.2 = .agg C.toArray from by rw[<- hC]]at heqh
  have q1:IntKind.i64.wrap (((m+1:Nat):Int)-1)=(m:Int):=by rw[show((m+1:Nat):Int)-1=(m:Int) by omega];exact IntWalk.i64_in _ (by omega)
  have q1':IntKind.i64.wrap ((m:Int)+1-1)=(m:Int):=by rw[show(m:Int)+1-1=(m:Int) by omega];exact IntWalk.i64_in _ (by omega)
  have q2:m<m+1:=Nat.lt_succ_self m
  have q3:decide ((0:Int)<((m+1:Nat):Int))=true:=decide_eq_true (by omega)
  have q3':decide ((0:Int)<(m:Int)+1)=true:=decide_eq_true (by omega)
  have HLS:=Lib.hid (show Calls Tryz.prog 48 #[.pointer (some ⟨kb,0,none⟩)] w fun e w'=>e = .returned (.tuple #[.agg C.toArray,.bool true])/\Kept (fun _=>False) w w' from by rw[<- hC];exact ring_last h m a ha hvn)
  have lC:C.length=33:=HC.out.2
  have HIC:=Lib.hid (show(Tryz.prog.info? 32).map (·.size)=some C.length by rw[lC];exact info_head)
  have HZ:=Lib.hid (show w.heap.size<=w.heap.size from Nat.le_refl _)
  clear lC HZ hC ha h hcl hm hvn hq hR hsd h32 ha32 hc hv0
  go_enter Tryz.func16,Tryz.ntmps16
  go_upto_region 5 with (first
   | (go_at_call 48;refine HLS.out.mono ?_;rintro e' w3 ⟨rfl,hk3⟩;have HK3:=Lib.hid hk3;have cv3:=hk3.cell cv id;clear hk3)
   | ((with_reducible show wpList _ _ _ (⟨none,.store _ (.tmp 5) _,_,_,_,_⟩::_) _ _);refine wpList_store_mid rfl 32 _ _ rfl w3.heap.size 0 C.toArray rfl rfl ?hthB ?hiB ?h1B ?hkB;(case' hkB=>generalize hw4:World.setCells _ w3.heap.size 0 _=w4;have h4:=(show Blk w4 w3.heap.size C 32/\Kept (fun _=>False) w w4 from(by rw[<- hw4];exact⟨(hd_fresh w3 HC.out.2).1,HK3.out.trans (hd_fresh w3 HC.out.2).2.1⟩));have cv4:=h4.2.cell cv id;have H4:=Lib.hid h4;clear hw4 h4)))
  case hthB=>exact(hd_fresh w3 HC.out.2).2.2
  case hiB=>rw[List.size_toArray];exact HIC.out
  case h1B=>exact all_oneCell_toArray (fun y hy=>by rw[<- HC.out.1]at hy;exact head_oneCell y hy)
  generalize w3.heap.size=hb at *
  have hS:AlS w hb C q (.slice (some ⟨gl,0,none⟩) (m+1) vc) gl m True w4:=⟨H4.out.1.range0,cv4,fun _ k u hu=>H4.out.2.cell (hgl k u hu) id,H4.out.2⟩
  have HKX:=Lib.hid hK32
  refine al_r2 (va:=none) hS HKX.out HUS.out HKY.out HQY.out HIC.out (by omega) heqh (fun _ _ _ _ _ h=>h) ?_
  intro _ _ _ _ _ _ _ _ _ _ _ _ _ _ _ _ _ _ _ _ _ _ _ _ _ _ _ _ _ _ _ _ _ w9 hk9
  clear hS cv4 cv3 cv HUS HKY HQY
  go_wp2_with fail
  go_ret
  exact⟨rfl,hk9⟩
end
def Og.ring (k:Nat) (R:RingM) (S:Nat->Prop):Og:=⟨S,fun w d=>IsRing w k d R S/\∀ b,S b->b<w.heap.size,fun h hk hZ=>⟨h.1.kept hk hZ,fun b q=>Nat.lt_of_lt_of_le (h.2 b q) hk.size⟩,fun h hk=>h.2 _ hk⟩
section
variable {w0 w w' : World} {d r q kb : Nat} {M M' N : DiskM} {Os : List Og} {x y ks vs : Value} {R : RingM} {S : Nat → Prop}
theorem Owg.keeps {B:Nat->Prop} (h:FrG w0 w d M B Os):Keeps B:=⟨h.old _ (tab_lt h.tab0).1,h.old _ (tab_lt h.tab0).2⟩
theorem Owg.kopen (h:Owg w0 w d M Os) (seed:ByteArray) (hs:seed.size<=1000) (hc:M.files.length+M.loose.length<300000000) {z:Int × List Hd × DiskM} (hz:M.openR=z) :
  Calls Tryz.prog 14 #[.pointer (some ⟨d,0,none⟩),.string seed] w fun e w' =>
   (z.1≠0/\e = .returned (.tuple #[.pointer none,.int .i64 z.1])/\Owg w0 w' d z.2.2 Os) \/
   (z.1=0/\∃ k S,e = .returned (.tuple #[.pointer (some ⟨k,0,none⟩),.int .i64 0])/\Owg w0 w' d z.2.2 (Og.ring k ⟨seed,z.2.1,z.2.2.starts,false⟩ S::Os)):=by
 subst hz
 obtain⟨B,h⟩:=h
 refine(open_any h.ap seed hs hc (Owg.keeps h) h.tab).mono fun e w' q=>?_
 rcases q with⟨h0,rfl,ha,hk⟩|⟨h0,k,S,rfl,hr,hS,ha,hk⟩
 ·exact Or.inl ⟨h0,rfl,B,h.to hk ha⟩
 ·exact Or.inr ⟨h0,k,S,rfl,_,h.come (x:=Og.ring k ⟨seed,M.openR.2.1,M.openR.2.2.starts,false⟩ S) hk ha ⟨hr,fun b q=>ha.lt (Or.inr q)⟩ hS⟩
end
section
variable {M : DiskM}
end
theorem alike_nil (w:World):Calls Tryz.prog 16 #[.pointer none,.pointer none] w fun e w'=>e = .returned (.bool true)/\w=w':=by
 go_enter Tryz.func16,Tryz.ntmps16
 go_wp2_with fail
 go_ret
 exact⟨rfl,rfl⟩
section
variable {w0 w w' : World} {d r q k : Nat} {M M' N : DiskM} {R R' : RingM} {Os : List Og} {x y ks vs : Value} {S : Nat → Prop}
theorem rsign_any (h:RefAtF w r M x y) (hq:IsRRing w q r R ks vs) (size:Int) (root:By) (hroot:root.length=32) (hc:M.files.length+M.loose.length<300000000) (ht:Tab w) (hT:∀ k,(k=r\/k=q)->k≠0/\k≠1) :
  Calls Tryz.prog 61 #[.pointer (some ⟨q,0,none⟩),headV size root] w (RSPost w r q x y ks vs size root (R.sign M size root)):=by
 cases ho:R.over M with
 | true =>
  have e:R.sign M size root=(61,0, { R with dead:=true },M):=by unfold RingM.sign;rw[if_pos ho]
  rw[e]
  exact rsign_down h hq size root ho
 | false=>exact rsign_up h hq size root hroot ho hc ht hT
def Og.rringF (r:Nat) (x y:Value) (M:DiskM) (q:Nat) (ks vs:Value) (R:RingM):Og:=⟨fun k=>refOwn r x y k\/rrOwn q ks vs k,fun w _=>RefAtF w r M x y/\IsRRing w q r R ks vs,fun h hk hZ=>⟨h.1.keep hk (fun k q=>hZ k (Or.inl q)),h.2.kept hk (fun k q=>hZ k (Or.inr q))⟩,fun h hk=>hk.elim h.1.lt h.2.lt⟩
theorem Owg.rrgo (h:Owg w0 w d N (Og.rringF r x y M q ks vs R::Os)) (hg:RRGo w r q x y ks vs M' R' w'):∃ x' y' vs',Owg w0 w' d N (Og.rringF r x' y' M' q ks vs' R'::Os):=by
 obtain⟨B,h⟩:=h
 obtain⟨x',y',vs',g1,g2,g3,g4,g5,g6⟩:=hg
 have hB:=fun k (z:refOwn r x y k\/rrOwn q ks vs k)=>((h.obs _ (List.mem_cons_self ..)).2 k z).1
 have hS:(Og.rringF r x' y' M' q ks vs' R').holds w' d:=⟨g1,g2⟩
 have ho:∀ k,(refOwn r x' y' k\/rrOwn q ks vs' k)->(refOwn r x y k\/rrOwn q ks vs k)\/w.heap.size<=k:=by
  rintro k ((z|z|z)|(z|z|z))
  ·exact Or.inl (Or.inl (Or.inl z))
  ·exact(g4 k z).imp (fun z=>Or.inl (Or.inr (Or.inl z))) id
  ·exact(g5 k z).imp (fun z=>Or.inl (Or.inr (Or.inr z))) id
  ·exact Or.inl (Or.inr (Or.inl z))
  ·exact Or.inl (Or.inr (Or.inr (Or.inl z)))
  ·exact(g6 k z).imp (fun z=>Or.inr (Or.inr (Or.inr z))) id
 have hown:∀ k,(k=r\/k=q)->refOwn r x y k\/rrOwn q ks vs k:=fun k e=>e.elim (fun e=>Or.inl (Or.inl e)) (fun e=>Or.inr (Or.inl e))
 refine⟨x',y',vs',_,h.swap (x:=Og.rringF r x' y' M' q ks vs' R') (g3.mono (fun k _ e=>Or.inr (hown k e))) (h.ap.grow g3 (fun k _ e=>hB k (hown k e)) (fun k z=>?_)) hS ho⟩
 rcases z with z|z
 ·exact Or.inl z
 ·rcases ho k z with z2|z2
  ·exact Or.inl (hB k z2)
  ·exact Or.inr ⟨z2,Og.lt hS z⟩
theorem Owg.rdisk (h:Owg w0 w d N (Og.rringF r x y M q ks vs R::Os)) (hg:RefGoF w r x y M' w'):∃ x' y' vs',Owg w0 w' d N (Og.rringF r x' y' M' q ks vs' R::Os):=by
 have h1:=h.has (x:=Og.rringF r x y M q ks vs R) (List.mem_cons_self ..)
 obtain⟨x1,y1,a1,a2,a3,a4⟩:=hg
 exact h.rrgo (M':=M') (R':=R) ⟨x1,y1,vs,a1,h1.2.kept a2 (fun k hk=>h1.2.ne h1.1 hk),a2.mono (fun k _ e=>Or.inl e),a3,a4,fun _=>Or.inl⟩
theorem Owg.rsign (h:Owg w0 w d N (Og.rringF r x y M q ks vs R::Os)) (size:Int) (root:By) (hroot:root.length=32) (hc:M.files.length+M.loose.length<300000000) :
  Calls Tryz.prog 61 #[.pointer (some ⟨q,0,none⟩),headV size root] w fun e w' =>
   ((R.sign M size root).1≠0/\e = .returned (.tuple #[.agg signed0C.toArray,.int .i64 (R.sign M size root).1])/\Kept (fun k=>k=r\/k=q) w w'/\∃ x' y' vs',Owg w0 w' d N (Og.rringF r x' y' (R.sign M size root).2.2.2 q ks vs' (R.sign M size root).2.2.1::Os)) \/
   ((R.sign M size root).1=0/\∃ v,e = .returned (.tuple #[signedV size root ((R.sign M size root).2.1:Int) ⟨(signF (R.sign M size root).2.2.1.seed.data.toList (R.sign M size root).2.1 (digestF size.toNat root)).toArray⟩ v,.int .i64 0])/\Row w' 30 32 v (hcells (pathF (leavesF (R.sign M size root).2.2.1.seed.data.toList) (R.sign M size root).2.1))/\Kept (fun k=>k=r\/k=q) w w'/\∃ x' y' vs',Owg w0 w' d N (Og.rringF r x' y' (R.sign M size root).2.2.2 q ks vs' (R.sign M size root).2.2.1::Os)):=by
 have h1:=h.has (x:=Og.rringF r x y M q ks vs R) (List.mem_cons_self ..)
 have hT:∀ k,(k=r\/k=q)->k≠0/\k≠1:=fun k e=>by
  have ho:(Og.rringF r x y M q ks vs R).own k:=e.elim (fun e=>Or.inl (Or.inl e)) (fun e=>Or.inr (Or.inl e))
  have hge:=h.ge (List.mem_cons_self ..) ho
  obtain⟨B,hf⟩:=h
  have:=tab_lt hf.tab0
  exact⟨by omega,by omega⟩
 refine(rsign_any h1.1 h1.2 size root hroot hc h.tab hT).mono fun e w' q=>?_
 rcases q with⟨z,q1,q2⟩|⟨z,v,q1,q2,q3,q4⟩
 ·exact Or.inl ⟨z,q1,q2.kept,h.rrgo q2⟩
 ·exact Or.inr ⟨z,v,q1,q2,q4.kept,h.rrgo q4⟩
theorem Owg.psign (h:Owg w0 w d M (Og.ring k R S::Os)) (size:Int) (root:By) (hroot:root.length=32) (hc:M.files.length+M.loose.length<300000000) (hR8:R.signed.length<=8) :
  Calls Tryz.prog 21 #[.pointer (some ⟨k,0,none⟩),headV size root] w fun e w' =>
   ((R.sign M size root).1≠0/\e = .returned (.tuple #[.agg signed0C.toArray,.int .i64 (R.sign M size root).1])/\∃ S',Owg w0 w' d (R.sign M size root).2.2.2 (Og.ring k (R.sign M size root).2.2.1 S'::Os)) \/
   ((R.sign M size root).1=0/\∃ v S',e = .returned (.tuple #[signedV size root ((R.sign M size root).2.1:Int) ⟨(signF (R.sign M size root).2.2.1.seed.data.toList (R.sign M size root).2.1 (digestF size.toNat root)).toArray⟩ v,.int .i64 0])/\Row w' 30 32 v (hcells (pathF (leavesF (R.sign M size root).2.2.1.seed.data.toList) (R.sign M size root).2.1))/\(∀ b,v.ownBlock=some b->w.heap.size<=b)/\Owg w0 w' d (R.sign M size root).2.2.2 (Og.ring k (R.sign M size root).2.2.1 S'::Os)):=by
 have h0:=h
 obtain⟨B,h⟩:=h
 obtain⟨⟨hr,hlt⟩,hob⟩:=h.obs _ (List.mem_cons_self ..)
 have hSB:∀ b,S b->B b:=fun b z=>(hob b z).1
 have hKB:=Owg.keeps h
 have hTS:¬ S 0/\¬ S 1:=by
  have:=tab_lt h.tab0
  exact⟨fun z=>by have:=(hob _ z).2;omega,fun z=>by have:=(hob _ z).2;omega⟩
 have hno:∀ {code:Int} {R1:RingM} {M1:DiskM} {e:Ending} {w1:World},SignNo B S k d w code R1 M1 e w1->e = .returned (.tuple #[.agg signed0C.toArray,.int .i64 code])/\∃ S',Owg w0 w1 d M1 (Og.ring k R1 S'::Os):=by
  rintro code R1 M1 e w1 ⟨rfl,q1,q2,q3⟩
  exact⟨rfl,S,_,h.swap (x:=Og.ring k R1 S) (q3.mono (fun b _ z=>z.imp id (fun z=>by rw[z];exact hr.own))) (q2.fewer (fun b z=>z.elim id (hSB b))) ⟨q1,fun b z=>q2.lt (hSB b z)⟩ (fun b z=>Or.inl z)⟩
 have hyes:∀ {s:Nat} {i:Nat} {R1:RingM} {M1:DiskM} {e:Ending} {w1:World},SignYes B S k d w s root i R1 M1 e w1->∃ v S',e = .returned (.tuple #[signedV (s:Int) root (i:Int) ⟨(signF R1.seed.data.toList i (digestF s root)).toArray⟩ v,.int .i64 0])/\Row w1 30 32 v (hcells (pathF (leavesF R1.seed.data.toList) i))/\(∀ b,v.ownBlock=some b->w.heap.size<=b)/\Owg w0 w1 d M1 (Og.ring k R1 S'::Os):=by
  rintro s i R1 M1 e w1 ⟨v,S',rfl,q1,q2,q3,q4,q5,q6⟩
  exact⟨v,S',rfl,q1,fun b z=>(q2 b z).1,_,h.swap (x:=Og.ring k R1 S') q6 (q5.fewer (fun b z=>z.elim Or.inl (fun z=>Or.inr (Or.inl z)))) ⟨q3,fun b z=>q5.lt (Or.inr (Or.inl z))⟩ q4⟩
 cases ho:R.over M with
 | true =>
  have e:R.sign M size root=(61,0, { R with dead:=true },M):=by unfold RingM.sign;rw[if_pos ho]
  rw[e]
  exact(sign_down hr h.ap hSB size root ho).mono fun e w' q=>Or.inl ⟨(show(61:Int)≠0 by decide),hno q⟩
 | false =>
  have HZ:R.sign M size root=if(nextF R.signed size root).2.2≠0 then((nextF R.signed size root).2.2,0,R,M)else if(nextF R.signed size root).2.1=false then(0,(nextF R.signed size root).1.toNat,R,M)else if(M.keepR (size.toNat,root)).1≠0 then((M.keepR (size.toNat,root)).1,0, { R with dead:=decide ((M.keepR (size.toNat,root)).1=61) },(M.keepR (size.toNat,root)).2)else(0,(nextF R.signed size root).1.toNat, { R with signed:=R.signed++[(size.toNat,root)] },(M.keepR (size.toNat,root)).2):=by unfold RingM.sign;rw[if_neg (by rw[ho];simp)]
  by_cases hg:size<1\/4096<size
  ·have hn:nextF R.signed size root=(0,false,2):=by unfold nextF;rw[if_pos hg]
   have e:R.sign M size root=(2,0,R,M):=by rw[HZ,hn];simp
   rw[e]
   exact(sign_refused hr h.ap hSB size root hroot ho 0 false 2 hn (by decide)).mono fun e w' q=>Or.inl ⟨(show(2:Int)≠0 by decide),hno q⟩
  ·have hnx:=nextF_eq R.signed hg root
   obtain⟨s,rfl⟩:∃ s:Nat,size=(s:Int):=⟨size.toNat,by omega⟩
   rw[show(s:Int).toNat=s from rfl]at HZ
   by_cases h1:lastEq R.signed (s:Int) root=true
   ·have hlen:R.signed.length≠0:=fun e=>by rw[List.eq_nil_of_length_eq_zero e]at h1;simp[lastEq]at h1
    rw[if_pos h1]at hnx
    have e:R.sign M (s:Int) root=(0,R.signed.length-1,R,M):=by rw[HZ,hnx];simp
    rw[e]
    exact(sign_again hr h.ap hSB s root (by omega) hroot ho (R.signed.length-1) (by omega) hnx h.tab hTS).mono fun e w' q=>Or.inr ⟨rfl,hyes q⟩
   ·rw[if_neg h1]at hnx
    by_cases h2:lastGe R.signed (s:Int)=true
    ·rw[if_pos h2]at hnx
     have e:R.sign M (s:Int) root=(83,0,R,M):=by rw[HZ,hnx];simp
     rw[e]
     exact(sign_refused hr h.ap hSB (s:Int) root hroot ho 0 false 83 hnx (by decide)).mono fun e w' q=>Or.inl ⟨(show(83:Int)≠0 by decide),hno q⟩
    ·rw[if_neg h2]at hnx
     by_cases h8:8<=R.signed.length
     ·rw[if_pos h8]at hnx
      have e:R.sign M (s:Int) root=(85,0,R,M):=by rw[HZ,hnx];simp
      rw[e]
      exact(sign_refused hr h.ap hSB (s:Int) root hroot ho 0 false 85 hnx (by decide)).mono fun e w' q=>Or.inl ⟨(show(85:Int)≠0 by decide),hno q⟩
     ·rw[if_neg h8]at hnx
      obtain⟨e1,M1,hkr⟩:∃ e1 M1,M.keepR (s,root)=(e1,M1):=⟨_,_,rfl⟩
      by_cases h0:e1=0
      ·subst h0
       have e:R.sign M (s:Int) root=(0,R.signed.length, { R with signed:=R.signed++[(s,root)] },M1):=by rw[HZ,hnx,hkr];simp
       rw[e]
       exact(sign_fresh hr h.ap hSB s root (by omega) hroot ho (by omega) R.signed.length (by omega) rfl hnx M1 hkr hc hKB h.tab hTS).mono fun e w' q=>Or.inr ⟨rfl,hyes q⟩
      ·have e:R.sign M (s:Int) root=(e1,0, { R with dead:=decide (e1=61) },M1):=by rw[HZ,hnx,hkr];simp[h0]
       rw[e]
       exact(sign_fails hr h.ap hSB s root (by omega) hroot ho _ hnx e1 M1 hkr h0 hc h.tab hTS).mono fun e w' q=>Or.inl ⟨h0,hno q⟩
end
def Bd (M:DiskM) (n:Nat):Prop:=M.loose.length<=n/\0<=M.starts/\M.starts<=n
section
variable {M : DiskM} {n : Nat}
theorem Bd.more (h:Bd M n) {m:Nat} (hm:n<=m):Bd M m:=⟨by have:=h.1;omega,h.2.1,by have:=h.2.2;omega⟩
theorem Bd.tick (h:Bd M n):Bd M.tick n:=by
 obtain⟨m1,m2⟩:=M.tick_rest
 exact⟨by rw[M.tick_loose];exact h.1,by rw[m2];exact h.2.1,by rw[m2];exact h.2.2⟩
theorem Bd.crash (h:Bd M n) (k:Int):Bd (M.crash k) n:=⟨Nat.zero_le _,h.2.1,h.2.2⟩
theorem Bd.sunk (h:Bd M n):Bd M.sunk n:=h.tick.crash M.keep
theorem Bd.create (h:Bd M n) (k:Int):Bd (M.create k).2 n:=by
 unfold DiskM.create
 split;· exact h
 split;· exact h
 split;· exact h
 split;· exact h
 split;· exact h.sunk
 exact h.tick
theorem Bd.appended (h:Bd M n) (k:Int) (s:By):Bd (M.appended k s) (n+1):=⟨by show(M.loose++[(k,s.length)]).length<=n+1;rw[List.length_append];have:=h.1;simp;omega,h.2.1,by have:=h.2.2;show M.starts<=((n+1:Nat):Int);omega⟩
theorem Bd.append (h:Bd M n) (k:Int) (s:By):Bd (M.append k s).2 (n+1):=by
 unfold DiskM.append
 split;· exact h.more (by omega)
 split;· exact h.more (by omega)
 split;· exact(h.appended k s).sunk
 exact(h.appended k s).tick
theorem Bd.truncate (h:Bd M n) (k size:Int):Bd (M.truncate k size).2 n:=by
 unfold DiskM.truncate
 split;· exact h
 split;· exact h
 split;· exact h.sunk
 refine⟨?_,h.tick.2.1,h.tick.2.2⟩
 show(DiskM.dropL k M.tick.loose _).length<=n
 rw[dropL_len]
 exact h.tick.1
theorem Bd.sync (h:Bd M n):Bd M.sync.2 n:=by
 unfold DiskM.sync
 split;· exact h
 split;· exact h.sunk
 exact⟨Nat.zero_le _,h.tick.2⟩
theorem Bd.crashR (h:Bd M n) (k:Int):Bd (M.crashR k).2 n:=by
 unfold DiskM.crashR
 split;· exact h
 exact h.crash k
theorem Bd.startR (h:Bd M n):Bd M.startR.2 (n+1):=by
 unfold DiskM.startR
 split
 ·have h1:=h.1
  have h2:=h.2
  refine⟨?_,?_,?_⟩
  ·show M.start.loose.length<=n+1
   unfold DiskM.start
   simp only
   omega
  ·show 0<=M.start.starts
   unfold DiskM.start
   simp only
   omega
  ·show M.start.starts<=((n+1:Nat):Int)
   unfold DiskM.start
   simp only
   omega
 ·exact h.more (by omega)
theorem Bd.failR (h:Bd M n) (a b:Int):Bd (M.failR a b).2 n:=by
 unfold DiskM.failR
 split;· exact h
 split;· exact h
 exact⟨h.1,h.2⟩
theorem Bd.openR (h:Bd M n):Bd M.openR.2.2 n:=by
 unfold DiskM.openR
 split;· exact h
 unfold DiskM.mend
 split
 ·split
  ·exact h.create 990
  ·exact(h.create 990).sync
 ·split
  ·exact h
  ·split
   ·exact h.sync
   ·split
    ·exact h.truncate _ _
    ·exact(h.truncate _ _).sync
theorem Bd.keepR (h:Bd M n) (x:Hd):Bd (M.keepR x).2 (n+1):=by
 unfold DiskM.keepR
 split
 ·exact(h.append _ _).sync
 ·exact h.append _ _
theorem Bd.sign (h:Bd M n) (R:RingM) (size:Int) (root:By):Bd (R.sign M size root).2.2.2 (n+1):=by
 unfold RingM.sign
 split;· exact h.more (by omega)
 split;· exact h.more (by omega)
 split;· exact h.more (by omega)
 split;· exact h.keepR _
 exact h.keepR _
end
section
variable {w0 w w' : World} {d r q k kb qb : Nat} {M M' N N' : DiskM} {R R' : RingM} {Os : List Og} {x y ks vs : Value} {S : Nat → Prop}
theorem Owg.rropenF {st:Int} {seed:ByteArray} {z:Int × List Hd × DiskM} {e:Ending} (h:Owg w0 w d N (Og.reff r M x y::Os)) (hq:RROpenToF w r x y st seed z e w') :
  (z.1≠0/\e = .returned (.tuple #[.pointer none,.int .i64 z.1])/\∃ x' y',Owg w0 w' d N (Og.reff r z.2.2 x' y'::Os)) \/
  (z.1=0/\∃ q ks vs x' y',e = .returned (.tuple #[.pointer (some ⟨q,0,none⟩),.int .i64 0])/\Owg w0 w' d N (Og.rringF r x' y' z.2.2 q ks vs ⟨seed,z.2.1,st,false⟩::Os)):=by
 rcases hq with⟨h0,rfl,hg⟩|⟨h0,q,ks,vs,rfl,h1,h2,x',y',g1,g2,g3,g4⟩
 ·exact Or.inl ⟨h0,rfl,h.refdF hg⟩
 ·refine Or.inr ⟨h0,q,ks,vs,x',y',rfl,?_⟩
  obtain⟨B,h⟩:=h
  have hB:=fun k (q:refOwn r x y k)=>((h.obs _ (List.mem_cons_self ..)).2 k q).1
  have hS:(Og.rringF r x' y' z.2.2 q ks vs ⟨seed,z.2.1,st,false⟩).holds w' d:=⟨g1,h1⟩
  have ho:∀ k,(refOwn r x' y' k\/rrOwn q ks vs k)->refOwn r x y k\/w.heap.size<=k:=by
   rintro k ((q|q|q)|q)
   ·exact Or.inl (Or.inl q)
   ·exact(g3 k q).imp (fun q=>Or.inr (Or.inl q)) id
   ·exact(g4 k q).imp (fun q=>Or.inr (Or.inr q)) id
   ·exact Or.inr (h2 k q)
  refine⟨_,h.swap (x:=Og.rringF r x' y' z.2.2 q ks vs ⟨seed,z.2.1,st,false⟩) (g2.mono (fun k _ e=>Or.inr (Or.inl e))) (h.ap.grow g2 (fun k _ e=>hB k (Or.inl e)) (fun k q=>?_)) hS ho⟩
  rcases q with q|q
  ·exact Or.inl q
  ·rcases ho k q with q2|q2
   ·exact Or.inl (hB k q2)
   ·exact Or.inr ⟨q2,Og.lt hS q⟩
theorem Owg.unring (h:Owg w0 w d N (Og.rringF r x y M q ks vs R::Os)):Owg w0 w d N (Og.reff r M x y::Os):=by
 obtain⟨B,h⟩:=h
 have h1:=h.obs _ (List.mem_cons_self ..)
 have hB:=fun k (z:refOwn r x y k)=>(h1.2 k (Or.inl z)).1
 exact⟨_,h.swap (x:=Og.reff r M x y) (Kept.refl _ _) (h.ap.fewer (fun k z=>z.elim id (hB k))) h1.1.1 (fun k z=>Or.inl (Or.inl z))⟩
abbrev kbO (kb:Nat) (v:Value):Og:=Og.blk kb [v] 41
abbrev qbO (qb:Nat) (v:Value):Og:=Og.blk qb [v] 44
inductive PlayG (w0 W:World) (d r kb qb:Nat) (N M:DiskM) (E:List Og):Option RingM->Prop
 | nor {x y:Value} (h:Owg w0 W d N (Og.reff r M x y::kbO kb (.pointer none)::qbO qb (.pointer none)::E)):PlayG w0 W d r kb qb N M E none
 | both {R:RingM} {x y ks vs:Value} {k q:Nat} {S:Nat->Prop} (h:Owg w0 W d N (Og.rringF r x y M q ks vs R::Og.ring k R S::kbO kb (.pointer (some ⟨k,0,none⟩))::qbO qb (.pointer (some ⟨q,0,none⟩))::E)):PlayG w0 W d r kb qb N M E (some R)
variable {o : Option RingM} {E : List Og} {g : Og}
theorem PlayG.same (h:PlayG w0 w d r kb qb N M E o) (hk:Kept (fun _=>False) w w'):PlayG w0 w' d r kb qb N M E o:=by
 cases h with
 | nor h=>exact .nor (h.same hk)
 | both h=>exact .both (h.same hk)
theorem PlayG.owg (h:PlayG w0 w d r kb qb N M E o):∃ Os,Owg w0 w d N Os:=by
 cases h with
 | nor h=>exact⟨_,h⟩
 | both h=>exact⟨_,h⟩
theorem PlayG.old (h:PlayG w0 w d r kb qb N M E o):Kept (fun _=>False) w0 w:=by obtain⟨_,h⟩:=h.owg;exact h.old
theorem PlayG.ref (h:PlayG w0 w d r kb qb N M E o):∃ x y,RefAtF w r M x y/\∀ M' w',RefGoF w r x y M' w'->PlayG w0 w' d r kb qb N M' E o:=by
 cases h with
 | nor h=>exact⟨_,_,h.has (x:=Og.reff r M _ _) (List.mem_cons_self ..),fun M' w' hg=>by obtain⟨x',y',h'⟩:=h.refdF hg;exact .nor h'⟩
 | both h=>exact⟨_,_,(h.has (x:=Og.rringF r _ _ M _ _ _ _) (List.mem_cons_self ..)).1,fun M' w' hg=>by obtain⟨x',y',vs',h'⟩:=h.rdisk hg;exact .both h'⟩
theorem PlayG.prog {f:FuncId} {args:Array Value} {a:Ending} (h:PlayG w0 w d r kb qb N M E o) (hf:∀ Os,Owg w0 w d N Os->Calls Tryz.prog f args w fun e w'=>e=a/\Owg w0 w' d N' Os) :
  Calls Tryz.prog f args w fun e w'=>e=a/\PlayG w0 w' d r kb qb N' M E o:=by
 cases h with
 | nor h=>exact(hf _ h).mono fun e w' q=>⟨q.1,.nor q.2⟩
 | both h=>exact(hf _ h).mono fun e w' q=>⟨q.1,.both q.2⟩
theorem PlayG.docu {f:FuncId} {args:Array Value} {a:Ending} (h:PlayG w0 w d r kb qb N M E o) (hf:∀ x y,RefAtF w r M x y->Calls Tryz.prog f args w fun e w'=>e=a/\RefGoF w r x y M' w') :
  Calls Tryz.prog f args w fun e w'=>e=a/\PlayG w0 w' d r kb qb N M' E o:=by
 obtain⟨x,y,h1,h2⟩:=h.ref
 exact(hf x y h1).mono fun e w' q=>⟨q.1,h2 M' w' q.2⟩
theorem PlayG.few (h:PlayG w0 w d r kb qb N M E o):M.files.length<=100:=by
 obtain⟨x,y,⟨R,h1,h2⟩,-⟩:=h.ref
 exact h2.few
theorem PlayG.sameL (h:PlayG w0 w d r kb qb M M E o) :
  Calls Tryz.prog 17 #[.pointer (some ⟨d,0,none⟩),.pointer (some ⟨r,0,none⟩)] w fun e w'=>e = .returned (.bool true)/\PlayG w0 w' d r kb qb M M E o:=by
 obtain⟨x,y,h1,-⟩:=h.ref
 obtain⟨Os,B,hB⟩:=h.owg
 exact(sameF_any hB.ap h1).mono fun e w' q=>⟨q.1,h.same q.2⟩
theorem PlayG.vars (h:PlayG w0 w d r kb qb N M E o):∃ kv qv,w.cell? ⟨kb,0,none⟩=some kv/\w.cell? ⟨qb,0,none⟩=some qv/\w.frozen? ⟨kb,0,none⟩=false/\w.frozen? ⟨qb,0,none⟩=false/\((o=none/\kv = .pointer none/\qv = .pointer none)\/∃ R k q,o=some R/\kv = .pointer (some ⟨k,0,none⟩)/\qv = .pointer (some ⟨q,0,none⟩)):=by
 cases h with
 | nor h =>
  have h1:=h.has (x:=kbO kb (.pointer none)) (by simp)
  have h2:=h.has (x:=qbO qb (.pointer none)) (by simp)
  exact⟨_,_,Blk.cell h1 (i:=0) rfl,Blk.cell h2 (i:=0) rfl,Blk.free h1 0,Blk.free h2 0,Or.inl ⟨rfl,rfl,rfl⟩⟩
 | @both R x y ks vs k q S h =>
  have h1:=h.has (x:=kbO kb (.pointer (some ⟨k,0,none⟩))) (by simp)
  have h2:=h.has (x:=qbO qb (.pointer (some ⟨q,0,none⟩))) (by simp)
  exact⟨_,_,Blk.cell h1 (i:=0) rfl,Blk.cell h2 (i:=0) rfl,Blk.free h1 0,Blk.free h2 0,Or.inr ⟨R,k,q,rfl,rfl,rfl⟩⟩
theorem PlayG.add (h:PlayG w0 w d r kb qb N M E o) (hk:Kept (fun _=>False) w w') (hg:g.holds w' d) (ho:∀ k,g.own k->w.heap.size<=k):PlayG w0 w' d r kb qb N M (g::E) o:=by
 cases h with
 | nor h=>exact .nor ((h.add hk hg ho).perm (List.perm_middle (l₁:=[_,_,_])).symm)
 | both h=>exact .both ((h.add hk hg ho).perm (List.perm_middle (l₁:=[_,_,_,_])).symm)
theorem PlayG.has (h:PlayG w0 w d r kb qb N M E o) (hg:g∈E):g.holds w d:=by
 cases h with
 | nor h=>exact h.has (List.mem_cons_of_mem _ (List.mem_cons_of_mem _ (List.mem_cons_of_mem _ hg)))
 | both h=>exact h.has (List.mem_cons_of_mem _ (List.mem_cons_of_mem _ (List.mem_cons_of_mem _ (List.mem_cons_of_mem _ hg))))
theorem PlayG.bare (h:PlayG w0 w d r kb qb N M E o):PlayG w0 w d r kb qb N M [] o:=by
 cases h with
 | nor h=>exact .nor (h.sub (((List.nil_sublist _).cons_cons _).cons_cons _ |>.cons_cons _))
 | both h=>exact .both (h.sub ((((List.nil_sublist _).cons_cons _).cons_cons _ |>.cons_cons _).cons_cons _))
theorem PlayG.alike (h:PlayG w0 w d r kb qb M M E o) {kv qv:Value} (hk:w.cell? ⟨kb,0,none⟩=some kv) (hq:w.cell? ⟨qb,0,none⟩=some qv) :
  Calls Tryz.prog 16 #[kv,qv] w fun e w'=>e = .returned (.bool true)/\PlayG w0 w' d r kb qb M M E o:=by
 cases h with
 | nor h =>
  have h1:=Blk.cell (h.has (x:=kbO kb (.pointer none)) (by simp)) (i:=0) rfl
  have h2:=Blk.cell (h.has (x:=qbO qb (.pointer none)) (by simp)) (i:=0) rfl
  rw[h1]at hk
  rw[h2]at hq
  cases hk
  cases hq
  exact(alike_nil w).mono fun e w' q=>⟨q.1,q.2 ▸ .nor h⟩
 | @both R x y ks vs k q S h =>
  have h1:=Blk.cell (h.has (x:=kbO kb (.pointer (some ⟨k,0,none⟩))) (by simp)) (i:=0) rfl
  have h2:=Blk.cell (h.has (x:=qbO qb (.pointer (some ⟨q,0,none⟩))) (by simp)) (i:=0) rfl
  rw[h1]at hk
  rw[h2]at hq
  cases hk
  cases hq
  have hrr:=h.has (x:=Og.rringF r x y M q ks vs R) (by simp)
  have hrg:=h.has (x:=Og.ring k R S) (by simp)
  exact(alike_any hrg.1 hrr.2 rfl rfl h.tab).mono fun e w' z=>⟨z.1,.both (h.same z.2)⟩
end
def ansZ (R:RingM) (M:DiskM) (size:Int) (root:By):Int:=if(R.sign M size root).1≠0 then 0 else size
def ansR (R:RingM) (M:DiskM) (size:Int) (root:By):By:=if(R.sign M size root).1≠0 then zeroRoot else root
def ansI (R:RingM) (M:DiskM) (size:Int) (root:By):Int:=if(R.sign M size root).1≠0 then 0 else((R.sign M size root).2.1:Int)
def ansS (R:RingM) (M:DiskM) (size:Int) (root:By):ByteArray:=if(R.sign M size root).1≠0 then ⟨#[]⟩else ⟨(signF (R.sign M size root).2.2.1.seed.data.toList (R.sign M size root).2.1 (digestF size.toNat root)).toArray⟩
def ansP (R:RingM) (M:DiskM) (size:Int) (root:By):List By:=if(R.sign M size root).1≠0 then []else pathF (leavesF (R.sign M size root).2.2.1.seed.data.toList) (R.sign M size root).2.1
section
variable {w0 w w' : World} {d r q k : Nat} {M N : DiskM} {R : RingM} {Os : List Og} {x y ks vs : Value} {S : Nat → Prop}
theorem ansR_len (R:RingM) (M:DiskM) (size:Int) {root:By} (hr:root.length=32):(ansR R M size root).length=32:=by
 unfold ansR
 split
 ·simp
 ·exact hr
theorem ansP_ok (R:RingM) (M:DiskM) (size:Int) (root:By):(∀ x∈ansP R M size root,x.length=32)/\(ansP R M size root).length<=1000000:=by
 unfold ansP
 split
 ·exact⟨(fun _ h=>nomatch h),by simp⟩
 ·have:=path_32 8 (l:=leavesF (R.sign M size root).2.2.1.seed.data.toList) (i:=(R.sign M size root).2.1) (by rw[leavesF_len];omega) (leaves_32 _)
  exact⟨this.1,by have:=this.2;rw[leavesF_len]at this;omega⟩
abbrev ansV (R:RingM) (M:DiskM) (size:Int) (root:By) (v:Value):Value:=.tuple #[signedV (ansZ R M size root) (ansR R M size root) (ansI R M size root) (ansS R M size root) v,.int .i64 (R.sign M size root).1]
theorem Owg.psignA (h:Owg w0 w d M (Og.ring k R S::Os)) (size:Int) (root:By) (hroot:root.length=32) (hc:M.files.length+M.loose.length<300000000) :
  Calls Tryz.prog 21 #[.pointer (some ⟨k,0,none⟩),headV size root] w fun e w' =>
   ∃ v S',e = .returned (ansV R M size root v)/\Row w' 30 32 v (hcells (ansP R M size root))/\(∀ b,v.ownBlock=some b->w.heap.size<=b)/\Owg w0 w' d (R.sign M size root).2.2.2 (Og.ring k (R.sign M size root).2.2.1 S'::Os):=by
 have h8:R.signed.length<=8:=(h.has (x:=Og.ring k R S) (List.mem_cons_self ..)).1.few
 refine(h.psign size root hroot hc h8).mono fun e w' z=>?_
 rcases z with⟨z0,rfl,S',h1⟩|⟨z0,v,S',rfl,h1,h2,h3⟩
 ·refine⟨.slice none 0 0,S',?_,?_,fun b e=>by simp[Value.ownBlock]at e,h1⟩
  ·unfold ansV ansZ ansR ansI ansS
   rw[if_pos z0,if_pos z0,if_pos z0,if_pos z0]
  ·unfold ansP
   rw[if_pos z0]
   exact Row.nil _ _ _
 ·refine⟨v,S',?_,?_,h2,h3⟩
  ·unfold ansV ansZ ansR ansI ansS
   rw[if_neg (by simpa using z0),if_neg (by simpa using z0),if_neg (by simpa using z0),if_neg (by simpa using z0),z0]
  ·unfold ansP
   rw[if_neg (by simpa using z0)]
   exact h1
theorem Owg.rsignA (h:Owg w0 w d N (Og.rringF r x y M q ks vs R::Os)) (size:Int) (root:By) (hroot:root.length=32) (hc:M.files.length+M.loose.length<300000000) :
  Calls Tryz.prog 61 #[.pointer (some ⟨q,0,none⟩),headV size root] w fun e w' =>
   ∃ v,e = .returned (ansV R M size root v)/\Row w' 30 32 v (hcells (ansP R M size root))/\Kept (fun k=>k=r\/k=q) w w'/\∃ x' y' vs',Owg w0 w' d N (Og.rringF r x' y' (R.sign M size root).2.2.2 q ks vs' (R.sign M size root).2.2.1::Os):=by
 refine(h.rsign size root hroot hc).mono fun e w' z=>?_
 rcases z with⟨z0,rfl,h1,h2⟩|⟨z0,v,rfl,h1,h2,h3⟩
 ·refine⟨.slice none 0 0,?_,?_,h1,h2⟩
  ·unfold ansV ansZ ansR ansI ansS
   rw[if_pos z0,if_pos z0,if_pos z0,if_pos z0]
  ·unfold ansP
   rw[if_pos z0]
   exact Row.nil _ _ _
 ·refine⟨v,?_,?_,h2,h3⟩
  ·unfold ansV ansZ ansR ansI ansS
   rw[if_neg (by simpa using z0),if_neg (by simpa using z0),if_neg (by simpa using z0),if_neg (by simpa using z0),z0]
  ·unfold ansP
   rw[if_neg (by simpa using z0)]
   exact h1
end
end Go.Proofs.YtdmedbhbefdnkaaGreatDoor
