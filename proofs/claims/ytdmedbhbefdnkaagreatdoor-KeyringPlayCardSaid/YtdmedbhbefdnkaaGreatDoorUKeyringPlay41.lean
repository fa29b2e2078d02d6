/- Paths3 KeyT1 KeyT2 KeyT3 KeyT4 Heads1 Heads2 Heads3 Heads4 -/
import Derived.Test.YtdmedbhbefdnkaaGreatDoorUKeyringPlay37
import Derived.Test.YtdmedbhbefdnkaaGreatDoorUKeyringPlay40
set_option linter.unusedVariables false
set_option linter.unusedSimpArgs false
set_option maxRecDepth 100000
set_option maxHeartbeats 16000000
namespace Go.Proofs.YtdmedbhbefdnkaaGreatDoor
open Go.RowKit
theorem check_after {w w1 w2 w3:World} {A B C:List Value} {t:TypeId} {N:By} {hb:Nat} (hp:Blk w1 w.heap.size A t/\Blk w1 (w.heap.size+1) B t/\Blk w1 hb C t) (kk:Kept (fun _=>False) w w1) (hk2:Kept (fun _=>False) w1 w2) (hA:A.length=32) (hN:N.length=32) (h:w2.setCells w.heap.size 0 (bytes8 N)=w3) :
  Blk w3 w.heap.size (bytes8 N) t/\Blk w3 (w.heap.size+1) B t/\Kept (fun _=>False) w w3:=by
 subst h
 have kn:=kept_setCells w2 w.heap.size 0 (bytes8 N)
 exact⟨(hash_stored (hp.1.kept hk2 id) hA hN).2,(hp.2.1.kept hk2 id).kept kn (by omega),(kk.trans hk2).then_ kn (fun i hi e=>by omega)⟩
theorem check_meas {n k:Nat} (h:k<n):n-(intOf (.int .i64 ((k:Int)+1))).toNat<n-(intOf (.int .i64 (k:Int))).toNat:=by show n-((k:Int)+1).toNat<n-((k:Int)).toNat;omega
def checkAns (leaf root:By) (i n:Nat) (P:List By):Int:=if provesF leaf i n P root then 0 else 80
theorem checkAns_of {leaf root:By} {i n:Nat} {P:List By} {c:Climb} (h:provesF leaf i n P root↔c.last=0/\c.used=P.length/\c.leaf=root):checkAns leaf root i n P=if c.last=0/\c.used=P.length/\c.leaf=root then 0 else 80:=by
 unfold checkAns
 by_cases q:c.last=0/\c.used=P.length/\c.leaf=root
 ·rw[if_pos q,if_pos (h.2 q)]
 ·rw[if_neg q,if_neg (fun x=>q (h.1 x))]
theorem check_any (w:World) (leaf root:By) (i n:Nat) (v:Value) (P:List By) (hl:leaf.length=32) (hr:root.length=32) (h1:1<=n) (h2:n<=4096) (hi:i<n) (hv:View w 32 v (hcells P)) (hP32:∀ x∈P,x.length=32) (hP:P.length<=1000000)
  (hvb:∀ b,v.ownBlock=some b->b<w.heap.size) (ht:Tab w) :
  Calls Tryz.prog 104 #[hashV leaf,.int .i64 (i:Int),.int .i64 (n:Int),v,hashV root] w fun e w'=>e = .returned (.int .i64 (checkAns leaf root i n P))/\Kept (fun _=>False) w w':=by
 obtain⟨a,m,cap,rfl,q1,q2,q3,q4,q5⟩:=id hv
 rw[hcells_len hP32]at q1
 obtain rfl:m=P.length:=by omega
 clear q1 q2 q3 q4 q5
 have y1:decide ((n:Int)<1)=false:=decide_eq_false (by omega)
 have y2:decide ((4096:Int)<(n:Int))=false:=decide_eq_false (by omega)
 have y3:decide ((i:Int)<0)=false:=decide_eq_false (by omega)
 have y4:decide (n<=i)=false:=decide_eq_false (by omega)
 have y5:decide ((n:Int)<=(i:Int))=false:=decide_eq_false (by omega)
 have a1:wrap64 ((n:Int)-1)=((n-1:Nat):Int):=by rw[IntWalk.wrap64_in _ (by omega)];omega
 have hprove:∀ c:Climb,climbF P ⟨leaf,i,n-1,0⟩=c->(provesF leaf i n P root↔c.last=0/\c.used=P.length/\c.leaf=root):=by rintro c rfl;rfl
 obtain⟨e,he⟩:∃ e:Nat,n-1=e:=⟨_,rfl⟩
 rw[he]at a1 hprove
 have he2:e<=4096:=by omega
 have HE:=Lib.hid he
 clear he
 have b0:=(Blk.new w (bytes8 leaf) 30).alloc (.cells (bytes8 root).toArray 30)
 have b1:=Blk.new (w.alloc (.cells (bytes8 leaf).toArray 30)) (bytes8 root) 30
 rw[World.size_alloc]at b1
 have k0:Kept (fun _=>False) w ((w.alloc (.cells (bytes8 leaf).toArray 30)).alloc (.cells (bytes8 root).toArray 30)):=((Kept.refl _ _).alloc _).alloc _
 go_enter Tryz.func104,Tryz.ntmps104
 go_wp2_with fail
 go_step3
 go_wp2_with fail
 go_step3
 go_wp2_with fail
 go_loopw [1,11,12,34] (fun x y z t wr=>∃ (k ci cl cu:Nat) (lf:By),x = .int .i64 (ci:Int)/\y = .int .i64 (cl:Int)/\z = .int .i64 (cu:Int)/\t = .int .i64 (k:Int)/\k<=P.length/\ci<=4096/\cl<=4096/\cu<=k/\Hid (lf.length=32) /\
  Hid (climbF P ⟨leaf,i,e,0⟩=climbF (P.drop k) ⟨lf,ci,cl,cu⟩)/\Blk wr w.heap.size (bytes8 lf) 30/\Blk wr (w.heap.size+1) (bytes8 root) 30/\Kept (fun _=>False) w wr) (fun _ _ _ t _=>P.length-(intOf t).toNat)
 case atStart=>exact⟨0,i,e,0,leaf,rfl,by rw[show(n:Int)-1=(e:Int) by have:=HE.out;omega],rfl,rfl,Nat.zero_le _,by omega,he2,Nat.le_refl _,Lib.hid hl,Lib.hid rfl,b0,b1,k0⟩
 case round =>
  obtain⟨k,ci,cl,cu,lf,rfl,rfl,rfl,rfl,hk,hci,hcl,hcu,HL,HC,hb0,hb1,hkw⟩:=hrel
  by_cases hlt:k<P.length
  ·have z1:decide ((k:Int)<(P.length:Int))=true:=decide_eq_true (by omega)
   have z1':decide (k<P.length)=true:=decide_eq_true hlt
   obtain⟨h,hh⟩:∃ h,P[k]? = some h:=⟨_,List.getElem?_eq_getElem hlt⟩
   have h32:=hP32 h (List.mem_of_getElem? hh)
   obtain⟨g,off,hag,hg,hrg⟩:∃ g off,a=some ⟨g,off,none⟩/\g<w.heap.size/\w.rangeAt g off (hcells P):=by
    obtain⟨a',n',c',hq,q1,q2,q3,q4,q5⟩:=id hv
    cases hq
    obtain⟨g,off,rfl,hg,hc⟩:=q5 (by omega)
    exact⟨g,off,rfl,hg,hc⟩
   subst hag
   have hrk:=rangeAt_mid (rangeAt_kept hrg hkw hg id) (k*32) 32
   rw[hcells_at hP32 k h hh]at hrk
   have HRK:=Lib.hid hrk
   have hdrop:P.drop k=h::P.drop (k+1):=by
    obtain⟨_,hq⟩:=List.getElem?_eq_some_iff.1 hh
    rw[List.drop_eq_getElem_cons hlt,hq]
   have hnew:=hash_stored (Blk.new wr (zeros 32) 30) (zeros_len 32) h32
   have l0:w.heap.size<wr.heap.size:=hb0.lt
   have l1:w.heap.size+1<wr.heap.size:=hb1.lt
   have HF:=Lib.hid (show ∀ w1,w1=(wr.alloc (.cells (zeros 32).toArray 30)).setCells wr.heap.size 0 (bytes8 h)->Blk w1 w.heap.size (bytes8 lf) 30/\Blk w1 (w.heap.size+1) (bytes8 root) 30/\Blk w1 wr.heap.size (bytes8 h) 30/\Kept (fun _=>False) w w1 from by
    rintro w1 rfl
    have kk:=kept_setCells (wr.alloc (.cells (zeros 32).toArray 30)) wr.heap.size 0 (bytes8 h)
    exact⟨(hb0.alloc _).kept kk (by omega),(hb1.alloc _).kept kk (by omega),hnew.2,(hkw.alloc _).then_ kk (fun i hi e=>by omega)⟩)
   have HN1:=Lib.hid hnew.1
   have ih:=Lib.hid (show(Tryz.prog.info? 30).map (·.size)=some (bytes8 h).length by rw[bytes8_len,h32];exact info_h32)
   have i0:(k:Int)<(P.length:Int):=by omega
   have i1:(0:Int)<=(k:Int):=by omega
   by_cases t1:cl=0
   ·have hC:climbF P ⟨leaf,i,e,0⟩=⟨lf,ci,cl,cu⟩:=by
     rw[HC.out,hdrop,t1]
     simp[climbF]
    have hans:=checkAns_of (hprove _ hC)
    have HA:=Lib.hid hans
    have neq:=fun w'=>neq_hash w' lf root HL.out hr
    have il:(Tryz.prog.info? 30).map (·.size)=some (bytes8 lf).length:=by rw[bytes8_len,HL.out];exact info_h32
    have ir:(Tryz.prog.info? 30).map (·.size)=some (bytes8 root).length:=by rw[bytes8_len,hr];exact info_h32
    have HII:=Lib.hid (And.intro il ir)
    have H32:=Lib.hid h32
    subst t1
    have t2:¬ cu=P.length:=by omega
    have w1:decide (cu=P.length)=false:=decide_eq_false t2
    have w1':decide ((cu:Int)=(P.length:Int))=false:=decide_eq_false (by omega)
    have w1a:((cu:Int)==(P.length:Int))=false:=by simp;omega
    have w1b:(cu==P.length)=false:=by simp;omega
    have HT:=Lib.hid t2
    have t2i:¬ (cu:Int)=(P.length:Int):=by omega
    clear hprove hans hC hb0 hb1 il ir y1 y2 y3 y4 y5 a1 hnew hrk hrg hdrop hh h32 hv hvb
    go_wp2_with (first|((with_reducible show wpList _ _ _ (⟨some 37,_,_,_,_,_⟩::_) _ _);refine wpList_load_mid rfl 30 _ rfl g (off+k*32) rfl (bytes8 h) _ HRK.out Tryz.underlying30 rfl ih.out ?_)|((with_reducible show wpList _ _ _ (⟨none,.store _ (.tmp 14) _,_,_,_,_⟩::_) _ _);refine wpList_store_mid rfl 30 _ _ rfl wr.heap.size 0 (bytes8 h).toArray rfl rfl ?hth ?hi ?h1 ?hk;(case' hk=>generalize hw1:World.setCells _ wr.heap.size 0 _=w1;obtain⟨p0,p1,p2,kk1⟩:=HF.out w1 hw1.symm;clear hw1;have HB:=Lib.hid (And.intro p0.range0 (And.intro p1.range0 (And.intro HII.out.1 (And.intro HII.out.2 p2.range0))));have HP:=Lib.hid (And.intro p0 (And.intro p1 p2));clear p0 p1 p2))|((with_reducible show wpList _ _ _ (⟨some 81,_,_,_,_,_⟩::_) _ _);refine wpList_load_wanted rfl 30 _ rfl w.heap.size 0 rfl (bytes8 lf) _ HB.out.1 Tryz.underlying30 rfl HB.out.2.2.1 ?_)|((with_reducible show wpList _ _ _ (⟨some 82,_,_,_,_,_⟩::_) _ _);refine wpList_load_wanted rfl 30 _ rfl (w.heap.size+1) 0 rfl (bytes8 root) _ HB.out.2.1 Tryz.underlying30 rfl HB.out.2.2.2 ?_))
    case hth=>exact HN1.out
    case hi=>first|exact info_hash H32.out|simpa using info_hash H32.out
    case h1=>first|exact all_oneCell_toArray (fun y hy=>u8_oneCell y hy)|exact fun y hy=>u8_oneCell y hy
    (try rw[Exit.noGoto_ret])
    go_ret
    exact⟨by rw[HA.out,if_neg (fun q=>HT.out q.2.1)];rfl,kk1⟩
   ·have w0:((cl:Int)==0)=false:=by simp;omega
    have w0':decide (cl=0)=false:=decide_eq_false t1
    have H32:=Lib.hid h32
    have il:(Tryz.prog.info? 30).map (·.size)=some (bytes8 lf).length:=by rw[bytes8_len,HL.out];exact info_h32
    have ir:(Tryz.prog.info? 30).map (·.size)=some (bytes8 root).length:=by rw[bytes8_len,hr];exact info_h32
    have HII:=Lib.hid (And.intro il ir)
    have hsm:ci/2<=4096/\cl/2<=4096/\cu+1<=k+1:=by omega
    have b4:=Lib.hid (show wrap64 ((cu:Int)+1)=((cu+1:Nat):Int) by rw[IntWalk.wrap64_in _ (by omega)];omega)
    by_cases hA:ci%2=1\/ci=cl
    ·have hnode:=fun w' ht=>node_any w' h lf h32 HL.out ht
     have hstep:climbF P ⟨leaf,i,e,0⟩=climbF (P.drop (k+1)) ⟨nodeF h lf,(stripF ci cl).1/2,(stripF ci cl).2/2,cu+1⟩:=by
      rw[HC.out,hdrop]
      simp only[climbF]
      rw[if_neg t1,if_pos hA]
     have hN:=nodeF_len h lf
     generalize nodeF h lf=N at *
     have HS:=Lib.hid (And.intro hstep hN)
     have HN:=Lib.hid hnode
     have HCC:=Lib.hid (And.intro hci (And.intro hcl (And.intro hcu hlt)))
     obtain⟨tA,tB,hAB⟩:∃ tA tB:Bool,((ci:Int)%2==1)=tA/\((ci:Int)==(cl:Int))=tB/\(tA||tB)=true:=by
      refine⟨_,_,rfl,rfl,?_⟩
      rcases hA with q|q
      ·rw[Bool.or_eq_true];left;simp;omega
      ·rw[Bool.or_eq_true];right;simp;omega
     clear hprove hb0 hb1 il ir y1 y2 y3 y4 y5 a1 hnew hrk hrg hdrop hh h32 hv hvb hstep hN hnode hA
     rcases hAB with⟨eA,eB,hor⟩
     have hpick:tA=true\/(tA=false/\tB=true):=by cases tA<;>simp_all
     rcases hpick with rfl|⟨rfl,rfl⟩
     ·clear hor
      go_wp2_with (first|((with_reducible show wpList _ _ _ (⟨some 37,_,_,_,_,_⟩::_) _ _);refine wpList_load_mid rfl 30 _ rfl g (off+k*32) rfl (bytes8 h) _ HRK.out Tryz.underlying30 rfl ih.out ?_)|((with_reducible show wpList _ _ _ (⟨none,.store _ (.tmp 14) _,_,_,_,_⟩::_) _ _);refine wpList_store_mid rfl 30 _ _ rfl wr.heap.size 0 (bytes8 h).toArray rfl rfl ?htha ?hia ?h1a ?hka;(case' hka=>generalize hw1:World.setCells _ wr.heap.size 0 _=w1;obtain⟨p0,p1,p2,kk1⟩:=HF.out w1 hw1.symm;clear hw1;have HB:=Lib.hid (And.intro p0.range0 (And.intro p1.range0 (And.intro HII.out.1 (And.intro HII.out.2 p2.range0))));have HP:=Lib.hid (And.intro p0 (And.intro p1 p2));clear p0 p1 p2))|((with_reducible show wpList _ _ _ (⟨some 48,_,_,_,_,_⟩::_) _ _);refine wpList_load_mid rfl 30 _ rfl wr.heap.size 0 rfl (bytes8 h) _ HB.out.2.2.2.2 Tryz.underlying30 rfl ih.out ?_)|((with_reducible show wpList _ _ _ (⟨some 49,_,_,_,_,_⟩::_) _ _);refine wpList_load_mid rfl 30 _ rfl w.heap.size 0 rfl (bytes8 lf) _ HB.out.1 Tryz.underlying30 rfl HB.out.2.2.1 ?_)|(go_at_call 129;refine(HN.out _ (ht.same kk1)).mono ?_;rintro e w2 ⟨rfl,hk2⟩;have HQ:=Lib.hid (hash_stored (HP.out.1.kept hk2 id) (by rw[bytes8_len,HL.out]) HS.out.2))|((with_reducible show wpList _ _ _ (⟨none,.store _ (.tmp 5) _,_,_,_,_⟩::_) _ _);refine wpList_store_mid rfl 30 _ _ rfl w.heap.size 0 (bytes8 N).toArray rfl rfl ?hthc ?hic ?h1c ?hkc;(case' hkc=>generalize hw3:World.setCells w2 w.heap.size 0 _=w3;have HG:=Lib.hid (check_after HP.out kk1 hk2 (by rw[bytes8_len,HL.out]) HS.out.2 hw3);clear hw3)))
      case hthc=>exact HQ.out.1
      case hic=>first|exact info_hash HS.out.2|simpa using info_hash HS.out.2
      case h1c=>first|exact all_oneCell_toArray (fun y hy=>u8_oneCell y hy)|exact fun y hy=>u8_oneCell y hy
      case htha=>exact HN1.out
      case hia=>first|exact info_hash H32.out|simpa using info_hash H32.out
      case h1a=>first|exact all_oneCell_toArray (fun y hy=>u8_oneCell y hy)|exact fun y hy=>u8_oneCell y hy
      try simp only[Act.put]
      go_loopw [1,11] (fun x y w'=>∃ p q:Nat,x = .int .i64 (p:Int)/\y = .int .i64 (q:Int)/\p<=4096/\q<=4096/\Hid (stripF ci cl=stripF p q)/\w'=w3) (fun x _ _=>(intOf x).toNat)
      case atStart=>exact⟨ci,cl,rfl,rfl,HCC.out.1,HCC.out.2.1,Lib.hid rfl,rfl⟩
      case round =>
       obtain⟨p,q,rfl,rfl,hp,hq,HZ,rfl⟩:=hrel
       by_cases hB:p%2=0/\0<p
       ·obtain⟨hB1,hB2⟩:=hB
        have u1:((p:Int)%2==0)=true:=by simp;omega
        have u2:decide ((0:Int)<(p:Int))=true:=decide_eq_true (by omega)
        have u3:decide (0<p)=true:=decide_eq_true hB2
        have HW:=Lib.hid (show stripF ci cl=stripF (p/2) (q/2) by rw[HZ.out,stripF_yes hB1 hB2])
        have hsz:p/2<=4096/\q/2<=4096:=by omega
        have hms:(intOf (.int .i64 ((p:Int)/2))).toNat<(intOf (.int .i64 (p:Int))).toNat:=by show((p:Int)/2).toNat<((p:Int)).toNat;omega
        go_wp2_with fail
        exact⟨⟨p/2,q/2,rfl,rfl,hsz.1,hsz.2,HW,by first|rfl|trivial⟩,hms⟩
       ·have HW:=Lib.hid (show stripF ci cl=(p,q) by rw[HZ.out,stripF_no hB])
        have hsz:p/2<=4096/\q/2<=4096:=by omega
        by_cases hB1:p%2=0
        ·have hB2:p=0:=by omega
         subst hB2
         go_wp2_with fail
         exact⟨⟨k+1,0,q/2,cu+1,N,rfl,rfl,by first|rfl|rw[b4.out],rfl,HCC.out.2.2.2,hsz.1,hsz.2,Nat.succ_le_succ HCC.out.2.2.1,Lib.hid HS.out.2,Lib.hid (by rw[HS.out.1,HW.out];try simp),HG.out.1,HG.out.2.1,HG.out.2.2⟩,check_meas HCC.out.2.2.2⟩
        ·have u1:((p:Int)%2==0)=false:=by simp;omega
         go_wp2_with fail
         exact⟨⟨k+1,p/2,q/2,cu+1,N,rfl,rfl,by first|rfl|rw[b4.out],rfl,HCC.out.2.2.2,hsz.1,hsz.2,Nat.succ_le_succ HCC.out.2.2.1,Lib.hid HS.out.2,Lib.hid (by rw[HS.out.1,HW.out];try simp),HG.out.1,HG.out.2.1,HG.out.2.2⟩,check_meas HCC.out.2.2.2⟩
     ·clear hor
      go_wp2_with (first|((with_reducible show wpList _ _ _ (⟨some 37,_,_,_,_,_⟩::_) _ _);refine wpList_load_mid rfl 30 _ rfl g (off+k*32) rfl (bytes8 h) _ HRK.out Tryz.underlying30 rfl ih.out ?_)|((with_reducible show wpList _ _ _ (⟨none,.store _ (.tmp 14) _,_,_,_,_⟩::_) _ _);refine wpList_store_mid rfl 30 _ _ rfl wr.heap.size 0 (bytes8 h).toArray rfl rfl ?hthe ?hie ?h1e ?hke;(case' hke=>generalize hw1:World.setCells _ wr.heap.size 0 _=w1;obtain⟨p0,p1,p2,kk1⟩:=HF.out w1 hw1.symm;clear hw1;have HB:=Lib.hid (And.intro p0.range0 (And.intro p1.range0 (And.intro HII.out.1 (And.intro HII.out.2 p2.range0))));have HP:=Lib.hid (And.intro p0 (And.intro p1 p2));clear p0 p1 p2))|((with_reducible show wpList _ _ _ (⟨some 48,_,_,_,_,_⟩::_) _ _);refine wpList_load_mid rfl 30 _ rfl wr.heap.size 0 rfl (bytes8 h) _ HB.out.2.2.2.2 Tryz.underlying30 rfl ih.out ?_)|((with_reducible show wpList _ _ _ (⟨some 49,_,_,_,_,_⟩::_) _ _);refine wpList_load_mid rfl 30 _ rfl w.heap.size 0 rfl (bytes8 lf) _ HB.out.1 Tryz.underlying30 rfl HB.out.2.2.1 ?_)|(go_at_call 129;refine(HN.out _ (ht.same kk1)).mono ?_;rintro e w2 ⟨rfl,hk2⟩;have HQ:=Lib.hid (hash_stored (HP.out.1.kept hk2 id) (by rw[bytes8_len,HL.out]) HS.out.2))|((with_reducible show wpList _ _ _ (⟨none,.store _ (.tmp 5) _,_,_,_,_⟩::_) _ _);refine wpList_store_mid rfl 30 _ _ rfl w.heap.size 0 (bytes8 N).toArray rfl rfl ?hthd ?hid ?h1d ?hkd;(case' hkd=>generalize hw3:World.setCells w2 w.heap.size 0 _=w3;have HG:=Lib.hid (check_after HP.out kk1 hk2 (by rw[bytes8_len,HL.out]) HS.out.2 hw3);clear hw3)))
      case hthd=>exact HQ.out.1
      case hid=>first|exact info_hash HS.out.2|simpa using info_hash HS.out.2
      case h1d=>first|exact all_oneCell_toArray (fun y hy=>u8_oneCell y hy)|exact fun y hy=>u8_oneCell y hy
      case hthe=>exact HN1.out
      case hie=>first|exact info_hash H32.out|simpa using info_hash H32.out
      case h1e=>first|exact all_oneCell_toArray (fun y hy=>u8_oneCell y hy)|exact fun y hy=>u8_oneCell y hy
      try simp only[Act.put]
      go_loopw [1,11] (fun x y w'=>∃ p q:Nat,x = .int .i64 (p:Int)/\y = .int .i64 (q:Int)/\p<=4096/\q<=4096/\Hid (stripF ci cl=stripF p q)/\w'=w3) (fun x _ _=>(intOf x).toNat)
      case atStart=>exact⟨ci,cl,rfl,rfl,HCC.out.1,HCC.out.2.1,Lib.hid rfl,rfl⟩
      case round =>
       obtain⟨p,q,rfl,rfl,hp,hq,HZ,rfl⟩:=hrel
       by_cases hB:p%2=0/\0<p
       ·obtain⟨hB1,hB2⟩:=hB
        have u1:((p:Int)%2==0)=true:=by simp;omega
        have u2:decide ((0:Int)<(p:Int))=true:=decide_eq_true (by omega)
        have u3:decide (0<p)=true:=decide_eq_true hB2
        have HW:=Lib.hid (show stripF ci cl=stripF (p/2) (q/2) by rw[HZ.out,stripF_yes hB1 hB2])
        have hsz:p/2<=4096/\q/2<=4096:=by omega
        have hms:(intOf (.int .i64 ((p:Int)/2))).toNat<(intOf (.int .i64 (p:Int))).toNat:=by show((p:Int)/2).toNat<((p:Int)).toNat;omega
        go_wp2_with fail
        exact⟨⟨p/2,q/2,rfl,rfl,hsz.1,hsz.2,HW,by first|rfl|trivial⟩,hms⟩
       ·have HW:=Lib.hid (show stripF ci cl=(p,q) by rw[HZ.out,stripF_no hB])
        have hsz:p/2<=4096/\q/2<=4096:=by omega
        by_cases hB1:p%2=0
        ·have hB2:p=0:=by omega
         subst hB2
         go_wp2_with fail
         exact⟨⟨k+1,0,q/2,cu+1,N,rfl,rfl,by first|rfl|rw[b4.out],rfl,HCC.out.2.2.2,hsz.1,hsz.2,Nat.succ_le_succ HCC.out.2.2.1,Lib.hid HS.out.2,Lib.hid (by rw[HS.out.1,HW.out];try simp),HG.out.1,HG.out.2.1,HG.out.2.2⟩,check_meas HCC.out.2.2.2⟩
        ·have u1:((p:Int)%2==0)=false:=by simp;omega
         go_wp2_with fail
         exact⟨⟨k+1,p/2,q/2,cu+1,N,rfl,rfl,by first|rfl|rw[b4.out],rfl,HCC.out.2.2.2,hsz.1,hsz.2,Nat.succ_le_succ HCC.out.2.2.1,Lib.hid HS.out.2,Lib.hid (by rw[HS.out.1,HW.out];try simp),HG.out.1,HG.out.2.1,HG.out.2.2⟩,check_meas HCC.out.2.2.2⟩
    ·have e1:¬ ci%2=1:=fun q=>hA (Or.inl q)
     have e2:¬ ci=cl:=fun q=>hA (Or.inr q)
     have e1i:((ci:Int)%2==1)=false:=by simp;omega
     have e2i:((ci:Int)==(cl:Int))=false:=by simp;omega
     have hnode:=fun w' ht=>node_any w' lf h HL.out h32 ht
     have hstep:climbF P ⟨leaf,i,e,0⟩=climbF (P.drop (k+1)) ⟨nodeF lf h,ci/2,cl/2,cu+1⟩:=by
      rw[HC.out,hdrop]
      simp only[climbF]
      rw[if_neg t1,if_neg hA]
     have hN:=nodeF_len lf h
     generalize nodeF lf h=N at *
     have HS:=Lib.hid (And.intro hstep hN)
     have HN:=Lib.hid hnode
     clear hprove hb0 hb1 il ir y1 y2 y3 y4 y5 a1 hnew hrk hrg hdrop hh h32 hv hvb hstep hN hnode hA
     go_wp2_with (first|((with_reducible show wpList _ _ _ (⟨some 37,_,_,_,_,_⟩::_) _ _);refine wpList_load_mid rfl 30 _ rfl g (off+k*32) rfl (bytes8 h) _ HRK.out Tryz.underlying30 rfl ih.out ?_)|((with_reducible show wpList _ _ _ (⟨none,.store _ (.tmp 14) _,_,_,_,_⟩::_) _ _);refine wpList_store_mid rfl 30 _ _ rfl wr.heap.size 0 (bytes8 h).toArray rfl rfl ?hthb ?hib ?h1b ?hkb;(case' hkb=>generalize hw1:World.setCells _ wr.heap.size 0 _=w1;obtain⟨p0,p1,p2,kk1⟩:=HF.out w1 hw1.symm;clear hw1;have HB:=Lib.hid (And.intro p0.range0 (And.intro p1.range0 (And.intro HII.out.1 (And.intro HII.out.2 p2.range0))));have HP:=Lib.hid (And.intro p0 (And.intro p1 p2));clear p0 p1 p2))|((with_reducible show wpList _ _ _ (⟨some 63,_,_,_,_,_⟩::_) _ _);refine wpList_load_mid rfl 30 _ rfl wr.heap.size 0 rfl (bytes8 h) _ HB.out.2.2.2.2 Tryz.underlying30 rfl ih.out ?_)|((with_reducible show wpList _ _ _ (⟨some 62,_,_,_,_,_⟩::_) _ _);refine wpList_load_mid rfl 30 _ rfl w.heap.size 0 rfl (bytes8 lf) _ HB.out.1 Tryz.underlying30 rfl HB.out.2.2.1 ?_)|(go_at_call 129;refine(HN.out _ (ht.same kk1)).mono ?_;rintro e w2 ⟨rfl,hk2⟩;have HQ:=Lib.hid (hash_stored (HP.out.1.kept hk2 id) (by rw[bytes8_len,HL.out]) HS.out.2))|((with_reducible show wpList _ _ _ (⟨none,.store _ (.tmp 5) _,_,_,_,_⟩::_) _ _);refine wpList_store_mid rfl 30 _ _ rfl w.heap.size 0 (bytes8 N).toArray rfl rfl ?hth2 ?hi2 ?h12 ?_))
     case hth2=>exact HQ.out.1
     case hi2=>first|exact info_hash HS.out.2|simpa using info_hash HS.out.2
     case h12=>first|exact all_oneCell_toArray (fun y hy=>u8_oneCell y hy)|exact fun y hy=>u8_oneCell y hy
     case hthb=>exact HN1.out
     case hib=>first|exact info_hash H32.out|simpa using info_hash H32.out
     case h1b=>first|exact all_oneCell_toArray (fun y hy=>u8_oneCell y hy)|exact fun y hy=>u8_oneCell y hy
     have hG:=check_after HP.out kk1 hk2 (by rw[bytes8_len,HL.out]) HS.out.2 rfl
     exact⟨⟨k+1,ci/2,cl/2,cu+1,N,rfl,rfl,by first|rfl|rw[b4.out],rfl,hlt,hsm.1,hsm.2.1,hsm.2.2,Lib.hid HS.out.2,Lib.hid HS.out.1,hG.1,hG.2.1,hG.2.2⟩,check_meas hlt⟩
  ·have z1:decide ((k:Int)<(P.length:Int))=false:=decide_eq_false (by omega)
   have z1':decide (k<P.length)=false:=decide_eq_false hlt
   have hC:climbF P ⟨leaf,i,e,0⟩=⟨lf,ci,cl,cu⟩:=by rw[HC.out,List.drop_eq_nil_of_le (by omega)];rfl
   have hans:=checkAns_of (hprove _ hC)
   have HA:=Lib.hid hans
   have neq:=fun w'=>neq_hash w' lf root HL.out hr
   have il:(Tryz.prog.info? 30).map (·.size)=some (bytes8 lf).length:=by rw[bytes8_len,HL.out];exact info_h32
   have ir:(Tryz.prog.info? 30).map (·.size)=some (bytes8 root).length:=by rw[bytes8_len,hr];exact info_h32
   have HB:=Lib.hid (And.intro hb0.range0 (And.intro hb1.range0 (And.intro il ir)))
   by_cases t1:cl=0
   ·subst t1
    by_cases t2:cu=P.length
    ·subst t2
     by_cases t3:lf=root
     ·have w2:decide (lf=root)=true:=decide_eq_true t3
      have HT:=Lib.hid t3
      clear t3
      clear hprove hans hC hb0 hb1 il ir hlt y1 y2 y3 y4 y5 a1
      go_wp2_with (first|((with_reducible show wpList _ _ _ (⟨some 81,_,_,_,_,_⟩::_) _ _);refine wpList_load_wanted rfl 30 _ rfl w.heap.size 0 rfl (bytes8 lf) _ HB.out.1 Tryz.underlying30 rfl HB.out.2.2.1 ?_)|((with_reducible show wpList _ _ _ (⟨some 82,_,_,_,_,_⟩::_) _ _);refine wpList_load_wanted rfl 30 _ rfl (w.heap.size+1) 0 rfl (bytes8 root) _ HB.out.2.1 Tryz.underlying30 rfl HB.out.2.2.2 ?_))
      (try rw[Exit.noGoto_ret])
      go_ret
      exact⟨by rw[HA.out,if_pos (by first|exact⟨rfl,rfl,HT.out⟩|exact⟨trivial,trivial,HT.out⟩)];rfl,hkw⟩
     ·have w2:decide (lf=root)=false:=decide_eq_false t3
      have HT:=Lib.hid t3
      clear t3
      clear hprove hans hC hb0 hb1 il ir hlt y1 y2 y3 y4 y5 a1
      go_wp2_with (first|((with_reducible show wpList _ _ _ (⟨some 81,_,_,_,_,_⟩::_) _ _);refine wpList_load_wanted rfl 30 _ rfl w.heap.size 0 rfl (bytes8 lf) _ HB.out.1 Tryz.underlying30 rfl HB.out.2.2.1 ?_)|((with_reducible show wpList _ _ _ (⟨some 82,_,_,_,_,_⟩::_) _ _);refine wpList_load_wanted rfl 30 _ rfl (w.heap.size+1) 0 rfl (bytes8 root) _ HB.out.2.1 Tryz.underlying30 rfl HB.out.2.2.2 ?_))
      (try rw[Exit.noGoto_ret])
      go_ret
      exact⟨by rw[HA.out,if_neg (fun q=>HT.out q.2.2)];rfl,hkw⟩
    ·have w1:decide (cu=P.length)=false:=decide_eq_false t2
     have w1':decide ((cu:Int)=(P.length:Int))=false:=decide_eq_false (by omega)
     have w1a:((cu:Int)==(P.length:Int))=false:=by simp;omega
     have w1b:(cu==P.length)=false:=by simp;omega
     have HT:=Lib.hid t2
     have t2i:¬ (cu:Int)=(P.length:Int):=by omega
     clear hprove hans hC hb0 hb1 il ir hlt y1 y2 y3 y4 y5 a1
     go_wp2_with (first|((with_reducible show wpList _ _ _ (⟨some 81,_,_,_,_,_⟩::_) _ _);refine wpList_load_wanted rfl 30 _ rfl w.heap.size 0 rfl (bytes8 lf) _ HB.out.1 Tryz.underlying30 rfl HB.out.2.2.1 ?_)|((with_reducible show wpList _ _ _ (⟨some 82,_,_,_,_,_⟩::_) _ _);refine wpList_load_wanted rfl 30 _ rfl (w.heap.size+1) 0 rfl (bytes8 root) _ HB.out.2.1 Tryz.underlying30 rfl HB.out.2.2.2 ?_))
     (try rw[Exit.noGoto_ret])
     go_ret
     exact⟨by rw[HA.out,if_neg (fun q=>HT.out q.2.1)];rfl,hkw⟩
   ·have w0:((cl:Int)==0)=false:=by simp;omega
    have w0':decide (cl=0)=false:=decide_eq_false t1
    have HT:=Lib.hid t1
    clear t1
    clear hprove hans hC hb0 hb1 il ir hlt y1 y2 y3 y4 y5 a1
    go_wp2_with (first|((with_reducible show wpList _ _ _ (⟨some 81,_,_,_,_,_⟩::_) _ _);refine wpList_load_wanted rfl 30 _ rfl w.heap.size 0 rfl (bytes8 lf) _ HB.out.1 Tryz.underlying30 rfl HB.out.2.2.1 ?_)|((with_reducible show wpList _ _ _ (⟨some 82,_,_,_,_,_⟩::_) _ _);refine wpList_load_wanted rfl 30 _ rfl (w.heap.size+1) 0 rfl (bytes8 root) _ HB.out.2.1 Tryz.underlying30 rfl HB.out.2.2.2 ?_))
    (try rw[Exit.noGoto_ret])
    go_ret
    exact⟨by rw[HA.out,if_neg (fun q=>HT.out q.1)];rfl,hkw⟩
def IsTree (w:World) (t:Nat) (seed:ByteArray) (L:List By):Prop:=Blk w t ([.bool true,.string seed]++hcells L) 129/\L.length=8/\∀ x∈L,x.length=32
theorem IsTree.kept {S:Nat->Prop} {w w':World} {t:Nat} {seed:ByteArray} {L:List By} (h:IsTree w t seed L) (hk:Kept S w w') (hS:¬ S t):IsTree w' t seed L:=⟨h.1.kept hk hS,h.2⟩
theorem tree_zero (seed:ByteArray):(Tryz.zeroCells129.setIfInBounds 0 (.bool true)).setIfInBounds 1 (.string seed)=([Value.bool true,Value.string seed]++zeros 256).toArray:=by rfl
def treeTo (seed:ByteArray) (L:List By) (k:Nat):List Value:=[.bool true,.string seed]++(hcells (L.take k)++zeros ((8-k)*32))
theorem treeTo_len (seed:ByteArray) {L:List By} (h:∀ x∈L,x.length=32) (hL:L.length=8) (k:Nat) (hk:k<=8):(treeTo seed L k).length=258:=by
 unfold treeTo
 rw[List.length_append,List.length_append,hcells_len (fun x hx=>h x (List.mem_of_mem_take hx)),zeros_len,List.length_take]
 simp only[List.length_cons,List.length_nil]
 omega
theorem treeTo_zero (seed:ByteArray) (L:List By):treeTo seed L 0=[.bool true,.string seed]++zeros 256:=by simp[treeTo,hcells,bytes8]
theorem treeTo_all (seed:ByteArray) {L:List By} (hL:L.length=8):treeTo seed L 8=[.bool true,.string seed]++hcells L:=by
 unfold treeTo
 rw[List.take_of_length_le (by omega)]
 simp[zeros]
theorem treeTo_step (seed:ByteArray) {L:List By} (h:∀ x∈L,x.length=32) (hL:L.length=8) (k:Nat) (a:By) (ha:L[k]? = some a):splice (treeTo seed L k) (2+k*32) (bytes8 a)=treeTo seed L (k+1):=by
 obtain⟨hk,he⟩:=List.getElem?_eq_some_iff.1 ha
 have ha32:=h a (List.mem_of_getElem? ha)
 have hl:(hcells (L.take k)).length=k*32:=by
  rw[hcells_len (fun x hx=>h x (List.mem_of_mem_take hx)),List.length_take];omega
 have e1:hcells (L.take (k+1))=hcells (L.take k)++bytes8 a:=by
  rw[List.take_succ_eq_append_getElem hk,hcells_append,he,hcells_one]
 have e2:(zeros ((8-k)*32)).drop 32=zeros ((8-(k+1))*32):=by
  simp[zeros]
  omega
 unfold treeTo splice
 rw[e1,bytes8_len,ha32]
 rw[<- List.append_assoc]
 have hP:([Value.bool true,Value.string seed]++hcells (L.take k)).length=2+k*32:=by rw[List.length_append,hl];rfl
 generalize hQ:[Value.bool true,Value.string seed]++hcells (L.take k)=Q at *
 have f1:(Q++zeros ((8-k)*32)).take (2+k*32)=Q:=List.take_left' hP
 have f2:(Q++zeros ((8-k)*32)).drop (2+k*32+32)=zeros ((8-(k+1))*32):=by
  rw[List.drop_append,List.drop_eq_nil_of_le (by omega),List.nil_append,show 2+k*32+32-Q.length=32 by omega,e2]
 rw[f1,f2,<- hQ]
 simp
abbrev TreeS (wr w':World) (t o:Nat):Prop:=w'.there t o 32/\(∃ C:List Value,C.length=258/\Blk w' t C 129)/\Kept (· = t) wr w'
theorem treeS_next {wr w1 w2:World} {t o:Nat} (h:TreeS wr w1 t o) (ho:o+32<=258) (k:Kept (fun _=>False) w1 w2):TreeS wr w2 t o:=by
 obtain⟨_,⟨C,hC,hb⟩,hk⟩:=h
 have hb2:=hb.kept k id
 exact⟨hb2.there o 32 (by omega),⟨C,hC,hb2⟩,hk.then_ k (fun _ _=>False.elim)⟩
theorem treeS_store {wr w1:World} {t o:Nat} {H:List Value} (h:TreeS wr w1 t o) (ho:o+32<=258) (hH:H.length=32):TreeS wr (w1.setCells t o H) t o:=by
 obtain⟨_,⟨C,hC,hb⟩,hk⟩:=h
 have hb2:=hb.setCells o H (by omega)
 have hl:(splice C o H).length=258:=by rw[splice_len (by omega),hC]
 exact⟨hb2.there o 32 (by omega),⟨_,hl,hb2⟩,hk.then_ (kept_setCells _ _ _ _) (fun _ _ e=>e)⟩
theorem treeS_tab {w wr w1:World} {t o:Nat} (h:TreeS wr w1 t o) (ht:Tab w) (hk:Kept (fun _=>False) w wr) (hle:w.heap.size<=t):Tab w1:=ht.same (hk.then_ h.2.2 (fun i hi e=>by omega))
theorem treeNew_any (w:World) (seed:ByteArray) (hs:seed.size<=1000) (ht:Tab w) :
  Calls Tryz.prog 40 #[.string seed] w fun e w'=>∃ t,e = .returned (.pointer (some ⟨t,0,none⟩))/\IsTree w' t seed (leavesF seed.data.toList)/\w.heap.size<=t/\Kept (fun _=>False) w w':=by
 have h32:=leaves_32 seed.data.toList
 have hL:=leavesF_len seed.data.toList
 have hat:=leavesF_at seed.data.toList
 have HAT:=Lib.hid hat
 clear hat
 generalize leavesF seed.data.toList=L at *
 have hb0:Blk (w.alloc (.cells ((Tryz.zeroCells129.setIfInBounds 0 (.bool true)).setIfInBounds 1 (.string seed)) 129)) w.heap.size (treeTo seed L 0) 129:=by
  rw[tree_zero,treeTo_zero]
  exact Blk.new w _ _
 have HB0:=Lib.hid hb0
 clear hb0
 go_enter Tryz.func40,Tryz.ntmps40
 go_wp2_with fail
 go_loopw [8] (fun x wr=>∃ k:Nat,x = .int .i64 (k:Int)/\k<=8/\Blk wr w.heap.size (treeTo seed L k) 129/\Kept (fun _=>False) w wr) (fun x _=>8-(intOf x).toNat)
 case atStart=>exact⟨0,rfl,by omega,HB0.out,(Kept.refl _ _).alloc _⟩
 case round =>
  obtain⟨k,rfl,hk,hblk,hkw⟩:=hrel
  by_cases hlt:k<8
  ·have z1:decide ((k:Int)<8)=true:=decide_eq_true (by omega)
   have z2:decide (k<8)=true:=decide_eq_true hlt
   have hat:=HAT.out k hlt
   have hA32:=h32 _ (List.mem_of_getElem? hat)
   have hstep:=treeTo_step seed h32 hL k _ hat
   have hlen:=treeTo_len seed h32 hL k (by omega)
   have HPU:=Lib.hid (fun w' ht'=>public_any w' seed k hs (by omega) ht')
   have HLE:=Lib.hid (fun w' v (hr:Row w' 30 32 v (hcells (publicF seed.data.toList k))) ht'=>leaf_any w' v _ hr.view (public_32 _ _) (publicF_len _ _) ht')
   generalize leafF (publicF seed.data.toList k)=F at *
   have HF:=Lib.hid (And.intro hstep (And.intro hlen hA32))
   have hs0:TreeS wr wr.drew w.heap.size (2+k*32):=⟨(hblk.drew).there _ 32 (by omega),⟨_,hlen,hblk.drew⟩,(Kept.refl _ _).drew⟩
   have ho:2+k*32+32<=258:=by omega
   have iF:(Tryz.prog.info? 30).map (·.size)=some (bytes8 F).length:=by rw[bytes8_len,hA32];exact info_h32
   have lF:(bytes8 F).length=32:=by rw[bytes8_len,hA32]
   have oF:∀ v∈bytes8 F,v.oneCell'=true:=u8_oneCell
   have HL:=Lib.hid hlt
   have j1:(k:Int)<8:=by omega
   have j2:(0:Int)<=(k:Int):=by omega
   have hle:w.heap.size<=w.heap.size:=Nat.le_refl _
   clear hat hA32 hstep hlen h32 hL hlt
   go_wp2_with fail
   go_region_held3 (fun w'=>w'.there w.heap.size (2+k*32) 32/\(∃ C:List Value,C.length=258/\Blk w' w.heap.size C 129)/\Kept (· = w.heap.size) wr w') (first|exact hs0|exact treeS_next (by assumption) ho (by assumption)|exact treeS_store (by assumption) ho lF) (first|(go_at_call 82;(with_reducible refine(HPU.out _ (treeS_tab (by assumption) ht hkw hle)).mono ?_);rintro e w3 ⟨v3,rfl,hrow3,hown3,hk3⟩)|(go_at_call 81;with_reducible refine(HLE.out _ _ (by assumption) (treeS_tab (by assumption) ht hkw hle)).mono ?_;rintro e w3 ⟨rfl,hk3⟩))
   rename_i wa ka hh
   have hb3:=((hblk.drew).kept ka id).kept hk3 id
   have hb4:=hb3.setCells (2+k*32) (bytes8 F) (by rw[lF,HF.out.2.1];omega)
   rw[HF.out.1]at hb4
   have kf:=(((hkw.drew).trans ka).trans hk3).then_ (kept_setCells w3 w.heap.size (2+k*32) (bytes8 F)) (S:=fun _=>False) (fun i hi e=>by omega)
   go_wp2_with fail
   exact⟨⟨k+1,rfl,HL.out,hb4,kf⟩,check_meas0 HL.out⟩
  ·have z1:decide ((k:Int)<8)=false:=decide_eq_false (by omega)
   have z2:decide (k<8)=false:=decide_eq_false hlt
   obtain rfl:k=8:=by omega
   rw[treeTo_all seed hL]at hblk
   have HX:=Lib.hid (And.intro hblk (And.intro hL h32))
   clear hblk hL h32
   go_wp2_with fail
   go_ret
   exact⟨_,rfl,⟨HX.out.1,HX.out.2.1,HX.out.2.2⟩,Nat.le_refl _,hkw⟩
section
variable {w w' : World} {t : Nat} {seed : ByteArray} {L : List By}
theorem IsTree.made (h:IsTree w t seed L):w.cell? ⟨t,0,none⟩=some (.bool true):=h.1.cell (i:=0) rfl
theorem IsTree.lt (h:IsTree w t seed L):t<w.heap.size:=h.1.lt
theorem IsTree.view (h:IsTree w t seed L):View w 32 (.slice (some ⟨t,2,none⟩) 8 8) (hcells L):=by
 refine⟨_,8,8,rfl,by rw[hcells_len h.2.2,h.2.1],Nat.le_refl _,by unfold maxLen;omega,fun _=>⟨t,2,rfl⟩,fun _=>⟨t,2,rfl,h.lt,fun j u hu=>h.1.cell ?_⟩⟩
 rw[List.getElem?_append_right (by simp)]
 simpa using hu
theorem treeRoot_any (h:IsTree w t seed L) (ht:Tab w) :
  Calls Tryz.prog 72 #[.pointer (some ⟨t,0,none⟩)] w fun e w'=>e = .returned (hashV (rootF L))/\Kept (fun _=>False) w w':=by
 have ka:Kept (fun _=>False) w (w.alloc (.cells (zeros 32).toArray 30)):=(Kept.refl _ _).alloc _
 have h1:=h.kept ka id
 have c0:=h1.made
 simp only[zeros,List.replicate]at c0
 have hb:=Blk.new w (zeros 32) 30
 have hl:=rootF_len h.2.2
 have hcall:Calls Tryz.prog 105 #[.slice (some ⟨t,2,none⟩) 8 8] (w.alloc (.cells (zeros 32).toArray 30)) (fun e w2=>e = .returned (hashV (rootF L))/\Hid (Blk w2 w.heap.size (zeros 32) 30/\Kept (fun _=>False) w w2)) :=
  (root_any _ _ L h1.view h.2.2 (by rw[h.2.1];omega) (ht.same ka)).mono (fun e w2 q=>⟨q.1,Lib.hid ⟨hb.kept q.2 id,ka.trans q.2⟩⟩)
 generalize rootF L=R at *
 have HC:=Lib.hid hcall
 have HI:=Lib.hid (show(Tryz.prog.info? 30).map (·.size)=some (bytes8 R).length by rw[bytes8_len,hl];exact info_h32)
 have HR:=Lib.hid hl
 clear hcall hb h1 hl ka h
 go_enter Tryz.func72,Tryz.ntmps72
 go_wp2_with (first|(go_at_call 105;refine HC.out.mono ?_;rintro e w5 ⟨rfl,HB⟩)|((with_reducible show wpList _ _ _ (⟨none,.store _ (.tmp 2) _,_,_,_,_⟩::_) _ _);refine wpList_store_mid rfl 30 _ _ rfl w.heap.size 0 (bytes8 R).toArray rfl rfl ?hth ?hi ?h1 ?_))
 case hth=>exact(hash_stored HB.out.1 (zeros_len 32) HR.out).1
 case hi=>first|exact info_hash HR.out|simpa using info_hash HR.out
 case h1=>first|exact all_oneCell_toArray (fun y hy=>u8_oneCell y hy)|exact fun y hy=>u8_oneCell y hy
 have hst:=hash_stored HB.out.1 (zeros_len 32) HR.out
 refine bodyPost_ret (hst.2.result rfl rfl Tryz.underlying30 rfl HI.out) rfl ⟨rfl,?_⟩
 exact HB.out.2.then_ (kept_setCells _ _ _ _) (fun i hi e=>by omega)
end
section
variable {w w' : World} {t : Nat} {seed : ByteArray} {L : List By}
abbrev SigS (wa w':World) (t db rb:Nat) (seed:ByteArray) (d:By):Prop:=w'.cell? ⟨t,1,none⟩=some (.string seed)/\w'.rangeAt db 0 (bytes8 d)/\Kept (· = rb) wa w'
theorem sigS_next {wa w1 w2:World} {t db rb:Nat} {seed:ByteArray} {d:By} (h:SigS wa w1 t db rb seed d) (hd:db<wa.heap.size) (k:Kept (fun _=>False) w1 w2):SigS wa w2 t db rb seed d :=
 ⟨k.cell h.1 id,rangeAt_kept h.2.1 k (Nat.lt_of_lt_of_le hd h.2.2.size) id,h.2.2.then_ k (fun _ _=>False.elim)⟩
theorem sigS_set {wa w1:World} {t db rb:Nat} {seed:ByteArray} {d:By} (h:SigS wa w1 t db rb seed d) (hd:db<wa.heap.size) (n1:t≠rb) (n2:db≠rb) (i:Nat) (v:Value):SigS wa (w1.setCell ⟨rb,i,none⟩ v) t db rb seed d:=by
 have k:Kept (· = rb) w1 (w1.setCell ⟨rb,i,none⟩ v):=(Kept.refl (· = rb) w1).setCell (p:=⟨rb,i,none⟩) (fun _=>rfl) v
 exact⟨k.cell h.1 n1,rangeAt_kept h.2.1 k (Nat.lt_of_lt_of_le hd h.2.2.size) n2,h.2.2.then_ k (fun _ _ e=>e)⟩
theorem info_seal:(Tryz.prog.info? 61).map (·.size)=some 3:=by kernel_rfl
theorem treeSign_any (h:IsTree w t seed (leavesF seed.data.toList)) (i:Nat) (d:By) (hs:seed.size<=1000) (hi:i<8) (hd:d.length=32) (ht:Tab w) :
  Calls Tryz.prog 67 #[.pointer (some ⟨t,0,none⟩),.int .i64 (i:Int),hashV d] w fun e w'=>∃ v,e = .returned (.tuple #[.agg #[.int .i64 (i:Int),.string ⟨(signF seed.data.toList i d).toArray⟩,v],.int .i64 0])/\Row w' 30 32 v (hcells (pathF (leavesF seed.data.toList) i))/\(∀ k,v.ownBlock=some k->w.heap.size<=k)/\Kept (fun _=>False) w w':=by
 have ka:Kept (fun _=>False) w ((w.alloc (.cells (bytes8 d).toArray 30)).alloc (.cells #[.int .i64 0,.string ⟨#[]⟩,.slice none 0 0] 61)):=((Kept.refl _ _).alloc _).alloc _
 have h1:=h.kept ka id
 have c0:=h1.made
 have hpath:=path_any _ _ _ i h1.view h.2.2 (by rw[h.2.1];omega) (by rw[h.2.1];exact hi) (ht.same ka)
 have hbd:=(Blk.new w (bytes8 d) 30).alloc (.cells #[.int .i64 0,.string ⟨#[]⟩,.slice none 0 0] 61)
 have hbr:=Blk.new (w.alloc (.cells (bytes8 d).toArray 30)) [.int .i64 0,.string ⟨#[]⟩,.slice none 0 0] 61
 rw[World.size_alloc]at hbr
 have hlt:=h.lt
 have hp2:Calls Tryz.prog 98 #[.slice (some ⟨t,2,none⟩) 8 8,.int .i64 (i:Int)] ((w.alloc (.cells (bytes8 d).toArray 30)).alloc (.cells #[.int .i64 0,.string ⟨#[]⟩,.slice none 0 0] 61)) (fun e w2=>∃ pa pn pc,e = .returned (.tuple #[.slice pa pn pc,.int .i64 0])/\SigS w2 w2.drew t w.heap.size (w.heap.size+1) seed d/\Blk w2 (w.heap.size+1) [.int .i64 0,.string ⟨#[]⟩,.slice none 0 0] 61/\Hid (Row w2 30 32 (.slice pa pn pc) (hcells (pathF (leavesF seed.data.toList) i))/\(∀ k,(Value.slice pa pn pc).ownBlock=some k->w.heap.size+2<=k)/\Kept (fun _=>False) w w2)):=by
  refine hpath.mono ?_
  rintro e w2 ⟨v,rfl,hrow,hown,hk⟩
  obtain⟨pa,pn,pc,rfl,_⟩:=hrow.form (by omega)
  rw[World.size_alloc,World.size_alloc]at hown
  exact⟨pa,pn,pc,rfl,⟨((h1.kept hk id).1.drew).cell (i:=1) rfl,((hbd.kept hk id).drew).range0,(Kept.refl _ _).drew⟩,hbr.kept hk id,Lib.hid ⟨hrow,hown,ka.trans hk⟩⟩
 have HP:=Lib.hid hp2
 have HSG:=Lib.hid (fun w' ht'=>sign_any w' seed i d hd hs (by omega) ht')
 have hu:=Tryz.underlying30
 have id':(Tryz.prog.info? 30).map (·.size)=some (bytes8 d).length:=by rw[bytes8_len,hd];exact info_h32
 have y1:decide ((i:Int)<0)=false:=decide_eq_false (by omega)
 have y2:decide ((8:Int)<=(i:Int))=false:=decide_eq_false (by omega)
 have n1:t≠w.heap.size+1:=by omega
 have n2:w.heap.size≠w.heap.size+1:=by omega
 clear hpath hp2 h1 hbd hbr h ka
 go_enter Tryz.func67,Tryz.ntmps67
 go_wp2_with (first|(go_at_call 98;refine HP.out.mono ?_;rintro e w2 ⟨pa,pn,pc,rfl,hs0,hb2,HG⟩))
 have hdb:w.heap.size<w2.heap.size:=by have:=hb2.lt;omega
 have ht2:Tab w2:=ht.same HG.out.2.2
 generalize hSG:signF seed.data.toList i d=SG at *
 have HSE:=Lib.hid hSG
 clear hSG
 go_region_held3 (fun w'=>w'.cell? ⟨t,1,none⟩=some (.string seed)/\w'.rangeAt w.heap.size 0 (bytes8 d)/\Kept (· = w.heap.size+1) w2 w') (first|exact hs0|exact sigS_next (by assumption) hdb (by assumption)|exact sigS_set (sigS_set (sigS_set (by assumption) hdb n1 n2 0 _) hdb n1 n2 1 _) hdb n1 n2 2 _|exact(by assumption)) (first|(go_at_call 99;(with_reducible refine(HSG.out _ (ht2.same (Kept.refl _ _).drew)).mono ?_);rintro e w3 ⟨rfl,hk3⟩;have hb3:=(hb2.drew).kept hk3 id;have q0:=hb3.cell (i:=0) rfl;have q1:=hb3.cell (i:=1) rfl;have q2:=hb3.cell (i:=2) rfl;have f0:=hb3.free 0;have f1:=hb3.free 1;have f2:=hb3.free 2))
 have hf:Blk (((w3.setCell ⟨w.heap.size+1,0,none⟩ (.int .i64 (i:Int))).setCell ⟨w.heap.size+1,1,none⟩ (.string ⟨SG.toArray⟩)).setCell ⟨w.heap.size+1,2,none⟩ (.slice pa pn pc)) (w.heap.size+1) [.int .i64 (i:Int),.string ⟨SG.toArray⟩,.slice pa pn pc] 61:=((hb3.set 0 _).set 1 _).set 2 _
 have kf:Kept (· = w.heap.size+1) w2 (((w3.setCell ⟨w.heap.size+1,0,none⟩ (.int .i64 (i:Int))).setCell ⟨w.heap.size+1,1,none⟩ (.string ⟨SG.toArray⟩)).setCell ⟨w.heap.size+1,2,none⟩ (.slice pa pn pc)) :=
  (((((Kept.refl (fun _=>False) w2).drew.trans hk3).mono (fun _ _=>False.elim):Kept (· = w.heap.size+1) w2 w3).setCell (p:=⟨w.heap.size+1,0,none⟩) (fun _=>rfl) _).setCell (p:=⟨w.heap.size+1,1,none⟩) (fun _=>rfl) _).setCell (p:=⟨w.heap.size+1,2,none⟩) (fun _=>rfl) _
 go_wp2_with fail
 refine bodyPost_ret (hf.result2 rfl rfl Tryz.underlying61 rfl (by rw[info_seal];rfl)) rfl ⟨.slice pa pn pc,by first|rfl|(rw[HSE.out];rfl),HG.out.1.kept kf (fun k hk e=>?_),fun k hk=>?_,HG.out.2.2.then_ kf (fun b hb e=>by omega)⟩
 ·have:=HG.out.2.1 k hk
  omega
 ·have:=HG.out.2.1 k hk
  omega
end
abbrev sealV (i:Nat) (sig:ByteArray) (v:Value):Value:=.agg #[.int .i64 (i:Int),.string sig,v]
def verifyF (root d:By) (i:Nat) (sig:By) (P:List By):Int:=if checkAns (leafF (recoveredF sig d)) root i 8 P=0 then 0 else 81
theorem verify_after {w w2 w3:World} {A:List Value} {F:By} {b:Nat} {t2:TypeId} {x y z:Value} (h:Blk w2 b A 30/\Blk w2 (b+1+1) [x,y,z] t2/\Kept (fun _=>False) w w2) (hF:F.length=32) (h3:w3=(w2.alloc (.cells (zeros 32).toArray 30)).setCells w2.heap.size 0 (bytes8 F)) :
  w3.cell? ⟨b+1+1,0,none⟩=some x/\w3.cell? ⟨b+1+1,2,none⟩=some z/\Hid (w3.rangeAt w2.heap.size 0 (bytes8 F)/\w3.rangeAt b 0 A/\Kept (fun _=>False) w w3):=by
 subst h3
 have hst:=hash_stored (Blk.new w2 (zeros 32) 30) (zeros_len 32) hF
 have k:Kept (fun _=>False) w2 ((w2.alloc (.cells (zeros 32).toArray 30)).setCells w2.heap.size 0 (bytes8 F)):=((Kept.refl _ _).alloc _).then_ (kept_setCells _ _ _ _) (fun i hi e=>by omega)
 exact⟨(h.2.1.kept k id).cell (i:=0) rfl,(h.2.1.kept k id).cell (i:=2) rfl,Lib.hid ⟨hst.2.range0,(h.1.kept k id).range0,h.2.2.trans k⟩⟩
theorem verify_any (w:World) (root d:By) (i:Nat) (sig:ByteArray) (v:Value) (P:List By) (hr:root.length=32) (hd:d.length=32) (hi:i<8) (hs:sig.size=16384) (hv:View w 32 v (hcells P)) (hP32:∀ x∈P,x.length=32) (hP:P.length<=1000000)
  (hvb:∀ b,v.ownBlock=some b->b<w.heap.size) (ht:Tab w) :
  Calls Tryz.prog 71 #[hashV root,hashV d,sealV i sig v] w fun e w'=>e = .returned (.int .i64 (verifyF root d i sig.data.toList P))/\Kept (fun _=>False) w w':=by
 obtain⟨a,n,cap,rfl,q1,q2,q3,q4,q5⟩:=id hv
 clear q1 q2 q3 q4 q5
 have b0:=((Blk.new w (bytes8 root) 30).alloc (.cells (bytes8 d).toArray 30)).alloc (.cells #[.int .i64 (i:Int),.string sig,.slice a n cap] 61)
 have b1:=(Blk.new (w.alloc (.cells (bytes8 root).toArray 30)) (bytes8 d) 30).alloc (.cells #[.int .i64 (i:Int),.string sig,.slice a n cap] 61)
 have b2:=Blk.new ((w.alloc (.cells (bytes8 root).toArray 30)).alloc (.cells (bytes8 d).toArray 30)) [.int .i64 (i:Int),.string sig,.slice a n cap] 61
 rw[World.size_alloc]at b1
 rw[World.size_alloc,World.size_alloc]at b2
 have ka:Kept (fun _=>False) w (((w.alloc (.cells (bytes8 root).toArray 30)).alloc (.cells (bytes8 d).toArray 30)).alloc (.cells #[.int .i64 (i:Int),.string sig,.slice a n cap] 61)):=(((Kept.refl _ _).alloc _).alloc _).alloc _
 have c0:=b2.cell (i:=0) rfl
 have c1:=b2.cell (i:=1) rfl
 have y1:decide ((i:Int)<0)=false:=decide_eq_false (by omega)
 have y2:decide ((8:Int)<=(i:Int))=false:=decide_eq_false (by omega)
 have HD:=Lib.hid (And.intro b1.range0 (show(Tryz.prog.info? 30).map (·.size)=some (bytes8 d).length by rw[bytes8_len,hd];exact info_h32))
 have hrec:=(recover_any _ sig d hs hd (ht.same ka)).mono (R':=fun e w2=>e = .returned (.tuple #[hashV (leafF (recoveredF sig.data.toList d)),.int .i64 0])/\Hid (Blk w2 w.heap.size (bytes8 root) 30/\Blk w2 (w.heap.size+1+1) [.int .i64 (i:Int),.string sig,.slice a n cap] 61/\Kept (fun _=>False) w w2)) (fun e w2 q=>⟨q.1,Lib.hid ⟨b0.kept q.2 id,b2.kept q.2 id,ka.trans q.2⟩⟩)
 have hlf:(leafF (recoveredF sig.data.toList d)).length=32:=shaF_len _
 have hver:verifyF root d i sig.data.toList P=if checkAns (leafF (recoveredF sig.data.toList d)) root i 8 P=0 then 0 else 81:=rfl
 have HVR:=Lib.hid hver
 generalize leafF (recoveredF sig.data.toList d)=F at *
 have HRC:=Lib.hid hrec
 have hc01:checkAns F root i 8 P=0\/checkAns F root i 8 P=80:=by unfold checkAns;split<;>simp
 have HCK:=Lib.hid (fun w' (hk:Kept (fun _=>False) w w')=>check_any w' F root i 8 (.slice a n cap) P hlf hr (by omega) (by omega) hi (hv.same hk (by omega)) hP32 hP (fun b hb=>Nat.lt_of_lt_of_le (hvb b hb) hk.size) (ht.same hk))
 have HI:=Lib.hid (show(Tryz.prog.info? 30).map (·.size)=some (bytes8 F).length by rw[bytes8_len,hlf];exact info_h32)
 have HIR:=Lib.hid (show(Tryz.prog.info? 30).map (·.size)=some (bytes8 root).length by rw[bytes8_len,hr];exact info_h32)
 have HLF:=Lib.hid hlf
 generalize checkAns F root i 8 P=ans at *
 clear hrec hlf hver b0 b1 b2 ka hv hvb hP32 hP
 rcases hc01 with rfl|rfl
 ·go_enter Tryz.func71,Tryz.ntmps71
  go_wp2_with (first|((with_reducible show wpList _ _ _ (⟨some 20,_,_,_,_,_⟩::_) _ _);refine wpList_load_mid rfl 30 _ rfl (w.heap.size+1) 0 rfl (bytes8 d) _ HD.out.1 Tryz.underlying30 rfl HD.out.2 ?_)|(go_at_call 103;refine HRC.out.mono ?_;rintro e w2 ⟨rfl,H2⟩)|((with_reducible show wpList _ _ _ (⟨none,.store _ (.tmp 7) _,_,_,_,_⟩::_) _ _);refine wpList_store_mid rfl 30 _ _ rfl w2.heap.size 0 (bytes8 F).toArray rfl rfl ?hthp ?hip ?h1p ?hkp;(case' hkp=>generalize hw3:World.setCells _ w2.heap.size 0 _=w3;obtain⟨e0,e2,HG⟩:=verify_after H2.out HLF.out hw3.symm;clear hw3))|((with_reducible show wpList _ _ _ (⟨some 27,_,_,_,_,_⟩::_) _ _);refine wpList_load_wanted rfl 30 _ rfl w2.heap.size 0 rfl (bytes8 F) _ HG.out.1 Tryz.underlying30 rfl HI.out ?_)|((with_reducible show wpList _ _ _ (⟨some 32,_,_,_,_,_⟩::_) _ _);refine wpList_load_wanted rfl 30 _ rfl w.heap.size 0 rfl (bytes8 root) _ HG.out.2.1 Tryz.underlying30 rfl HIR.out ?_)|(go_at_call 104;refine(HCK.out _ HG.out.2.2).mono ?_;rintro e w4 ⟨rfl,hk4⟩))
  case hthp=>exact(hash_stored (Blk.new w2 (zeros 32) 30) (zeros_len 32) HLF.out).1
  case hip=>first|exact info_hash HLF.out|simpa using info_hash HLF.out
  case h1p=>first|exact all_oneCell_toArray (fun y hy=>u8_oneCell y hy)|exact fun y hy=>u8_oneCell y hy
  go_ret
  exact⟨by rw[HVR.out];rfl,HG.out.2.2.trans hk4⟩
 ·go_enter Tryz.func71,Tryz.ntmps71
  go_wp2_with (first|((with_reducible show wpList _ _ _ (⟨some 20,_,_,_,_,_⟩::_) _ _);refine wpList_load_mid rfl 30 _ rfl (w.heap.size+1) 0 rfl (bytes8 d) _ HD.out.1 Tryz.underlying30 rfl HD.out.2 ?_)|(go_at_call 103;refine HRC.out.mono ?_;rintro e w2 ⟨rfl,H2⟩)|((with_reducible show wpList _ _ _ (⟨none,.store _ (.tmp 7) _,_,_,_,_⟩::_) _ _);refine wpList_store_mid rfl 30 _ _ rfl w2.heap.size 0 (bytes8 F).toArray rfl rfl ?hthq ?hiq ?h1q ?hkq;(case' hkq=>generalize hw3:World.setCells _ w2.heap.size 0 _=w3;obtain⟨e0,e2,HG⟩:=verify_after H2.out HLF.out hw3.symm;clear hw3))|((with_reducible show wpList _ _ _ (⟨some 27,_,_,_,_,_⟩::_) _ _);refine wpList_load_wanted rfl 30 _ rfl w2.heap.size 0 rfl (bytes8 F) _ HG.out.1 Tryz.underlying30 rfl HI.out ?_)|((with_reducible show wpList _ _ _ (⟨some 32,_,_,_,_,_⟩::_) _ _);refine wpList_load_wanted rfl 30 _ rfl w.heap.size 0 rfl (bytes8 root) _ HG.out.2.1 Tryz.underlying30 rfl HIR.out ?_)|(go_at_call 104;refine(HCK.out _ HG.out.2.2).mono ?_;rintro e w4 ⟨rfl,hk4⟩))
  case hthq=>exact(hash_stored (Blk.new w2 (zeros 32) 30) (zeros_len 32) HLF.out).1
  case hiq=>first|exact info_hash HLF.out|simpa using info_hash HLF.out
  case h1q=>first|exact all_oneCell_toArray (fun y hy=>u8_oneCell y hy)|exact fun y hy=>u8_oneCell y hy
  go_ret
  exact⟨by rw[HVR.out];rfl,HG.out.2.2.trans hk4⟩
abbrev DigS (wa w':World) (hb rb:Nat) (size:Int) (root:By):Prop:=w'.cell? ⟨hb,0,none⟩=some (.int .i64 size)/\w'.rangeAt hb 1 (bytes8 root)/\w'.there rb 0 32/\(∃ C:List Value,C.length=32/\Blk w' rb C 30)/\Kept (· = rb) wa w'
section
variable {wa w1 w2 : World} {hb rb : Nat} {size : Int} {root : By}
theorem digS_next (h:DigS wa w1 hb rb size root) (hl:hb<wa.heap.size) (k:Kept (fun _=>False) w1 w2):DigS wa w2 hb rb size root:=by
 obtain⟨h1,h2,_,⟨C,hC,hbk⟩,hk⟩:=h
 have hb2:=hbk.kept k id
 exact⟨k.cell h1 id,rangeAt_kept h2 k (Nat.lt_of_lt_of_le hl hk.size) id,hb2.there 0 32 (by omega),⟨C,hC,hb2⟩,hk.then_ k (fun _ _=>False.elim)⟩
theorem digS_store {H:List Value} (h:DigS wa w1 hb rb size root) (hl:hb<wa.heap.size) (hne:hb≠rb) (hH:H.length=32):DigS wa (w1.setCells rb 0 H) hb rb size root:=by
 obtain⟨h1,h2,_,⟨C,hC,hbk⟩,hk⟩:=h
 have k:=kept_setCells w1 rb 0 H
 have hb2:=hbk.setCells 0 H (by omega)
 have hl2:(splice C 0 H).length=32:=by rw[splice_len (by omega),hC]
 exact⟨k.cell h1 hne,rangeAt_kept h2 k (Nat.lt_of_lt_of_le hl hk.size) hne,hb2.there 0 32 (by omega),⟨_,hl2,hb2⟩,hk.then_ k (fun _ _ e=>e)⟩
end
theorem digest_any (w:World) (size:Nat) (root:By) (hz:size<=4096) (hr:root.length=32) (ht:Tab w) :
  Calls Tryz.prog 68 #[headV (size:Int) root] w fun e w'=>e = .returned (hashV (digestF size root))/\Kept (fun _=>False) w w':=by
 have HP:=Lib.hid (fun w'=>put_int w' (size:Int) size 8 8 rfl rfl (by omega) (by omega))
 have HH:=Lib.hid (fun w'=>hash_any w' root hr)
 have hb8:(⟨(be 8 size).toArray⟩:ByteArray).size=8:=by show(be 8 size).toArray.size=8;rw[List.size_toArray,be_len]
 have hcat:(⟨#[5]⟩:ByteArray)++⟨(be 8 size).toArray⟩++⟨root.toArray⟩=⟨(5::(be 8 size++root)).toArray⟩:=bstr_eq (by simp[ByteArray.data_append])
 have hsum:∀ w',Tab w'->Calls Tryz.prog 100 #[.string (⟨#[5]⟩++⟨(be 8 size).toArray⟩++⟨root.toArray⟩)] w' fun e w''=>e = .returned (.agg (bytes8 (digestF size root)).toArray)/\Kept (fun _=>False) w' w'':=by
  intro w' ht'
  rw[hcat]
  exact sum_any w' ⟨(5::(be 8 size++root)).toArray⟩ (by show(5::(be 8 size++root)).toArray.size<=1000000;simp[be_len];omega) ht'
 have HS:=Lib.hid hsum
 have hN:=digestF_len size root
 clear hsum hcat
 generalize hDG:digestF size root=H at *
 have HDG:=Lib.hid hDG
 clear hDG
 generalize be 8 size=B at *
 have x1:(⟨#[5]⟩:ByteArray).size+(⟨B.toArray⟩:ByteArray).size<=9:=by rw[hb8];show 1+8<=9;omega
 have x2:(⟨#[5]⟩++⟨B.toArray⟩:ByteArray).size+(⟨root.toArray⟩:ByteArray).size<=41:=by rw[ByteArray.size_append,hb8];show 1+8+root.toArray.size<=41;simp[hr]
 have u1:=wrap_u64 (n:=size) (U64n.small (by omega))
 obtain⟨W,hW⟩:∃ W:World,W=(w.alloc (.cells (headC (size:Int) root).toArray 32)).alloc (.cells (zeros 32).toArray 30):=⟨_,rfl⟩
 have b0:Blk W w.heap.size (headC (size:Int) root) 32:=by rw[hW];exact(Blk.new w (headC (size:Int) root) 32).alloc _
 have b1:Blk W (w.heap.size+1) (zeros 32) 30:=by
  have:=Blk.new (w.alloc (.cells (headC (size:Int) root).toArray 32)) (zeros 32) 30
  rw[World.size_alloc]at this
  rw[hW];exact this
 have kW:Kept (fun _=>False) w W:=by rw[hW];exact((Kept.refl _ _).alloc _).alloc _
 have l0:=b0.lt
 have S0:DigS W W.drew w.heap.size (w.heap.size+1) (size:Int) root:=by
  refine⟨(b0.drew).cell (i:=0) rfl,?_,(b1.drew).there 0 32 (by rw[zeros_len];omega),⟨_,zeros_len 32,b1.drew⟩,(Kept.refl _ _).drew⟩
  intro j u hu
  refine(b0.drew).cell ?_
  rw[Nat.add_comm,List.getElem?_cons_succ]
  exact hu
 have ia:(Tryz.prog.info? 30).map (·.size)=some (bytes8 root).length:=by rw[bytes8_len,hr];exact info_h32
 have iH:(Tryz.prog.info? 30).map (·.size)=some (bytes8 H).length:=by rw[bytes8_len,hN];exact info_h32
 have oH:∀ v∈bytes8 H,v.oneCell'=true:=u8_oneCell
 have lH:(bytes8 H).length=32:=by rw[bytes8_len,hN]
 have hu:=Tryz.underlying30
 have n1:w.heap.size≠w.heap.size+1:=by omega
 have HTB:=Lib.hid (fun w1 (h:DigS W w1 w.heap.size (w.heap.size+1) (size:Int) root)=>(ht.same (kW.then_ h.2.2.2.2 (fun i hi e=>by omega)):Tab w1))
 go_enter Tryz.func68,Tryz.ntmps68
 go_wp2_with fail
 change Code.wp _ _ _ _ ((w.alloc (.cells (headC (size:Int) root).toArray 32)).alloc (.cells (zeros 32).toArray 30))
 rw[<- hW]
 clear hW
 go_region_held3 (fun w'=>w'.cell? ⟨w.heap.size,0,none⟩=some (.int .i64 (size:Int))/\w'.rangeAt w.heap.size 1 (bytes8 root)/\w'.there (w.heap.size+1) 0 32/\(∃ C:List Value,C.length=32/\Blk w' (w.heap.size+1) C 30)/\Kept (· = w.heap.size+1) W w') (first|exact S0|exact digS_next (by assumption) l0 (by assumption)|exact digS_store (by assumption) l0 n1 lH) (first|(go_at_call 101;with_reducible refine(HP.out _).mono ?_;rintro e w3 ⟨rfl,hk3⟩)|(go_at_call 102;with_reducible refine(HH.out _).mono ?_;rintro e w3 ⟨rfl,hk3⟩)|(go_at_call 100;with_reducible refine(HS.out _ (HTB.out _ (by assumption))).mono ?_;rintro e w3 ⟨rfl,hk3⟩))
 rename_i wa ka wb kb hh
 obtain⟨_,_,_,⟨C,hC,hbC⟩,hkC⟩:=digS_next (digS_next (digS_next S0 l0 ka) l0 kb) l0 hk3
 have hlN:H.length=32:=by rwa[bytes8_len]at lH
 have hst:=hash_stored hbC hC hlN
 go_wp2_with fail
 refine bodyPost_ret (hst.2.result rfl rfl Tryz.underlying30 rfl iH) rfl ⟨by first|rfl|(rw[HDG.out];rfl),?_⟩
 exact kW.then_ hh.2.2.2.2 (fun i hi e=>by omega)
theorem info_signed:(Tryz.prog.info? 63).map (·.size)=some 36:=by kernel_rfl
theorem info_head:(Tryz.prog.info? 32).map (·.size)=some 33:=by kernel_rfl
theorem signedC_len {size:Int} {root:By} {i:Int} {sig:ByteArray} {v:Value} (hr:root.length=32):(signedC size root i sig v).length=36:=by
 unfold signedC
 rw[List.length_append,List.length_cons,bytes8_len,hr];rfl
def headF (key:By) (size:Nat) (root:By) (i:Nat) (sig:By) (P:List By):Int:=if verifyF key (digestF size root) i sig P=0 then 0 else 81
abbrev ChkS (w w':World) (kb sb:Nat) (key:By) (size:Int) (root:By) (i:Int) (sig:ByteArray) (v:Value):Prop:=w'.rangeAt kb 0 (bytes8 key)/\w'.rangeAt sb 0 (headC size root)/\w'.rangeAt sb 33 [.int .i64 i,.string sig,v]/\kb<w'.heap.size/\sb<w'.heap.size/\Kept (fun _=>False) w w'
theorem chk_begin {w w2:World} {kb sb:Nat} {key:By} {size:Int} {root:By} {i:Int} {sig:ByteArray} {v:Value} (hr:root.length=32) (h:Blk w2 kb (bytes8 key) 30/\Blk w2 sb (signedC size root i sig v) 63/\Kept (fun _=>False) w w2):ChkS w w2.drew kb sb key size root i sig v:=by
 have hl:(headC size root).length=33:=by rw[List.length_cons,bytes8_len,hr]
 have r1:=(h.2.1.drew).rangeAt 0 33
 have r2:=(h.2.1.drew).rangeAt 33 3
 have e1:((signedC size root i sig v).drop 0).take 33=headC size root:=by unfold signedC;rw[List.drop_zero,List.take_append_of_le_length (by omega),List.take_of_length_le (by omega)]
 have e2:((signedC size root i sig v).drop 33).take 3=[.int .i64 i,.string sig,v]:=by unfold signedC;rw[List.drop_append_of_le_length (by omega),List.drop_eq_nil_of_le (by omega)];rfl
 rw[e1]at r1
 rw[e2]at r2
 exact⟨(h.1.drew).range0,r1,r2,h.1.lt,h.2.1.lt,h.2.2.drew⟩
theorem chk_next {w w1 w2:World} {kb sb:Nat} {key:By} {size:Int} {root:By} {i:Int} {sig:ByteArray} {v:Value} (h:ChkS w w1 kb sb key size root i sig v) (k:Kept (fun _=>False) w1 w2):ChkS w w2 kb sb key size root i sig v:=by
 obtain⟨h1,h2,h3,h4,h5,h6⟩:=h
 have:=k.size
 exact⟨rangeAt_kept h1 k h4 id,rangeAt_kept h2 k h5 id,rangeAt_kept h3 k h5 id,by omega,by omega,h6.trans k⟩
theorem headCheck_ok (w:World) (key:By) (size i:Nat) (root:By) (sig:ByteArray) (a:Option Addr) (c:Nat) (P:List By) (hk:key.length=32) (hr:root.length=32) (hz:size<=4096) (hi:i<8) (hs:sig.size=16384)
  (hv:View w 32 (.slice a 3 c) (hcells P)) (hP32:∀ x∈P,x.length=32) (hP:P.length<=1000000) (hvb:∀ b,(Value.slice a 3 c).ownBlock=some b->b<w.heap.size) (ht:Tab w) :
  Calls Tryz.prog 23 #[hashV key,signedV (size:Int) root (i:Int) sig (.slice a 3 c)] w fun e w'=>e = .returned (.int .i64 (headF key size root i sig.data.toList P))/\Kept (fun _=>False) w w':=by
 have b0:=(Blk.new w (bytes8 key) 30).alloc (.cells (signedC (size:Int) root (i:Int) sig (.slice a 3 c)).toArray 63)
 have b1:=Blk.new (w.alloc (.cells (bytes8 key).toArray 30)) (signedC (size:Int) root (i:Int) sig (.slice a 3 c)) 63
 rw[World.size_alloc]at b1
 have ka:Kept (fun _=>False) w ((w.alloc (.cells (bytes8 key).toArray 30)).alloc (.cells (signedC (size:Int) root (i:Int) sig (.slice a 3 c)).toArray 63)):=((Kept.refl _ _).alloc _).alloc _
 have hl36:=signedC_len (size:=(size:Int)) (i:=(i:Int)) (sig:=sig) (v:=.slice a 3 c) hr
 have HR1:=Lib.hid (And.intro b1.range0 (show(Tryz.prog.info? 63).map (·.size)=some (signedC (size:Int) root (i:Int) sig (.slice a 3 c)).length by rw[hl36];exact info_signed))
 have hval:=(valid_ok ((w.alloc (.cells (bytes8 key).toArray 30)).alloc (.cells (signedC (size:Int) root (i:Int) sig (.slice a 3 c)).toArray 63)) size i root sig a c hr hz hi hs).mono (R':=fun e w2=>e = .returned (.bool true)/\Hid (Blk w2 w.heap.size (bytes8 key) 30/\Blk w2 (w.heap.size+1) (signedC (size:Int) root (i:Int) sig (.slice a 3 c)) 63/\Kept (fun _=>False) w w2)) (fun e w2 q=>⟨q.1,Lib.hid ⟨b0.kept q.2 id,b1.kept q.2 id,ka.trans q.2⟩⟩)
 have HVA:=Lib.hid hval
 clear hval b0 b1 ka
 go_enter Tryz.func23,Tryz.ntmps23
 go_wp2_with (first|((with_reducible show wpList _ _ _ (⟨some 6,_,_,_,_,_⟩::_) _ _);refine wpList_load_mid rfl 63 _ rfl (w.heap.size+1) 0 rfl (signedC (size:Int) root (i:Int) sig (.slice a 3 c)) _ HR1.out.1 Tryz.underlying63 rfl HR1.out.2 ?_)|(go_at_call 70;refine HVA.out.mono ?_;rintro e w2 ⟨rfl,H2⟩))
 have iK:=Lib.hid (show(Tryz.prog.info? 30).map (·.size)=some (bytes8 key).length by rw[bytes8_len,hk];exact info_h32)
 have iHd:=Lib.hid (show(Tryz.prog.info? 32).map (·.size)=some (headC (size:Int) root).length by rw[List.length_cons,bytes8_len,hr];exact info_head)
 have iSl:=Lib.hid (show(Tryz.prog.info? 61).map (·.size)=some ([.int .i64 (i:Int),.string sig,.slice a 3 c]:List Value).length from info_seal)
 have S0:=chk_begin hr H2.out
 have hdl:=digestF_len size root
 have HDG:=Lib.hid (fun w' ht'=>digest_any w' size root hz hr ht')
 have hfe:headF key size root i sig.data.toList P=if verifyF key (digestF size root) i sig.data.toList P=0 then 0 else 81:=rfl
 have HFE:=Lib.hid hfe
 generalize digestF size root=D at *
 have hv01:verifyF key D i sig.data.toList P=0\/verifyF key D i sig.data.toList P=81:=by unfold verifyF;split<;>simp
 have HVE:=Lib.hid (fun w' (hkk:Kept (fun _=>False) w w')=>verify_any w' key D i sig (.slice a 3 c) P hk hdl hi hs (hv.same hkk (by omega)) hP32 hP (fun b hb=>Nat.lt_of_lt_of_le (hvb b hb) hkk.size) (ht.same hkk))
 generalize verifyF key D i sig.data.toList P=ans at *
 clear hfe hv hvb hP32 hP
 rcases hv01 with rfl|rfl
 ·refine wp_region_held_drew (S:=(fun w'=>ChkS w w' w.heap.size (w.heap.size+1) key (size:Int) root (i:Int) sig (.slice a 3 c))) (by kernel_rfl) S0 (fun hH0=>?_)
  refine tky 0 rfl (fun _ _ _ h=>h) (yieldsIf_load_mid (by rfl) _ _ rfl (w.heap.size) 0 rfl (bytes8 key) _ (fun w h=>h.1) Tryz.underlying30 rfl iK.out) hH0 ?_
  refine tl 1 (v:=.pointer (some ⟨w.heap.size+1,0,none⟩)) rfl (fun _ _ _ h=>h) (Or.inl ⟨by rfl,fun w hSw=>?_⟩) hH0 ?_
  ·clear hSw;go_simp
  try simp only[lyA,lyB,lyC,lyD]
  refine tky 2 rfl (fun _ _ _ h=>h) (yieldsIf_load_mid (by rfl) _ _ rfl (w.heap.size+1) 0 rfl (headC (size:Int) root) _ (fun w h=>h.2.1) Tryz.underlying32 rfl iHd.out) hH0 ?_
  refine tl 4 (v:=.pointer (some ⟨w.heap.size+1,33,none⟩)) rfl (fun _ _ _ h=>h) (Or.inl ⟨by rfl,fun w hSw=>?_⟩) hH0 ?_
  ·clear hSw;go_simp
  try simp only[lyA,lyB,lyC,lyD]
  refine tky 5 rfl (fun _ _ _ h=>h) (yieldsIf_load_mid (by rfl) _ _ rfl (w.heap.size+1) 33 rfl ([.int .i64 (i:Int),.string sig,.slice a 3 c]) _ (fun w h=>h.2.2.1) Tryz.underlying61 rfl iSl.out) hH0 ?_
  refine rd1 3 (fun K hK=>?_)
  go_simp
  refine(HDG.out _ (ht.same hH0.2.2.2.2.2)).mono ?_
  rintro e w3 ⟨rfl,hk3⟩
  refine hK.out _ _ (chk_next hH0 hk3) (fun hH1=>?_)
  clear hK K
  try simp only[lyA,lyB,lyC,lyD]
  refine rd1 6 (fun K hK=>?_)
  go_simp
  refine(HVE.out _ hH1.2.2.2.2.2).mono ?_
  rintro e w4 ⟨rfl,hk4⟩
  refine hK.out _ _ (chk_next hH1 hk4) (fun hH2=>?_)
  clear hK K
  try simp only[lyA,lyB,lyC,lyD]
  refine tl 7 (v:=.bool false) rfl (fun _ _ _ h=>h) (Or.inl ⟨by rfl,fun w hSw=>?_⟩) hH2 ?_
  ·clear hSw;go_simp
  try simp only[lyA,lyB,lyC,lyD]
  refine rd1 8 (fun K hK=>?_)
  go_simp
  refine hK.out _ _ hH2 (fun hH3=>?_)
  clear hK K
  try simp only[lyA,lyB,lyC,lyD]
  refine dn ?_
  go_wp2_with fail
  go_ret
  exact⟨by rw[HFE.out];rfl,hH3.2.2.2.2.2⟩
 ·refine wp_region_held_drew (S:=(fun w'=>ChkS w w' w.heap.size (w.heap.size+1) key (size:Int) root (i:Int) sig (.slice a 3 c))) (by kernel_rfl) S0 (fun hH0=>?_)
  refine tky 0 rfl (fun _ _ _ h=>h) (yieldsIf_load_mid (by rfl) _ _ rfl (w.heap.size) 0 rfl (bytes8 key) _ (fun w h=>h.1) Tryz.underlying30 rfl iK.out) hH0 ?_
  refine tl 1 (v:=.pointer (some ⟨w.heap.size+1,0,none⟩)) rfl (fun _ _ _ h=>h) (Or.inl ⟨by rfl,fun w hSw=>?_⟩) hH0 ?_
  ·clear hSw;go_simp
  try simp only[lyA,lyB,lyC,lyD]
  refine tky 2 rfl (fun _ _ _ h=>h) (yieldsIf_load_mid (by rfl) _ _ rfl (w.heap.size+1) 0 rfl (headC (size:Int) root) _ (fun w h=>h.2.1) Tryz.underlying32 rfl iHd.out) hH0 ?_
  refine tl 4 (v:=.pointer (some ⟨w.heap.size+1,33,none⟩)) rfl (fun _ _ _ h=>h) (Or.inl ⟨by rfl,fun w hSw=>?_⟩) hH0 ?_
  ·clear hSw;go_simp
  try simp only[lyA,lyB,lyC,lyD]
  refine tky 5 rfl (fun _ _ _ h=>h) (yieldsIf_load_mid (by rfl) _ _ rfl (w.heap.size+1) 33 rfl ([.int .i64 (i:Int),.string sig,.slice a 3 c]) _ (fun w h=>h.2.2.1) Tryz.underlying61 rfl iSl.out) hH0 ?_
  refine rd1 3 (fun K hK=>?_)
  go_simp
  refine(HDG.out _ (ht.same hH0.2.2.2.2.2)).mono ?_
  rintro e w3 ⟨rfl,hk3⟩
  refine hK.out _ _ (chk_next hH0 hk3) (fun hH1=>?_)
  clear hK K
  try simp only[lyA,lyB,lyC,lyD]
  refine rd1 6 (fun K hK=>?_)
  go_simp
  refine(HVE.out _ hH1.2.2.2.2.2).mono ?_
  rintro e w4 ⟨rfl,hk4⟩
  refine hK.out _ _ (chk_next hH1 hk4) (fun hH2=>?_)
  clear hK K
  try simp only[lyA,lyB,lyC,lyD]
  refine tl 7 (v:=.bool true) rfl (fun _ _ _ h=>h) (Or.inl ⟨by rfl,fun w hSw=>?_⟩) hH2 ?_
  ·clear hSw;go_simp
  try simp only[lyA,lyB,lyC,lyD]
  refine rd1 8 (fun K hK=>?_)
  go_simp
  refine hK.out _ _ hH2 (fun hH3=>?_)
  clear hK K
  try simp only[lyA,lyB,lyC,lyD]
  refine dn ?_
  go_wp2_with fail
  go_ret
  exact⟨by rw[HFE.out];rfl,hH3.2.2.2.2.2⟩
theorem equal_ok (w:World) (u v:Value) (L:List By) (hu:View w 32 u (hcells L)) (hv:View w 32 v (hcells L)) (h32:∀ x∈L,x.length=32) (hL:L.length<=1000000) :
  Calls Tryz.prog 69 #[u,v] w fun e w'=>e = .returned (.bool true)/\Kept (fun _=>False) w w':=by
 obtain⟨a,n,c,rfl,q1,q2,q3,q4,q5⟩:=id hu
 obtain⟨a',n',c',rfl,q1',q2',q3',q4',q5'⟩:=id hv
 rw[hcells_len h32]at q1 q1'
 obtain rfl:n=L.length:=by omega
 obtain rfl:n'=L.length:=by omega
 clear q1 q2 q3 q4 q1' q2' q3' q4' hu hv
 go_enter Tryz.func69,Tryz.ntmps69
 go_wp2_with fail
 go_loopw [13] (fun x wr=>∃ k:Nat,x = .int .i64 (k:Int)/\k<=L.length/\Kept (fun _=>False) w wr) (fun x _=>L.length-(intOf x).toNat)
 case atStart=>exact⟨0,rfl,Nat.zero_le _,Kept.refl _ _⟩
 case round =>
  obtain⟨k,rfl,hk,hkw⟩:=hrel
  by_cases hlt:k<L.length
  ·have z1:decide ((k:Int)<(L.length:Int))=true:=decide_eq_true (by omega)
   have z2:decide (k<L.length)=true:=decide_eq_true hlt
   obtain⟨g,off,rfl,hg,hrg⟩:=q5 (by omega)
   obtain⟨g',off',rfl,hg',hrg'⟩:=q5' (by omega)
   obtain⟨h,hh⟩:∃ h,L[k]? = some h:=⟨_,List.getElem?_eq_getElem hlt⟩
   have hh32:=h32 h (List.mem_of_getElem? hh)
   have r1:=rangeAt_mid (rangeAt_kept hrg hkw hg id) (k*32) 32
   have r2:=rangeAt_mid (rangeAt_kept hrg' hkw hg' id) (k*32) 32
   rw[hcells_at h32 k h hh]at r1 r2
   have S0:wr.drew.rangeAt g (off+k*32) (bytes8 h)/\wr.drew.rangeAt g' (off'+k*32) (bytes8 h):=⟨r1,r2⟩
   have ih:=Lib.hid (show(Tryz.prog.info? 30).map (·.size)=some (bytes8 h).length by rw[bytes8_len,hh32];exact info_h32)
   have neq:=fun w'=>neq_hash w' h h hh32 hh32
   have i0:(k:Int)<(L.length:Int):=by omega
   have i1:(0:Int)<=(k:Int):=by omega
   have HL:=Lib.hid hlt
   clear q5 q5' hrg hrg' r1 r2 hh hh32 h32
   go_wp2_with fail
   refine wp_region_held_drew (S:=(fun w'=>w'.rangeAt g (off+k*32) (bytes8 h)/\w'.rangeAt g' (off'+k*32) (bytes8 h))) (by kernel_rfl) S0 (fun hH0=>?_)
   refine wpAnyH_take (i:=0) (oi:=⟨some 16,.move (.tmp 0),59,"slices.go:25", #[],none⟩) (v := .slice (some ⟨g,off,none⟩) L.length c) rfl (by kernel_rfl) (by kernel_rfl) (by kernel_rfl) (fun _ _ _ h=>h) (Or.inl ⟨by rfl,fun w hSw=>?_⟩) hH0 ?_
   ·clear hSw;go_simp
   try simp only[Act.put,List.setIfInBounds_toArray,List.set_cons_zero,List.set_cons_succ]
   refine wpAnyH_take (i:=1) (oi:=⟨some 17,.move (.tmp 5),3,"slices.go:25", #[],none⟩) (v := .int .i64 (k:Int)) rfl (by kernel_rfl) (by kernel_rfl) (by kernel_rfl) (fun _ _ _ h=>h) (Or.inl ⟨by rfl,fun w hSw=>?_⟩) hH0 ?_
   ·clear hSw;go_simp
   try simp only[Act.put,List.setIfInBounds_toArray,List.set_cons_zero,List.set_cons_succ]
   refine wpAnyH_take (i:=2) (oi:=⟨some 18,.indexAddr 59 (.tmp 16) (.tmp 17),0,"slices.go:25", #[⟨0,.data⟩,⟨1,.data⟩],none⟩) (v := .pointer (some ⟨g,off+k*32,none⟩)) rfl (by kernel_rfl) (by kernel_rfl) (by kernel_rfl) (fun _ _ _ h=>h) (Or.inl ⟨by rfl,fun w hSw=>?_⟩) hH0 ?_
   ·clear hSw;go_simp
   try simp only[Act.put,List.setIfInBounds_toArray,List.set_cons_zero,List.set_cons_succ]
   refine wpAnyH_take (i:=3) (oi:=⟨some 19,.load 30 (.tmp 18),30,"slices.go:25", #[⟨2,.data⟩],none⟩) (v := .agg (bytes8 h).toArray) rfl (by kernel_rfl) (by kernel_rfl) (by kernel_rfl) (fun _ _ _ h=>h) (yieldsIf_load_mid (by rfl) _ _ rfl g (off+k*32) rfl (bytes8 h) _ (fun w q=>q.1) Tryz.underlying30 rfl ih.out) hH0 ?_
   try simp only[Act.put,List.setIfInBounds_toArray,List.set_cons_zero,List.set_cons_succ]
   refine wpAnyH_take (i:=4) (oi:=⟨some 20,.move (.tmp 1),59,"slices.go:25", #[],none⟩) (v := .slice (some ⟨g',off',none⟩) L.length c') rfl (by kernel_rfl) (by kernel_rfl) (by kernel_rfl) (fun _ _ _ h=>h) (Or.inl ⟨by rfl,fun w hSw=>?_⟩) hH0 ?_
   ·clear hSw;go_simp
   try simp only[Act.put,List.setIfInBounds_toArray,List.set_cons_zero,List.set_cons_succ]
   refine wpAnyH_take (i:=5) (oi:=⟨some 21,.move (.tmp 5),3,"slices.go:25", #[],none⟩) (v := .int .i64 (k:Int)) rfl (by kernel_rfl) (by kernel_rfl) (by kernel_rfl) (fun _ _ _ h=>h) (Or.inl ⟨by rfl,fun w hSw=>?_⟩) hH0 ?_
   ·clear hSw;go_simp
   try simp only[Act.put,List.setIfInBounds_toArray,List.set_cons_zero,List.set_cons_succ]
   refine wpAnyH_take (i:=6) (oi:=⟨some 22,.indexAddr 59 (.tmp 20) (.tmp 21),0,"slices.go:25", #[⟨4,.data⟩,⟨5,.data⟩],none⟩) (v := .pointer (some ⟨g',off'+k*32,none⟩)) rfl (by kernel_rfl) (by kernel_rfl) (by kernel_rfl) (fun _ _ _ h=>h) (Or.inl ⟨by rfl,fun w hSw=>?_⟩) hH0 ?_
   ·clear hSw;go_simp
   try simp only[Act.put,List.setIfInBounds_toArray,List.set_cons_zero,List.set_cons_succ]
   refine wpAnyH_take (i:=7) (oi:=⟨some 23,.load 30 (.tmp 22),30,"slices.go:25", #[⟨6,.data⟩],none⟩) (v := .agg (bytes8 h).toArray) rfl (by kernel_rfl) (by kernel_rfl) (by kernel_rfl) (fun _ _ _ h=>h) (yieldsIf_load_mid (by rfl) _ _ rfl g' (off'+k*32) rfl (bytes8 h) _ (fun w q=>q.2) Tryz.underlying30 rfl ih.out) hH0 ?_
   try simp only[Act.put,List.setIfInBounds_toArray,List.set_cons_zero,List.set_cons_succ]
   refine wpAnyH_take (i:=8) (oi:=⟨some 24,.binOp .neq 30 (.tmp 19) (.tmp 23) 30,4,"slices.go:25", #[⟨3,.data⟩,⟨7,.data⟩],none⟩) (v := .bool false) rfl (by kernel_rfl) (by kernel_rfl) (by kernel_rfl) (fun _ _ _ h=>h) (Or.inl ⟨by rfl,fun w hSw=>?_⟩) hH0 ?_
   ·clear hSw;go_simp
   try simp only[Act.put,List.setIfInBounds_toArray,List.set_cons_zero,List.set_cons_succ]
   refine dn ?_
   go_wp2_with fail
   exact⟨⟨k+1,rfl,HL.out,hkw.drew⟩,check_meas0 HL.out⟩
  ·have z1:decide ((k:Int)<(L.length:Int))=false:=decide_eq_false (by omega)
   have z2:decide (k<L.length)=false:=decide_eq_false hlt
   go_wp2_with fail
   go_ret
   exact⟨rfl,hkw⟩
end Go.Proofs.YtdmedbhbefdnkaaGreatDoor
