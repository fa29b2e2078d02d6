/- TabOf -/
import Derived.LaidMore
import Derived.ProofKit
import Derived.OpenShut
import Derived.Test.YtdmedbhbefdnkaaGreatDoorUKeyringPlay17
set_option linter.unusedVariables false
set_option linter.unusedSimpArgs false
set_option maxRecDepth 100000
set_option maxHeartbeats 16000000
namespace Go.Proofs.YtdmedbhbefdnkaaGreatDoor
open Go.ChangeShapes Go.WideShapes Go.ChangeAt Go.RowKit
abbrev sha2:List (String × DataW Unit):=[("speculum/sha.first",Rows.laid_speculum_sha_first),("speculum/sha.rounds",Rows.laid_speculum_sha_rounds)]
theorem g_first:Tryz.prog.globalNamed "speculum/sha.first" = some 0:=by kernel_rfl
theorem g_rounds:Tryz.prog.globalNamed "speculum/sha.rounds" = some 1:=by kernel_rfl
theorem t_first:(Tryz.prog.globals[0]?).map (·.type)=some 122:=by kernel_rfl
theorem t_rounds:(Tryz.prog.globals[1]?).map (·.type)=some 121:=by kernel_rfl
theorem c_u32:Tryz.prog.cellsOf 120=1:=by kernel_rfl
theorem trod_nums {H:Type} {enc:TypeId × Value->H} {W:World} {base:Nat} {spare:Nat->Bool} {hd:Bool} {fuel n:Nat} {t:TypeId} {cs:List Value} {l:List Int} {ps:List MemPlace} (ht:Tryz.prog.underlying t=some (.array n 120)) (hl:l.length=n)
  (h:DataW.trod enc Tryz.prog W base spare hd fuel t cs=some (.agg (l.map fun x=>.lit (.int .u32 x)),ps)):∀ (i:Nat) v,(cells32 l)[i]? = some v->cs[i]? = some v:=by
 obtain⟨xs,m,-,hx,-,hn,hel⟩:=DataW.trod_array ht h
 intro i v hv
 have hi:i<n:=by
  have:=(List.getElem?_eq_some_iff.1 hv).1
  simp only[cells32,List.length_map]at this
  omega
 have h1:=hel i hi
 rw[c_u32,Nat.mul_one]at h1
 have hxi:xs[i]? = some (xs[i]'(by omega)):=List.getElem?_eq_getElem (by omega)
 rw[hxi]at h1
 obtain⟨k,e1,e2,-⟩:=DataW.trod_int Tryz.underlying120 h1
 simp only[Prod.mk.injEq,DataW.agg.injEq]at hx
 have e3:(xs.map (·.1))[i]? = (l.map fun x=>(.lit (.int .u32 x):DataW H))[i]?:=by rw[hx.1]
 rw[List.getElem?_map,hxi,e2,List.getElem?_map]at e3
 rw[cells32,List.getElem?_map]at hv
 cases hli:l[i]? with
 | none=>rw[hli]at hv;cases hv
 | some y =>
  rw[hli]at hv e3
  simp only[Option.map_some,Option.some.injEq,DataW.lit.injEq,Lit.int.injEq,true_and]at e3 hv
  subst e3
  subst hv
  have e4:(cs.drop i).take 1=[.int .u32 k]:=e1
  have e5:=congrArg (·[0]?) e4
  simpa[List.getElem?_take,List.getElem?_drop]using e5
theorem tab_of {W:World} (h:laidMetH Tryz.prog sha2 W):Tab W:=by
 rw[MakeChecks.laidMetH_plain _ _ _ (by kernel_rfl)]at h
 obtain⟨ps,⟨g0,t0,cs0,f0,p0,q0,hg0,ht0,hv0,hd0,⟨g1,t1,cs1,f1,p1,q1,hg1,ht1,hv1,hd1,_,_⟩,_⟩,_,_⟩:=h
 obtain rfl:=Option.some.inj (g_first.symm.trans hg0)
 obtain rfl:=Option.some.inj (g_rounds.symm.trans hg1)
 obtain rfl:=Option.some.inj (t_first.symm.trans ht0)
 obtain rfl:=Option.some.inj (t_rounds.symm.trans ht1)
 refine⟨fun i v hv=>?_,fun i v hv=>?_⟩
 ·rw[World.var?_cell hg0 hv0 i,<- Array.getElem?_toList]
  exact trod_nums (l:=shaFirst) Tryz.underlying122 rfl hd0 i v hv
 ·rw[World.var?_cell hg1 hv1 i,<- Array.getElem?_toList]
  exact trod_nums (l:=shaRounds) Tryz.underlying121 rfl hd1 i v hv
end Go.Proofs.YtdmedbhbefdnkaaGreatDoor
