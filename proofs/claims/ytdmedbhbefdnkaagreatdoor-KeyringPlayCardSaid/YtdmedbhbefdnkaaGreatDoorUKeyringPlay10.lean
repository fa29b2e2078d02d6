/- ArrEq -/
import Derived.Laws.StructEq
import Derived.ChangeKeysEq
import Derived.Test.YtdmedbhbefdnkaaGreatDoorUKeyringPlay05
set_option linter.unusedVariables false
set_option linter.unusedSimpArgs false
set_option maxRecDepth 100000
set_option maxHeartbeats 16000000
namespace Go.Proofs.YtdmedbhbefdnkaaGreatDoor
open Go.RowKit
section
variable {P : Program} {t e : TypeId} {n : Nat} {q : IntKind} {i : TypeInfo}
theorem run_eqItems_ints (w:World) (d:Nat) (he:P.underlying e=some (.int q)) (xs ys:List Int):∀ is:List Nat,(∀ j∈is,j<xs.length/\j<ys.length) ->
  (Op.eqItems (d+1) e 1 (xs.map (Value.int q)).toArray (ys.map (Value.int q)).toArray is).run P w = .ok (decide (∀ j∈is,xs[j]? = ys[j]?)) w
 | [],_=>by simp[Op.eqItems]
 | j::is,h=>by
  have hp:P.plainKey e=true:=by simp[Program.plainKey,he]
  obtain⟨hx,hy⟩:=h j (by simp)
  have p1:(part e (xs.map (Value.int q)).toArray (j*1)).run P w = .ok (.int q xs[j]) w:=run_part_plain w hp (by simp[hx])
  have p2:(part e (ys.map (Value.int q)).toArray (j*1)).run P w = .ok (.int q ys[j]) w:=run_part_plain w hp (by simp[hy])
  have p3:=run_equalIn_int (P:=P) w d e q q xs[j] ys[j] he
  have ih:=run_eqItems_ints w d he xs ys is (fun k hk=>h k (by simp[hk]))
  simp only[Op.eqItems,Sem.run_bind,p1,p2,p3,Result.andThen_ok]
  by_cases hxy:xs[j]=ys[j]
  ·simp only[hxy,beq_self_eq_true,Bool.not_true,Bool.false_eq_true,if_false,ih]
   congr 1
   rw[decide_eq_decide]
   simp[List.getElem?_eq_getElem hx,List.getElem?_eq_getElem hy,hxy]
  ·have:(xs[j]==ys[j])=false:=by simpa using hxy
   simp only[this,Bool.not_false,if_true,Sem.run_pure]
   congr 1
   symm
   rw[decide_eq_false_iff_not]
   intro hall
   have:=hall j (by simp)
   rw[List.getElem?_eq_getElem hx,List.getElem?_eq_getElem hy]at this
   exact hxy (Option.some.inj this)
theorem run_equalIn_ints (w:World) (d:Nat) (hu:P.underlying t=some (.array n e)) (he:P.underlying e=some (.int q)) (hi:P.info? e=some i) (hc:P.cellsOf e=1) (xs ys:List Int) (hx:xs.length=n) (hy:ys.length=n) :
  (Op.equalIn (d+2) t (.agg (xs.map (Value.int q)).toArray) (.agg (ys.map (Value.int q)).toArray)).run P w = .ok (decide (xs=ys)) w:=by
 rw[run_equalIn_array w (d+1) _ _ hu hi,hc,run_eqItems_ints w d he xs ys _ (fun j hj=>by rw[List.mem_range]at hj;omega)]
 congr 1
 rw[decide_eq_decide]
 constructor
 ·intro h
  apply List.ext_getElem?
  intro j
  by_cases hj:j<n
  ·exact h j (List.mem_range.2 hj)
  ·rw[List.getElem?_eq_none (by omega),List.getElem?_eq_none (by omega)]
 ·rintro rfl;intros;rfl
theorem run_eql_ints (w:World) (hu:P.underlying t=some (.array n e)) (he:P.underlying e=some (.int q)) (hi:P.info? e=some i) (hc:P.cellsOf e=1) (xs ys:List Int) (hx:xs.length=n) (hy:ys.length=n) :
  (binOp .eql t (.agg (xs.map (Value.int q)).toArray) (.agg (ys.map (Value.int q)).toArray)).run P w = .ok (.bool (decide (xs=ys))) w:=by
 rw[run_eql_struct,run_equalIn_ints (d:=9998) w hu he hi hc xs ys hx hy]
 rfl
theorem run_neq_ints (w:World) (hu:P.underlying t=some (.array n e)) (he:P.underlying e=some (.int q)) (hi:P.info? e=some i) (hc:P.cellsOf e=1) (xs ys:List Int) (hx:xs.length=n) (hy:ys.length=n) :
  (binOp .neq t (.agg (xs.map (Value.int q)).toArray) (.agg (ys.map (Value.int q)).toArray)).run P w = .ok (.bool (!decide (xs=ys))) w:=by
 rw[run_neq_struct,run_equalIn_ints (d:=9998) w hu he hi hc xs ys hx hy]
 rfl
end
end Go.Proofs.YtdmedbhbefdnkaaGreatDoor
