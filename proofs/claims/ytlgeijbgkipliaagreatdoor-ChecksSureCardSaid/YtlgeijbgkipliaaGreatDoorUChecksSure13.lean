/- Iter -/
import Derived.RangeFuncNested
import Derived.RangeFuncBound
import Derived.RangeFuncCalls
import Derived.RangeFuncLeaves
import Derived.Shelf.Abstract
import Derived.Shelf.RegionOpen
import Derived.OwnWalkIn
import Derived.TacticsInMore
import Derived.LoopNIn
import Derived.LoopIn
import Derived.Test.YtlgeijbgkipliaaGreatDoorUChecksSure10
set_option linter.unusedVariables false
set_option linter.unusedSimpArgs false
namespace Go.Proofs.YtlgeijbgkipliaaGreatDoor
open Go.RowKit Go.Shelf
attribute [local go_sem] Oper.semAt_some
structure KeptB (S : Nat → Prop) (n₀ : Nat) (w w' : World) : Prop where
  size : w.heap.size ≤ w'.heap.size
  block : ∀ k, k < n₀ → ¬ S k → w'.heap[k]? = w.heap[k]?
section
variable {S : Nat → Prop} {n₀ : Nat} {w w' w'' : World}
theorem KeptB.refl (S : Nat → Prop) (n₀ : Nat) (w : World) : KeptB S n₀ w w := ⟨Nat.le_refl _, fun _ _ _ => rfl⟩
theorem KeptB.trans (h : KeptB S n₀ w w') (k : KeptB S n₀ w' w'') : KeptB S n₀ w w'' := ⟨Nat.le_trans h.size k.size, fun i hi hs => (k.block i hi hs).trans (h.block i hi hs)⟩
theorem KeptB.cell (h : KeptB S n₀ w w') {p : Addr} (hp : p.block < n₀) (hs : ¬ S p.block) : w'.cell? p = w.cell? p := by
  have := h.block p.block hp hs
  simp only [World.cell?, this]
theorem Kept.keptB {Z : Nat → Prop} (h : Kept Z w w') (hn : n₀ ≤ w.heap.size) (hZ : ∀ k, k < n₀ → Z k → S k) : KeptB S n₀ w w' := ⟨h.size, fun k hk hs => h.block k (by omega) (fun z => hs (hZ k hk z))⟩
theorem KeptB.putObj (S : Nat → Prop) (w : World) (l : Nat) (o' : Obj) (hl : n₀ ≤ l) : KeptB S n₀ w (w.putObj l o') :=
  ⟨(grownBy_putObj' w l o').size, fun k hk _ => by
    by_cases hlt : k < w.heap.size
    · exact (grownBy_putObj' w l o').block k hlt (fun e => by cases e; omega)
    · have h1 : w.heap.size ≤ k := by omega
      rw [Array.getElem?_eq_none h1]
      rw [Array.getElem?_eq_none (by simpa [World.putObj] using h1)]⟩
end
def backsI : List Int → List (Nat × Int)
  | [] => []
  | n :: r => (backsI r).map (fun p => (p.1 + 1, p.2)) ++ [(0, n)]
theorem backsI_len (ns : List Int) : (backsI ns).length = ns.length := by
  induction ns with
  | nil => rfl
  | cons n r ih => simp [backsI, ih]
theorem backsI_at (ns : List Int) : ∀ k, k < ns.length → (backsI ns)[k]? = some (ns.length - 1 - k, (ns[ns.length - 1 - k]?).getD 0) := by
  induction ns with
  | nil => intro k hk; simp at hk
  | cons n r ih =>
    intro k hk
    simp only [List.length_cons] at hk
    unfold backsI
    by_cases hlt : k < r.length
    · rw [List.getElem?_append_left (by simp [backsI_len]; exact hlt), List.getElem?_map, ih k hlt]
      simp only [Option.map_some, List.length_cons, Option.some.injEq, Prod.mk.injEq]
      refine ⟨by omega, ?_⟩
      rw [show r.length + 1 - 1 - k = (r.length - 1 - k) + 1 by omega, List.getElem?_cons_succ]
    · obtain rfl : k = r.length := by omega
      rw [List.getElem?_append_right (by simp [backsI_len])]
      simp [backsI_len]
theorem backsI_map (ns : List Int) : (backsI ns).map (·.2) = ns.reverse := by
  induction ns with
  | nil => rfl
  | cons n r ih => simp only [backsI, List.map_append, List.map_map, List.reverse_cons, List.map_cons, List.map_nil]; rw [← ih]; rfl
def intsV (ns : List Int) : List Value := ns.map fun n => .int .i64 n
theorem intsV_len (ns : List Int) : (intsV ns).length = ns.length := by simp [intsV]
set_option maxHeartbeats 1000000 in
theorem backward_any (a : Option Addr) (m c : Nat) (w : World) : Calls Tryz.prog 79 #[.slice a m c] w fun e w' => e = .returned (.func (.func 119) #[] #[.pointer (some ⟨w.heap.size, 0, none⟩)]) ∧ w' = w.alloc (.cells #[.slice a m c] 83) := by
  go_enter Tryz.func79, Tryz.ntmps79
  have hmf : ∀ (fn : Fn) (first cap : Array Value) (w : World), (Instr.makeFunc fn first cap).run Tryz.prog w = .ok (.func fn first cap) w := fun _ _ _ _ => rfl
  go_wp2
  go_ret
  exact ⟨rfl, rfl⟩
end Go.Proofs.YtlgeijbgkipliaaGreatDoor
