/- Plain: the document's timers, in their order. -/
import Derived.Test.YtahiimcdmojngaaRef18d
namespace Go.Proofs.Ytahiimcdmojngaa
open Go.RowKit

def tless (p q : (Int × Int) × Int) : Prop := p.2 < q.2 ∨ (p.2 = q.2 ∧ (p.1.1 < q.1.1 ∨ (p.1.1 = q.1.1 ∧ p.1.2 < q.1.2)))
theorem aheadB_iff (p q : (Int × Int) × Int) : aheadB p q = true ↔ tless p q := by
  unfold aheadB tless
  repeat' split
  all_goals (rw [decide_eq_true_eq]; omega)
theorem tless_trans {p q r : (Int × Int) × Int} (h : tless p q) (k : tless q r) : tless p r := by unfold tless at *; omega
theorem tless_total {p q : (Int × Int) × Int} (h : ¬ tless p q) (hne : p.1 ≠ q.1) : tless q p := by
  have : ¬ (p.1.1 = q.1.1 ∧ p.1.2 = q.1.2) := fun e => hne (Prod.ext e.1 e.2)
  unfold tless at *
  omega
def Sorted (r : Tim) : Prop := r.Pairwise tless
section
variable {r T : Tim} {k : Int × Int} {at' now : Int}
theorem Sorted.del (h : Sorted r) (k : Int × Int) : Sorted (PM.del r k) := h.filter _
theorem Sorted.set (h : Sorted r) (k : Int × Int) (at' : Int) : Sorted (setR r k at') := by
  have hl := h.del k
  have hne : ∀ p ∈ PM.del r k, p.1 ≠ k := fun p hp => (PM.mem_del.1 hp).2
  unfold setR
  generalize PM.del r k = l at hl hne
  induction l with
  | nil => simp [Sorted]
  | cons a l ih =>
    obtain ⟨h1, h2⟩ := List.pairwise_cons.1 hl
    by_cases ha : aheadB a (k, at') = true
    · rw [List.takeWhile_cons, List.dropWhile_cons, if_pos ha, if_pos ha, List.cons_append]
      refine List.pairwise_cons.2 ⟨fun q hq => ?_, ih h2 (fun p hp => hne p (List.mem_cons_of_mem _ hp))⟩
      rcases List.mem_append.1 hq with hq | hq
      · exact h1 q ((List.takeWhile_sublist _).mem hq)
      · rcases List.mem_cons.1 hq with rfl | hq
        · exact (aheadB_iff _ _).1 ha
        · exact h1 q ((List.dropWhile_sublist _).mem hq)
    · rw [List.takeWhile_cons, List.dropWhile_cons, if_neg ha, if_neg ha, List.nil_append]
      have hx : tless (k, at') a := tless_total (fun q => ha ((aheadB_iff _ _).2 q)) (hne a List.mem_cons_self)
      refine List.pairwise_cons.2 ⟨fun q hq => ?_, hl⟩
      rcases List.mem_cons.1 hq with rfl | hq
      · exact hx
      · exact tless_trans hx (h1 q hq)
theorem setR_perm (r : Tim) (k : Int × Int) (at' : Int) : (PM.set r k at').Perm (setR r k at') := by
  unfold setR PM.set
  refine List.Perm.trans ?_ List.perm_middle.symm
  rw [List.takeWhile_append_dropWhile]
theorem Sorted.due (h : Sorted r) (now : Int) : r.takeWhile (fun p => decide (p.2 ≤ now)) = r.filter (fun p => decide (p.2 ≤ now)) ∧ r.dropWhile (fun p => decide (p.2 ≤ now)) = restOf r now := by
  unfold restOf
  induction r with
  | nil => simp
  | cons a r ih =>
    obtain ⟨h1, h2⟩ := List.pairwise_cons.1 h
    obtain ⟨e1, e2⟩ := ih h2
    by_cases ha : a.2 ≤ now
    · have hn : ¬ now < a.2 := by omega
      constructor
      · simp [List.takeWhile_cons, List.filter_cons, ha, e1]
      · simp [List.dropWhile_cons, List.filter_cons, ha, hn, e2]
    · have hn : now < a.2 := by omega
      have hall : ∀ q ∈ r, now < q.2 := fun q hq => by have := h1 q hq; unfold tless at this; omega
      constructor
      · simp only [List.takeWhile_cons, ha, decide_false, Bool.false_eq_true, if_false]
        symm
        rw [List.filter_eq_nil_iff]
        intro q hq
        rcases List.mem_cons.1 hq with rfl | hq
        · simpa using ha
        · have := hall q hq; simp; omega
      · simp only [List.dropWhile_cons, ha, decide_false, Bool.false_eq_true, if_false]
        symm
        rw [List.filter_eq_self]
        intro q hq
        rcases List.mem_cons.1 hq with rfl | hq
        · simpa using hn
        · simpa using hall q hq
theorem Sorted.dueIs (h : Sorted r) (hp : T.Perm r) (hnd : PM.Nd T) (now : Int) : DueIs T now ((r.takeWhile fun p => decide (p.2 ≤ now)).map (·.1)) := by
  rw [(h.due now).1]
  refine ⟨((hp.filter _).map _).symm, ?_⟩
  rw [List.pairwise_map]
  refine List.Pairwise.imp_of_mem ?_ (List.Pairwise.filter (fun p : (Int × Int) × Int => decide (p.2 ≤ now)) h)
  · intro p q hp1 hq1 hpq
    have g1 := (PM.get_some hnd).2 (show (p.1, p.2) ∈ T from hp.mem_iff.2 (List.mem_filter.1 hp1).1)
    have g2 := (PM.get_some hnd).2 (show (q.1, q.2) ∈ T from hp.mem_iff.2 (List.mem_filter.1 hq1).1)
    unfold kless
    rw [g1, g2]
    exact hpq
theorem Sorted.rest (h : Sorted r) (now : Int) : Sorted (r.dropWhile fun p => decide (p.2 ≤ now)) := List.Pairwise.sublist (List.dropWhile_sublist _) h
theorem rest_perm (h : Sorted r) (hp : T.Perm r) (now : Int) : (restOf T now).Perm (r.dropWhile fun p => decide (p.2 ≤ now)) := by
  rw [(h.due now).2]
  exact hp.filter _
end
end Go.Proofs.Ytahiimcdmojngaa
