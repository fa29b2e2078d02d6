/- Timers: the document's answers (Clear, At, ahead). -/
import Derived.Test.YtahiimcdmojngaaTimRang
import Derived.Test.YtahiimcdmojngaaView
import Derived.Lib.AppendZeros
namespace Go.Proofs.Ytahiimcdmojngaa
open Go.RowKit

def tcells (r : Tim) : List Value := r.flatMap fun p => [.int .i64 p.1.1, .int .i64 p.1.2, .int .i64 p.2]
theorem tcells_len (r : Tim) : (tcells r).length = r.length * 3 := by
  induction r with
  | nil => rfl
  | cons a r ih => simp only [tcells, List.flatMap_cons, List.length_append, List.length_cons, List.length_nil] at *; omega
theorem tcells_append (l m : Tim) : tcells (l ++ m) = tcells l ++ tcells m := by simp [tcells]
theorem tcells_get (l : Tim) (i : Nat) (p : (Int × Int) × Int) (h : l[i]? = some p) : (tcells l)[i * 3]? = some (.int .i64 p.1.1) ∧ (tcells l)[i * 3 + 1]? = some (.int .i64 p.1.2) ∧ (tcells l)[i * 3 + 2]? = some (.int .i64 p.2) := by
  induction l generalizing i with
  | nil => simp at h
  | cons a r ih =>
    have e : tcells (a :: r) = [.int .i64 a.1.1, .int .i64 a.1.2, .int .i64 a.2] ++ tcells r := by simp [tcells]
    rw [e]
    cases i with
    | zero => simp at h; subst h; simp
    | succ i =>
      have := ih i (by simpa using h)
      rw [List.getElem?_append_right (by simp; omega), List.getElem?_append_right (by simp; omega), List.getElem?_append_right (by simp; omega)]
      have e0 : [Value.int .i64 a.1.1, Value.int .i64 a.1.2, Value.int .i64 a.2].length = 3 := rfl
      rw [e0, show (i + 1) * 3 - 3 = i * 3 by omega, show (i + 1) * 3 + 1 - 3 = i * 3 + 1 by omega, show (i + 1) * 3 + 2 - 3 = i * 3 + 2 by omega]
      exact this
/-- What is known of such a list in memory. -/
theorem View.tim {w : World} {v : Value} {r : Tim} (h : View w 3 v (tcells r)) : ∃ a n cap, v = .slice a n cap ∧ n = r.length ∧ n ≤ cap ∧ cap ≤ maxLen ∧ ∀ i p, r[i]? = some p → ∃ g off, a = some ⟨g, off, none⟩ ∧ g < w.heap.size ∧ w.cell? ⟨g, off + i * 3, none⟩ = some (.int .i64 p.1.1) ∧ w.cell? ⟨g, off + i * 3 + 1, none⟩ = some (.int .i64 p.1.2) ∧ w.cell? ⟨g, off + i * 3 + 2, none⟩ = some (.int .i64 p.2) := by
  obtain ⟨a, n, cap, rfl, h1, h2, h3, _, h5⟩ := h
  rw [tcells_len] at h1
  refine ⟨a, n, cap, rfl, by omega, h2, h3, fun i p hp => ?_⟩
  have hi := (List.getElem?_eq_some_iff.1 hp).1
  obtain ⟨g, off, rfl, hg, hc⟩ := h5 (by omega)
  obtain ⟨g0, g1, g2⟩ := tcells_get r i p hp
  exact ⟨g, off, rfl, hg, hc _ _ g0, hc _ _ g1, hc _ _ g2⟩
theorem eq_pair (a b c d : Int) (w : World) : (binOp .eql 84 (.agg #[.int .i64 a, .int .i64 b]) (.agg #[.int .i64 c, .int .i64 d])).run Try.prog w = .ok (.bool (decide ([a, b] = [c, d]))) w := by
  obtain ⟨i, hi⟩ := info_int18
  exact run_eql_ints w Try.underlying84 Try.underlying3 hi (by kernel_rfl) [a, b] [c, d] rfl rfl
theorem neq_pair (a b c d : Int) (w : World) : (binOp .neq 84 (.agg #[.int .i64 a, .int .i64 b]) (.agg #[.int .i64 c, .int .i64 d])).run Try.prog w = .ok (.bool (!decide ([a, b] = [c, d]))) w := by
  obtain ⟨i, hi⟩ := info_int18
  exact run_neq_ints w Try.underlying84 Try.underlying3 hi (by kernel_rfl) [a, b] [c, d] rfl rfl
theorem pair_dec (p k : Int × Int) : decide ([p.1, p.2] = [k.1, k.2]) = decide (p = k) := by
  rw [decide_eq_decide]
  constructor
  · intro h; simp at h; exact Prod.ext h.1 h.2
  · rintro rfl; rfl

theorem get_at {r : Tim} {k : Int × Int} {i : Nat} {p : (Int × Int) × Int} (hpre : ∀ j q, j < i → r[j]? = some q → q.1 ≠ k) (hi : r[i]? = some p) (hp : p.1 = k) : PM.get r k = some p.2 := by
  unfold PM.get
  have : r.find? (fun q => decide (q.1 = k)) = some p := by
    induction r generalizing i with
    | nil => simp at hi
    | cons a r ih =>
      cases i with
      | zero => simp at hi; subst hi; simp [hp]
      | succ i =>
        have h0 : a.1 ≠ k := hpre 0 a (by omega) rfl
        rw [List.find?_cons]
        simp only [h0, decide_false]
        exact ih (i := i) (fun j q hj hq => hpre (j + 1) q (by omega) (by simpa using hq)) (by simpa using hi)
  rw [this]; rfl
theorem get_none' {r : Tim} {k : Int × Int} {i : Nat} (hpre : ∀ j q, j < i → r[j]? = some q → q.1 ≠ k) (hi : r.length ≤ i) : PM.get r k = none := by
  unfold PM.get
  rw [Option.map_eq_none_iff, List.find?_eq_none]
  intro q hq
  obtain ⟨j, hj⟩ := List.mem_iff_getElem?.1 hq
  have := hpre j q (by have := (List.getElem?_eq_some_iff.1 hj).1; omega) hj
  simpa using this

set_option maxRecDepth 100000 in
set_option maxHeartbeats 1000000 in
theorem ref_at (w : World) (v : Value) (r : Tim) (k : Int × Int) (hr : r.length < 1000000) (h : View w 3 v (tcells r)) :
    Calls Try.prog 66 #[v, .agg #[.int .i64 k.1, .int .i64 k.2]] w fun e w' => e = .returned (.tuple #[.int .i64 ((PM.get r k).getD 0), .bool (PM.get r k).isSome]) ∧ Kept (fun _ => False) w w' := by
  obtain ⟨a, n, cap, rfl, hn, hcap, hml, _⟩ := h.tim
  have hml' : maxLen = 9223372036854775807 := rfl
  have HN := Lib.hid hn
  have hn1 : n < 1000000 := by omega
  clear hn
  go_enter Try.func66, Try.ntmps66
  go_wp2_with fail
  go_loopw [6] (fun y wr => ∃ i : Nat, y = .int .i64 (i : Int) ∧ i ≤ n ∧ Kept (fun _ => False) w wr ∧ Blk wr w.heap.size [.int .i64 k.1, .int .i64 k.2] 84 ∧ Hid (∀ j q, j < i → r[j]? = some q → q.1 ≠ k)) (fun y _ => n - (intOf y).toNat)
  case atStart => exact ⟨0, rfl, Nat.zero_le _, (Kept.refl _ _).alloc _, Blk.new _ _ _, Lib.hid (fun j q hj => by omega)⟩
  case round =>
    obtain ⟨i, rfl, hi, hk, hbox, HP⟩ := hrel
    by_cases hlt : i < n
    · have x : decide (i < n) = true := decide_eq_true hlt
      obtain ⟨p, hp⟩ : ∃ p, r[i]? = some p := ⟨r[i]'(by have := HN.out; omega), List.getElem?_eq_getElem (by have := HN.out; omega)⟩
      obtain ⟨a', n', cap', hv, -, -, -, hcells⟩ := (h.same hk (by omega)).tim
      cases hv
      obtain ⟨g, off, rfl, hg, q0, q1, q2⟩ := hcells i p hp
      have b0 := hbox.cell (i := 0) rfl
      have b1 := hbox.cell (i := 1) rfl
      have heq := fun w => eq_pair p.1.1 p.1.2 k.1 k.2 w
      rw [pair_dec] at heq
      have HB := Lib.hid hbox
      clear hcells hbox
      by_cases hpk : p.1 = k
      · rw [decide_eq_true hpk] at heq
        have hget := get_at HP.out hp hpk
        have HG := Lib.hid hget
        clear hget hp hpk
        go_wp2_with fail
        go_quiet (fail)
        go_wp2_with fail
        refine bodyPost_ret (v := .tuple #[.int .i64 p.2, .bool true]) (by simp [results, Try.results66, go_sem]) rfl ⟨by rw [HG.out]; rfl, hk.drewN _⟩
      · rw [decide_eq_false hpk] at heq
        have HP2 : Hid (∀ j q, j < i + 1 → r[j]? = some q → q.1 ≠ k) := Lib.hid (fun j q hj hq => by
          by_cases e : j = i
          · subst e; rw [hp] at hq; cases hq; exact hpk
          · exact HP.out j q (by omega) hq)
        clear hp HP hpk
        go_wp2_with fail
        go_quiet (fail)
        go_wp2_with fail
        go_roundw
        case rel => exact ⟨i + 1, by go_num, hlt, hk.drewN _, HB.out.drewN _, HP2⟩
        case measure => simp [intOf]; omega
    · have x : decide (i < n) = false := by simp; omega
      have HG := Lib.hid (get_none' HP.out (by have := HN.out; omega))
      go_wp2_with fail
      refine bodyPost_ret (v := .tuple #[.int .i64 0, .bool false]) (by simp [results, Try.results66, go_sem]) rfl ⟨by rw [HG.out]; rfl, hk⟩

def aheadB (p q : (Int × Int) × Int) : Bool := if p.2 ≠ q.2 then decide (p.2 < q.2) else if p.1.1 ≠ q.1.1 then decide (p.1.1 < q.1.1) else decide (p.1.2 < q.1.2)
set_option maxRecDepth 100000 in
theorem ahead_any (w : World) (p q : (Int × Int) × Int) : Calls Try.prog 94 #[.agg #[.int .i64 p.1.1, .int .i64 p.1.2, .int .i64 p.2], .agg #[.int .i64 q.1.1, .int .i64 q.1.2, .int .i64 q.2]] w fun e w' => e = .returned (.bool (aheadB p q)) ∧ Kept (fun _ => False) w w' := by
  have hk : ∀ o1 o2, Kept (fun _ => False) w ((w.alloc o1).alloc o2) := fun o1 o2 => ((Kept.refl _ _).alloc o1).alloc o2
  by_cases h1 : p.2 = q.2
  · have x1 : (p.2 == q.2) = true := by simpa using h1
    have y1 : (p.2 != q.2) = false := by simpa using h1
    by_cases h2 : p.1.1 = q.1.1
    · have x2 : (p.1.1 == q.1.1) = true := by simpa using h2
      have y2 : (p.1.1 != q.1.1) = false := by simpa using h2
      have e : aheadB p q = decide (p.1.2 < q.1.2) := by simp [aheadB, h1, h2]
      rw [e]; clear e h1 h2
      go_enter Try.func94, Try.ntmps94
      go_wp2
      go_ret
      exact ⟨rfl, hk _ _⟩
    · have x2 : (p.1.1 == q.1.1) = false := by simpa using h2
      have y2 : (p.1.1 != q.1.1) = true := by simpa using h2
      have e : aheadB p q = decide (p.1.1 < q.1.1) := by simp [aheadB, h1, h2]
      rw [e]; clear e h1 h2
      go_enter Try.func94, Try.ntmps94
      go_wp2
      go_ret
      exact ⟨rfl, hk _ _⟩
  · have x1 : (p.2 == q.2) = false := by simpa using h1
    have y1 : (p.2 != q.2) = true := by simpa using h1
    have e : aheadB p q = decide (p.2 < q.2) := by simp [aheadB, h1]
    rw [e]; clear e h1
    go_enter Try.func94, Try.ntmps94
    go_wp2
    go_ret
    exact ⟨rfl, hk _ _⟩
end Go.Proofs.Ytahiimcdmojngaa
