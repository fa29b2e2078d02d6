/- The walk of the law PlanAll. -/
import Derived.Test.YtahiimcdmojngaaPlan
namespace Go.Proofs.Ytahiimcdmojngaa
open Go.RowKit

theorem Pln.rounds_pos {h s : Int} (a : Pln.may h s = true) : 1 ≤ Pln.rounds h s := by
  have := Pln.of_may a
  rw [Pln.rounds, if_pos a]; omega

/-- Where the law's loop stands behind k rounds. -/
def PlanAt (h n at_ : Int) (k : Nat) : Prop :=
  (k : Int) + Pln.rounds at_ n = Pln.rounds h n ∧ 0 ≤ at_ ∧ at_ ≤ 8192 ∧ (h < n → at_ ≤ n) ∧ (n ≤ h → at_ = h ∧ k = 0) ∧ (0 < k → at_ % 16 = 0 ∨ at_ = n)

theorem PlanAt.zero (h n : Int) (h0 : 0 ≤ h) (h1 : h ≤ 4095) : PlanAt h n h 0 :=
  ⟨by simp, h0, by omega, fun _ => by omega, fun _ => ⟨rfl, rfl⟩, fun _ => by omega⟩
theorem PlanAt.step {h n at_ : Int} {k : Nat} (a : PlanAt h n at_ k) (hm : Pln.may at_ n = true) : PlanAt h n (at_ + Pln.count at_ n) (k + 1) := by
  obtain ⟨a1, a2, a3, a4, a5, a6⟩ := a
  have hs := Pln.rounds_step hm
  have hc := Pln.count_pos hm
  have hy := Pln.of_may hm
  have e : Pln.count at_ n = if n - at_ < 16 - at_ % 16 then n - at_ else 16 - at_ % 16 := by rw [Pln.count, if_pos hm]
  have hln : h < n := by
    by_cases q : h < n
    · exact q
    · have := a5 (by omega); omega
  refine ⟨by omega, by omega, by omega, fun _ => by omega, fun _ => by omega, fun _ => ?_⟩
  split at e <;> omega

set_option maxRecDepth 100000 in
set_option maxHeartbeats 4000000 in
theorem planAll_walk1 (a0 a1 h n : Int) (w : World) (z1 : 0 ≤ a0) (z2 : a0 ≤ 65535) (z3 : 0 ≤ a1) (z4 : a1 ≤ 65535) (hh : a0 % 4096 = h) (hn : a1 % 4097 = n) (h1 : 0 ≤ h) (h2 : h ≤ 4095) (n1 : 0 ≤ n) (n2 : n ≤ 4096) :
    Calls Try.prog 6 #[.int .u16 a0, .int .u16 a1] w fun e w' => e = .returned (.bool true) ∧ Below w.heap.size w w' := by
  have hrb := Pln.rounds_bd h n
  obtain ⟨rb1, rb2⟩ := hrb
  go_enter Try.func6, Try.ntmps6
  go_wp2_with (go_at_call 24; refine (rounds_any _ _ _).mono ?_; rintro e w' ⟨rfl, rfl⟩)
  go_loopw [7, 9] (fun x i wr => ∃ (at_ : Int) (k : Nat), x = .int .i64 at_ ∧ i = .int .i64 k ∧ PlanAt h n at_ k ∧ Below w.heap.size w wr) (fun _ i _ => (Pln.rounds h n).toNat - (intOf i).toNat)
  case atStart => exact ⟨h, 0, rfl, rfl, PlanAt.zero h n h1 h2, Below.refl _ _⟩
  case round =>
    obtain ⟨at_, k, rfl, rfl, hat, hbel⟩ := hrel
    have hz := hbel.size
    cases hm : Pln.may at_ n
    · have HM := Lib.hid hm
      have hr0 := Pln.rounds_no hm
      have hno := Pln.of_not hm
      clear hm
      have hq := hat
      obtain ⟨q1, q2, q3, q4, q5, q6⟩ := hq
      have hkr : Pln.rounds h n ≤ (k : Int) := by omega
      have e1 : decide ((k : Int) < Pln.rounds h n) = false := by simp; omega
      by_cases hln : h < n
      · have e2 : (at_ == n) = true := by simp; omega
        clear q1 q2 q3 q4 q5 q6 hr0 hno
        go_wp2_with (first | (go_at_call 22; refine (ask_no _ _ _ _ HM).mono ?_; rintro e w' ⟨rfl, rfl⟩) | (go_at_call 26; refine (planned_true _).mono ?_; rintro e w' ⟨rfl, rfl⟩))
        go_ret
        exact ⟨by simp [e2], by repeat (first | exact hbel | (refine Below.alloc ?_ (by first | omega | (simp; omega)) _))⟩
      · have e3 : (Pln.rounds h n == 0) = true := by have := q5 (by omega); simp; omega
        have e4 : decide (n ≤ h) = true := by simp; omega
        clear q1 q2 q3 q4 q5 q6 hr0 hno
        by_cases hh2 : at_ = n
        · have e2 : (at_ == n) = true := by simp; omega
          clear hh2
          go_wp2_with (first | (go_at_call 22; refine (ask_no _ _ _ _ HM).mono ?_; rintro e w' ⟨rfl, rfl⟩) | (go_at_call 26; refine (planned_true _).mono ?_; rintro e w' ⟨rfl, rfl⟩))
          go_ret
          exact ⟨by simp [e2], by repeat (first | exact hbel | (refine Below.alloc ?_ (by first | omega | (simp; omega)) _))⟩
        · have e2 : (at_ == n) = false := by simp; omega
          clear hh2
          go_wp2_with (first | (go_at_call 22; refine (ask_no _ _ _ _ HM).mono ?_; rintro e w' ⟨rfl, rfl⟩) | (go_at_call 26; refine (planned_true _).mono ?_; rintro e w' ⟨rfl, rfl⟩))
          go_ret
          exact ⟨by simp [e2, e3, e4], by repeat (first | exact hbel | (refine Below.alloc ?_ (by first | omega | (simp; omega)) _))⟩
    · have HM := Lib.hid hm
      have hpos := Pln.rounds_pos hm
      have hst := hat.step hm
      have hf : Pln.from0 at_ n = at_ := by rw [Pln.from0, if_pos hm]
      have hcp := Pln.count_pos hm
      have hmm := Pln.of_may hm
      obtain ⟨c1, c2, c3⟩ := hcp
      obtain ⟨m1, m2, m3⟩ := hmm
      have hkr : (k : Int) < Pln.rounds h n := by obtain ⟨q1, q2, q3, q4, q5, q6⟩ := hat; omega
      have e1 : decide ((k : Int) < Pln.rounds h n) = true := by simp; omega
      have f1 : decide (Pln.count at_ n < 1) = false := by simp; omega
      have f2 : decide (16 < Pln.count at_ n) = false := by simp; omega
      have f3 : 0 < k → (at_ % 16 != 0) = false := by intro hk; obtain ⟨q1, q2, q3, q4, q5, q6⟩ := hat; have := q6 hk; simp; omega
      clear hm
      rcases Nat.eq_zero_or_pos k with hk0 | hk0
      · subst hk0
        clear f3
        go_wp2_with (first | (go_at_call 20; refine (chunk_any _ _ _).mono ?_; rintro e w' ⟨rfl, rfl⟩) | (go_at_call 22; refine (ask_yes _ _ _ _ HM).mono ?_; rintro e w' ⟨rfl, rfl⟩))
        go_roundw
        case rel => exact ⟨_, 1, rfl, by go_num, hst, by repeat (first | exact hbel | (refine Below.alloc ?_ (by first | omega | (simp; omega)) _))⟩
        case measure => simp [intOf]; omega
      · have f4 := f3 hk0
        have f5 : decide ((0 : Int) < (k : Int)) = true := by simp; omega
        clear f3
        go_wp2_with (first | (go_at_call 20; refine (chunk_any _ _ _).mono ?_; rintro e w' ⟨rfl, rfl⟩) | (go_at_call 22; refine (ask_yes _ _ _ _ HM).mono ?_; rintro e w' ⟨rfl, rfl⟩))
        go_roundw
        case rel => exact ⟨_, k + 1, rfl, by go_num, hst, by repeat (first | exact hbel | (refine Below.alloc ?_ (by first | omega | (simp; omega)) _))⟩
        case measure => simp [intOf]; omega

theorem planAll_walk (a0 a1 : Int) (w : World) (w0 : (Lit.int .u16 a0).wf = true) (w1 : (Lit.int .u16 a1).wf = true) :
    Calls Try.prog 6 #[.int .u16 a0, .int .u16 a1] w fun e w' => e = .returned (.bool true) ∧ Below w.heap.size w w' := by
  have b0 := wf_u16 w0
  have b1 := wf_u16 w1
  exact planAll_walk1 a0 a1 _ _ w b0.1 b0.2 b1.1 b1.2 rfl rfl (by omega) (by omega) (by omega) (by omega)
end Go.Proofs.Ytahiimcdmojngaa
