/- The walk of the law PlanTell. -/
import Derived.Test.YtahiimcdmojngaaPlan
namespace Go.Proofs.Ytahiimcdmojngaa
open Go.RowKit

set_option maxRecDepth 100000 in
set_option maxHeartbeats 2000000 in
theorem planTell_walk0 (id h s : Int) (w : World) (h1 : -9223372036854775808 ≤ h) (h2 : h ≤ 9223372036854775807) (s1 : -9223372036854775808 ≤ s) (s2 : s ≤ 9223372036854775807) :
    Calls Try.prog 5 #[.int .i64 id, .int .i64 h, .int .i64 s] w fun e w' => e = .returned (.bool true) ∧ Below w.heap.size w w' := by
  obtain ⟨x1, hx1, a1, b1⟩ : ∃ x, bits .and .i64 h 63 = x ∧ 0 ≤ x ∧ x ≤ 63 := ⟨_, i64_mask63 h, by omega, by omega⟩
  obtain ⟨x2, hx2, a2, b2⟩ : ∃ x, bits .and .i64 s 63 = x ∧ 0 ≤ x ∧ x ≤ 63 := ⟨_, i64_mask63 s, by omega, by omega⟩
  obtain ⟨x3, hx3, a3, b3⟩ : ∃ x, bits .and .i64 s 31 = x ∧ 0 ≤ x ∧ x ≤ 31 := ⟨_, i64_mask31 s, by omega, by omega⟩
  obtain ⟨x4, hx4, a4, b4⟩ : ∃ x, bits .and .i64 h 15 = x ∧ 0 ≤ x ∧ x ≤ 15 := ⟨_, i64_mask15 h, by omega, by omega⟩
  go_enter Try.func5, Try.ntmps5
  go_wp2_with fail
  go_loopw [7] (fun i wr => ∃ k : Nat, k ≤ 3 ∧ i = .int .i64 k ∧ Below w.heap.size w wr) (fun i _ => 3 - (intOf i).toNat)
  case atStart => exact ⟨0, by omega, rfl, Below.refl _ _⟩
  case round =>
    obtain ⟨k, hk, rfl, hbel⟩ := hrel
    have hz := hbel.size
    match k, hk with
    | 0, _ =>
      cases hm : Pln.may h s
      · have HM := Lib.hid hm
        clear hm
        go_wp2_with (first | (go_at_call 20; refine (chunk_any _ _ _).mono ?_; rintro e w' ⟨rfl, rfl⟩) | (go_at_call 21; refine (refChunk_any _ _ _ (by omega) (by omega) (by omega) (by omega)).mono ?_; rintro e w' ⟨rfl, rfl⟩) | (go_at_call 22; refine (ask_no _ _ _ _ HM).mono ?_; rintro e w' ⟨rfl, rfl⟩) | (go_at_call 23; refine (refAsk_no _ _ _ _ (by omega) (by omega) (by omega) (by omega) HM).mono ?_; rintro e w' ⟨rfl, rfl⟩) | (go_at_call 24; refine (rounds_any _ _ _).mono ?_; rintro e w' ⟨rfl, rfl⟩) | (go_at_call 25; refine (refRounds_any _ _ _ (by omega) (by omega) (by omega) (by omega)).mono ?_; rintro e w' ⟨rfl, rfl⟩))
        go_roundw
        case rel => exact ⟨1, by omega, by go_num, by repeat (first | exact hbel | (refine Below.alloc ?_ (by first | omega | (simp; omega)) _))⟩
        case measure => simp [intOf]
      · have HM := Lib.hid hm
        clear hm
        go_wp2_with (first | (go_at_call 20; refine (chunk_any _ _ _).mono ?_; rintro e w' ⟨rfl, rfl⟩) | (go_at_call 21; refine (refChunk_any _ _ _ (by omega) (by omega) (by omega) (by omega)).mono ?_; rintro e w' ⟨rfl, rfl⟩) | (go_at_call 22; refine (ask_yes _ _ _ _ HM).mono ?_; rintro e w' ⟨rfl, rfl⟩) | (go_at_call 23; refine (refAsk_yes _ _ _ _ (by omega) (by omega) (by omega) (by omega) HM).mono ?_; rintro e w' ⟨rfl, rfl⟩) | (go_at_call 24; refine (rounds_any _ _ _).mono ?_; rintro e w' ⟨rfl, rfl⟩) | (go_at_call 25; refine (refRounds_any _ _ _ (by omega) (by omega) (by omega) (by omega)).mono ?_; rintro e w' ⟨rfl, rfl⟩))
        go_roundw
        case rel => exact ⟨1, by omega, by go_num, by repeat (first | exact hbel | (refine Below.alloc ?_ (by first | omega | (simp; omega)) _))⟩
        case measure => simp [intOf]
    | 1, _ =>
      cases hm : Pln.may x1 x2
      · have HM := Lib.hid hm
        clear hm
        go_wp2_with (first | (go_at_call 20; refine (chunk_any _ _ _).mono ?_; rintro e w' ⟨rfl, rfl⟩) | (go_at_call 21; refine (refChunk_any _ _ _ (by omega) (by omega) (by omega) (by omega)).mono ?_; rintro e w' ⟨rfl, rfl⟩) | (go_at_call 22; refine (ask_no _ _ _ _ HM).mono ?_; rintro e w' ⟨rfl, rfl⟩) | (go_at_call 23; refine (refAsk_no _ _ _ _ (by omega) (by omega) (by omega) (by omega) HM).mono ?_; rintro e w' ⟨rfl, rfl⟩) | (go_at_call 24; refine (rounds_any _ _ _).mono ?_; rintro e w' ⟨rfl, rfl⟩) | (go_at_call 25; refine (refRounds_any _ _ _ (by omega) (by omega) (by omega) (by omega)).mono ?_; rintro e w' ⟨rfl, rfl⟩))
        go_roundw
        case rel => exact ⟨2, by omega, by go_num, by repeat (first | exact hbel | (refine Below.alloc ?_ (by first | omega | (simp; omega)) _))⟩
        case measure => simp [intOf]
      · have HM := Lib.hid hm
        clear hm
        go_wp2_with (first | (go_at_call 20; refine (chunk_any _ _ _).mono ?_; rintro e w' ⟨rfl, rfl⟩) | (go_at_call 21; refine (refChunk_any _ _ _ (by omega) (by omega) (by omega) (by omega)).mono ?_; rintro e w' ⟨rfl, rfl⟩) | (go_at_call 22; refine (ask_yes _ _ _ _ HM).mono ?_; rintro e w' ⟨rfl, rfl⟩) | (go_at_call 23; refine (refAsk_yes _ _ _ _ (by omega) (by omega) (by omega) (by omega) HM).mono ?_; rintro e w' ⟨rfl, rfl⟩) | (go_at_call 24; refine (rounds_any _ _ _).mono ?_; rintro e w' ⟨rfl, rfl⟩) | (go_at_call 25; refine (refRounds_any _ _ _ (by omega) (by omega) (by omega) (by omega)).mono ?_; rintro e w' ⟨rfl, rfl⟩))
        go_roundw
        case rel => exact ⟨2, by omega, by go_num, by repeat (first | exact hbel | (refine Below.alloc ?_ (by first | omega | (simp; omega)) _))⟩
        case measure => simp [intOf]
    | 2, _ =>
      cases hm : Pln.may (4096 - x3) (4096 - x4)
      · have HM := Lib.hid hm
        clear hm
        go_wp2_with (first | (go_at_call 20; refine (chunk_any _ _ _).mono ?_; rintro e w' ⟨rfl, rfl⟩) | (go_at_call 21; refine (refChunk_any _ _ _ (by omega) (by omega) (by omega) (by omega)).mono ?_; rintro e w' ⟨rfl, rfl⟩) | (go_at_call 22; refine (ask_no _ _ _ _ HM).mono ?_; rintro e w' ⟨rfl, rfl⟩) | (go_at_call 23; refine (refAsk_no _ _ _ _ (by omega) (by omega) (by omega) (by omega) HM).mono ?_; rintro e w' ⟨rfl, rfl⟩) | (go_at_call 24; refine (rounds_any _ _ _).mono ?_; rintro e w' ⟨rfl, rfl⟩) | (go_at_call 25; refine (refRounds_any _ _ _ (by omega) (by omega) (by omega) (by omega)).mono ?_; rintro e w' ⟨rfl, rfl⟩))
        go_roundw
        case rel => exact ⟨3, by omega, by go_num, by repeat (first | exact hbel | (refine Below.alloc ?_ (by first | omega | (simp; omega)) _))⟩
        case measure => simp [intOf]
      · have HM := Lib.hid hm
        clear hm
        go_wp2_with (first | (go_at_call 20; refine (chunk_any _ _ _).mono ?_; rintro e w' ⟨rfl, rfl⟩) | (go_at_call 21; refine (refChunk_any _ _ _ (by omega) (by omega) (by omega) (by omega)).mono ?_; rintro e w' ⟨rfl, rfl⟩) | (go_at_call 22; refine (ask_yes _ _ _ _ HM).mono ?_; rintro e w' ⟨rfl, rfl⟩) | (go_at_call 23; refine (refAsk_yes _ _ _ _ (by omega) (by omega) (by omega) (by omega) HM).mono ?_; rintro e w' ⟨rfl, rfl⟩) | (go_at_call 24; refine (rounds_any _ _ _).mono ?_; rintro e w' ⟨rfl, rfl⟩) | (go_at_call 25; refine (refRounds_any _ _ _ (by omega) (by omega) (by omega) (by omega)).mono ?_; rintro e w' ⟨rfl, rfl⟩))
        go_roundw
        case rel => exact ⟨3, by omega, by go_num, by repeat (first | exact hbel | (refine Below.alloc ?_ (by first | omega | (simp; omega)) _))⟩
        case measure => simp [intOf]
    | 3, _ =>
      go_wp2_with (go_at_call 26; refine (planned_true _).mono ?_; rintro e w' ⟨rfl, rfl⟩)
      go_ret
      exact ⟨rfl, hbel⟩
    | k + 4, h => omega

theorem planTell_walk (a0 a1 a2 : Int) (w : World) (w0 : (Lit.int .i64 a0).wf = true) (w1 : (Lit.int .i64 a1).wf = true) (w2 : (Lit.int .i64 a2).wf = true) :
    Calls Try.prog 5 #[.int .i64 a0, .int .i64 a1, .int .i64 a2] w fun e w' => e = .returned (.bool true) ∧ Below w.heap.size w w' :=
  planTell_walk0 a0 a1 a2 w (wf_i64 w1).1 (wf_i64 w1).2 (wf_i64 w2).1 (wf_i64 w2).2
end Go.Proofs.Ytahiimcdmojngaa
