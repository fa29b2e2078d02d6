/- Contracts of the functions of package backoff and of its reference. -/
import Derived.Test.YtahiimcdmojngaaBase
namespace Go.Proofs.Ytahiimcdmojngaa
open Go.RowKit

/-- The most that is waited behind so many tries. -/
def baseZ (t : Int) : Int := if t < 1 then 0 else if t < 2 then 1 else if t < 3 then 2 else if t < 4 then 4 else if t < 5 then 8 else if t < 6 then 16 else 32

theorem baseZ_bd (t : Int) : 0 ≤ baseZ t ∧ baseZ t ≤ 32 := by unfold baseZ; split <;> (try split) <;> (try split) <;> (try split) <;> (try split) <;> (try split) <;> omega

theorem baseZ_neg (t : Int) (h : t < 1) : baseZ t = 0 := by unfold baseZ; rw [if_pos h]
theorem baseZ_big (t : Int) (h : 6 ≤ t) : baseZ t = 32 := by
  unfold baseZ; rw [if_neg (by omega), if_neg (by omega), if_neg (by omega), if_neg (by omega), if_neg (by omega), if_neg (by omega)]

set_option maxHeartbeats 400000 in
theorem base_lo (t : Int) (w : World) (h : t < 1) :
    Calls Try.prog 15 #[.int .i64 t] w fun e w' => e = .returned (.int .i64 (baseZ t)) ∧ w = w' := by
  go_enter Try.func15, Try.ntmps15
  go_wp2
  go_ret
  exact ⟨ret_int (baseZ_neg t h).symm, rfl⟩

set_option maxHeartbeats 400000 in
theorem base_hi (t : Int) (w : World) (h : 22 ≤ t) (h2 : t ≤ 9223372036854775807) :
    Calls Try.prog 15 #[.int .i64 t] w fun e w' => e = .returned (.int .i64 (baseZ t)) ∧ w = w' := by
  go_enter Try.func15, Try.ntmps15
  go_wp2
  go_ret
  exact ⟨ret_int (baseZ_big t (by omega)).symm, rfl⟩

set_option maxHeartbeats 1000000 in
theorem base_mid (n : Nat) (w : World) (h1 : n < 21) :
    Calls Try.prog 15 #[.int .i64 ((n : Int) + 1)] w fun e w' => e = .returned (.int .i64 (baseZ (n + 1))) ∧ w = w' := by
  match n, h1 with
  | 0, _ | 1, _ | 2, _ | 3, _ | 4, _ | 5, _ | 6, _ | 7, _ | 8, _ | 9, _ | 10, _ | 11, _ | 12, _ | 13, _ | 14, _ | 15, _ | 16, _ | 17, _ | 18, _ | 19, _ | 20, _ =>
    go_enter Try.func15, Try.ntmps15
    go_wp2
    go_ret
    exact ⟨rfl, rfl⟩
  | n + 21, h => omega

theorem base_any (t : Int) (w : World) (h2 : t ≤ 9223372036854775807) :
    Calls Try.prog 15 #[.int .i64 t] w fun e w' => e = .returned (.int .i64 (baseZ t)) ∧ w = w' := by
  by_cases h : t < 1
  · exact base_lo t w h
  by_cases h' : 22 ≤ t
  · exact base_hi t w h' h2
  · have := base_mid (t - 1).toNat w (by omega)
    rwa [show (((t - 1).toNat : Nat) : Int) + 1 = t from by omega] at this

set_option maxHeartbeats 1000000 in
theorem refBase_any (t : Int) (w : World) (h2 : t ≤ 9223372036854775807) :
    Calls Try.prog 16 #[.int .i64 t] w fun e w' => e = .returned (.int .i64 (baseZ t)) ∧ w = w' := by
  go_enter Try.func16, Try.ntmps16
  go_wp2
  go_loop [3, 4] (fun b i => ∃ k : Nat, k ≤ 6 ∧ (k = 0 ∨ (k : Int) ≤ t) ∧ i = .int .i64 k ∧ b = .int .i64 (baseZ k)) (fun _ i => 7 - (intOf i).toNat)
  case atStart => exact ⟨0, by omega, Or.inl rfl, rfl, rfl⟩
  case round =>
    obtain ⟨k, hk, hkt, rfl, rfl⟩ := hrel
    by_cases h6 : k = 6
    · subst h6
      have hb : baseZ ((6 : Nat) : Int) = 32 := rfl
      have hb2 : Hid (baseZ t = 32) := baseZ_big t (by omega)
      go_wp2
      all_goals
        go_ret
        exact ⟨ret_int hb2.out.symm, rfl⟩
    · by_cases hlt : (k : Int) < t
      · have hlt' : decide ((k : Int) < t) = true := by simpa using hlt
        match k, hk, h6, hkt, hlt, hlt' with
        | 0, _, _, _, _, _ | 1, _, _, _, _, _ | 2, _, _, _, _, _ | 3, _, _, _, _, _ | 4, _, _, _, _, _ | 5, _, _, _, hlt, _ =>
          simp only [baseZ] at *
          go_wp2
          go_round
          case rel => first | exact ⟨1, by omega, by omega, rfl, rfl⟩ | exact ⟨2, by omega, by omega, rfl, rfl⟩ | exact ⟨3, by omega, by omega, rfl, rfl⟩ | exact ⟨4, by omega, by omega, rfl, rfl⟩ | exact ⟨5, by omega, by omega, rfl, rfl⟩ | exact ⟨6, by omega, by omega, rfl, rfl⟩
          case measure => simp [intOf]
        | k + 6, hk, h6, _, _, _ => omega
      · have hb2 : Hid (baseZ k = baseZ t) := by
          rcases hkt with rfl | hkt
          · show (0 : Int) = _; rw [baseZ_neg t (by omega)]
          · rw [show t = (k : Int) from by omega]; exact rfl
        go_wp2
        go_ret
        exact ⟨ret_int hb2.out, rfl⟩

def gapZ (t d : Int) : Int := (baseZ t + 1) / 2 + d % (baseZ t / 2 + 1)

theorem gap_bd (t d : Int) : 0 ≤ d % (baseZ t / 2 + 1) ∧ d % (baseZ t / 2 + 1) ≤ 16 := by
  have hb := baseZ_bd t
  have h1 := Int.emod_nonneg d (b := baseZ t / 2 + 1) (by omega)
  have h2 := Int.emod_lt_of_pos d (b := baseZ t / 2 + 1) (by omega)
  omega

set_option maxHeartbeats 400000 in
theorem gap_any (t d : Int) (w : World) (h2 : t ≤ 9223372036854775807) (d0 : 0 ≤ d) (d1 : d ≤ 255) :
    Calls Try.prog 17 #[.int .i64 t, .int .u8 d] w fun e w' => e = .returned (.int .i64 (gapZ t d)) ∧ w = w' := by
  have hb := baseZ_bd t
  obtain ⟨hb1, hb2⟩ := hb
  obtain ⟨hm1, hm2⟩ := gap_bd t d
  go_enter Try.func17, Try.ntmps17
  go_wp2_with (go_at_call 15; refine (base_any _ _ (by omega)).mono ?_; rintro e w' ⟨rfl, rfl⟩)
  go_ret
  exact ⟨rfl, rfl⟩

set_option maxHeartbeats 400000 in
theorem refGap_any (t d : Int) (w : World) (h2 : t ≤ 9223372036854775807) (d0 : 0 ≤ d) (d1 : d ≤ 255) :
    Calls Try.prog 18 #[.int .i64 t, .int .u8 d] w fun e w' => e = .returned (.int .i64 (gapZ t d)) ∧ w = w' := by
  have hb := baseZ_bd t
  obtain ⟨hb1, hb2⟩ := hb
  obtain ⟨hm1, hm2⟩ := gap_bd t d
  go_enter Try.func18, Try.ntmps18
  go_wp2_with (go_at_call 16; refine (refBase_any _ _ (by omega)).mono ?_; rintro e w' ⟨rfl, rfl⟩)
  go_ret
  exact ⟨ret_int (by unfold gapZ; omega), rfl⟩

theorem gapZ_bd (t d : Int) : 0 ≤ gapZ t d ∧ gapZ t d ≤ 64 := by
  have := gap_bd t d; have := baseZ_bd t; unfold gapZ; omega

set_option maxHeartbeats 1000000 in
theorem gaps_true (w : World) : Calls Try.prog 19 #[] w fun e w' => e = .returned (.bool true) ∧ w = w' := by
  have b1 : (baseZ 1 == 1) = true := by decide
  have b4 : (baseZ 4 == 8) = true := by decide
  have b6 : (baseZ 6 == 32) = true := by decide
  have b99 : (baseZ 99 == 32) = true := by decide
  have g1 : (gapZ 1 77 == 1) = true := by decide
  have g2 : (gapZ 4 0 == 4) = true := by decide
  have g3 : (gapZ 4 4 == 8) = true := by decide
  have g4 : (gapZ 4 5 == 4) = true := by decide
  go_enter Try.func19, Try.ntmps19
  go_wp2_with (first | (go_at_call 15; refine (base_any _ _ (by omega)).mono ?_; rintro e w' ⟨rfl, rfl⟩) | (go_at_call 17; refine (gap_any _ _ _ (by omega) (by omega) (by omega)).mono ?_; rintro e w' ⟨rfl, rfl⟩))
  go_ret
  exact ⟨rfl, rfl⟩
end Go.Proofs.Ytahiimcdmojngaa
