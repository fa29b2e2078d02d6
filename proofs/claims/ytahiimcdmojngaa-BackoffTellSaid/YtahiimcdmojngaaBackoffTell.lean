/- The walk of the law BackoffTell. -/
import Derived.Test.YtahiimcdmojngaaBackoff
namespace Go.Proofs.Ytahiimcdmojngaa
open Go.RowKit

set_option maxHeartbeats 1000000 in
theorem backoffTell_walk0 (a0 a1 : Int) (h2 : a0 ≤ 9223372036854775807) (d0 : 0 ≤ a1) (d1 : a1 ≤ 255) (w : World) :
    Calls Try.prog 3 #[.int .i64 a0, .int .u8 a1] w fun e w' => e = .returned (.bool true) ∧ w = w' := by
  go_enter Try.func3, Try.ntmps3
  go_wp2_with fail
  go_loop [5] (fun i => ∃ k : Nat, k ≤ 41 ∧ i = .int .i64 ((k : Int) - 1)) (fun i => 41 - (intOf i + 1).toNat)
  case atStart => exact ⟨0, by omega, rfl⟩
  case round =>
    obtain ⟨k, hk, rfl⟩ := hrel
    by_cases hlt : k < 41
    · go_wp2_with (first | (go_at_call 15; refine (base_any _ _ (by omega)).mono ?_; rintro e w' ⟨rfl, rfl⟩) | (go_at_call 16; refine (refBase_any _ _ (by omega)).mono ?_; rintro e w' ⟨rfl, rfl⟩) | (go_at_call 17; refine (gap_any _ _ _ (by omega) (by omega) (by omega)).mono ?_; rintro e w' ⟨rfl, rfl⟩) | (go_at_call 18; refine (refGap_any _ _ _ (by omega) (by omega) (by omega)).mono ?_; rintro e w' ⟨rfl, rfl⟩))
      go_round
      case rel => exact ⟨k + 1, by omega, by go_num⟩
      case measure => simp [intOf]; omega
    · go_wp2_with (first | (go_at_call 15; refine (base_any _ _ (by omega)).mono ?_; rintro e w' ⟨rfl, rfl⟩) | (go_at_call 16; refine (refBase_any _ _ (by omega)).mono ?_; rintro e w' ⟨rfl, rfl⟩) | (go_at_call 17; refine (gap_any _ _ _ (by omega) (by omega) (by omega)).mono ?_; rintro e w' ⟨rfl, rfl⟩) | (go_at_call 18; refine (refGap_any _ _ _ (by omega) (by omega) (by omega)).mono ?_; rintro e w' ⟨rfl, rfl⟩) | (go_at_call 19; refine (gaps_true _).mono ?_; rintro e w' ⟨rfl, rfl⟩))
      go_ret
      exact ⟨rfl, rfl⟩

theorem backoffTell_walk (a0 : Int) (a1 : Int) (w0 : (Lit.int .i64 a0).wf = true) (w1 : (Lit.int .u8 a1).wf = true) (w : World) :
    Calls Try.prog 3 #[.int .i64 a0, .int .u8 a1] w fun e w' => e = .returned (.bool true) ∧ Grown w w' :=
  (backoffTell_walk0 a0 a1 (wf_i64 w0).2 (wf_u8 w1).1 (wf_u8 w1).2 w).mono fun e w' ⟨he, hw⟩ => ⟨he, hw ▸ Grown.refl _⟩
end Go.Proofs.Ytahiimcdmojngaa
