/- The walk of the law BackoffBounds. -/
import Derived.Test.YtahiimcdmojngaaBackoff
import Derived.Deep.OwnRows
namespace Go.Proofs.Ytahiimcdmojngaa
open Go.RowKit

theorem baseZ_pos (t : Int) (h : 1 ≤ t) : 1 ≤ baseZ t := by unfold baseZ; split <;> (try split) <;> (try split) <;> (try split) <;> (try split) <;> (try split) <;> omega
theorem baseZ_mono (t : Int) : baseZ t ≤ baseZ (t + 1) := by
  by_cases h : t < 1
  · rw [baseZ_neg t h]; exact (baseZ_bd _).1
  · by_cases h6 : 6 ≤ t
    · rw [baseZ_big t h6, baseZ_big (t + 1) (by omega)]; omega
    · have : t = 1 ∨ t = 2 ∨ t = 3 ∨ t = 4 ∨ t = 5 := by omega
      rcases this with rfl | rfl | rfl | rfl | rfl <;> decide

/-- Which lengths were waited by the first k draws. -/
def seenL (n : Int) (B k : Nat) : List Value := (List.range (B + 1)).map fun (i : Nat) => .bool ((List.range k).any fun (d : Nat) => gapZ n d == (i : Int))

theorem seenL_len (n : Int) (B k : Nat) : (seenL n B k).length = B + 1 := by simp [seenL]
theorem seenL_get (n : Int) (B k i : Nat) (h : i ≤ B) : (seenL n B k).toArray[i]? = some (.bool ((List.range k).any fun (d : Nat) => gapZ n d == (i : Int))) := by
  simp [seenL, List.getElem?_map, List.getElem?_range (show i < B + 1 by omega)]
theorem seenL_step (n : Int) (B k g : Nat) (hg : gapZ n k = (g : Int)) : (seenL n B k).toArray.setIfInBounds g (.bool true) = (seenL n B (k + 1)).toArray := by
  simp only [List.setIfInBounds_toArray]
  congr 1
  apply List.ext_getElem?
  intro i
  by_cases hi : i ≤ B
  · have h1 := seenL_get n B k i hi
    have h2 := seenL_get n B (k + 1) i hi
    simp only [List.getElem?_toArray] at h1 h2
    rw [h2, List.getElem?_set, seenL_len]
    by_cases e : g = i
    · subst e
      rw [if_pos rfl, if_pos (by omega)]
      simp [List.range_succ, hg]
    · rw [if_neg e, h1]
      have : (gapZ n k == (i : Int)) = false := by rw [hg]; simp; omega
      simp [List.range_succ, this]
  · rw [List.getElem?_eq_none (by simp [seenL_len]; omega), List.getElem?_eq_none (by simp [seenL_len]; omega)]
theorem seenL_zero (n : Int) (B : Nat) : (seenL n B 0).toArray = Array.replicate (B + 1) (.bool false) := by
  apply Array.ext_getElem?
  intro i
  by_cases hi : i ≤ B
  · rw [seenL_get n B 0 i hi]; simp [Array.getElem?_replicate]; omega
  · rw [Array.getElem?_eq_none (by simp [seenL_len]; omega), Array.getElem?_eq_none (by simp; omega)]
theorem seenL_all (n : Int) (B i : Nat) (hB : baseZ n = B) (h1 : (B + 1) / 2 ≤ i) (h2 : i ≤ B) : (seenL n B 256).toArray[i]? = some (.bool true) := by
  rw [seenL_get n B 256 i h2]
  have hb := baseZ_bd n
  congr 2
  rw [List.any_eq_true]
  refine ⟨i - (B + 1) / 2, by simp; omega, ?_⟩
  simp only [beq_iff_eq, gapZ, hB]
  rw [Int.emod_eq_of_lt (by omega) (by omega)]
  omega
theorem gapZ_in (n : Int) (d B : Nat) (hB : baseZ n = B) : ∃ g : Nat, gapZ n d = g ∧ (B + 1) / 2 ≤ g ∧ g ≤ B := by
  have h1 := Int.emod_nonneg d (b := baseZ n / 2 + 1) (by have := baseZ_bd n; omega)
  have h2 := Int.emod_lt_of_pos d (b := baseZ n / 2 + 1) (by have := baseZ_bd n; omega)
  refine ⟨(gapZ n d).toNat, ?_, ?_, ?_⟩ <;> unfold gapZ <;> rw [hB] at * <;> omega

theorem base_at (t : Int) (B : Nat) (w : World) (h2 : t ≤ 9223372036854775807) (hB : Hid (baseZ t = B)) :
    Calls Try.prog 15 #[.int .i64 t] w fun e w' => e = .returned (.int .i64 B) ∧ w = w' := by
  rw [← hB.out]; exact base_any t w h2
theorem gap_at (t d : Int) (g : Nat) (w : World) (h2 : t ≤ 9223372036854775807) (d0 : 0 ≤ d) (d1 : d ≤ 255) (hg : Hid (gapZ t d = g)) :
    Calls Try.prog 17 #[.int .i64 t, .int .u8 d] w fun e w' => e = .returned (.int .i64 g) ∧ w = w' := by
  rw [← hg.out]; exact gap_any t d w h2 d0 d1

set_option maxRecDepth 100000 in
set_option maxHeartbeats 1000000 in
theorem backoffBounds_walk0 (a0 : Int) (B B' : Nat) (d0 : 0 ≤ a0) (d1 : a0 ≤ 255) (w : World) (hB : Hid (baseZ (1 + a0) = B)) (hB' : Hid (baseZ (1 + a0 + 1) = B')) (b1 : 1 ≤ B) (b2 : B ≤ 32) (b3 : B ≤ B') :
    Calls Try.prog 4 #[.int .u8 a0] w fun e w' => e = .returned (.bool true) ∧ Grown w w' := by
  have hmk := run_make_row' (P := Try.prog) 26 4 (.bool false) 1 Try.underlying26 (by kernel_rfl) rfl .i64 .i64 (B + 1) (by omega) (by omega)
  rw [show ((B + 1 : Nat) : Int) = (B : Int) + 1 from by omega] at hmk
  have e1 : decide ((B : Int) < 1) = false := by simp; omega
  have e2 : decide ((32 : Int) < (B : Int)) = false := by simp; omega
  have e3 : decide (B' < B) = false := by simp; omega
  go_enter Try.func4, Try.ntmps4
  go_wp2_with fail
  refine (base_at _ B _ (by omega) hB).mono ?_
  rintro e w' ⟨rfl, rfl⟩
  go_wp2_with fail
  refine (base_at _ B' _ (by omega) hB').mono ?_
  rintro e w' ⟨rfl, rfl⟩
  go_wp2_with fail
  go_loopw [6] (fun i wr => ∃ k : Nat, k ≤ 256 ∧ i = .int .i64 k ∧ wr = w.alloc (.cells (seenL (1 + a0) B k).toArray 4)) (fun i _ => 256 - (intOf i).toNat)
  case atStart => exact ⟨0, by omega, rfl, by rw [seenL_zero]; simp [madeCells_one]⟩
  case round =>
    obtain ⟨k, hk, rfl, rfl⟩ := hrel
    by_cases hlt : k < 256
    · obtain ⟨g, hg, g1, g2⟩ := gapZ_in (1 + a0) k B hB.out
      have HG := Lib.hid hg
      have hst := seenL_step (1 + a0) B k g hg
      have HST := Lib.hid hst
      obtain ⟨v, hv⟩ : ∃ v, (seenL (1 + a0) B k).toArray[g]? = some v := ⟨_, seenL_get _ _ _ _ g2⟩
      clear hg hst
      go_wp2_with fail
      refine (gap_at _ _ g _ (by omega) (by omega) (by omega) HG).mono ?_
      rintro e w' ⟨rfl, rfl⟩
      have e4 : decide (g < (B + 1) / 2) = false := by simp; omega
      have e5 : decide (B < g) = false := by simp; omega
      go_wp2_with fail
      go_roundw
      case rel => exact ⟨k + 1, by omega, by go_num, by rw [← HST.out]; simp⟩
      case measure => simp [intOf]; omega
    · obtain rfl : k = 256 := by omega
      go_wp2_with fail
      go_loopw [8] (fun i wr => ∃ k : Nat, (B + 1) / 2 ≤ k ∧ k ≤ B + 1 ∧ i = .int .i64 k ∧ wr = w.alloc (.cells (seenL (1 + a0) B 256).toArray 4)) (fun i _ => B + 1 - (intOf i).toNat)
      case atStart => exact ⟨(B + 1) / 2, by omega, by omega, by go_num, rfl⟩
      case round =>
        obtain ⟨k, hk1, hk2, rfl, rfl⟩ := hrel
        by_cases hlt : k ≤ B
        · have hs := seenL_all (1 + a0) B k hB.out hk1 hlt
          go_wp2_with fail
          go_roundw
          case rel => exact ⟨k + 1, by omega, by omega, by go_num, trivial⟩
          case measure => simp [intOf]; omega
        · go_wp2_with (go_at_call 19; refine (gaps_true _).mono ?_; rintro e w' ⟨rfl, rfl⟩)
          go_ret
          exact ⟨rfl, (Grown.refl _).alloc _ _⟩

theorem backoffBounds_walk (a0 : Int) (w0 : (Lit.int .u8 a0).wf = true) (w : World) :
    Calls Try.prog 4 #[.int .u8 a0] w fun e w' => e = .returned (.bool true) ∧ Grown w w' := by
  have h := wf_u8 w0
  have b := baseZ_bd (1 + a0)
  have b' := baseZ_bd (1 + a0 + 1)
  have p := baseZ_pos (1 + a0) (by omega)
  have m := baseZ_mono (1 + a0)
  exact backoffBounds_walk0 a0 (baseZ (1 + a0)).toNat (baseZ (1 + a0 + 1)).toNat h.1 h.2 w (Lib.hid (by omega)) (Lib.hid (by omega)) (by omega) (by omega) (by omega)
end Go.Proofs.Ytahiimcdmojngaa
