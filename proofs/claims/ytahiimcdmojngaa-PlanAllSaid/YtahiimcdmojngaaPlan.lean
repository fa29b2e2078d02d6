/- Contracts of the functions of package plan and of its reference. -/
import Derived.Test.YtahiimcdmojngaaBase
namespace Go.Proofs.Ytahiimcdmojngaa
open Go.RowKit

/-- Whether there is anything to ask for. -/
def Pln.may (h s : Int) : Bool := decide (0 ≤ h ∧ h < s ∧ s ≤ 4096)
def Pln.from0 (h s : Int) : Int := if Pln.may h s = true then h else 0
def Pln.count (h s : Int) : Int := if Pln.may h s = true then (if s - h < 16 - h % 16 then s - h else 16 - h % 16) else 0
def Pln.rounds (h s : Int) : Int := if Pln.may h s = true then (s + 15) / 16 - h / 16 else 0

theorem Pln.may_yes {h s : Int} (a : 0 ≤ h) (b : h < s) (c : s ≤ 4096) : Pln.may h s = true := by simp [Pln.may, a, b, c]
theorem Pln.may_no {h s : Int} (a : h < 0 ∨ s ≤ h ∨ 4096 < s) : Pln.may h s = false := by simp [Pln.may]; omega
theorem Pln.of_may {h s : Int} (a : Pln.may h s = true) : 0 ≤ h ∧ h < s ∧ s ≤ 4096 := by simpa [Pln.may] using a
theorem Pln.of_not {h s : Int} (a : Pln.may h s = false) : h < 0 ∨ s ≤ h ∨ 4096 < s := by simp [Pln.may] at a; omega

theorem ret_2 {k : IntKind} {a b c d : Int} (h : a = b) (h' : c = d) : Ending.returned (.tuple #[.int k a, .int k c]) = .returned (.tuple #[.int k b, .int k d]) := by rw [h, h']

set_option maxHeartbeats 400000 in
theorem may_any (h s : Int) (w : World) : Calls Try.prog 71 #[.int .i64 h, .int .i64 s] w fun e w' => e = .returned (.bool (Pln.may h s)) ∧ w = w' := by
  by_cases a : 0 ≤ h
  · by_cases b : h < s
    · by_cases c : s ≤ 4096
      · rw [Pln.may_yes a b c]
        go_enter Try.func71, Try.ntmps71
        go_wp2
        go_ret
        exact ⟨by simp [*], rfl⟩
      · rw [Pln.may_no (by omega)]
        go_enter Try.func71, Try.ntmps71
        go_wp2
        go_ret
        exact ⟨by simp [*], rfl⟩
    · rw [Pln.may_no (by omega)]
      go_enter Try.func71, Try.ntmps71
      go_wp2
      go_ret
      exact ⟨by simp [*], rfl⟩
  · rw [Pln.may_no (by omega)]
    go_enter Try.func71, Try.ntmps71
    go_wp2
    go_ret
    exact ⟨by simp [*], rfl⟩

set_option maxHeartbeats 400000 in
theorem chunk_any (h s : Int) (w : World) : Calls Try.prog 20 #[.int .i64 h, .int .i64 s] w fun e w' => e = .returned (.tuple #[.int .i64 (Pln.from0 h s), .int .i64 (Pln.count h s)]) ∧ w = w' := by
  cases hm : Pln.may h s
  · have f0 : Pln.from0 h s = 0 := by simp [Pln.from0, hm]
    have c0 : Pln.count h s = 0 := by simp [Pln.count, hm]
    rw [f0, c0]; clear f0 c0
    go_enter Try.func20, Try.ntmps20
    go_wp2_with (go_at_call 71; refine (may_any _ _ _).mono ?_; rintro e w' ⟨rfl, rfl⟩)
    go_ret2
    exact ⟨rfl, rfl⟩
  · obtain ⟨a, b, c⟩ := Pln.of_may hm
    have f0 : Pln.from0 h s = h := by simp [Pln.from0, hm]
    have c0 : Pln.count h s = if s - h < 16 - h % 16 then s - h else 16 - h % 16 := by simp [Pln.count, hm]
    rw [f0, c0]; clear f0 c0
    by_cases d : s - h < 16 - h % 16
    · rw [if_pos d]
      go_enter Try.func20, Try.ntmps20
      go_wp2_with (go_at_call 71; refine (may_any _ _ _).mono ?_; rintro e w' ⟨rfl, rfl⟩)
      go_ret2
      exact ⟨rfl, rfl⟩
    · rw [if_neg d]
      go_enter Try.func20, Try.ntmps20
      go_wp2_with (go_at_call 71; refine (may_any _ _ _).mono ?_; rintro e w' ⟨rfl, rfl⟩)
      go_ret2
      exact ⟨rfl, rfl⟩

set_option maxHeartbeats 400000 in
theorem rounds_any (h s : Int) (w : World) : Calls Try.prog 24 #[.int .i64 h, .int .i64 s] w fun e w' => e = .returned (.int .i64 (Pln.rounds h s)) ∧ w = w' := by
  cases hm : Pln.may h s
  · have f0 : Pln.rounds h s = 0 := by simp [Pln.rounds, hm]
    rw [f0]; clear f0
    go_enter Try.func24, Try.ntmps24
    go_wp2_with (go_at_call 71; refine (may_any _ _ _).mono ?_; rintro e w' ⟨rfl, rfl⟩)
    go_ret
    exact ⟨rfl, rfl⟩
  · obtain ⟨a, b, c⟩ := Pln.of_may hm
    have f0 : Pln.rounds h s = (s + 15) / 16 - h / 16 := by simp [Pln.rounds, hm]
    rw [f0]; clear f0
    go_enter Try.func24, Try.ntmps24
    go_wp2_with (go_at_call 71; refine (may_any _ _ _).mono ?_; rintro e w' ⟨rfl, rfl⟩)
    go_ret
    exact ⟨ret_int (by omega), rfl⟩

theorem Pln.count_pos {h s : Int} (a : Pln.may h s = true) : 1 ≤ Pln.count h s ∧ Pln.count h s ≤ 16 ∧ h + Pln.count h s ≤ s := by
  obtain ⟨x, y, z⟩ := Pln.of_may a
  rw [Pln.count, if_pos a]; split <;> omega
theorem Pln.count_no {h s : Int} (a : Pln.may h s = false) : Pln.count h s = 0 := by simp [Pln.count, a]
theorem Pln.count_ne {h s : Int} (a : Pln.may h s = true) : (Pln.count h s == 0) = false := by
  have := Pln.count_pos a; simp; omega

set_option maxHeartbeats 400000 in
theorem ask_no (id h s : Int) (w : World) (hm : Hid (Pln.may h s = false)) : Calls Try.prog 22 #[.int .i64 id, .int .i64 h, .int .i64 s] w fun e w' => e = .returned (.tuple #[.agg #[.int .i64 0, .int .i64 0, .int .i64 0, .int .i64 0, .int .i64 0], .bool false]) ∧ w.alloc (.cells #[.int .i64 0, .int .i64 0, .int .i64 0, .int .i64 0, .int .i64 0] 31) = w' := by
  have c0 : Pln.count h s = 0 := Pln.count_no hm.out
  go_enter Try.func22, Try.ntmps22
  go_wp2_with (go_at_call 20; refine (chunk_any _ _ _).mono ?_; rintro e w' ⟨rfl, rfl⟩)
  exact bodyPost_ret (v := .tuple #[.agg #[.int .i64 0, .int .i64 0, .int .i64 0, .int .i64 0, .int .i64 0], .bool false]) (by simp [results, Try.results22, go_sem]) rfl ⟨rfl, rfl⟩

set_option maxHeartbeats 400000 in
theorem ask_yes (id h s : Int) (w : World) (hm : Hid (Pln.may h s = true)) : Calls Try.prog 22 #[.int .i64 id, .int .i64 h, .int .i64 s] w fun e w' => e = .returned (.tuple #[.agg #[.int .i64 id, .int .i64 2, .int .i64 (Pln.from0 h s), .int .i64 (Pln.count h s), .int .i64 s], .bool true]) ∧ w.alloc (.cells #[.int .i64 id, .int .i64 2, .int .i64 (Pln.from0 h s), .int .i64 (Pln.count h s), .int .i64 s] 31) = w' := by
  have c0 := Pln.count_ne hm.out
  go_enter Try.func22, Try.ntmps22
  go_wp2_with (go_at_call 20; refine (chunk_any _ _ _).mono ?_; rintro e w' ⟨rfl, rfl⟩)
  exact bodyPost_ret (v := .tuple #[.agg #[.int .i64 id, .int .i64 2, .int .i64 (Pln.from0 h s), .int .i64 (Pln.count h s), .int .i64 s], .bool true]) (by simp [results, Try.results22, go_sem]) rfl ⟨rfl, rfl⟩

set_option maxHeartbeats 400000 in
theorem refChunk_any (h s : Int) (w : World) (h1 : -9223372036854775808 ≤ h) (h2 : h ≤ 9223372036854775807) (s1 : -9223372036854775808 ≤ s) (s2 : s ≤ 9223372036854775807) : Calls Try.prog 21 #[.int .i64 h, .int .i64 s] w fun e w' => e = .returned (.tuple #[.int .i64 (Pln.from0 h s), .int .i64 (Pln.count h s)]) ∧ w = w' := by
  cases hm : Pln.may h s
  · have f0 : Pln.from0 h s = 0 := by simp [Pln.from0, hm]
    have c0 : Pln.count h s = 0 := by simp [Pln.count, hm]
    rw [f0, c0]; clear f0 c0
    have hn := Pln.of_not hm
    clear hm
    by_cases n1 : h < 0
    · go_enter Try.func21, Try.ntmps21
      go_wp2
      go_ret2
      exact ⟨rfl, rfl⟩
    · by_cases n2 : 4096 < s
      · go_enter Try.func21, Try.ntmps21
        go_wp2
        go_ret2
        exact ⟨rfl, rfl⟩
      · have n3 : s ≤ h := by omega
        clear hn
        go_enter Try.func21, Try.ntmps21
        go_wp2
        go_ret2
        exact ⟨rfl, rfl⟩
  · obtain ⟨a, b, c⟩ := Pln.of_may hm
    have f0 : Pln.from0 h s = h := by simp [Pln.from0, hm]
    rw [f0]; clear f0
    have hc := Lib.hid (show Pln.count h s = if s - h < 16 - h % 16 then s - h else 16 - h % 16 by simp [Pln.count, hm])
    have hp := Pln.count_pos hm
    obtain ⟨p1, p2, p3⟩ := hp
    clear hm
    have d1 : decide (h < 0) = false := by simp; omega
    have d2 : decide (4096 < s) = false := by simp; omega
    have d3 : decide (s ≤ h) = false := by simp; omega
    go_enter Try.func21, Try.ntmps21
    go_wp2
    go_loop [6] (fun n => ∃ k : Int, 1 ≤ k ∧ k ≤ Pln.count h s ∧ n = .int .i64 k) (fun n => (16 - intOf n).toNat)
    case atStart => exact ⟨1, by omega, by omega, rfl⟩
    case round =>
      obtain ⟨k, k1, k2, rfl⟩ := hrel
      by_cases hk : k = Pln.count h s
      · have hq : Hid (h + k < s → (h + k) % 16 = 0) := by
          intro hx; rw [hk, hc.out] at hx ⊢; split at hx <;> (rename_i hh; (first | rw [if_pos hh] | rw [if_neg hh])) <;> omega
        have HK := Lib.hid hk
        clear hk
        by_cases hx : h + k < s
        · have hz : ((h + k) % 16 != 0) = false := by simp; exact hq.out hx
          go_wp2
          go_ret2
          exact ⟨ret_2 rfl HK.out, rfl⟩
        · go_wp2
          go_ret2
          exact ⟨ret_2 rfl HK.out, rfl⟩
      · have hx : h + k < s := by omega
        have hz : ((h + k) % 16 != 0) = true := by
          have := hc.out; simp; split at this <;> omega
        go_wp2
        go_round
        case rel => exact ⟨k + 1, by omega, by omega, rfl⟩
        case measure => simp [intOf]; omega

theorem Pln.rounds_step {h s : Int} (a : Pln.may h s = true) : Pln.rounds (h + Pln.count h s) s + 1 = Pln.rounds h s := by
  obtain ⟨x, y, z⟩ := Pln.of_may a
  have e : Pln.count h s = if s - h < 16 - h % 16 then s - h else 16 - h % 16 := by rw [Pln.count, if_pos a]
  rw [Pln.rounds, Pln.rounds, if_pos a]
  cases hm : Pln.may (h + Pln.count h s) s
  · have := Pln.of_not hm
    rw [if_neg (by simp)]
    split at e <;> omega
  · have := Pln.of_may hm
    rw [if_pos rfl]
    split at e <;> omega
theorem Pln.rounds_no {h s : Int} (a : Pln.may h s = false) : Pln.rounds h s = 0 := by simp [Pln.rounds, a]
theorem Pln.rounds_bd (h s : Int) : 0 ≤ Pln.rounds h s ∧ Pln.rounds h s ≤ 256 := by
  cases a : Pln.may h s
  · rw [Pln.rounds_no a]; omega
  · have := Pln.of_may a
    rw [Pln.rounds, if_pos a]; omega

def Pln.left (h s : Int) : Nat := if Pln.may h s = true then 1 + (4096 - h).toNat else 0
theorem Pln.left_step {h s : Int} (a : Pln.may h s = true) : Pln.left (h + Pln.count h s) s < Pln.left h s := by
  have := Pln.of_may a
  have := Pln.count_pos a
  unfold Pln.left
  rw [if_pos a]
  split <;> omega

set_option maxHeartbeats 400000 in
theorem refRounds_any (h s : Int) (w : World) (h1 : -9223372036854775808 ≤ h) (h2 : h ≤ 9223372036854775807) (s1 : -9223372036854775808 ≤ s) (s2 : s ≤ 9223372036854775807) :
    Calls Try.prog 25 #[.int .i64 h, .int .i64 s] w fun e w' => e = .returned (.int .i64 (Pln.rounds h s)) ∧ w = w' := by
  go_enter Try.func25, Try.ntmps25
  go_wp2_with fail
  go_loop [0, 5] (fun x m => ∃ h' m' : Int, -9223372036854775808 ≤ h' ∧ h' ≤ 9223372036854775807 ∧ 0 ≤ m' ∧ x = .int .i64 h' ∧ m = .int .i64 m' ∧ m' + Pln.rounds h' s = Pln.rounds h s) (fun x _ => Pln.left (intOf x) s)
  case atStart => exact ⟨h, 0, h1, h2, by omega, rfl, rfl, by omega⟩
  case round =>
    obtain ⟨h', m', b1, b2, b3, rfl, rfl, hs⟩ := hrel
    have HS := Lib.hid hs
    have hb := Pln.rounds_bd h' s
    have hb' := Pln.rounds_bd h s
    have b4 : m' ≤ 256 := by omega
    clear hs hb hb'
    cases hm : Pln.may h' s
    · have c0 : (Pln.count h' s == 0) = true := by rw [Pln.count_no hm]; rfl
      have HM := Lib.hid hm
      clear hm
      go_wp2_with (go_at_call 21; refine (refChunk_any _ _ _ b1 b2 s1 s2).mono ?_; rintro e w' ⟨rfl, rfl⟩)
      go_ret
      exact ⟨ret_int (by have := HS.out; rw [Pln.rounds_no HM.out] at this; omega), rfl⟩
    · have c0 := Pln.count_ne hm
      have HM := Lib.hid hm
      have hm' := Pln.of_may hm
      obtain ⟨q1, q2, q3⟩ := hm'
      obtain ⟨p1, p2, p3⟩ := Pln.count_pos hm
      have hst := Lib.hid (Pln.rounds_step hm)
      clear hm
      go_wp2_with (go_at_call 21; refine (refChunk_any _ _ _ b1 b2 s1 s2).mono ?_; rintro e w' ⟨rfl, rfl⟩)
      go_round
      case rel => exact ⟨h' + Pln.count h' s, m' + 1, by omega, by omega, by omega, rfl, rfl, by have := HS.out; have := hst.out; omega⟩
      case measure =>
        exact Pln.left_step HM.out

set_option maxHeartbeats 400000 in
theorem refAsk_no (id h s : Int) (w : World) (h1 : -9223372036854775808 ≤ h) (h2 : h ≤ 9223372036854775807) (s1 : -9223372036854775808 ≤ s) (s2 : s ≤ 9223372036854775807) (hm : Hid (Pln.may h s = false)) : Calls Try.prog 23 #[.int .i64 id, .int .i64 h, .int .i64 s] w fun e w' => e = .returned (.tuple #[.agg #[.int .i64 0, .int .i64 0, .int .i64 0, .int .i64 0, .int .i64 0], .bool false]) ∧ w.alloc (.cells #[.int .i64 0, .int .i64 0, .int .i64 0, .int .i64 0, .int .i64 0] 31) = w' := by
  have c0 : Pln.count h s = 0 := Pln.count_no hm.out
  go_enter Try.func23, Try.ntmps23
  go_wp2_with (go_at_call 21; refine (refChunk_any _ _ _ h1 h2 s1 s2).mono ?_; rintro e w' ⟨rfl, rfl⟩)
  exact bodyPost_ret (v := .tuple #[.agg #[.int .i64 0, .int .i64 0, .int .i64 0, .int .i64 0, .int .i64 0], .bool false]) (by simp [results, Try.results23, go_sem]) rfl ⟨rfl, rfl⟩

set_option maxHeartbeats 400000 in
theorem refAsk_yes (id h s : Int) (w : World) (h1 : -9223372036854775808 ≤ h) (h2 : h ≤ 9223372036854775807) (s1 : -9223372036854775808 ≤ s) (s2 : s ≤ 9223372036854775807) (hm : Hid (Pln.may h s = true)) : Calls Try.prog 23 #[.int .i64 id, .int .i64 h, .int .i64 s] w fun e w' => e = .returned (.tuple #[.agg #[.int .i64 id, .int .i64 2, .int .i64 (Pln.from0 h s), .int .i64 (Pln.count h s), .int .i64 s], .bool true]) ∧ w.alloc (.cells #[.int .i64 id, .int .i64 2, .int .i64 (Pln.from0 h s), .int .i64 (Pln.count h s), .int .i64 s] 31) = w' := by
  have c0 := Pln.count_ne hm.out
  go_enter Try.func23, Try.ntmps23
  go_wp2_with (go_at_call 21; refine (refChunk_any _ _ _ h1 h2 s1 s2).mono ?_; rintro e w' ⟨rfl, rfl⟩)
  exact bodyPost_ret (v := .tuple #[.agg #[.int .i64 id, .int .i64 2, .int .i64 (Pln.from0 h s), .int .i64 (Pln.count h s), .int .i64 s], .bool true]) (by simp [results, Try.results23, go_sem]) rfl ⟨rfl, rfl⟩

set_option maxHeartbeats 400000 in
theorem lawChunk_true (h s f c : Int) (w : World) (hf : (Pln.from0 h s == f) = true) (hc : (Pln.count h s == c) = true) :
    Calls Try.prog 72 #[.int .i64 h, .int .i64 s, .int .i64 f, .int .i64 c] w fun e w' => e = .returned (.bool true) ∧ w = w' := by
  go_enter Try.func72, Try.ntmps72
  go_wp2_with (go_at_call 20; refine (chunk_any _ _ _).mono ?_; rintro e w' ⟨rfl, rfl⟩)
  go_ret
  exact ⟨by simp [hf, hc], rfl⟩

set_option maxHeartbeats 400000 in
theorem planned_true (w : World) : Calls Try.prog 26 #[] w fun e w' => e = .returned (.bool true) ∧ w = w' := by
  have r1 : (Pln.rounds 5 40 == 3) = true := by decide
  have r2 : (Pln.rounds 0 4097 == 0) = true := by decide
  go_enter Try.func26, Try.ntmps26
  go_wp2_with (first | (go_at_call 72; refine (lawChunk_true _ _ _ _ _ (by decide) (by decide)).mono ?_; rintro e w' ⟨rfl, rfl⟩) | (go_at_call 24; refine (rounds_any _ _ _).mono ?_; rintro e w' ⟨rfl, rfl⟩))
  go_ret
  exact ⟨rfl, rfl⟩

end Go.Proofs.Ytahiimcdmojngaa
