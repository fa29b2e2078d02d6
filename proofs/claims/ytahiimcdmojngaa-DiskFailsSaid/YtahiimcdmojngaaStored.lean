/- The statements' helpers of layer 11: reads, stored. -/
import Derived.Test.YtahiimcdmojngaaDiskOwn
namespace Go.Proofs.Ytahiimcdmojngaa
open Go.RowKit

theorem reads_yes {w : World} {d : Nat} {fp : Nat → Prop} {M : DiskM} (n : Int) (n0 : -9223372036854775808 ≤ n ∧ n ≤ 9223372036854775807) (s : ByteArray) (hs : s.size ≤ 1048576) (hd : IsDisk w d fp M) (hdn : M.down = false) (hb : AM.get M.files n = some s.data.toList) :
    Calls Try.prog 54 #[.pointer (some ⟨d, 0, none⟩), .int .i64 n, .string s] w fun e w' => e = .returned (.bool true) ∧ w = w' := by
  have hl : s.data.toList.length = s.size := by simp
  have h1 := read_ok w n 0 s.size n0 _ hd hdn hb (by rw [hl]; omega)
  have h2 := size_ok w n n0 _ hd hdn hb
  have e1 : (⟨((s.data.toList.drop 0).take s.size).toArray⟩ : ByteArray) = s := by
    rw [List.drop_zero, List.take_of_length_le (by rw [hl]; omega)]
  rw [e1] at h1
  rw [hl] at h2
  clear e1 hl hb hdn
  go_enter Try.func54, Try.ntmps54
  go_wp2_with (first | (go_at_call 86; refine h1.mono ?_; rintro e w' ⟨rfl, rfl⟩) | (go_at_call 87; refine h2.mono ?_; rintro e w' ⟨rfl, rfl⟩))
  go_ret
  exact ⟨rfl, rfl⟩
theorem reads_own {w0 w : World} {B : Nat → Prop} {d : Nat} {M : DiskM} (h : Own w0 B d M w) (n : Int) (n0 : -9223372036854775808 ≤ n ∧ n ≤ 9223372036854775807) (s : ByteArray) (hs : s.size ≤ 1048576) (hdn : M.down = false) (hb : AM.get M.files n = some s.data.toList) :
    Calls Try.prog 54 #[.pointer (some ⟨d, 0, none⟩), .int .i64 n, .string s] w fun e w' => e = .returned (.bool true) ∧ w = w' := by
  obtain ⟨fp, h1, _⟩ := h
  exact reads_yes n n0 s hs h1 hdn hb

namespace Stored
def m1 : DiskM := ⟨[(3, [])], [], 9, false, 0, false, 0, 0⟩
def m2 : DiskM := ⟨[(3, []), (5, [])], [], 9, false, 0, false, 0, 0⟩
def m3 : DiskM := ⟨[(3, [97, 98, 99]), (5, [])], [(3, 3)], 9, false, 0, false, 0, 0⟩
def m4 : DiskM := ⟨[(3, [97, 98, 99]), (5, [])], [], 9, false, 0, false, 0, 0⟩
def m5 : DiskM := ⟨[(3, [97, 98, 99]), (5, [120, 121])], [(5, 2)], 9, false, 0, false, 0, 0⟩
def m6 : DiskM := ⟨[(3, [97, 98, 99, 100, 101]), (5, [120, 121])], [(5, 2), (3, 2)], 9, false, 0, false, 0, 0⟩
def m7 : DiskM := ⟨[(3, [97, 98, 99, 100]), (5, [120, 121])], [], 9, true, 0, false, 0, 0⟩
def m8 : DiskM := ⟨[(3, [97, 98, 99, 100]), (5, [120, 121])], [], 9, false, 1, false, 0, 0⟩
def m9 : DiskM := ⟨[(3, [97, 98, 99, 100]), (5, [120, 121])], [], 9, false, 1, true, 0, 1⟩
def m10 : DiskM := ⟨[(3, [97, 98, 99, 100, 116]), (5, [120, 121])], [], 9, true, 1, false, -1, 1⟩
def m11 : DiskM := ⟨[(3, [97, 98, 99, 100, 116]), (5, [120, 121])], [], 9, false, 2, false, -1, 1⟩
theorem s1 : (DiskM.new 9).create 3 = (0, m1) := by rfl
theorem s2 : m1.create 5 = (0, m2) := by rfl
theorem s3 : m2.append 3 [97, 98, 99] = (0, m3) := by rfl
theorem s4 : m3.sync = (0, m4) := by rfl
theorem s5 : m4.append 5 [120, 121] = (0, m5) := by rfl
theorem s6 : m5.append 3 [100, 101] = (0, m6) := by rfl
theorem s6' : m6.append 5 [122, 122, 122] = (60, m6) := by rfl
theorem s7 : m6.crashR 3 = (0, m7) := by rfl
theorem s8 : m7.startR = (0, m8) := by rfl
theorem s9 : m8.failR 0 1 = (0, m9) := by rfl
theorem s10 : m9.append 3 [116, 116] = (61, m10) := by rfl
theorem s11 : m10.startR = (0, m11) := by rfl
end Stored
set_option maxRecDepth 100000 in
set_option maxHeartbeats 4000000 in
theorem stored_any (w : World) : Calls Try.prog 45 #[] w fun e w' => e = .returned (.bool true) ∧ Below w.heap.size w w' := by
  go_enter Try.func45, Try.ntmps45
  go_wp2_with fail
  refine (new_ok _ 9 (by omega) (by omega)).mono ?_
  rintro e w1 hnew; obtain ⟨d, rfl, h0⟩ := Own.made _ hnew; clear hnew
  go_wp2_with fail
  refine (create_own h0 3 (by omega) (by intro h; cases h) (by decide) Stored.s1).mono ?_
  rintro e w2 ⟨rfl, h1⟩
  go_wp2_with fail
  refine (create_own h1 5 (by omega) (by intro h; cases h) (by decide) Stored.s2).mono ?_
  rintro e w3 ⟨rfl, h2⟩
  go_wp2_with fail
  refine (append_own h2 3 (by omega) ⟨#[97, 98, 99]⟩ (by intro h; cases h) (by decide) Stored.s3).mono ?_
  rintro e w4 ⟨rfl, h3⟩
  go_wp2_with fail
  refine (sync_own h3 (by intro h; cases h) Stored.s4).mono ?_
  rintro e w5 ⟨rfl, h4⟩
  go_wp2_with fail
  refine (append_own h4 5 (by omega) ⟨#[120, 121]⟩ (by intro h; cases h) (by decide) Stored.s5).mono ?_
  rintro e w6 ⟨rfl, h5⟩
  go_wp2_with fail
  refine (append_own h5 3 (by omega) ⟨#[100, 101]⟩ (by intro h; cases h) (by decide) Stored.s6).mono ?_
  rintro e w7 ⟨rfl, h6⟩
  go_wp2_with fail
  refine (append_own h6 5 (by omega) ⟨#[122, 122, 122]⟩ (by intro h; cases h) (by decide) Stored.s6').mono ?_
  rintro e w8 ⟨rfl, h7⟩
  go_wp2_with fail
  refine (loose_own h7 (r := 4) (by rfl)).mono ?_
  rintro e w9 ⟨rfl, h8⟩
  go_wp2_with fail
  refine (free_own h8 (r := 2) (by rfl)).mono ?_
  rintro e w10 ⟨rfl, h9⟩
  go_wp2_with fail
  refine (crash_own h9 3 (by omega) Stored.s7).mono ?_
  rintro e w11 ⟨rfl, h10⟩
  go_wp2_with fail
  refine (start_own h10 (by decide) Stored.s8).mono ?_
  rintro e w12 ⟨rfl, h11⟩
  go_wp2_with fail
  refine (reads_own h11 5 (by omega) ⟨#[120, 121]⟩ (by decide) rfl rfl).mono ?_
  rintro e w' ⟨rfl, rfl⟩
  go_wp2_with fail
  refine (reads_own h11 3 (by omega) ⟨#[97, 98, 99, 100]⟩ (by decide) rfl rfl).mono ?_
  rintro e w' ⟨rfl, rfl⟩
  go_wp2_with fail
  refine (fail_own h11 0 1 (by omega) (by omega) Stored.s9).mono ?_
  rintro e w13 ⟨rfl, h12⟩
  go_wp2_with fail
  refine (append_own h12 3 (by omega) ⟨#[116, 116]⟩ (by intro _; decide) (by decide) Stored.s10).mono ?_
  rintro e w14 ⟨rfl, h13⟩
  go_wp2_with fail
  refine (up_own h13 (b := false) rfl).mono ?_
  rintro e w' ⟨rfl, rfl⟩
  go_wp2_with fail
  refine (start_own h13 (by decide) Stored.s11).mono ?_
  rintro e w15 ⟨rfl, h14⟩
  go_wp2_with fail
  refine (reads_own h14 3 (by omega) ⟨#[97, 98, 99, 100, 116]⟩ (by decide) rfl rfl).mono ?_
  rintro e w' ⟨rfl, rfl⟩
  go_wp2_with fail
  go_ret
  exact ⟨rfl, h14.since.below (fun k hk q => q hk) (Nat.le_refl _)⟩
end Go.Proofs.Ytahiimcdmojngaa
