/- The law DiskFails, walked. -/
import Derived.Test.YtahiimcdmojngaaFailsM
import Derived.Test.YtahiimcdmojngaaFiles
import Derived.Test.YtahiimcdmojngaaStored
namespace Go.Proofs.Ytahiimcdmojngaa
open Go.RowKit

def fm1 : DiskM := ⟨[(1, [])], [], 3000, false, 0, false, 0, 0⟩
def fm2 : DiskM := ⟨[(1, [97, 98, 99])], [(1, 3)], 3000, false, 0, false, 0, 0⟩
def fm3 : DiskM := ⟨[(1, [97, 98, 99])], [], 3000, false, 0, false, 0, 0⟩
theorem ff1 : (DiskM.new 3000).create 1 = (0, fm1) := by rfl
theorem ff2 : fm1.append 1 [97, 98, 99] = (0, fm2) := by rfl
theorem ff3 : fm2.sync = (0, fm3) := by rfl
theorem ff4 (k keep : Nat) : fm3.failR k keep = (0, fdisk k keep 0) := by
  unfold DiskM.failR
  rw [if_neg (show ¬ fm3.down = true by decide), if_neg (by omega)]
  unfold DiskM.fail fm3 fdisk
  simp [fdata]

def FilesLen (w0 : World) (B : Nat → Prop) (d : Nat) (M : DiskM) (n : Nat) (e : Ending) (w' : World) : Prop := ∃ a cap, e = .returned (.slice a n cap) ∧ Own w0 B d M w'
theorem files_len {w0 w : World} {B : Nat → Prop} {d : Nat} {M : DiskM} (h : Own w0 B d M w) (n : Nat) (hn : M.files.length = n) :
    Calls Try.prog 70 #[.pointer (some ⟨d, 0, none⟩)] w (FilesLen w0 B d M n) := by
  obtain ⟨fp, h1, h2⟩ := h
  refine (files_any w h1).mono ?_
  rintro e w' ⟨v, rfl, hr, hk, _⟩
  obtain ⟨a, m, cap, rfl, hm, _⟩ := hr.form (by omega)
  have : m = n := by rw [← hn]; simpa [icells] using hm
  subst this
  exact ⟨a, cap, rfl, Own.kept ⟨fp, h1, h2⟩ hk⟩
theorem want_cut (i keep : Nat) (s : ByteArray) (b : List UInt8) (hs : s.data.toList = b) (h : fsure i ≤ s.size) :
    AM.get [((1 : Int), b.take (fsure i + min keep (b.length - fsure i)))] 1 = some (s.extract 0 ((fsure i : Int) + min (keep : Int) ((s.size : Int) - (fsure i : Int))).toNat).data.toList := by
  have hl : s.size = b.length := by rw [← hs]; simp
  rw [AM.get_one]
  congr 1
  rw [ByteArray.data_extract, Array.toList_extract, hs]
  simp only [List.drop_zero, List.extract_eq_take_drop]
  congr 1
  omega
theorem want_cutz (i keep : Nat) (s : ByteArray) (b : List UInt8) (hs : s.data.toList = b) (h : fsure i ≤ s.size) :
    AM.get [((1 : Int), (b ++ [122]).take (fsure i + min keep ((b ++ [122]).length - fsure i)))] 1 = some ((s ++ ⟨#[122]⟩).extract 0 ((fsure i : Int) + min (keep : Int) ((s.size : Int) + 1 - (fsure i : Int))).toNat).data.toList := by
  have e : (s ++ (⟨#[122]⟩ : ByteArray)).size = s.size + 1 := by rw [ByteArray.size_append]; rfl
  have := want_cut i keep (s ++ ⟨#[122]⟩) (b ++ [122]) (by rw [← hs]; simp) (by rw [e]; omega)
  rw [this, e]
  congr 6
theorem extract_le (s : ByteArray) (n m : Nat) (h : s.size ≤ m) : (s.extract 0 n).size ≤ m := by rw [ByteArray.size_extract]; omega
def fup (keep : Nat) (b : List UInt8) : DiskM := { fdown keep b with down := false, starts := 1 }
set_option maxRecDepth 100000 in
set_option maxHeartbeats 4000000 in
theorem diskFails_walk (a0 a1 a2 : Int) (w : World) (w0 : (Lit.int .u8 a0).wf = true) (w1 : (Lit.int .u8 a1).wf = true) (w2 : (Lit.int .u8 a2).wf = true) :
    Calls Try.prog 14 #[.int .u8 a0, .int .u8 a1, .int .u8 a2] w fun e w' => e = .returned (.bool true) ∧ Below w.heap.size w w' := by
  obtain ⟨s0, s1⟩ := wf_u8 w0
  obtain ⟨t0, t1⟩ := wf_u8 w1
  obtain ⟨u0, u1⟩ := wf_u8 w2
  obtain ⟨kn, rfl⟩ := Int.eq_ofNat_of_zero_le s0
  obtain ⟨wn, rfl⟩ := Int.eq_ofNat_of_zero_le t0
  obtain ⟨keep, rfl⟩ := Int.eq_ofNat_of_zero_le u0
  clear w0 w1 w2
  go_enter Try.func14, Try.ntmps14
  go_wp2_with fail
  refine (new_ok _ 3000 (by omega) (by omega)).mono ?_
  rintro e w1 hnew; obtain ⟨d, rfl, h0⟩ := Own.made _ hnew; clear hnew
  go_wp2_with fail
  refine (create_own h0 1 (by omega) (by intro h; cases h) (by decide) ff1).mono ?_
  rintro e w2 ⟨rfl, h1⟩
  go_wp2_with fail
  refine (append_own h1 1 (by omega) ⟨#[97, 98, 99]⟩ (by intro h; cases h) (by decide) ff2).mono ?_
  rintro e w3 ⟨rfl, h2⟩
  go_wp2_with fail
  refine (sync_own h2 (by intro h; cases h) ff3).mono ?_
  rintro e w4 ⟨rfl, h3⟩
  go_wp2_with fail
  obtain ⟨k, hk, hk20⟩ : ∃ k : Nat, (kn : Int) % 20 = (k : Int) ∧ k < 20 := ⟨kn % 20, by omega, by omega⟩
  rw [hk]
  clear hk s0 s1
  refine (fail_own h3 (k : Int) (keep : Int) (by omega) (by omega) (ff4 k keep)).mono ?_
  rintro e w5 ⟨rfl, h4⟩
  go_wp2_with fail
  go_loopw [10, 11, 12] (fun x y z wr => ∃ (i : Nat) (s : ByteArray), i ≤ k ∧ z = .int .i64 (i : Int) ∧ x = .string s ∧ Hid (s.data.toList = fdata i) ∧ s.size ≤ 3 + 2 * i ∧ fsure i ≤ s.size ∧ y = .int .i64 (fsure i : Int) ∧ Own w (fun k => k < w.heap.size) d (fdisk k keep i) wr) (fun _ _ z _ => k - (intOf z).toNat)
  case atStart => exact ⟨0, ⟨#[97, 98, 99]⟩, by omega, rfl, rfl, Lib.hid rfl, by decide, by decide, rfl, h4⟩
  case round =>
    obtain ⟨i, s, hi, rfl, rfl, hs, hsz, hsu, rfl, hown⟩ := hrel
    have hfl := Lib.hid (fdata_len i)
    by_cases hlt : i < k
    · have x1 : decide (i < k) = true := decide_eq_true hlt
      by_cases h3' : i % 3 < 2
      · have x2 : decide ((i : Int) % 3 < 2) = true := by simp; omega
        have HF := Lib.hid (And.intro (fdata_app h3') (fsure_same h3'))
        go_wp2_with fail
        refine (append_own hown 1 (by omega) ⟨#[120, 121]⟩ (fdisk_live k keep i (by omega)) (fdisk_count k keep i (by omega)) (fdisk_append k keep i hlt (by omega) h3')).mono ?_
        rintro e w6 ⟨rfl, h5⟩
        have hsz2 : (s.size + 2 > 9223372036854775807) = False := eq_false (by omega)
        go_wp2_with fail
        go_roundw
        case rel =>
          refine ⟨i + 1, _, by omega, by go_num, rfl, Lib.hid ?_, ?_, ?_, ?_, h5⟩
          · rw [HF.out.1, ← hs.out]; simp
          · rw [ByteArray.size_append]; show s.size + 2 ≤ _; omega
          · rw [HF.out.2, ByteArray.size_append]; show _ ≤ s.size + 2; omega
          · rw [HF.out.2]
        case measure => simp [intOf]; omega
      · have x2 : decide ((i : Int) % 3 < 2) = false := by simp; omega
        have HF := Lib.hid (And.intro (fdata_same h3') (fsure_all h3'))
        go_wp2_with fail
        refine (sync_own hown (fdisk_live k keep i (by omega)) (fdisk_sync k keep i hlt h3')).mono ?_
        rintro e w6 ⟨rfl, h5⟩
        go_wp2_with fail
        go_roundw
        case rel =>
          have e : (fdata i).length = s.size := by rw [← hs.out]; simp
          refine ⟨i + 1, s, by omega, by go_num, rfl, Lib.hid ?_, by omega, ?_, ?_, h5⟩
          · rw [HF.out.1]; exact hs.out
          · rw [HF.out.2]; omega
          · rw [HF.out.2, e]
        case measure => simp [intOf]; omega
    · have x1 : decide (i < k) = false := decide_eq_false hlt
      have hik : i = k := by omega
      subst hik
      go_wp2_with fail
      · refine (create_own hown 2 (by omega) (fdisk_live i keep i (by omega)) (fdisk_count i keep i (by omega)) (fdisk_create i keep)).mono ?_
        rintro e w6 ⟨rfl, h5⟩
        go_wp2_with fail
        refine (up_own h5 (b := false) rfl).mono ?_
        rintro e w' ⟨rfl, rfl⟩
        go_wp2_with fail
        refine (start_own h5 ⟨Int.le_refl 0, by show (0 : Int) < _; omega⟩ (fdown_start keep _)).mono ?_
        rintro e w7 ⟨rfl, h6⟩
        go_wp2_with fail
        refine (files_len h6 1 rfl).mono ?_
        rintro e w8 ⟨a, cap, rfl, h7⟩
        go_wp2_with fail
        refine (reads_own h7 1 (by omega) _ (extract_le _ _ _ (by first | omega | (rw [ByteArray.size_append]; show s.size + 1 ≤ _; omega))) rfl (want_cut i keep s (fdata i) hs.out hsu)).mono ?_
        rintro e w' ⟨rfl, rfl⟩
        go_wp2_with fail
        refine (stored_any _).mono ?_
        rintro e w9 ⟨rfl, hb'⟩
        go_wp2_with fail
        go_ret
        have hbel : Below w.heap.size w w8 := h7.since.below (fun k hk q => q hk) (Nat.le_refl _)
        exact ⟨rfl, hbel.trans (hb'.mono hbel.size)⟩
      · refine (delete_own hown 1 (by omega) (fdisk_live i keep i (by omega)) (fdisk_delete i keep)).mono ?_
        rintro e w6 ⟨rfl, h5⟩
        go_wp2_with fail
        refine (up_own h5 (b := false) rfl).mono ?_
        rintro e w' ⟨rfl, rfl⟩
        go_wp2_with fail
        refine (start_own h5 ⟨Int.le_refl 0, by show (0 : Int) < _; omega⟩ (fdown_start keep _)).mono ?_
        rintro e w7 ⟨rfl, h6⟩
        go_wp2_with fail
        refine (files_len h6 1 rfl).mono ?_
        rintro e w8 ⟨a, cap, rfl, h7⟩
        go_wp2_with fail
        refine (reads_own h7 1 (by omega) _ (extract_le _ _ _ (by first | omega | (rw [ByteArray.size_append]; show s.size + 1 ≤ _; omega))) rfl (want_cut i keep s (fdata i) hs.out hsu)).mono ?_
        rintro e w' ⟨rfl, rfl⟩
        go_wp2_with fail
        refine (stored_any _).mono ?_
        rintro e w9 ⟨rfl, hb'⟩
        go_wp2_with fail
        go_ret
        have hbel : Below w.heap.size w w8 := h7.since.below (fun k hk q => q hk) (Nat.le_refl _)
        exact ⟨rfl, hbel.trans (hb'.mono hbel.size)⟩
      · refine (truncate_own hown 1 1 (by omega) (fdisk_live i keep i (by omega)) (fdisk_truncate i keep)).mono ?_
        rintro e w6 ⟨rfl, h5⟩
        go_wp2_with fail
        refine (up_own h5 (b := false) rfl).mono ?_
        rintro e w' ⟨rfl, rfl⟩
        go_wp2_with fail
        refine (start_own h5 ⟨Int.le_refl 0, by show (0 : Int) < _; omega⟩ (fdown_start keep _)).mono ?_
        rintro e w7 ⟨rfl, h6⟩
        go_wp2_with fail
        refine (files_len h6 1 rfl).mono ?_
        rintro e w8 ⟨a, cap, rfl, h7⟩
        go_wp2_with fail
        refine (reads_own h7 1 (by omega) _ (extract_le _ _ _ (by first | omega | (rw [ByteArray.size_append]; show s.size + 1 ≤ _; omega))) rfl (want_cut i keep s (fdata i) hs.out hsu)).mono ?_
        rintro e w' ⟨rfl, rfl⟩
        go_wp2_with fail
        refine (stored_any _).mono ?_
        rintro e w9 ⟨rfl, hb'⟩
        go_wp2_with fail
        go_ret
        have hbel : Below w.heap.size w w8 := h7.since.below (fun k hk q => q hk) (Nat.le_refl _)
        exact ⟨rfl, hbel.trans (hb'.mono hbel.size)⟩
      · refine (sync_own hown (fdisk_live i keep i (by omega)) (fdisk_syncs i keep)).mono ?_
        rintro e w6 ⟨rfl, h5⟩
        go_wp2_with fail
        refine (up_own h5 (b := false) rfl).mono ?_
        rintro e w' ⟨rfl, rfl⟩
        go_wp2_with fail
        refine (start_own h5 ⟨Int.le_refl 0, by show (0 : Int) < _; omega⟩ (fdown_start keep _)).mono ?_
        rintro e w7 ⟨rfl, h6⟩
        go_wp2_with fail
        refine (files_len h6 1 rfl).mono ?_
        rintro e w8 ⟨a, cap, rfl, h7⟩
        go_wp2_with fail
        refine (reads_own h7 1 (by omega) _ (extract_le _ _ _ (by first | omega | (rw [ByteArray.size_append]; show s.size + 1 ≤ _; omega))) rfl (want_cut i keep s (fdata i) hs.out hsu)).mono ?_
        rintro e w' ⟨rfl, rfl⟩
        go_wp2_with fail
        refine (stored_any _).mono ?_
        rintro e w9 ⟨rfl, hb'⟩
        go_wp2_with fail
        go_ret
        have hbel : Below w.heap.size w w8 := h7.since.below (fun k hk q => q hk) (Nat.le_refl _)
        exact ⟨rfl, hbel.trans (hb'.mono hbel.size)⟩
      · refine (append_own hown 1 (by omega) ⟨#[122]⟩ (fdisk_live i keep i (by omega)) (fdisk_count i keep i (by omega)) (fdisk_z i keep (by omega))).mono ?_
        rintro e w6 ⟨rfl, h5⟩
        go_wp2_with fail
        refine (up_own h5 (b := false) rfl).mono ?_
        rintro e w' ⟨rfl, rfl⟩
        go_wp2_with fail
        refine (start_own h5 ⟨Int.le_refl 0, by show (0 : Int) < _; omega⟩ (fdown_start keep _)).mono ?_
        rintro e w7 ⟨rfl, h6⟩
        go_wp2_with fail
        refine (files_len h6 1 rfl).mono ?_
        rintro e w8 ⟨a, cap, rfl, h7⟩
        go_wp2_with fail
        refine (reads_own h7 1 (by omega) _ (extract_le _ _ _ (by first | omega | (rw [ByteArray.size_append]; show s.size + 1 ≤ _; omega))) rfl (want_cutz i keep s (fdata i) hs.out hsu)).mono ?_
        rintro e w' ⟨rfl, rfl⟩
        go_wp2_with fail
        refine (stored_any _).mono ?_
        rintro e w9 ⟨rfl, hb'⟩
        go_wp2_with fail
        go_ret
        have hbel : Below w.heap.size w w8 := h7.since.below (fun k hk q => q hk) (Nat.le_refl _)
        exact ⟨rfl, hbel.trans (hb'.mono hbel.size)⟩
end Go.Proofs.Ytahiimcdmojngaa
