/- Contracts of package disk: Size, Fail, Loose, Read. -/
import Derived.Test.YtahiimcdmojngaaDisk2
namespace Go.Proofs.Ytahiimcdmojngaa
open Go.RowKit

theorem DiskM.has_cases (M : DiskM) (n : Int) : (M.has n = 0 ∧ M.down = false ∧ ∃ b, AM.get M.files n = some b) ∨ (M.has n = 4 ∧ M.down = false ∧ AM.get M.files n = none) ∨ (M.has n = 61 ∧ M.down = true) := by
  unfold DiskM.has
  cases hd : M.down
  · cases hg : AM.get M.files n with
    | none => simp
    | some b => simp
  · simp

section
variable {d : Nat} {fp : Nat → Prop} {M : DiskM}
theorem size_err (w : World) (n : Int) (n0 : -9223372036854775808 ≤ n ∧ n ≤ 9223372036854775807) (hd : IsDisk w d fp M) (he : M.has n ≠ 0) :
    Calls Try.prog 87 #[.pointer (some ⟨d, 0, none⟩), .int .i64 n] w fun e w' => e = .returned (.tuple #[.int .i64 0, .int .i64 (M.has n)]) ∧ w = w' := by
  rcases M.has_cases n with ⟨h, _⟩ | ⟨h, _⟩ | ⟨h, _⟩
  · exact absurd h he
  all_goals
    have hc := has_any w n n0 hd
    rw [h] at hc ⊢
    clear he h
    go_enter Try.func87, Try.ntmps87
    go_wp2_with (go_at_call 81; refine hc.mono ?_; rintro e w' ⟨rfl, rfl⟩)
    exact bodyPost_ret (v := .tuple #[.int .i64 0, .int .i64 _]) (by simp [results, Try.results87, go_sem]) rfl ⟨rfl, rfl⟩
theorem size_ok (w : World) (n : Int) (n0 : -9223372036854775808 ≤ n ∧ n ≤ 9223372036854775807) (b : List UInt8) (hd : IsDisk w d fp M) (hdn : M.down = false) (hb : AM.get M.files n = some b) :
    Calls Try.prog 87 #[.pointer (some ⟨d, 0, none⟩), .int .i64 n] w fun e w' => e = .returned (.tuple #[.int .i64 b.length, .int .i64 0]) ∧ w = w' := by
  have h0 : M.has n = 0 := by simp [DiskM.has, hdn, hb]
  have hc := has_any w n n0 hd
  rw [h0] at hc
  obtain ⟨mb, lv, fs, h⟩ := hd
  have c0 := h.head.cell (i := 0) rfl
  obtain ⟨v, hv⟩ := h.get_some hb
  have hl := h.map.look (t := 121) (e := 80) Try.underlying3 Try.underlying121 (zeroBytes w) n0
  rw [hv, Option.getD_some] at hl
  obtain ⟨a, m, cap, rfl, hm, _⟩ := (h.rows n v b hv hb).form (by omega)
  rw [bcells_len] at hm
  have e : b.length = m := by omega
  rw [e]
  clear hm e hb hv h0
  go_enter Try.func87, Try.ntmps87
  go_wp2_with (go_at_call 81; refine hc.mono ?_; rintro e w' ⟨rfl, rfl⟩)
  exact bodyPost_ret (v := .tuple #[.int .i64 m, .int .i64 0]) (by simp [results, Try.results87, go_sem]) rfl ⟨rfl, rfl⟩

/-- What Fail makes of it. -/
def DiskM.fail (M : DiskM) (n keep : Int) : DiskM := { M with fails := true, left := n, keep := keep }
theorem fail_down (w : World) (n keep : Int) (hd : IsDisk w d fp M) (hdn : M.down = true) :
    Calls Try.prog 67 #[.pointer (some ⟨d, 0, none⟩), .int .i64 n, .int .i64 keep] w fun e w' => e = .returned (.int .i64 61) ∧ w = w' := by
  have hr : M.ready = 61 := by simp [DiskM.ready, hdn]
  go_enter Try.func67, Try.ntmps67
  go_wp2_with (go_at_call 84; refine (ready_any _ hd).mono ?_; rw [hr]; rintro e w' ⟨rfl, rfl⟩)
  go_ret
  exact ⟨rfl, rfl⟩
theorem fail_neg (w : World) (n keep : Int) (hd : IsDisk w d fp M) (hdn : M.down = false) (hn : n < 0) :
    Calls Try.prog 67 #[.pointer (some ⟨d, 0, none⟩), .int .i64 n, .int .i64 keep] w fun e w' => e = .returned (.int .i64 2) ∧ w = w' := by
  have hr : M.ready = 0 := by simp [DiskM.ready, hdn]
  have hx : decide (n < 0) = true := decide_eq_true hn
  go_enter Try.func67, Try.ntmps67
  go_wp2_with (go_at_call 84; refine (ready_any _ hd).mono ?_; rw [hr]; rintro e w' ⟨rfl, rfl⟩)
  go_ret
  exact ⟨rfl, rfl⟩
theorem fail_ok (w : World) (n keep : Int) (hd : IsDisk w d fp M) (hdn : M.down = false) (hn : 0 ≤ n) (hn1 : n ≤ 9223372036854775807) (hk : -9223372036854775808 ≤ keep ∧ keep ≤ 9223372036854775807) :
    Calls Try.prog 67 #[.pointer (some ⟨d, 0, none⟩), .int .i64 n, .int .i64 keep] w fun e w' => e = .returned (.int .i64 0) ∧ IsDisk w' d fp (M.fail n keep) ∧ Kept (· = d) w w' := by
  have hr : M.ready = 0 := by simp [DiskM.ready, hdn]
  have hx : decide (n < 0) = false := by simp; omega
  have hc := ready_any w hd
  rw [hr] at hc
  obtain ⟨mb, lv, fs, h⟩ := hd
  have z5 := h.head.free 5
  have z6 := h.head.free 6
  have z7 := h.head.free 7
  have c5 := h.head.cell (i := 5) rfl
  have c6 := h.head.cell (i := 6) rfl
  have c7 := h.head.cell (i := 7) rfl
  have h1 := h.toDiskRaw.put 5 (.bool true) { M with fails := true } rfl rfl rfl
  have h2 := h1.put 6 (.int .i64 n) { M with fails := true, left := n } rfl rfl rfl
  have h3 := h2.put 7 (.int .i64 keep) (M.fail n keep) rfl rfl rfl
  have h4 : (M.fail n keep).Ok := ⟨h.ok.rise, h.ok.keys, h.ok.cap0, h.ok.cap1, h.ok.room, h.ok.lo, h.ok.loks, hn1, by show -1 ≤ n; omega, h.ok.count, hk⟩
  clear hn hdn hr
  go_enter Try.func67, Try.ntmps67
  go_wp2_with (go_at_call 84; refine hc.mono ?_; rintro e w' ⟨rfl, rfl⟩)
  go_ret
  exact ⟨rfl, ⟨mb, lv, fs, h3, h4⟩, ((kept_cell _ _ _ _).trans (kept_cell _ _ _ _)).trans (kept_cell _ _ _ _)⟩
end
end Go.Proofs.Ytahiimcdmojngaa
