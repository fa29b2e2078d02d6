/- Contracts of package disk: Delete, Truncate. -/
import Derived.Test.YtahiimcdmojngaaDisk10
namespace Go.Proofs.Ytahiimcdmojngaa
open Go.RowKit

section
variable {w w' : World} {d mb : Nat} {fp : Nat → Prop} {M : DiskM} {lv : Value} {fs : List (Int × Value)}
/-- A file is gone. -/
theorem DiskRaw.delFile (h : DiskRaw w d fp M mb lv fs) (hF : AM.Rise M.files) {n : Int} {m : Nat} (hm : MapI Try.prog 3 w' mb m (AM.del fs n)) (hk : Kept (· = mb) w w') :
    DiskRaw w' d fp { M with files := AM.del M.files n } mb lv (AM.del fs n) := by
  have hr := h.map.rise Try.underlying3
  have hget : ∀ n' v, AM.get (AM.del fs n) n' = some v → n' ≠ n ∧ AM.get fs n' = some v := by
    intro n' v hg
    by_cases e : n' = n
    · subst e; rw [AM.get_del_same] at hg; cases hg
    · rw [AM.get_del_other hr e] at hg; exact ⟨e, hg⟩
  refine ⟨h.head.kept hk (fun e => h.map.ne_blk h.head e.symm), hm.tight, fun n' => ?_, fun n' v b h1 h2 => ?_, fun n1 n2 v1 v2 k h1 h2 h3 h4 => ?_, h.loose.kept hk (fun k hk' e => h.map.ne_row h.loose hk' e), h.fpd, h.fpm, h.fpl, fun n' v k h1 h2 => h.fpf n' v k (hget n' v h1).2 h2⟩
  · show _ = (AM.get (AM.del M.files n) n').isSome
    by_cases e : n' = n
    · subst e; rw [AM.get_del_same, AM.get_del_same]; rfl
    · rw [AM.get_del_other hr e, AM.get_del_other hF e]; exact h.keys n'
  · obtain ⟨e, h1'⟩ := hget n' v h1
    replace h2 : AM.get (AM.del M.files n) n' = some b := h2
    rw [AM.get_del_other hF e] at h2
    exact (h.rows n' v b h1' h2).kept hk (fun k hk' q => h.map.ne_row (h.rows n' v b h1' h2) hk' q)
  · exact h.apart n1 n2 v1 v2 k (hget n1 v1 h1).2 (hget n2 v2 h2).2 h3 h4
/-- 'b[:m:m]'. -/
theorem Row.head3 {a : Option Addr} {n cap : Nat} {b : List UInt8} (h : Row w 5 1 (.slice a n cap) (bcells b)) (m : Nat) (hm : m ≤ n) (x : Int) (hx : x = m) :
    (Instr.slice 80 (.slice a n cap) none (some (.int .i64 x)) (some (.int .i64 x))).run Try.prog w = .ok (.slice a m m) w ∧ Row w 5 1 (.slice a m m) (bcells (b.take m)) := by
  subst hx
  have hsz : (sizeOf (Try.prog.elem 80)).run Try.prog w = .ok 1 w := by kernel_rfl
  have hcap : n ≤ cap := by
    rcases h with ⟨h, _⟩ | ⟨g, n', cap', rest, hv, _, _, h2, _⟩
    · cases h; exact Nat.le_refl _
    · simp only [Value.slice.injEq] at hv; omega
  have hs := run_slice_hm (P := Try.prog) (w := w) 80 a n cap (by kernel_rfl) .i64 .i64 (m : Int) (m : Int) (by omega) (by omega) (by omega)
  rw [hsz] at hs
  simp only [Result.andThen, sliced] at hs
  have ea : ∀ c : Nat, (if c = 0 then a else a.map (·.add (0 * 1))) = a := by
    intro c
    split
    · rfl
    · cases a <;> simp [Addr.add]
  refine ⟨by rw [hs, ea]; simp, ?_⟩
  rcases h with ⟨h, hb⟩ | ⟨g, n', cap', rest, hv, h1, h2⟩
  · cases h
    have : m = 0 := by omega
    subst this
    exact Or.inl ⟨rfl, by simp [bcells]⟩
  · have hrow : Row w 5 1 (.slice a n cap) (bcells b) := Or.inr ⟨g, n', cap', rest, hv, h1, h2⟩
    simp only [Value.slice.injEq] at hv
    obtain ⟨rfl, rfl, rfl⟩ := hv
    have := hrow.shorter3 m hm
    rw [Nat.mul_one] at this
    have e : bcells (b.take m) = (bcells b).take m := by simp [bcells, List.map_take]
    rw [e]; exact this
end

section
variable {d : Nat} {fp : Nat → Prop} {M : DiskM}
theorem delete_err (w : World) (n : Int) (n0 : -9223372036854775808 ≤ n ∧ n ≤ 9223372036854775807) (hd : IsDisk w d fp M) (he : M.has n ≠ 0) :
    Calls Try.prog 68 #[.pointer (some ⟨d, 0, none⟩), .int .i64 n] w fun e w' => e = .returned (.int .i64 (M.has n)) ∧ w = w' := by
  rcases M.has_cases n with ⟨h, _⟩ | ⟨h, _⟩ | ⟨h, _⟩
  · exact absurd h he
  all_goals
    have hc := has_any w n n0 hd
    rw [h] at hc ⊢
    clear he h
    go_enter Try.func68, Try.ntmps68
    go_wp2_with (go_at_call 81; refine hc.mono ?_; rintro e w' ⟨rfl, rfl⟩)
    go_ret
    exact ⟨rfl, rfl⟩
set_option maxRecDepth 100000 in
theorem delete_sinks (w : World) (n : Int) (n0 : -9223372036854775808 ≤ n ∧ n ≤ 9223372036854775807) (hd : IsDisk w d fp M) (hl : M.Live) (he : M.has n = 0) (hdn : M.down = false) (hsk : M.sinks = true) :
    Calls Try.prog 68 #[.pointer (some ⟨d, 0, none⟩), .int .i64 n] w fun e w' => e = .returned (.int .i64 61) ∧ IsDisk w' d fp M.sunk ∧ Kept fp w w' := by
  have hh := has_any w n n0 hd
  rw [he] at hh
  have hs := sinks_any w hd hl
  rw [hsk] at hs
  have hfd := hd.fpd
  have hk0 := DiskM.tick_keep M
  have hd0 := DiskM.tick_down M
  rw [hdn] at hd0
  have HE : Hid (M.tick.crash M.tick.keep = M.sunk) := Lib.hid (by rw [hk0]; rfl)
  clear he hdn hsk hk0
  go_enter Try.func68, Try.ntmps68
  go_wp2_with (first | (go_at_call 81; refine hh.mono ?_; rintro e w' ⟨rfl, rfl⟩) | (go_at_call 82; refine hs.mono ?_; rintro e w1 ⟨rfl, hd1, hk1⟩) | (go_at_call 83; refine (sink_up _ hd1 hd0).mono ?_; rintro e w2 ⟨rfl, hd2, hk2⟩))
  go_ret
  exact ⟨rfl, by rw [← HE.out]; exact hd2, (hk1.head hfd).trans hk2⟩
set_option maxRecDepth 100000 in
theorem delete_ok (w : World) (n : Int) (n0 : -9223372036854775808 ≤ n ∧ n ≤ 9223372036854775807) (b : List UInt8) (hd : IsDisk w d fp M) (hl : M.Live) (hdn : M.down = false) (hb : AM.get M.files n = some b) (hsk : M.sinks = false) :
    Calls Try.prog 68 #[.pointer (some ⟨d, 0, none⟩), .int .i64 n] w fun e w' => e = .returned (.int .i64 0) ∧ IsDisk w' d fp (M.tick.deleted n) ∧ Kept fp w w' := by
  have hh := has_any w n n0 hd
  have he : M.has n = 0 := by simp [DiskM.has, hdn, hb]
  rw [he] at hh
  have hs := sinks_any w hd hl
  rw [hsk] at hs
  have hfd := hd.fpd
  have HB := Lib.hid hb
  clear he hdn hsk hb
  go_enter Try.func68, Try.ntmps68
  go_wp2_with (first | (go_at_call 81; refine hh.mono ?_; rintro e w' ⟨rfl, rfl⟩) | (go_at_call 82; refine hs.mono ?_; rintro e w1 ⟨rfl, hd1, hk1⟩))
  refine (drop_any _ n 0 n0 (by omega) hd1).mono ?_
  rintro e w2 ⟨rfl, hd2, hk2⟩
  obtain ⟨mb, lv, fs, h⟩ := hd2
  have c0 := h.head.cell (i := 0) rfl
  obtain ⟨w3, hst, hm3, hk3, hs3⟩ := h.map.drop (t := 121) (e := 80) Try.underlying3 Try.underlying121 (a := n) n0 0
  have hr3 := h.toDiskRaw.delFile h.ok.rise hm3 hk3
  have hF : Hid (IsDisk w3 d fp (M.tick.deleted n)) := by
    have hok : (M.tick.deleted n).Ok := hd1.ok.deleted (by rw [DiskM.tick_files]; exact HB.out)
    exact Lib.hid ⟨mb, lv, _, hr3, hok⟩
  have hfm := h.fpm
  go_wp2_with fail
  go_ret
  exact ⟨rfl, hF.out, ((hk1.head hfd).trans hk2).trans (hk3.mono (fun k _ e => by rw [e]; exact hfm))⟩
theorem delete_to (w : World) (n : Int) (n0 : -9223372036854775808 ≤ n ∧ n ≤ 9223372036854775807) (hd : IsDisk w d fp M) (hl : M.Live) :
    Calls Try.prog 68 #[.pointer (some ⟨d, 0, none⟩), .int .i64 n] w fun e w' => e = .returned (.int .i64 (M.delete n).1) ∧ DiskTo d fp (M.delete n).2 w w' := by
  rcases M.has_cases n with ⟨h0, hdn, b, hb⟩ | ⟨h0, _⟩ | ⟨h0, _⟩
  · cases hs : M.sinks
    · have e : M.delete n = (0, M.tick.deleted n) := by
        unfold DiskM.delete
        rw [if_neg (by simp [h0]), if_neg (by simp [hs])]
      rw [e]
      refine (delete_ok w n n0 b hd hl hdn hb hs).mono ?_
      rintro e w' ⟨rfl, h1, h2⟩
      exact ⟨rfl, fp, h1, h2, fun _ => Or.inl⟩
    · have e : M.delete n = (61, M.sunk) := by
        unfold DiskM.delete
        rw [if_neg (by simp [h0]), if_pos hs]
      rw [e]
      refine (delete_sinks w n n0 hd hl h0 hdn hs).mono ?_
      rintro e w' ⟨rfl, h1, h2⟩
      exact ⟨rfl, fp, h1, h2, fun _ => Or.inl⟩
  all_goals
    have e : M.delete n = (M.has n, M) := by
      unfold DiskM.delete
      rw [if_pos (by rw [h0]; decide)]
    rw [e]
    refine (delete_err w n n0 hd (by rw [h0]; decide)).mono ?_
    rintro e w' ⟨rfl, rfl⟩
    exact ⟨rfl, DiskTo.same hd⟩
end
end Go.Proofs.Ytahiimcdmojngaa
