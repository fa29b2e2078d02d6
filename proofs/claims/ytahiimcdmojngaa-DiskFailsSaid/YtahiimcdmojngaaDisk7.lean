/- Contracts of package disk: sink, Sync, New, Create. -/
import Derived.Test.YtahiimcdmojngaaDisk6
namespace Go.Proofs.Ytahiimcdmojngaa
open Go.RowKit

/-- What a change leaves: another disk, made of the old blocks and of new ones; nothing else has turned. -/
def DiskTo (d : Nat) (fp : Nat → Prop) (M' : DiskM) (w w' : World) : Prop := ∃ fp', IsDisk w' d fp' M' ∧ Kept fp w w' ∧ ∀ k, fp' k → fp k ∨ w.heap.size ≤ k

def DiskM.new (cap : Int) : DiskM := ⟨[], [], cap, false, 0, false, 0, 0⟩
/-- It has failed. -/
def DiskM.sunk (M : DiskM) : DiskM := M.tick.crash M.keep
def DiskM.sync (M : DiskM) : Int × DiskM := if M.down = true then (61, M) else if M.sinks = true then (61, M.sunk) else (0, { M.tick with loose := [] })
def DiskM.create (M : DiskM) (n : Int) : Int × DiskM := if M.down = true then (61, M) else if n < 0 then (2, M) else if (AM.get M.files n).isSome = true then (62, M) else if 100 ≤ M.files.length then (60, M) else if M.sinks = true then (61, M.sunk) else (0, { M.tick with files := AM.set M.files n [] })

theorem DiskM.tick_down (M : DiskM) : M.tick.down = M.down := by unfold DiskM.tick; split <;> rfl
theorem DiskM.tick_keep (M : DiskM) : M.tick.keep = M.keep := by unfold DiskM.tick; split <;> rfl
theorem DiskM.tick_files (M : DiskM) : M.tick.files = M.files := by unfold DiskM.tick; split <;> rfl
theorem DiskM.tick_loose (M : DiskM) : M.tick.loose = M.loose := by unfold DiskM.tick; split <;> rfl
theorem DiskM.Ok.noLoose {M : DiskM} (h : M.Ok) : ({ M with loose := [] } : DiskM).Ok :=
  ⟨h.rise, h.keys, h.cap0, h.cap1, h.room, fun n => by show 0 ≤ _; omega, fun p hp => by simp at hp, h.left1, h.left2, by have := h.count; show M.files.length + 0 ≤ _; omega, h.keepk⟩
theorem DiskM.Ok.create {M : DiskM} (h : M.Ok) (n : Int) (hn : 0 ≤ n ∧ n ≤ 9223372036854775807) (hg : AM.get M.files n = none) (hc : M.files.length + M.loose.length < 400000000) : ({ M with files := AM.set M.files n [] } : DiskM).Ok := by
  refine ⟨AM.rise_set h.rise _ _, fun p hp => ?_, h.cap0, h.cap1, ?_, fun k => ?_, h.loks, h.left1, h.left2, ?_, h.keepk⟩
  · rcases AM.mem_set.1 hp with rfl | ⟨hp, _⟩
    · exact hn
    · exact h.keys p hp
  · have := h.room
    unfold DiskM.total at this ⊢
    rw [AM.sum_set, AM.del_none hg]
    simpa using this
  · have := h.lo k
    by_cases e : k = n
    · subst e
      rw [hg] at this
      show DiskM.looseOf M.loose k ≤ ((AM.get (AM.set M.files k []) k).getD []).length
      rw [AM.get_set_same h.rise]
      exact this
    · show DiskM.looseOf M.loose k ≤ ((AM.get (AM.set M.files n []) k).getD []).length
      rw [AM.get_set_other h.rise _ e]
      exact this
  · have := AM.length_set_le M.files n ([] : List UInt8)
    show (AM.set M.files n []).length + M.loose.length ≤ _
    omega

section
variable {d : Nat} {fp : Nat → Prop} {M : DiskM}
theorem IsDisk.fpd {w : World} (h : IsDisk w d fp M) : fp d := by obtain ⟨mb, lv, fs, h⟩ := h; exact h.fpd
theorem Kept.head {w w' : World} (h : Kept (· = d) w w') (hf : fp d) : Kept fp w w' := h.mono (fun k _ e => by rw [e]; exact hf)
theorem DiskTo.same {w : World} (h : IsDisk w d fp M) : DiskTo d fp M w w := ⟨fp, h, Kept.refl _ _, fun _ => Or.inl⟩
theorem sink_up (w : World) (hd : IsDisk w d fp M) (hdn : M.down = false) : Calls Try.prog 83 #[.pointer (some ⟨d, 0, none⟩)] w fun e w' => e = .returned (.int .i64 61) ∧ IsDisk w' d fp (M.crash M.keep) ∧ Kept fp w w' := by
  have hc := crash_up w M.keep hd.ok.keepk hd hdn
  obtain ⟨mb, lv, fs, h⟩ := hd
  have c7 := h.head.cell (i := 7) rfl
  clear hdn
  go_enter Try.func83, Try.ntmps83
  go_wp2_with (go_at_call 50; refine hc.mono ?_; rintro e w' ⟨rfl, hd', hk'⟩)
  go_ret
  exact ⟨rfl, hd', hk'⟩

theorem sync_any (w : World) (hd : IsDisk w d fp M) (hl : M.Live) : Calls Try.prog 48 #[.pointer (some ⟨d, 0, none⟩)] w fun e w' => e = .returned (.int .i64 M.sync.1) ∧ DiskTo d fp M.sync.2 w w' := by
  have hr := ready_any w hd
  cases hdn : M.down
  · have h0 : M.ready = 0 := by simp [DiskM.ready, hdn]
    rw [h0] at hr
    have hs := sinks_any w hd hl
    cases hsk : M.sinks
    · have e : M.sync = (0, { M.tick with loose := [] }) := by simp [DiskM.sync, hdn, hsk]
      rw [e]
      rw [hsk] at hs
      clear e h0 hsk hdn
      go_enter Try.func48, Try.ntmps48
      have hfd := hd.fpd
      go_wp2_with (first | (go_at_call 84; refine hr.mono ?_; rintro e w' ⟨rfl, rfl⟩) | (go_at_call 82; refine hs.mono ?_; rintro e w1 ⟨rfl, hd1, hk1⟩; obtain ⟨mb, lv, fs, h1⟩ := hd1; have z1 := h1.head.free 1; have c1 := h1.head.cell (i := 1) rfl))
      go_ret
      exact ⟨rfl, fp, ⟨mb, _, fs, h1.toDiskRaw.noLoose, h1.ok.noLoose⟩, (hk1.head hfd).setCell (fun _ => hfd) _, fun _ => Or.inl⟩
    · have e : M.sync = (61, M.sunk) := by simp [DiskM.sync, hdn, hsk]
      rw [e]
      rw [hsk] at hs
      have hk0 := DiskM.tick_keep M
      have hd0 := DiskM.tick_down M
      rw [hdn] at hd0
      have HE : Hid (M.tick.crash M.tick.keep = M.sunk) := Lib.hid (by rw [hk0]; rfl)
      clear e h0 hsk hdn hk0
      go_enter Try.func48, Try.ntmps48
      go_wp2_with (first | (go_at_call 84; refine hr.mono ?_; rintro e w' ⟨rfl, rfl⟩) | (go_at_call 82; refine hs.mono ?_; rintro e w1 ⟨rfl, hd1, hk1⟩) | (go_at_call 83; refine (sink_up _ hd1 hd0).mono ?_; rintro e w2 ⟨rfl, hd2, hk2⟩))
      go_ret
      exact ⟨rfl, fp, by rw [← HE.out]; exact hd2, (hk1.head hd.fpd).trans hk2, fun _ => Or.inl⟩
  · have h0 : M.ready = 61 := by simp [DiskM.ready, hdn]
    have e : M.sync = (61, M) := by simp [DiskM.sync, hdn]
    rw [h0] at hr
    rw [e]
    clear e h0 hdn
    go_enter Try.func48, Try.ntmps48
    go_wp2_with (go_at_call 84; refine hr.mono ?_; rintro e w' ⟨rfl, rfl⟩)
    go_ret
    exact ⟨rfl, DiskTo.same hd⟩

theorem new_bad (w : World) (cap : Int) (hc : cap < 0 ∨ 1048576 < cap) : Calls Try.prog 46 #[.int .i64 cap] w fun e w' => e = .returned (.tuple #[.pointer none, .int .i64 2]) ∧ w = w' := by
  rcases hc with hc | hc
  · have x1 : decide (cap < 0) = true := decide_eq_true hc
    go_enter Try.func46, Try.ntmps46
    go_wp2
    exact bodyPost_ret (v := .tuple #[.pointer none, .int .i64 2]) (by simp [results, Try.results46, go_sem]) rfl ⟨rfl, rfl⟩
  · have x1 : decide (cap < 0) = false := by simp; omega
    have x2 : decide (1048576 < cap) = true := decide_eq_true hc
    go_enter Try.func46, Try.ntmps46
    go_wp2
    exact bodyPost_ret (v := .tuple #[.pointer none, .int .i64 2]) (by simp [results, Try.results46, go_sem]) rfl ⟨rfl, rfl⟩
/-- A new disk at d. -/
def NewDisk (cap : Int) (w : World) (e : Ending) (w' : World) : Prop := ∃ d fp, e = .returned (.tuple #[.pointer (some ⟨d, 0, none⟩), .int .i64 0]) ∧ IsDisk w' d fp (DiskM.new cap) ∧ Kept (fun _ => False) w w' ∧ ∀ k, fp k → w.heap.size ≤ k
theorem new_ok (w : World) (cap : Int) (h0 : 0 ≤ cap) (h1 : cap ≤ 1048576) : Calls Try.prog 46 #[.int .i64 cap] w (NewDisk cap w) := by
  have x1 : decide (cap < 0) = false := by simp; omega
  have x2 : decide (1048576 < cap) = false := by simp; omega
  have hmm := @run_makeMap Try.prog
  go_enter Try.func46, Try.ntmps46
  go_wp2
  refine bodyPost_ret (v := .tuple #[.pointer (some ⟨w.heap.size + 1, 0, none⟩), .int .i64 0]) (by simp [results, Try.results46, go_sem]) rfl ⟨w.heap.size + 1, fun k => w.heap.size ≤ k, rfl, ?_, ?_, fun _ => id⟩
  · have hz : (w.alloc (.map #[] 0)).heap.size = w.heap.size + 1 := by show (w.heap.push _).size = _; rw [Array.size_push]
    have hb := Blk.new (w.alloc (.map #[] 0)) (DiskM.cells (DiskM.new cap) w.heap.size (.slice none 0 0)) 124
    rw [hz] at hb
    refine ⟨w.heap.size, .slice none 0 0, [], ⟨hb, (MapI.made w Try.prog 3).alloc _, fun _ => rfl, fun n v b h => by simp [AM.get] at h, fun n n' v v' k h => by simp [AM.get] at h, Row.nil _ _ _, by show w.heap.size ≤ w.heap.size + 1; omega, Nat.le_refl _, fun k hk => by simp [Value.ownBlock] at hk, fun n v k h => by simp [AM.get] at h⟩, ?_⟩
    exact ⟨AM.rise_nil, fun p hp => by simp [DiskM.new] at hp, h0, h1, by simpa [DiskM.total, DiskM.new, AM.sum] using h0, fun n => by simp [DiskM.new, DiskM.looseOf], fun p hp => by simp [DiskM.new] at hp, by simp [DiskM.new], by simp [DiskM.new], by simp [DiskM.new], by simp [DiskM.new]⟩
  · exact ((Kept.refl _ _).alloc _).alloc _

set_option maxRecDepth 100000 in
theorem create_err (w : World) (n : Int) (n0 : -9223372036854775808 ≤ n ∧ n ≤ 9223372036854775807) (hd : IsDisk w d fp M) (he : M.down = true ∨ n < 0 ∨ (AM.get M.files n).isSome = true ∨ 100 ≤ M.files.length) :
    Calls Try.prog 47 #[.pointer (some ⟨d, 0, none⟩), .int .i64 n] w fun e w' => e = .returned (.int .i64 (M.create n).1) ∧ (M.create n).2 = M ∧ w = w' := by
  have hh := has_any w n n0 hd
  rcases M.has_cases n with ⟨h0, hdn, b, hb⟩ | ⟨h0, hdn, hb⟩ | ⟨h0, hdn⟩
  · rw [h0] at hh
    by_cases hn : n < 0
    · have e : M.create n = (2, M) := by simp [DiskM.create, hdn, hn]
      rw [e]
      have x1 : decide (n < 0) = true := decide_eq_true hn
      clear he h0 hdn hb e
      go_enter Try.func47, Try.ntmps47
      go_wp2_with (go_at_call 81; refine hh.mono ?_; rintro e w' ⟨rfl, rfl⟩)
      go_ret
      exact ⟨rfl, trivial, rfl⟩
    · have e : M.create n = (62, M) := by simp [DiskM.create, hdn, hn, hb]
      rw [e]
      have x1 : decide (n < 0) = false := by simpa using hn
      clear he h0 hdn hb e
      go_enter Try.func47, Try.ntmps47
      go_wp2_with (go_at_call 81; refine hh.mono ?_; rintro e w' ⟨rfl, rfl⟩)
      go_ret
      exact ⟨rfl, trivial, rfl⟩
  · rw [h0] at hh
    by_cases hn : n < 0
    · have e : M.create n = (2, M) := by simp [DiskM.create, hdn, hn]
      rw [e]
      have x1 : decide (n < 0) = true := decide_eq_true hn
      clear he h0 hdn hb e
      go_enter Try.func47, Try.ntmps47
      go_wp2_with (go_at_call 81; refine hh.mono ?_; rintro e w' ⟨rfl, rfl⟩)
      go_ret
      exact ⟨rfl, trivial, rfl⟩
    · have hl : 100 ≤ M.files.length := by
        rcases he with h | h | h | h
        · rw [hdn] at h; cases h
        · exact absurd h hn
        · rw [hb] at h; cases h
        · exact h
      have e : M.create n = (60, M) := by simp [DiskM.create, hdn, hn, hb, hl]
      rw [e]
      have x1 : decide (n < 0) = false := by simpa using hn
      obtain ⟨mb, lv, fs, h⟩ := hd
      have c0 := h.head.cell (i := 0) rfl
      have hlen := h.map.len (t := 121) (e := 80) Try.underlying121 3
      have hle := h.toDiskRaw.len_eq h.ok.rise
      have x2 : decide ((100 : Int) ≤ (fs.length : Int)) = true := by simp; omega
      clear he h0 hdn hb e hle
      go_enter Try.func47, Try.ntmps47
      go_wp2_with (go_at_call 81; refine hh.mono ?_; rintro e w' ⟨rfl, rfl⟩)
      go_ret
      exact ⟨rfl, trivial, rfl⟩
  · have e : M.create n = (61, M) := by simp [DiskM.create, hdn]
    rw [e]
    rw [h0] at hh
    clear he h0 hdn e
    go_enter Try.func47, Try.ntmps47
    go_wp2_with (go_at_call 81; refine hh.mono ?_; rintro e w' ⟨rfl, rfl⟩)
    go_ret
    exact ⟨rfl, trivial, rfl⟩
theorem DiskTo.after {w w1 w2 : World} {M' : DiskM} (hk : Kept fp w w1) (h : DiskTo d fp M' w1 w2) : DiskTo d fp M' w w2 := by
  obtain ⟨fp', h1, h2, h3⟩ := h
  exact ⟨fp', h1, hk.trans h2, fun k hk' => (h3 k hk').imp id (fun q => Nat.le_trans hk.size q)⟩
theorem DiskRaw.low_row {w : World} {mb : Nat} {lv : Value} {fs : List (Int × Value)} (h : DiskRaw w d fp M mb lv fs) {n : Int} {v : Value} {k : Nat} (h1 : AM.get fs n = some v) (h2 : v.ownBlock = some k) : k < w.heap.size := by
  have hs := h.keys n
  rw [h1] at hs
  obtain ⟨b, hb⟩ := Option.isSome_iff_exists.1 hs.symm
  exact (h.rows n v b h1 hb).lt h2
/-- An empty file comes. -/
theorem DiskAt.newFile {w : World} {mb : Nat} {lv : Value} {fs : List (Int × Value)} (h : DiskAt w d fp M mb lv fs) (n : Int) (n0 : 0 ≤ n ∧ n ≤ 9223372036854775807) (hg : AM.get M.files n = none) (hc : M.files.length + M.loose.length < 400000000) :
    ∃ w2, (Instr.mapUpdate 121 (.map (some mb)) (.int .i64 n) (.slice (some ⟨w.heap.size, 0, none⟩) 0 0)).run Try.prog (w.alloc (.cells #[] 5)) = .ok () w2 ∧ DiskTo d fp { M with files := AM.set M.files n [] } w w2 := by
  have hle := h.toDiskRaw.len_eq h.ok.rise
  have hml : maxLen = 9223372036854775807 := rfl
  obtain ⟨w2, hst, hm2, hk2, hs2⟩ := (h.map.alloc (.cells #[] 5)).store (t := 121) (e := 80) Try.underlying3 Try.underlying121 (by omega) (a := n) (by omega) (.slice (some ⟨w.heap.size, 0, none⟩) 0 0)
  refine ⟨w2, hst, fun k => fp k ∨ w.heap.size ≤ k, ⟨mb, lv, AM.set fs n (.slice (some ⟨w.heap.size, 0, none⟩) 0 0), ?_, h.ok.create n n0 hg hc⟩, ?_, fun k => id⟩
  · have hr := (h.toDiskRaw.kept (S := fun _ => False) ((Kept.refl _ _).alloc (.cells #[] 5)) (fun _ _ => id)).fpmono (fp' := fun k => fp k ∨ w.heap.size ≤ k) (fun x => Or.inl)
    have hrow : Row (w.alloc (.cells #[] 5)) 5 1 (.slice (some ⟨w.heap.size, 0, none⟩) 0 0) (bcells []) := Or.inr ⟨w.heap.size, 0, 0, [], rfl, rfl, Blk.new w [] 5, Nat.le_refl _, by simp, by omega⟩
    exact hr.setFile h.ok.rise hm2 hk2 hrow (fun n' v' k _ h1 h2 h3 => by
      have := h.toDiskRaw.low_row h1 h2
      simp [Value.ownBlock] at h3
      omega) (fun k hk => by simp [Value.ownBlock] at hk; exact Or.inr (by omega))
  · exact ((Kept.refl _ _).alloc _).then_ hk2 (fun i hi e => by rw [e]; exact h.fpm)
set_option maxRecDepth 100000 in
theorem create_sinks (w : World) (n : Int) (n0 : 0 ≤ n ∧ n ≤ 9223372036854775807) (hd : IsDisk w d fp M) (hl : M.Live) (hdn : M.down = false) (hg : AM.get M.files n = none) (hlen : M.files.length < 100) (hsk : M.sinks = true) :
    Calls Try.prog 47 #[.pointer (some ⟨d, 0, none⟩), .int .i64 n] w fun e w' => e = .returned (.int .i64 61) ∧ IsDisk w' d fp M.sunk ∧ Kept fp w w' := by
  have hh := has_any w n (by omega) hd
  have h0 : M.has n = 4 := by simp [DiskM.has, hdn, hg]
  rw [h0] at hh
  have hs := sinks_any w hd hl
  rw [hsk] at hs
  have hfd := hd.fpd
  obtain ⟨mb, lv, fs, h⟩ := hd
  have c0 := h.head.cell (i := 0) rfl
  have hml := h.map.len (t := 121) (e := 80) Try.underlying121 3
  have hle := h.toDiskRaw.len_eq h.ok.rise
  have x1 : decide (n < 0) = false := by simp; omega
  have x2 : decide ((100 : Int) ≤ (fs.length : Int)) = false := by simp; omega
  have hk0 := DiskM.tick_keep M
  have hd0 := DiskM.tick_down M
  rw [hdn] at hd0
  have HE : Hid (M.tick.crash M.tick.keep = M.sunk) := Lib.hid (by rw [hk0]; rfl)
  clear h0 hdn hg hle hlen hsk hk0
  go_enter Try.func47, Try.ntmps47
  go_wp2_with (first | (go_at_call 81; refine hh.mono ?_; rintro e w' ⟨rfl, rfl⟩) | (go_at_call 82; refine hs.mono ?_; rintro e w1 ⟨rfl, hd1, hk1⟩) | (go_at_call 83; refine (sink_up _ hd1 hd0).mono ?_; rintro e w2 ⟨rfl, hd2, hk2⟩))
  go_ret
  exact ⟨rfl, by rw [← HE.out]; exact hd2, (hk1.head hfd).trans hk2⟩
set_option maxRecDepth 100000 in
theorem create_ok (w : World) (n : Int) (n0 : 0 ≤ n ∧ n ≤ 9223372036854775807) (hd : IsDisk w d fp M) (hl : M.Live) (hdn : M.down = false) (hg : AM.get M.files n = none) (hlen : M.files.length < 100) (hcnt : M.files.length + M.loose.length < 400000000) (hsk : M.sinks = false) :
    Calls Try.prog 47 #[.pointer (some ⟨d, 0, none⟩), .int .i64 n] w fun e w' => e = .returned (.int .i64 0) ∧ DiskTo d fp { M.tick with files := AM.set M.files n [] } w w' := by
  have hh := has_any w n (by omega) hd
  have h0 : M.has n = 4 := by simp [DiskM.has, hdn, hg]
  rw [h0] at hh
  have hs := sinks_any w hd hl
  rw [hsk] at hs
  have hfd := hd.fpd
  obtain ⟨mb, lv, fs, h⟩ := hd
  have c0 := h.head.cell (i := 0) rfl
  have hml := h.map.len (t := 121) (e := 80) Try.underlying121 3
  have hle := h.toDiskRaw.len_eq h.ok.rise
  have x1 : decide (n < 0) = false := by simp; omega
  have x2 : decide ((100 : Int) ≤ (fs.length : Int)) = false := by simp; omega
  have HG := Lib.hid hg
  clear h0 hdn hle hsk hg
  go_enter Try.func47, Try.ntmps47
  go_wp2_with (first | (go_at_call 81; refine hh.mono ?_; rintro e w' ⟨rfl, rfl⟩) | (go_at_call 82; refine hs.mono ?_; rintro e w1 ⟨rfl, hd1, hk1⟩; obtain ⟨mb1, lv1, fs1, h1⟩ := hd1; have c01 := h1.head.cell (i := 0) rfl; obtain ⟨w2, hst, hto⟩ := h1.newFile n n0 (by rw [DiskM.tick_files]; exact HG.out) (by rw [DiskM.tick_files, DiskM.tick_loose]; exact hcnt)))
  go_ret
  have hto2 := DiskTo.after (hk1.head hfd) hto
  rw [DiskM.tick_files] at hto2
  exact ⟨rfl, hto2⟩
end
end Go.Proofs.Ytahiimcdmojngaa
