/- Contracts of package disk: sinks, Up, Start, Fail, Free, Loose. -/
import Derived.Test.YtahiimcdmojngaaDisk1
namespace Go.Proofs.Ytahiimcdmojngaa
open Go.RowKit

def DiskM.cells (M : DiskM) (mb : Nat) (lv : Value) : List Value := [.map (some mb), lv, .int .i64 M.cap, .bool M.down, .int .i64 M.starts, .bool M.fails, .int .i64 M.left, .int .i64 M.keep]

section
variable {w : World} {d mb : Nat} {fp : Nat → Prop} {M : DiskM} {lv : Value} {fs : List (Int × Value)}
theorem DiskRaw.row_ne (h : DiskRaw w d fp M mb lv fs) {n : Int} {v : Value} {k : Nat} (hg : AM.get fs n = some v) (hk : v.ownBlock = some k) : k ≠ d := by
  have hs := h.keys n
  rw [hg] at hs
  obtain ⟨b, hb⟩ := Option.isSome_iff_exists.1 hs.symm
  exact (h.rows n v b hg hb).ne_blk hk h.head (by decide)
/-- One of the head's own fields is another. -/
theorem DiskRaw.put (h : DiskRaw w d fp M mb lv fs) (i : Nat) (v : Value) (M' : DiskM) (hf : M'.files = M.files) (hl : M'.loose = M.loose) (hc : (M.cells mb lv).set i v = M'.cells mb lv) :
    DiskRaw (w.setCell ⟨d, i, none⟩ v) d fp M' mb lv fs := by
  refine ⟨?_, h.map.other (fun e => h.map.ne_blk h.head e.symm) _, fun n => by rw [hf]; exact h.keys n, fun n x b h1 h2 => ?_, h.apart, ?_, h.fpd, h.fpm, h.fpl, h.fpf⟩
  · have := h.head.set i v
    unfold DiskM.cells at hc
    rw [hc] at this
    exact this
  · rw [hf] at h2
    exact (h.rows n x b h1 h2).other (fun e => h.row_ne h1 e rfl) v
  · rw [hl]
    exact h.loose.other (fun e => h.loose.ne_blk e h.head (by decide) rfl) v
theorem DiskAt.put (h : DiskAt w d fp M mb lv fs) (i : Nat) (v : Value) (M' : DiskM) (hf : M'.files = M.files) (hl : M'.loose = M.loose) (hok : M'.Ok) (hc : (M.cells mb lv).set i v = M'.cells mb lv) :
    DiskAt (w.setCell ⟨d, i, none⟩ v) d fp M' mb lv fs := ⟨h.toDiskRaw.put i v M' hf hl hc, hok⟩
theorem kept_cell (w : World) (d i : Nat) (v : Value) : Kept (· = d) w (w.setCell ⟨d, i, none⟩ v) := Kept.setCell (S := fun x => x = d) (Kept.refl _ _) (p := ⟨d, i, none⟩) (fun _ => by rfl) v
end

theorem DiskM.Ok.tick {M : DiskM} (h : M.Ok) (hl : M.Live) : M.tick.Ok := by
  unfold DiskM.tick
  split
  · rename_i hf
    have := hl hf
    exact ⟨h.rise, h.keys, h.cap0, h.cap1, h.room, h.lo, h.loks, by have := h.left1; show M.left - 1 ≤ _; omega, by show -1 ≤ M.left - 1; omega, h.count, h.keepk⟩
  · exact h

section
variable {d : Nat} {fp : Nat → Prop} {M : DiskM}
theorem sinks_any (w : World) (hd : IsDisk w d fp M) (hlive : M.Live) : Calls Try.prog 82 #[.pointer (some ⟨d, 0, none⟩)] w fun e w' => e = .returned (.bool M.sinks) ∧ IsDisk w' d fp M.tick ∧ Kept (· = d) w w' := by
  have hd' := hd
  obtain ⟨mb, lv, fs, h⟩ := hd
  have c5 := h.head.cell (i := 5) rfl
  have c6 := h.head.cell (i := 6) rfl
  have z6 := h.head.free 6
  have l1 := h.ok.left1
  have l2 := h.ok.left2
  cases hf : M.fails
  · have ht : M.tick = M := by simp [DiskM.tick, hf]
    have hs : M.sinks = false := by simp [DiskM.sinks, hf]
    rw [hf] at c5
    rw [ht, hs]; clear ht hs hf
    go_enter Try.func82, Try.ntmps82
    go_wp2
    go_ret
    exact ⟨rfl, hd', Kept.refl _ _⟩
  · have hlv := hlive hf
    have htk : DiskAt (w.setCell ⟨d, 6, none⟩ (.int .i64 (M.left - 1))) d fp M.tick mb lv fs := by
      refine h.put 6 _ _ (by simp [DiskM.tick, hf]) (by simp [DiskM.tick, hf]) (h.ok.tick hlive) ?_
      simp [DiskM.cells, DiskM.tick, hf]
    have hs : M.sinks = decide (M.left - 1 < 0) := by simp only [DiskM.sinks, hf, Bool.true_and]; congr 1; apply propext; omega
    rw [hf] at c5
    rw [hs]; clear hs hf hlive
    go_enter Try.func82, Try.ntmps82
    go_wp2
    go_ret
    exact ⟨rfl, ⟨mb, lv, fs, htk⟩, kept_cell _ _ _ _⟩

theorem up_any (w : World) (hd : IsDisk w d fp M) : Calls Try.prog 51 #[.pointer (some ⟨d, 0, none⟩)] w fun e w' => e = .returned (.bool (!M.down)) ∧ w = w' := by
  cases hdn : M.down
  · have hr : M.ready = 0 := by simp [DiskM.ready, hdn]
    go_enter Try.func51, Try.ntmps51
    go_wp2_with (go_at_call 84; refine (ready_any _ hd).mono ?_; rw [hr]; rintro e w' ⟨rfl, rfl⟩)
    go_ret
    exact ⟨rfl, rfl⟩
  · have hr : M.ready = 61 := by simp [DiskM.ready, hdn]
    go_enter Try.func51, Try.ntmps51
    go_wp2_with (go_at_call 84; refine (ready_any _ hd).mono ?_; rw [hr]; rintro e w' ⟨rfl, rfl⟩)
    go_ret
    exact ⟨rfl, rfl⟩

/-- What Start makes of it. -/
def DiskM.start (M : DiskM) : DiskM := { M with down := false, starts := M.starts + 1 }
theorem start_up (w : World) (hd : IsDisk w d fp M) (hdn : M.down = false) : Calls Try.prog 52 #[.pointer (some ⟨d, 0, none⟩)] w fun e w' => e = .returned (.int .i64 2) ∧ w = w' := by
  obtain ⟨mb, lv, fs, h⟩ := hd
  have c0 := h.head.cell (i := 0) rfl
  have c3 := h.head.cell (i := 3) rfl
  rw [hdn] at c3
  clear hdn
  go_enter Try.func52, Try.ntmps52
  go_wp2_with (go_at_call 85; refine (disk_none_some _ _ _ c0).mono ?_; rintro e w' ⟨rfl, rfl⟩)
  go_ret
  exact ⟨rfl, rfl⟩
theorem start_down (w : World) (hd : IsDisk w d fp M) (hdn : M.down = true) (hs0 : 0 ≤ M.starts) (hs1 : M.starts < 9223372036854775807) : Calls Try.prog 52 #[.pointer (some ⟨d, 0, none⟩)] w fun e w' => e = .returned (.int .i64 0) ∧ IsDisk w' d fp M.start ∧ Kept (· = d) w w' := by
  obtain ⟨mb, lv, fs, h⟩ := hd
  have c0 := h.head.cell (i := 0) rfl
  have c3 := h.head.cell (i := 3) rfl
  have c4 := h.head.cell (i := 4) rfl
  have z3 := h.head.free 3
  have z4 := h.head.free 4
  have h1 := h.put 3 (.bool false) { M with down := false } rfl rfl ⟨h.ok.rise, h.ok.keys, h.ok.cap0, h.ok.cap1, h.ok.room, h.ok.lo, h.ok.loks, h.ok.left1, h.ok.left2, h.ok.count, h.ok.keepk⟩ rfl
  have h2 := h1.put 4 (.int .i64 (M.starts + 1)) M.start rfl rfl ⟨h.ok.rise, h.ok.keys, h.ok.cap0, h.ok.cap1, h.ok.room, h.ok.lo, h.ok.loks, h.ok.left1, h.ok.left2, h.ok.count, h.ok.keepk⟩ rfl
  rw [hdn] at c3
  clear hdn
  go_enter Try.func52, Try.ntmps52
  go_wp2_with (go_at_call 85; refine (disk_none_some _ _ _ c0).mono ?_; rintro e w' ⟨rfl, rfl⟩)
  go_ret
  exact ⟨rfl, ⟨mb, lv, fs, h2⟩, (kept_cell _ _ _ _).trans (kept_cell _ _ _ _)⟩
theorem start_no (w : World) (v : Value) (h : NoDisk w v) : Calls Try.prog 52 #[v] w fun e w' => e = .returned (.int .i64 1) ∧ w = w' := by
  have h' := h
  rcases h' with rfl | ⟨d, rfl, hc⟩
  all_goals
    go_enter Try.func52, Try.ntmps52
    go_wp2_with (go_at_call 85; refine (disk_none_no _ _ h).mono ?_; rintro e w' ⟨rfl, rfl⟩)
    go_ret
    exact ⟨rfl, rfl⟩

/-- How long a slice is. -/
def vlen : Value → Nat
  | .slice _ n _ => n
  | _ => 0
theorem DiskAt.vlens {w : World} {mb : Nat} {lv : Value} {fs : List (Int × Value)} (h : DiskAt w d fp M mb lv fs) : AM.sum vlen fs = M.total := by
  have hr := h.map.rise Try.underlying3
  have e : AM.vmap vlen fs = AM.vmap List.length M.files := by
    refine AM.ext (AM.rise_vmap hr _) (AM.rise_vmap h.ok.rise _) (fun n => ?_)
    rw [AM.get_vmap, AM.get_vmap]
    cases hg : AM.get M.files n with
    | none => rw [h.get_none hg]; rfl
    | some b =>
      obtain ⟨v, hv⟩ := h.get_some hg
      rw [hv]
      obtain ⟨a, m, cap, rfl, hm, _⟩ := (h.rows n v b hv hg).form (by omega)
      rw [bcells_len] at hm
      simp [vlen]; omega
  have e2 : ∀ {α : Type} (f : α → Nat) (m : List (Int × α)), AM.sum f m = AM.sum id (AM.vmap f m) := by
    intro α f m; simp [AM.sum, AM.vmap, Function.comp_def]
  unfold DiskM.total
  rw [e2 vlen, e2 List.length, e]

set_option maxHeartbeats 1000000 in
theorem free_any (w : World) (hd : IsDisk w d fp M) : Calls Try.prog 80 #[.pointer (some ⟨d, 0, none⟩)] w fun e w' => e = .returned (.int .i64 (M.cap - M.total)) ∧ Kept (fun _ => False) w w' := by
  obtain ⟨mb, lv, fs, h⟩ := hd
  have c0 := h.head.cell (i := 0) rfl
  have c2 := h.head.cell (i := 2) rfl
  have k0 := h.ok.cap0
  have k1 := h.ok.cap1
  have k2 := h.ok.room
  have hsum := h.vlens
  obtain ⟨w1, hrg, hR, hk1, hs1⟩ := h.map.range (t := 121) (e := 80) Try.underlying3 Try.underlying121
  have HS := Lib.hid hsum
  clear hsum
  go_enter Try.func80, Try.ntmps80
  go_wp2_with (go_at_call 85; refine (disk_none_some _ _ _ c0).mono ?_; rintro e w' ⟨rfl, rfl⟩)
  go_loopw [3] (fun x wr => ∃ todo, RangeI Try.prog 3 wr mb w.heap.size fs.length fs todo ∧ x = .int .i64 (M.cap - M.total + AM.sum vlen todo) ∧ AM.sum vlen todo ≤ M.total ∧ Kept (fun _ => False) w wr) (fun _ wr => wr.rangeLeft mb w.heap.size)
  case atStart => exact ⟨fs, hR, by rw [HS.out]; simp, by rw [HS.out]; exact Nat.le_refl _, hk1⟩
  case round =>
    obtain ⟨todo, hr, rfl, hle, hkept⟩ := hrel
    rcases hr.next Try.underlying3 0 with ⟨rfl, hrun⟩ | ⟨a, v, w2, hmem, _, hrun, hr', hlt, hk, hsz, hent⟩
    · go_wp2_with fail
      go_ret
      exact ⟨ret_int (by simp [AM.sum]), hkept⟩
    · have hgf : AM.get fs a = some v := (AM.get_some (h.map.rise Try.underlying3)).2 (hr.sub _ hmem)
      have hgt : AM.get todo a = some v := (AM.get_some (hr.rise Try.underlying3)).2 hmem
      have hsd := AM.sum_del vlen (hr.rise Try.underlying3) hgt
      have hks := h.keys a
      rw [hgf] at hks
      obtain ⟨b, hb⟩ := Option.isSome_iff_exists.1 hks.symm
      obtain ⟨x, m, cap, rfl, _, hm, _⟩ := (h.rows a v b hgf hb).form (by omega)
      have hvl : vlen (.slice x m cap) = m := rfl
      rw [hvl] at hsd
      have HSD := Lib.hid hsd
      have hmt : m ≤ M.total := by omega
      clear hgf hgt hsd hks hb hvl
      go_wp2_with fail
      go_roundw
      case rel => exact ⟨AM.del todo a, hr', by have := HSD.out; go_num, by have := HSD.out; omega, hkept.then_ hk (fun y hy he => by omega)⟩
      case measure => exact hlt
end
end Go.Proofs.Ytahiimcdmojngaa
