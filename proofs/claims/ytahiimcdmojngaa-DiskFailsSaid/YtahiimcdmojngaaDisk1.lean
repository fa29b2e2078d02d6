/- The disk in memory; the first contracts of package disk. -/
import Derived.Test.YtahiimcdmojngaaDiskM
import Derived.Test.YtahiimcdmojngaaMap
import Derived.Test.YtahiimcdmojngaaRow
namespace Go.Proofs.Ytahiimcdmojngaa
open Go.RowKit

def bcells (l : List UInt8) : List Value := l.map fun b => .int .u8 b.toNat
def pcells (l : List (Int × Nat)) : List Value := l.flatMap fun p => [.int .i64 p.1, .int .i64 (p.2 : Int)]
theorem bcells_len (l : List UInt8) : (bcells l).length = l.length := by simp [bcells]
theorem pcells_len (l : List (Int × Nat)) : (pcells l).length = l.length * 2 := by
  induction l with
  | nil => rfl
  | cons a r ih => simp only [pcells, List.flatMap_cons, List.length_append, List.length_cons, List.length_nil] at *; omega
theorem pcells_get (l : List (Int × Nat)) (i : Nat) (p : Int × Nat) (h : l[i]? = some p) : (pcells l)[i * 2]? = some (.int .i64 p.1) ∧ (pcells l)[i * 2 + 1]? = some (.int .i64 (p.2 : Int)) := by
  induction l generalizing i with
  | nil => simp at h
  | cons a r ih =>
    have e : pcells (a :: r) = [.int .i64 a.1, .int .i64 (a.2 : Int)] ++ pcells r := by simp [pcells]
    rw [e]
    cases i with
    | zero => simp at h; subst h; simp
    | succ i =>
      have := ih i (by simpa using h)
      rw [List.getElem?_append_right (by simp; omega), List.getElem?_append_right (by simp; omega)]
      rw [show (i + 1) * 2 - [Value.int .i64 a.1, Value.int .i64 (a.2 : Int)].length = i * 2 by simp; omega, show (i + 1) * 2 + 1 - [Value.int .i64 a.1, Value.int .i64 (a.2 : Int)].length = i * 2 + 1 by simp; omega]
      exact this

/-- The disk at block d: mb: the block of the map of files; lv: the list of loose pieces; fs: the files' slices. fp: all blocks that it is made of. -/
structure DiskRaw (w : World) (d : Nat) (fp : Nat → Prop) (M : DiskM) (mb : Nat) (lv : Value) (fs : List (Int × Value)) : Prop where
  head : Blk w d [.map (some mb), lv, .int .i64 M.cap, .bool M.down, .int .i64 M.starts, .bool M.fails, .int .i64 M.left, .int .i64 M.keep] 124
  map : MapI Try.prog 3 w mb fs.length fs
  keys : ∀ n, (AM.get fs n).isSome = (AM.get M.files n).isSome
  rows : ∀ n v b, AM.get fs n = some v → AM.get M.files n = some b → Row w 5 1 v (bcells b)
  apart : ∀ n n' v v' k, AM.get fs n = some v → AM.get fs n' = some v' → v.ownBlock = some k → v'.ownBlock = some k → n = n'
  loose : Row w 126 2 lv (pcells M.loose)
  fpd : fp d
  fpm : fp mb
  fpl : ∀ k, lv.ownBlock = some k → fp k
  fpf : ∀ n v k, AM.get fs n = some v → v.ownBlock = some k → fp k

structure DiskAt (w : World) (d : Nat) (fp : Nat → Prop) (M : DiskM) (mb : Nat) (lv : Value) (fs : List (Int × Value)) : Prop extends DiskRaw w d fp M mb lv fs where
  ok : M.Ok

def IsDisk (w : World) (d : Nat) (fp : Nat → Prop) (M : DiskM) : Prop := ∃ mb lv fs, DiskAt w d fp M mb lv fs

section
variable {w w' : World} {d mb : Nat} {fp S : Nat → Prop} {M : DiskM} {lv : Value} {fs : List (Int × Value)}
theorem DiskRaw.kept (h : DiskRaw w d fp M mb lv fs) (hk : Kept S w w') (hS : ∀ x, fp x → ¬ S x) : DiskRaw w' d fp M mb lv fs :=
  ⟨h.head.kept hk (hS _ h.fpd), h.map.kept hk (hS _ h.fpm), h.keys, fun n v b h1 h2 => (h.rows n v b h1 h2).kept hk (fun k hv => hS _ (h.fpf n v k h1 hv)), h.apart, h.loose.kept hk (fun k hv => hS _ (h.fpl k hv)), h.fpd, h.fpm, h.fpl, h.fpf⟩
theorem DiskAt.kept (h : DiskAt w d fp M mb lv fs) (hk : Kept S w w') (hS : ∀ x, fp x → ¬ S x) : DiskAt w' d fp M mb lv fs := ⟨h.toDiskRaw.kept hk hS, h.ok⟩
theorem IsDisk.kept (h : IsDisk w d fp M) (hk : Kept S w w') (hS : ∀ x, fp x → ¬ S x) : IsDisk w' d fp M := by
  obtain ⟨mb, lv, fs, h⟩ := h; exact ⟨mb, lv, fs, h.kept hk hS⟩
theorem IsDisk.alloc (h : IsDisk w d fp M) (o : Obj) : IsDisk (w.alloc o) d fp M := h.kept (S := fun _ => False) ((Kept.refl _ _).alloc o) (fun _ _ => id)
theorem IsDisk.drew (h : IsDisk w d fp M) : IsDisk w.drew d fp M := h.kept (S := fun _ => False) (Kept.refl _ _).drew (fun _ _ => id)
theorem IsDisk.drewN (h : IsDisk w d fp M) (n : Nat) : IsDisk (w.drewN n) d fp M := h.kept (S := fun _ => False) ((Kept.refl _ _).drewN n) (fun _ _ => id)
theorem IsDisk.mono {fp' : Nat → Prop} (h : IsDisk w d fp M) (hf : ∀ x, fp x → fp' x) : IsDisk w d fp' M := by
  obtain ⟨mb, lv, fs, h⟩ := h
  exact ⟨mb, lv, fs, ⟨h.head, h.map, h.keys, h.rows, h.apart, h.loose, hf _ h.fpd, hf _ h.fpm, fun k hk => hf _ (h.fpl k hk), fun n v k h1 h2 => hf _ (h.fpf n v k h1 h2)⟩, h.ok⟩
theorem IsDisk.ok (h : IsDisk w d fp M) : M.Ok := by obtain ⟨mb, lv, fs, h⟩ := h; exact h.ok
theorem DiskRaw.get_some (h : DiskRaw w d fp M mb lv fs) {n : Int} {b : List UInt8} (hg : AM.get M.files n = some b) : ∃ v, AM.get fs n = some v := by
  have := h.keys n
  rw [hg] at this
  exact Option.isSome_iff_exists.1 this
theorem DiskRaw.get_none (h : DiskRaw w d fp M mb lv fs) {n : Int} (hg : AM.get M.files n = none) : AM.get fs n = none := by
  have := h.keys n
  rw [hg] at this
  simpa using this
end

/-- What is wrong with a disk, as ready says. -/
def DiskM.ready (M : DiskM) : Int := if M.down = true then 61 else 0
/-- What is wrong with a file, as has says. -/
def DiskM.has (M : DiskM) (n : Int) : Int := if M.down = true then 61 else if (AM.get M.files n).isSome = true then 0 else 4

theorem disk_none_nil (w : World) : Calls Try.prog 85 #[.pointer none] w fun e w' => e = .returned (.bool true) ∧ w = w' := by
  go_enter Try.func85, Try.ntmps85
  go_wp2
  go_ret
  exact ⟨rfl, rfl⟩
theorem disk_none_empty (w : World) (d : Nat) (h : w.cell? ⟨d, 0, none⟩ = some (.map none)) : Calls Try.prog 85 #[.pointer (some ⟨d, 0, none⟩)] w fun e w' => e = .returned (.bool true) ∧ w = w' := by
  have hm := fun w => run_eql_map_nil (P := Try.prog) w 121 3 80 none Try.underlying121
  go_enter Try.func85, Try.ntmps85
  go_wp2
  go_ret
  exact ⟨rfl, rfl⟩
theorem disk_none_some (w : World) (d mb : Nat) (h : w.cell? ⟨d, 0, none⟩ = some (.map (some mb))) : Calls Try.prog 85 #[.pointer (some ⟨d, 0, none⟩)] w fun e w' => e = .returned (.bool false) ∧ w = w' := by
  have hm := fun w => run_eql_map_nil (P := Try.prog) w 121 3 80 (some mb) Try.underlying121
  go_enter Try.func85, Try.ntmps85
  go_wp2
  go_ret
  exact ⟨rfl, rfl⟩

/-- A pointer to a disk that is none: nil, or one without a map. -/
def NoDisk (w : World) (v : Value) : Prop := v = .pointer none ∨ ∃ d, v = .pointer (some ⟨d, 0, none⟩) ∧ w.cell? ⟨d, 0, none⟩ = some (.map none)
theorem disk_none_no (w : World) (v : Value) (h : NoDisk w v) : Calls Try.prog 85 #[v] w fun e w' => e = .returned (.bool true) ∧ w = w' := by
  rcases h with rfl | ⟨d, rfl, hc⟩
  · exact disk_none_nil w
  · exact disk_none_empty w d hc
theorem ready_no (w : World) (v : Value) (h : NoDisk w v) : Calls Try.prog 84 #[v] w fun e w' => e = .returned (.int .i64 1) ∧ w = w' := by
  have h' := h
  rcases h' with rfl | ⟨d, rfl, hc⟩
  all_goals
    go_enter Try.func84, Try.ntmps84
    go_wp2_with (go_at_call 85; refine (disk_none_no _ _ h).mono ?_; rintro e w' ⟨rfl, rfl⟩)
    go_ret
    exact ⟨rfl, rfl⟩

section
variable {d : Nat} {fp : Nat → Prop} {M : DiskM}
theorem ready_any (w : World) (hd : IsDisk w d fp M) : Calls Try.prog 84 #[.pointer (some ⟨d, 0, none⟩)] w fun e w' => e = .returned (.int .i64 M.ready) ∧ w = w' := by
  obtain ⟨mb, lv, fs, h⟩ := hd
  have c0 := h.head.cell (i := 0) rfl
  have c3 := h.head.cell (i := 3) rfl
  cases hdn : M.down
  · rw [hdn] at c3
    have hr : M.ready = 0 := by simp [DiskM.ready, hdn]
    rw [hr]; clear hr hdn
    go_enter Try.func84, Try.ntmps84
    go_wp2_with (go_at_call 85; refine (disk_none_some _ _ _ c0).mono ?_; rintro e w' ⟨rfl, rfl⟩)
    go_ret
    exact ⟨rfl, rfl⟩
  · rw [hdn] at c3
    have hr : M.ready = 61 := by simp [DiskM.ready, hdn]
    rw [hr]; clear hr hdn
    go_enter Try.func84, Try.ntmps84
    go_wp2_with (go_at_call 85; refine (disk_none_some _ _ _ c0).mono ?_; rintro e w' ⟨rfl, rfl⟩)
    go_ret
    exact ⟨rfl, rfl⟩

theorem zeroBytes (w : World) : (zeroValue 80).run Try.prog w = .ok (.slice none 0 0) w := by kernel_rfl

theorem has_any (w : World) (n : Int) (n0 : -9223372036854775808 ≤ n ∧ n ≤ 9223372036854775807) (hd : IsDisk w d fp M) : Calls Try.prog 81 #[.pointer (some ⟨d, 0, none⟩), .int .i64 n] w fun e w' => e = .returned (.int .i64 (M.has n)) ∧ w = w' := by
  have hd' := hd
  obtain ⟨mb, lv, fs, h⟩ := hd
  have c0 := h.head.cell (i := 0) rfl
  have hl := h.map.look_ok (t := 121) (e := 80) Try.underlying3 Try.underlying121 (zeroBytes w) n0
  rw [h.keys n] at hl
  cases hdn : M.down
  · have hr : M.ready = 0 := by simp [DiskM.ready, hdn]
    cases hg : (AM.get M.files n).isSome
    · have hh : M.has n = 4 := by simp [DiskM.has, hdn, hg]
      rw [hg] at hl
      rw [hh]; clear hh hdn hg
      go_enter Try.func81, Try.ntmps81
      go_wp2_with (go_at_call 84; refine (ready_any _ hd').mono ?_; rw [hr]; rintro e w' ⟨rfl, rfl⟩)
      go_ret
      exact ⟨rfl, rfl⟩
    · have hh : M.has n = 0 := by simp [DiskM.has, hdn, hg]
      rw [hg] at hl
      rw [hh]; clear hh hdn hg
      go_enter Try.func81, Try.ntmps81
      go_wp2_with (go_at_call 84; refine (ready_any _ hd').mono ?_; rw [hr]; rintro e w' ⟨rfl, rfl⟩)
      go_ret
      exact ⟨rfl, rfl⟩
  · have hr : M.ready = 61 := by simp [DiskM.ready, hdn]
    have hh : M.has n = 61 := by simp [DiskM.has, hdn]
    rw [hh]; clear hh hdn
    go_enter Try.func81, Try.ntmps81
    go_wp2_with (go_at_call 84; refine (ready_any _ hd').mono ?_; rw [hr]; rintro e w' ⟨rfl, rfl⟩)
    go_ret
    exact ⟨rfl, rfl⟩
theorem has_no (w : World) (v : Value) (n : Int) (h : NoDisk w v) : Calls Try.prog 81 #[v, .int .i64 n] w fun e w' => e = .returned (.int .i64 1) ∧ w = w' := by
  have h' := h
  rcases h' with rfl | ⟨d, rfl, hc⟩
  all_goals
    go_enter Try.func81, Try.ntmps81
    go_wp2_with (go_at_call 84; refine (ready_no _ _ h).mono ?_; rintro e w' ⟨rfl, rfl⟩)
    go_ret
    exact ⟨rfl, rfl⟩
end
end Go.Proofs.Ytahiimcdmojngaa
