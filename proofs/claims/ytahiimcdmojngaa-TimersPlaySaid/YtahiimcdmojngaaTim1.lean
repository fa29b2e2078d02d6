/- Timers in memory; the first contracts of package timers: New, none, Set, Clear, At. -/
import Derived.Test.YtahiimcdmojngaaPMap
import Derived.Test.YtahiimcdmojngaaRow
namespace Go.Proofs.Ytahiimcdmojngaa
open Go.RowKit

theorem pairKey : PKey Try.prog 85 := PKey.of (e := 3) ⟨Try.underlying85, by kernel_rfl, by kernel_rfl, by kernel_rfl⟩ Try.underlying3 ⟨Try.prog.types.size - 1, by kernel_rfl⟩
theorem zeroInt18 (w : World) : (zeroValue 3).run Try.prog w = .ok (.int .i64 0) w := by kernel_rfl

abbrev Tim := List ((Int × Int) × Int)
def tvals (T : Tim) : List ((Int × Int) × Value) := T.map fun p => (p.1, .int .i64 p.2)
theorem tvals_get (T : Tim) (k : Int × Int) : PM.get (tvals T) k = (PM.get T k).map (Value.int .i64) := by
  unfold tvals PM.get
  rw [List.find?_map]
  simp [Function.comp_def]
theorem tvals_del (T : Tim) (k : Int × Int) : PM.del (tvals T) k = tvals (PM.del T k) := by
  unfold tvals PM.del
  rw [List.filter_map]
  rfl
theorem tvals_set (T : Tim) (k : Int × Int) (v : Int) : PM.set (tvals T) k (.int .i64 v) = tvals (PM.set T k v) := by
  unfold PM.set
  rw [tvals_del]
  rfl
theorem tvals_len (T : Tim) : (tvals T).length = T.length := by simp [tvals]
def I64 (a : Int) : Prop := -9223372036854775808 ≤ a ∧ a ≤ 9223372036854775807

/-- The timers at block t, whose map is the block mb: those of T. -/
structure IsTim (w : World) (t mb : Nat) (T : Tim) : Prop where
  head : Blk w t [.map (some mb)] 106
  map : MapP Try.prog 85 w mb T.length (tvals T)
  vals : ∀ p ∈ T, I64 p.2
section
variable {w w' : World} {t mb : Nat} {T : Tim} {S : Nat → Prop}
theorem IsTim.kept (h : IsTim w t mb T) (hk : Kept S w w') (h1 : ¬ S t) (h2 : ¬ S mb) : IsTim w' t mb T := ⟨h.head.kept hk h1, h.map.kept hk h2, h.vals⟩
theorem IsTim.alloc (h : IsTim w t mb T) (o : Obj) : IsTim (w.alloc o) t mb T := h.kept (S := fun _ => False) ((Kept.refl _ _).alloc o) id id
theorem IsTim.drew (h : IsTim w t mb T) : IsTim w.drew t mb T := ⟨h.head.drew, h.map.drew, h.vals⟩
theorem IsTim.perm {T' : Tim} (h : IsTim w t mb T) (hp : T.Perm T') : IsTim w t mb T' :=
  ⟨h.head, by rw [← hp.length_eq]; exact h.map.perm (hp.map _), fun p hm => h.vals p (hp.mem_iff.2 hm)⟩
theorem IsTim.ne (h : IsTim w t mb T) : mb ≠ t := h.map.ne_blk h.head
theorem IsTim.nd (h : IsTim w t mb T) : PM.Nd T := by
  have := h.map.nd
  unfold PM.Nd tvals at this
  rw [List.pairwise_map] at this
  exact this
theorem IsTim.inr (h : IsTim w t mb T) : ∀ p ∈ T, InR p.1 := by
  intro p hp
  exact h.map.inr (p.1, .int .i64 p.2) (List.mem_map.2 ⟨p, hp, rfl⟩)
theorem IsTim.lt_t (h : IsTim w t mb T) : t < w.heap.size := h.head.lt
theorem IsTim.lt_m (h : IsTim w t mb T) : mb < w.heap.size := h.map.lt
theorem PM.get_mem {α : Type} {T : List ((Int × Int) × α)} {k : Int × Int} {v : α} (h : PM.get T k = some v) : (k, v) ∈ T := by
  unfold PM.get at h
  rw [Option.map_eq_some_iff] at h
  obtain ⟨p, hp, rfl⟩ := h
  have h1 := List.mem_of_find?_eq_some hp
  have h2 := List.find?_some hp
  simp at h2
  subst h2
  exact h1
theorem IsTim.val (h : IsTim w t mb T) (k : Int × Int) : I64 ((PM.get T k).getD 0) := by
  cases hg : PM.get T k with
  | none => simp [I64]
  | some v => exact h.vals _ (PM.get_mem hg)
end

theorem tim_none_nil (w : World) : Calls Try.prog 88 #[.pointer none] w fun e w' => e = .returned (.bool true) ∧ w = w' := by
  go_enter Try.func88, Try.ntmps88
  go_wp2
  go_ret
  exact ⟨rfl, rfl⟩
theorem tim_none_empty (w : World) (d : Nat) (h : w.cell? ⟨d, 0, none⟩ = some (.map none)) : Calls Try.prog 88 #[.pointer (some ⟨d, 0, none⟩)] w fun e w' => e = .returned (.bool true) ∧ w = w' := by
  have hm := fun w => run_eql_map_nil (P := Try.prog) w 104 85 3 none Try.underlying104
  go_enter Try.func88, Try.ntmps88
  go_wp2
  go_ret
  exact ⟨rfl, rfl⟩
theorem tim_none_some (w : World) (d mb : Nat) (h : w.cell? ⟨d, 0, none⟩ = some (.map (some mb))) : Calls Try.prog 88 #[.pointer (some ⟨d, 0, none⟩)] w fun e w' => e = .returned (.bool false) ∧ w = w' := by
  have hm := fun w => run_eql_map_nil (P := Try.prog) w 104 85 3 (some mb) Try.underlying104
  go_enter Try.func88, Try.ntmps88
  go_wp2
  go_ret
  exact ⟨rfl, rfl⟩
/-- A pointer to a table that is none: nil, or one without a map. -/
def NoTim (w : World) (v : Value) : Prop := v = .pointer none ∨ ∃ d, v = .pointer (some ⟨d, 0, none⟩) ∧ w.cell? ⟨d, 0, none⟩ = some (.map none)
theorem tim_none_no (w : World) (v : Value) (h : NoTim w v) : Calls Try.prog 88 #[v] w fun e w' => e = .returned (.bool true) ∧ w = w' := by
  rcases h with rfl | ⟨d, rfl, hc⟩
  · exact tim_none_nil w
  · exact tim_none_empty w d hc

/-- New timers. -/
def NewTim (w : World) (e : Ending) (w' : World) : Prop := ∃ t mb, e = .returned (.pointer (some ⟨t, 0, none⟩)) ∧ IsTim w' t mb [] ∧ Kept (fun _ => False) w w' ∧ w.heap.size ≤ t ∧ w.heap.size ≤ mb
theorem tim_new (w : World) : Calls Try.prog 56 #[] w (NewTim w) := by
  have hmm := @run_makeMap Try.prog
  go_enter Try.func56, Try.ntmps56
  go_wp2
  go_ret
  refine ⟨w.heap.size + 1, w.heap.size, rfl, ⟨?_, ?_, fun p hp => by simp at hp⟩, ((Kept.refl _ _).alloc _).alloc _, by omega, Nat.le_refl _⟩
  · have hz : (w.alloc (.map #[] 0)).heap.size = w.heap.size + 1 := by show (w.heap.push _).size = _; rw [Array.size_push]
    have hb := Blk.new (w.alloc (.map #[] 0)) [.map (some w.heap.size)] 106
    rw [hz] at hb
    exact hb
  · exact (MapP.made w Try.prog 85).alloc _

section
variable {t mb : Nat} {T : Tim}
set_option maxRecDepth 100000 in
set_option maxHeartbeats 400000 in
theorem tim_set (w : World) (k : Int × Int) (at' : Int) (hk : InR k) (ha : I64 at') (hn : T.length < 1000000000) (h : IsTim w t mb T) :
    Calls Try.prog 57 #[.pointer (some ⟨t, 0, none⟩), .agg #[.int .i64 k.1, .int .i64 k.2], .int .i64 at'] w fun e w' => e = .returned (.tuple #[]) ∧ IsTim w' t mb (PM.set T k at') ∧ Kept (· = mb) w w' := by
  have hml : maxLen = 9223372036854775807 := rfl
  have h1 := h.alloc (.cells #[.int .i64 k.1, .int .i64 k.2] 85)
  have c0 := h1.head.cell (i := 0) rfl
  obtain ⟨w2, hst, hm2, hk2, hs2⟩ := (h1.map.drew).store (t := 104) (e := 3) pairKey Try.underlying104 (by omega) hk (.int .i64 at')
  rw [tvals_set] at hm2
  have hne := h.ne
  have hT : IsTim w2 t mb (PM.set T k at') := by
    refine ⟨(h1.head.drew).kept hk2 (fun e => hne e.symm), ?_, fun p hp => ?_⟩
    · have := hm2.tight
      rwa [tvals_len] at this
    · unfold PM.set at hp
      rcases List.mem_cons.1 hp with rfl | hp
      · exact ha
      · exact h.vals p (PM.mem_del.1 hp).1
  have HT := Lib.hid (And.intro hT (((Kept.refl _ _).alloc _ |>.drew).then_ hk2 (fun i _ e => e)))
  unfold pv at hst
  clear hm2 hk2 hs2 hT
  go_enter Try.func57, Try.ntmps57
  go_wp2_with (go_at_call 88; refine (tim_none_some _ _ _ c0).mono ?_; rintro e w' ⟨rfl, rfl⟩)
  refine wp_region_tail 6 (by kernel_rfl) (by kernel_rfl) ?_
  simp only [List.take_succ_cons, List.take_zero, List.drop_succ_cons, List.drop_zero]
  repeat still_step
  refine wpStill_nil ?_
  go_wp2
  go_end0
  exact ⟨rfl, HT.out.1, HT.out.2⟩
set_option maxRecDepth 100000 in
set_option maxHeartbeats 400000 in
theorem tim_clear (w : World) (k : Int × Int) (hk : InR k) (h : IsTim w t mb T) :
    Calls Try.prog 60 #[.pointer (some ⟨t, 0, none⟩), .agg #[.int .i64 k.1, .int .i64 k.2]] w fun e w' => e = .returned (.tuple #[]) ∧ IsTim w' t mb (PM.del T k) ∧ Kept (· = mb) w w' := by
  have h1 := h.alloc (.cells #[.int .i64 k.1, .int .i64 k.2] 85)
  have c0 := h1.head.cell (i := 0) rfl
  obtain ⟨w2, hst, hm2, hk2, hs2⟩ := (h1.map.drew).drop (t := 104) (e := 3) pairKey Try.underlying104 hk 0
  rw [tvals_del] at hm2
  have hne := h.ne
  have hT : IsTim w2 t mb (PM.del T k) := by
    refine ⟨(h1.head.drew).kept hk2 (fun e => hne e.symm), ?_, fun p hp => h.vals p (PM.mem_del.1 hp).1⟩
    have := hm2.tight
    rwa [tvals_len] at this
  have HT := Lib.hid (And.intro hT (((Kept.refl _ _).alloc _ |>.drew).then_ hk2 (fun i _ e => e)))
  unfold pv at hst
  clear hm2 hk2 hs2 hT
  go_enter Try.func60, Try.ntmps60
  go_wp2_with (go_at_call 88; refine (tim_none_some _ _ _ c0).mono ?_; rintro e w' ⟨rfl, rfl⟩)
  refine wp_region_tail 5 (by kernel_rfl) (by kernel_rfl) ?_
  simp only [List.take_succ_cons, List.take_zero, List.drop_succ_cons, List.drop_zero]
  repeat still_step
  refine wpStill_nil ?_
  go_wp2
  go_end0
  exact ⟨rfl, HT.out.1, HT.out.2⟩
set_option maxRecDepth 100000 in
set_option maxHeartbeats 400000 in
theorem tim_at (w : World) (k : Int × Int) (hk : InR k) (h : IsTim w t mb T) :
    Calls Try.prog 59 #[.pointer (some ⟨t, 0, none⟩), .agg #[.int .i64 k.1, .int .i64 k.2]] w fun e w' => e = .returned (.tuple #[.int .i64 ((PM.get T k).getD 0), .bool (PM.get T k).isSome]) ∧ Kept (fun _ => False) w w' := by
  have h1 := h.alloc (.cells #[.int .i64 k.1, .int .i64 k.2] 85)
  have c0 := h1.head.cell (i := 0) rfl
  have hl := fun n => (h1.map.drewN n).look_ok (t := 104) (e := 3) pairKey Try.underlying104 (zeroInt18 _) hk
  rw [tvals_get] at hl
  unfold pv at hl
  have hl' : ∀ n, (Instr.lookup 104 (.map (some mb)) (.agg #[.int .i64 k.1, .int .i64 k.2]) true).run Try.prog ((w.alloc (.cells #[.int .i64 k.1, .int .i64 k.2] 85)).drewN n) = .ok (.tuple #[.int .i64 ((PM.get T k).getD 0), .bool (PM.get T k).isSome]) ((w.alloc (.cells #[.int .i64 k.1, .int .i64 k.2] 85)).drewN n) := by
    intro n
    rw [hl n]
    cases PM.get T k <;> rfl
  clear hl
  generalize (PM.get T k).getD 0 = x at hl' ⊢
  generalize (PM.get T k).isSome = y at hl' ⊢
  go_enter Try.func59, Try.ntmps59
  go_wp2_with (go_at_call 88; refine (tim_none_some _ _ _ c0).mono ?_; rintro e w' ⟨rfl, rfl⟩)
  go_quiet (fail)
  go_wp2
  refine bodyPost_ret (v := .tuple #[.int .i64 x, .bool y]) (by simp [results, Try.results59, go_sem]) rfl ⟨rfl, ?_⟩
  exact ((Kept.refl _ _).alloc _).drewN _
end
end Go.Proofs.Ytahiimcdmojngaa
