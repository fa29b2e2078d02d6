/- Timers: the comparison by which Due sorts. -/
import Derived.Test.YtahiimcdmojngaaTim1
import Derived.Test.YtahiimcdmojngaaShelfTim
namespace Go.Proofs.Ytahiimcdmojngaa
open Go.RowKit Go.Sort Go.Shelf

def Key : Type := {p : Int × Int // InR p}
instance : Inhabited Key := ⟨⟨(0, 0), by simp [InR]⟩⟩
def kcell (x : Key) : List Value := [.int .i64 x.1.1, .int .i64 x.1.2]
def or3 (x y z : Int) : Int := if x ≠ 0 then x else if y ≠ 0 then y else z
/-- How cmp.Or of the three comparisons goes. -/
def kcf (T : Tim) (x y : Key) : Int := or3 (Lib.compareInt ((PM.get T x.1).getD 0) ((PM.get T y.1).getD 0)) (Lib.compareInt x.1.1 y.1.1) (Lib.compareInt x.1.2 y.1.2)

theorem or_any (w : World) (b : Nat) (x y z : Int) (hb : Blk w b [.int .i64 x, .int .i64 y, .int .i64 z] 3) : Calls Try.prog 91 #[.slice (some ⟨b, 0, none⟩) 3 3] w fun e w' => e = .returned (.int .i64 (or3 x y z)) ∧ w = w' := by
  have c0 := hb.cell (i := 0) rfl
  have c1 := hb.cell (i := 1) rfl
  have c2 := hb.cell (i := 2) rfl
  by_cases hx : x = 0
  · subst hx
    by_cases hy : y = 0
    · subst hy
      have e : or3 0 0 z = z := by simp [or3]
      rw [e]; clear e
      by_cases hz : z = 0
      · subst hz
        go_enter Try.func91, Try.ntmps91
        go_wp2
        refine wp_loop_rounds 4 ?_
        rw [rounds_succ]
        go_wp2
        rw [rounds_succ]
        go_wp2
        rw [rounds_succ]
        go_wp2
        rw [rounds_succ]
        go_wp2
        go_ret
        exact ⟨rfl, rfl⟩
      · have hz' : (z == 0) = false := by simpa using hz
        have hz2 : (z != 0) = true := by simpa using hz
        go_enter Try.func91, Try.ntmps91
        go_wp2
        refine wp_loop_rounds 3 ?_
        rw [rounds_succ]
        go_wp2
        rw [rounds_succ]
        go_wp2
        rw [rounds_succ]
        go_wp2
        go_ret
        exact ⟨rfl, rfl⟩
    · have e : or3 0 y z = y := by simp [or3, hy]
      rw [e]; clear e
      have hz' : (y == 0) = false := by simpa using hy
      have hz2 : (y != 0) = true := by simpa using hy
      go_enter Try.func91, Try.ntmps91
      go_wp2
      refine wp_loop_rounds 2 ?_
      rw [rounds_succ]
      go_wp2
      rw [rounds_succ]
      go_wp2
      go_ret
      exact ⟨rfl, rfl⟩
  · have e : or3 x y z = x := by simp [or3, hx]
    rw [e]; clear e
    have hz' : (x == 0) = false := by simpa using hx
    have hz2 : (x != 0) = true := by simpa using hx
    go_enter Try.func91, Try.ntmps91
    go_wp2
    refine wp_loop_rounds 1 ?_
    rw [rounds_succ]
    go_wp2
    go_ret
    exact ⟨rfl, rfl⟩

theorem cmp_any (x y : Int) (w : World) : Calls Try.prog 92 #[.int .i64 x, .int .i64 y] w fun e w' => e = .returned (.int .i64 (Lib.compareInt x y)) ∧ w' = w := by
  have h := AnyG.cmp_Compare_int Try.cmpInt x y w
  change Calls Try.prog 92 _ _ _ at h
  exact h

theorem grow3 (W : World) (a b c : Obj) : (((W.alloc a).alloc b).alloc c).drew = grow (W.drewN 1) #[a, b, c] := by
  rw [alloc_eq_grow, alloc_eq_grow, alloc_eq_grow, grow_grow, grow_grow]
  rfl
set_option maxRecDepth 100000 in
set_option maxHeartbeats 1000000 in
theorem closure_any (W : World) (B t mb : Nat) (T : Tim) (x y : Key) (hB : W.cell? ⟨B, 0, none⟩ = some (.pointer (some ⟨t, 0, none⟩))) (hBl : B < W.heap.size) (h : IsTim W t mb T) :
    Calls Try.prog 90 #[.agg #[.int .i64 x.1.1, .int .i64 x.1.2], .agg #[.int .i64 y.1.1, .int .i64 y.1.2], .pointer (some ⟨B, 0, none⟩)] W fun e w' => e = .returned (.int .i64 (kcf T x y)) ∧ ∃ q os', w' = grow (W.drewN q) os' := by
  have h1 := (h.alloc (.cells #[.int .i64 x.1.1, .int .i64 x.1.2] 85)).alloc (.cells #[.int .i64 y.1.1, .int .i64 y.1.2] 85)
  have c0 := h1.head.cell (i := 0) rfl
  have hk2 : Kept (fun _ => False) W ((W.alloc (.cells #[.int .i64 x.1.1, .int .i64 x.1.2] 85)).alloc (.cells #[.int .i64 y.1.1, .int .i64 y.1.2] 85)) := ((Kept.refl _ _).alloc _).alloc _
  have cB : ((W.alloc (.cells #[.int .i64 x.1.1, .int .i64 x.1.2] 85)).alloc (.cells #[.int .i64 y.1.1, .int .i64 y.1.2] 85)).cell? ⟨B, 0, none⟩ = some (.pointer (some ⟨t, 0, none⟩)) := by
    rw [← hB]
    simp only [World.cell?, hk2.block B hBl id]
  have hl1 := (h1.map.drew).look (t := 104) (e := 3) pairKey Try.underlying104 (zeroInt18 _) x.2
  have hl2 := (h1.map.drew).look (t := 104) (e := 3) pairKey Try.underlying104 (zeroInt18 _) y.2
  rw [tvals_get] at hl1 hl2
  have e1 : ∀ o : Option Int, (o.map (Value.int .i64)).getD (.int .i64 0) = .int .i64 (o.getD 0) := fun o => by cases o <;> rfl
  rw [e1] at hl1 hl2
  unfold pv at hl1 hl2
  unfold kcf
  clear e1 h h1 hk2
  generalize (PM.get T x.1).getD 0 = a1 at *
  generalize (PM.get T y.1).getD 0 = a2 at *
  generalize x.1.1 = x1 at *
  generalize x.1.2 = x2 at *
  generalize y.1.1 = y1 at *
  generalize y.1.2 = y2 at *
  generalize hr1 : Lib.compareInt a1 a2 = r1
  generalize hr2 : Lib.compareInt x1 y1 = r2
  generalize hr3 : Lib.compareInt x2 y2 = r3
  have k1 := fun W => hr1 ▸ cmp_any a1 a2 W
  have k2 := fun W => hr2 ▸ cmp_any x1 y1 W
  have k3 := fun W => hr3 ▸ cmp_any x2 y2 W
  clear hr1 hr2 hr3
  have HB : Hid (Blk (((W.alloc (.cells #[.int .i64 x1, .int .i64 x2] 85)).alloc (.cells #[.int .i64 y1, .int .i64 y2] 85)).alloc (.cells #[.int .i64 r1, .int .i64 r2, .int .i64 r3] 3)).drew (W.heap.size + 1 + 1) [.int .i64 r1, .int .i64 r2, .int .i64 r3] 3) := Lib.hid (by
    have hb := Blk.new ((W.alloc (.cells #[.int .i64 x1, .int .i64 x2] 85)).alloc (.cells #[.int .i64 y1, .int .i64 y2] 85)) [.int .i64 r1, .int .i64 r2, .int .i64 r3] 3
    simp only [World.size_alloc] at hb
    exact hb.drew)
  go_enter Try.func90, Try.ntmps90
  go_wp2
  refine wp_region_tail 23 (by kernel_rfl) (by kernel_rfl) ?_
  simp only [List.take_succ_cons, List.take_zero, List.drop_succ_cons, List.drop_zero]
  iterate 12 still_step
  still_call (k1 _)
  iterate 4 still_step
  still_call (k2 _)
  iterate 4 still_step
  still_call (k3 _)
  refine wpStill_nil ?_
  go_wp2_with (go_at_call 91; refine (or_any _ _ r1 r2 r3 HB.out).mono ?_; rintro e w' ⟨rfl, rfl⟩)
  go_ret
  exact ⟨rfl, 1, _, grow3 _ _ _ _⟩
end Go.Proofs.Ytahiimcdmojngaa
