/- Timers: the document's answer of Set. -/
import Derived.Test.YtahiimcdmojngaaRef18b
namespace Go.Proofs.Ytahiimcdmojngaa
open Go.RowKit

theorem step_append_run' {P : Program} {w : World} {ops : Array Oper} {o : Oper} {a : Act} {K : Act → World → Prop} {Q : Exit → Act → World → Prop} {E : Prop} (hgd : o.guard = none) (s x : Operand) (t tn : TypeId)
    (ho : o.op = .call { callee := .builtin .append, args := #[s, x], argTypes := #[t, tn] }) (vs vx : Value) (hs : a.eval s = vs) (hx : a.eval x = vx)
    (v' : Value) (w' : World) (hr : (Builtin.append_ #[t, tn] o.type #[vs, vx]).run P w = .ok v' w') (h : K (a.put o.dst v') w') :
    if Region.wanted o (yielded ops a.tmps) = true then Oper.wp P o a w K Q else E := by
  have hw : Region.wanted o (yielded ops a.tmps) = true := by simp [Region.wanted, hgd]
  rw [if_pos hw]
  exact Lib.wp_append_run w s x t tn ho vs vx hs hx v' w' hr h
/-- The three appends of Set, one behind the other. -/
theorem setRun {w : World} {a : Option Addr} {n cap xb : Nat} {l : Tim} (x : (Int × Int) × Int) (hl : l.length < 900000) (hv : View w 3 (.slice a n cap) (tcells l)) (hx : Blk w xb [.int .i64 x.1.1, .int .i64 x.1.2, .int .i64 x.2] 136) (i : Nat) (hi : i ≤ n) :
    ∃ a1 n1 c1 w1 a2 n2 c2 w2 a3 n3 c3 w3,
      (Builtin.append_ #[92, 92] 92 #[.slice none 0 0, .slice a i cap]).run Try.prog w = .ok (.slice a1 n1 c1) w1 ∧
      (Builtin.append_ #[92, 92] 92 #[.slice a1 n1 c1, .slice (some ⟨w1.heap.size, 0, none⟩) 1 1]).run Try.prog (w1.alloc (.cells #[.int .i64 x.1.1, .int .i64 x.1.2, .int .i64 x.2] 136)) = .ok (.slice a2 n2 c2) w2 ∧
      (Builtin.append_ #[92, 92] 92 #[.slice a2 n2 c2, .slice (if cap = i then a else a.map (·.add (i * 3))) (n - i) (cap - i)]).run Try.prog w2 = .ok (.slice a3 n3 c3) w3 ∧
      (Blk w1 xb [.int .i64 x.1.1, .int .i64 x.1.2, .int .i64 x.2] 136 ∧ Blk w2 xb [.int .i64 x.1.1, .int .i64 x.1.2, .int .i64 x.2] 136 ∧ Blk w3 xb [.int .i64 x.1.1, .int .i64 x.1.2, .int .i64 x.2] 136) ∧ NewTims w (l.take i ++ x :: l.drop i) (.returned (.slice a3 n3 c3)) w3 := by
  have hlen : n = l.length := by
    obtain ⟨_, n', _, hv', h1, _⟩ := hv
    cases hv'
    rw [tcells_len] at h1
    omega
  have t1 : tcells (l.take i) = (tcells l).take (i * 3) := by
    have h1 : tcells l = tcells (l.take i) ++ tcells (l.drop i) := by rw [← tcells_append, List.take_append_drop]
    rw [h1, List.take_left' (by rw [tcells_len, List.length_take]; omega)]
  have t2 : tcells (l.drop i) = (tcells l).drop (i * 3) := by
    have h1 : tcells l = tcells (l.take i) ++ tcells (l.drop i) := by rw [← tcells_append, List.take_append_drop]
    rw [h1, List.drop_left' (by rw [tcells_len, List.length_take]; omega)]
  have v1 := hv.head i hi
  have v2 := hv.tail i hi
  rw [← t1] at v1
  rw [← t2] at v2
  obtain ⟨a1, n1, c1, w1, r1, row1, k1, f1⟩ := timAppendAll (L := []) (by rw [List.length_take]; simp; omega) (Row.nil w _ _) v1
  rw [List.nil_append] at row1
  have k1' : Kept (fun _ => False) w w1 := k1.mono (fun x _ e => by simp [Value.ownBlock] at e)
  obtain ⟨a2, n2, c2, w2, r2, row2, k2, f2⟩ := timAppend x (by rw [List.length_take]; omega) row1
  have hk02 : Kept (fun _ => False) w w2 := k1'.then_ k2 (fun y hy e => by
    rcases f1 y e with q | q
    · simp [Value.ownBlock] at q
    · omega)
  obtain ⟨a3, n3, c3, w3, r3, row3, k3, f3⟩ := timAppendAll (by simp; omega) row2 (v2.same hk02 (by omega))
  have hlow2 : ∀ y, (Value.slice a2 n2 c2).ownBlock = some y → w.heap.size ≤ y := fun y e => by
    rcases f2 y e with q | q
    · rcases f1 y q with q | q
      · simp [Value.ownBlock] at q
      · exact q
    · have := k1'.size; omega
  have hk03 : Kept (fun _ => False) w w3 := hk02.then_ k3 (fun y hy e => by have := hlow2 y e; omega)
  refine ⟨a1, n1, c1, w1, a2, n2, c2, w2, a3, n3, c3, w3, r1, r2, r3, ⟨hx.kept k1' id, hx.kept hk02 id, hx.kept hk03 id⟩, a3, n3, c3, rfl, ?_, fun y e => ?_, hk03⟩
  · rw [List.append_assoc] at row3; exact row3
  · rcases f3 y e with q | q
    · exact hlow2 y q
    · have := hk02.size; omega

/-- The same, the one timer's slice made first. -/
theorem setRunB {w : World} {a : Option Addr} {n cap xb : Nat} {l : Tim} (x : (Int × Int) × Int) (hl : l.length < 900000) (hv : View w 3 (.slice a n cap) (tcells l)) (hx : Blk w xb [.int .i64 x.1.1, .int .i64 x.1.2, .int .i64 x.2] 136) (i : Nat) (hi : i ≤ n) :
    ∃ a1 n1 c1 w1 a2 n2 c2 w2 a3 n3 c3 w3,
      (Builtin.append_ #[92, 92] 92 #[.slice none 0 0, .slice a i cap]).run Try.prog (w.alloc (.cells #[.int .i64 x.1.1, .int .i64 x.1.2, .int .i64 x.2] 136)) = .ok (.slice a1 n1 c1) w1 ∧
      (Builtin.append_ #[92, 92] 92 #[.slice a1 n1 c1, .slice (some ⟨w.heap.size, 0, none⟩) 1 1]).run Try.prog w1 = .ok (.slice a2 n2 c2) w2 ∧
      (Builtin.append_ #[92, 92] 92 #[.slice a2 n2 c2, .slice (if cap = i then a else a.map (·.add (i * 3))) (n - i) (cap - i)]).run Try.prog w2 = .ok (.slice a3 n3 c3) w3 ∧
      (Blk w1 xb [.int .i64 x.1.1, .int .i64 x.1.2, .int .i64 x.2] 136 ∧ Blk w2 xb [.int .i64 x.1.1, .int .i64 x.1.2, .int .i64 x.2] 136 ∧ Blk w3 xb [.int .i64 x.1.1, .int .i64 x.1.2, .int .i64 x.2] 136) ∧ NewTims w (l.take i ++ x :: l.drop i) (.returned (.slice a3 n3 c3)) w3 := by
  have hlen : n = l.length := by
    obtain ⟨_, n', _, hv', h1, _⟩ := hv
    cases hv'
    rw [tcells_len] at h1
    omega
  have t1 : tcells (l.take i) = (tcells l).take (i * 3) := by
    have h1 : tcells l = tcells (l.take i) ++ tcells (l.drop i) := by rw [← tcells_append, List.take_append_drop]
    rw [h1, List.take_left' (by rw [tcells_len, List.length_take]; omega)]
  have t2 : tcells (l.drop i) = (tcells l).drop (i * 3) := by
    have h1 : tcells l = tcells (l.take i) ++ tcells (l.drop i) := by rw [← tcells_append, List.take_append_drop]
    rw [h1, List.drop_left' (by rw [tcells_len, List.length_take]; omega)]
  have v1 := hv.head i hi
  have v2 := hv.tail i hi
  rw [← t1] at v1
  rw [← t2] at v2
  have hal : Kept (fun _ => False) w (w.alloc (.cells #[.int .i64 x.1.1, .int .i64 x.1.2, .int .i64 x.2] 136)) := (Kept.refl _ _).alloc _
  have hnew := Blk.new w [.int .i64 x.1.1, .int .i64 x.1.2, .int .i64 x.2] 136
  obtain ⟨a1, n1, c1, w1, r1, row1, k1, f1⟩ := timAppendAll (L := []) (by rw [List.length_take]; simp; omega) (Row.nil _ _ _) (v1.same hal (by omega))
  rw [List.nil_append] at row1
  have k1' : Kept (fun _ => False) (w.alloc (.cells #[.int .i64 x.1.1, .int .i64 x.1.2, .int .i64 x.2] 136)) w1 := k1.mono (fun x _ e => by simp [Value.ownBlock] at e)
  have hnew1 := hnew.kept k1' id
  have hvx : View w1 3 (.slice (some ⟨w.heap.size, 0, none⟩) 1 1) (tcells [x]) := by
    refine Row.view (e := 136) (Or.inr ⟨w.heap.size, 1, 1, [], rfl, rfl, ?_, Nat.le_refl _, by simp [tcells], by decide⟩)
    rw [List.append_nil]; exact hnew1
  obtain ⟨a2, n2, c2, w2, r2, row2, k2, f2⟩ := timAppendAll (by rw [List.length_take]; simp; omega) row1 hvx
  have hlow1 : ∀ y, (Value.slice a1 n1 c1).ownBlock = some y → w.heap.size + 1 ≤ y := fun y e => by
    rcases f1 y e with q | q
    · simp [Value.ownBlock] at q
    · simp only [World.size_alloc] at q; exact q
  have hk01 := hal.trans k1'
  have hk02 : Kept (fun _ => False) w w2 := hk01.then_ k2 (fun y hy e => by have := hlow1 y e; omega)
  obtain ⟨a3, n3, c3, w3, r3, row3, k3, f3⟩ := timAppendAll (by simp; omega) row2 (v2.same hk02 (by omega))
  have hlow2 : ∀ y, (Value.slice a2 n2 c2).ownBlock = some y → w.heap.size ≤ y := fun y e => by
    rcases f2 y e with q | q
    · have := hlow1 y q; omega
    · have := hk01.size; omega
  have hk03 : Kept (fun _ => False) w w3 := hk02.then_ k3 (fun y hy e => by have := hlow2 y e; omega)
  refine ⟨a1, n1, c1, w1, a2, n2, c2, w2, a3, n3, c3, w3, r1, r2, r3, ⟨hx.kept hk01 id, hx.kept hk02 id, hx.kept hk03 id⟩, a3, n3, c3, rfl, ?_, fun y e => ?_, hk03⟩
  · rw [List.append_assoc] at row3; exact row3
  · rcases f3 y e with q | q
    · exact hlow2 y q
    · have := hk02.size; omega

theorem NewTims.after {w w' w2 : World} {r : Tim} {e : Ending} (h : NewTims w' r e w2) (hk : Kept (fun _ => False) w w') : NewTims w r e w2 := by
  obtain ⟨sa, n, cap, rfl, h1, h2, h3⟩ := h
  exact ⟨sa, n, cap, rfl, h1, fun x hx => Nat.le_trans hk.size (h2 x hx), hk.trans h3⟩

set_option maxRecDepth 100000 in
set_option maxHeartbeats 1000000 in
theorem ref_set (w : World) (v : Value) (r : Tim) (k : Int × Int) (at' : Int) (hr : r.length < 900000) (h : View w 3 v (tcells r)) :
    Calls Try.prog 65 #[v, .agg #[.int .i64 k.1, .int .i64 k.2], .int .i64 at'] w (NewTims w (setR r k at')) := by
  obtain ⟨a, n, cap, rfl, hn, hcap, hml, _⟩ := h.tim
  have hml' : maxLen = 9223372036854775807 := rfl
  have hb0 := Blk.new w [.int .i64 k.1, .int .i64 k.2] 84
  have b0 := hb0.cell (i := 0) rfl
  have b1 := hb0.cell (i := 1) rfl
  clear hn
  go_enter Try.func65, Try.ntmps65
  go_wp2_with fail
  refine (ref_clear _ _ r k (by omega) (h.alloc _ (by omega))).mono ?_
  rintro e w1 ⟨sa, m, scap, rfl, hrow, hfr, hk1⟩
  have hb1 := hb0.kept hk1 id
  have c0 := hb1.cell (i := 0) rfl
  have c1 := hb1.cell (i := 1) rfl
  have hx := Blk.new w1 [.int .i64 k.1, .int .i64 k.2, .int .i64 at'] 136
  have hv1 := (hrow.alloc (.cells #[.int .i64 k.1, .int .i64 k.2, .int .i64 at'] 136)).view
  have hkw : Kept (fun _ => False) w (w1.alloc (.cells #[.int .i64 k.1, .int .i64 k.2, .int .i64 at'] 136)) := ((Kept.refl _ _).alloc _).trans hk1 |>.alloc _
  obtain ⟨l, hl⟩ : ∃ l, l = PM.del r k := ⟨_, rfl⟩
  rw [← hl] at hv1
  have hll : l.length < 900000 := by
    rw [hl]
    have := List.length_filter_le (fun p : (Int × Int) × Int => !decide (p.1 = k)) r
    unfold PM.del; omega
  have hm : m = l.length := by
    obtain ⟨_, _, _, hv', q, _⟩ := hv1.tim
    cases hv'
    exact q
  have HL := Lib.hid (And.intro hl hm)
  have HW := Lib.hid (And.intro hv1 (And.intro hx hkw))
  have hm1 : m < 1000000 := by omega
  clear hl hm hv1 hx hkw hrow hfr hk1 hb1 h
  go_wp2_with fail
  go_loopw [8] (fun y wr => ∃ i : Nat, y = .int .i64 (i : Int) ∧ i ≤ m ∧ Kept (fun _ => False) (w1.alloc (.cells #[.int .i64 k.1, .int .i64 k.2, .int .i64 at'] 136)) wr ∧ Hid (∀ j p, j < i → l[j]? = some p → aheadB p (k, at') = true)) (fun y _ => m - (intOf y).toNat)
  case atStart => exact ⟨0, rfl, Nat.zero_le _, Kept.refl _ _, Lib.hid (fun j p hj => by omega)⟩
  case round =>
    obtain ⟨i, rfl, hi, hk, HP⟩ := hrel
    have hv2 := HW.out.1.same hk (by omega)
    have hx2 := HW.out.2.1.kept hk id
    have hkw2 := HW.out.2.2.trans hk
    by_cases hlt : i < m
    · have x : decide (i < m) = true := decide_eq_true hlt
      obtain ⟨p, hp⟩ : ∃ p, l[i]? = some p := ⟨l[i]'(by have := HL.out; omega), List.getElem?_eq_getElem (by have := HL.out; omega)⟩
      obtain ⟨a', n', cap', hv, -, -, -, hcells⟩ := hv2.tim
      cases hv
      obtain ⟨g, off, rfl, hg, q0, q1, q2⟩ := hcells i p hp
      have x0 := hx2.cell (i := 0) rfl
      have x1 := hx2.cell (i := 1) rfl
      have x2 := hx2.cell (i := 2) rfl
      have HV := Lib.hid (And.intro hv2 (And.intro hx2 hkw2))
      have HI := Lib.hid hp
      clear hcells hv2 hx2 hp
      have hcall := fun w => ahead_any w p (k, at')
      go_wp2_with fail
      refine wp_region_tail 10 (by kernel_rfl) (by kernel_rfl) ?_
      simp only [List.take_succ_cons, List.take_zero, List.drop_succ_cons, List.drop_zero]
      iterate 10 still_step
      refine wpStill_nil ?_
      cases hah : aheadB p (k, at')
      · rw [hah] at hcall
        have hwh : setR r k at' = l.take i ++ (k, at') :: l.drop i := by
          obtain ⟨e1, e2⟩ := takeWhile_at (l := l) (f := fun p => aheadB p (k, at')) HP.out (fun q hq => by rw [HI.out] at hq; cases hq; exact hah) (by have := HL.out.2; omega)
          unfold setR
          rw [← HL.out.1, e1, e2]
        have HWH := Lib.hid hwh
        clear hwh hah HI HP
        have hz1 := fun w0 => HV.out.1.run_head (P := Try.prog) (t := 92) (by kernel_rfl) (fun _ => by kernel_rfl) i hi w0
        have hz2 := fun w0 => HV.out.1.run_tail (P := Try.prog) (t := 92) (by kernel_rfl) (fun _ => by kernel_rfl) i hi w0
        go_wp2_with (go_at_call 94; refine (hcall _).mono ?_; rintro e wz ⟨rfl, hk4⟩)
        have hkz : Kept (fun _ => False) wr wz := ((Kept.refl _ _).drew).trans hk4
        have HK := Lib.hid (hkw2.trans hkz)
        have HV' := Lib.hid (And.intro (HV.out.1.same hkz (by omega)) (And.intro (HV.out.2.1.kept hkz id) trivial))
        clear HV hk4 hkz x0 x1 x2 q0 q1 q2
        obtain ⟨a1, n1, c1, w2, a2, n2, c2, w3, a3, n3, c3, w4, r1, r2, r3, ⟨hx3, hx4, hx5⟩, hN⟩ := setRun (w := wz.drew) (k, at') hll (HV'.out.1.same ((Kept.refl _ _).drew) (by omega)) (HV'.out.2.1.drew) i hi
        obtain ⟨b1', m1, d1, v2, b2', m2, d2, v3, b3', m3, d3, v4, q1, q2, q3, ⟨hx6, hx7, hx8⟩, hNB⟩ := setRunB (w := wz.drew) (k, at') hll (HV'.out.1.same ((Kept.refl _ _).drew) (by omega)) (HV'.out.2.1.drew) i hi
        have hx9 := HV'.out.2.1.drew
        have hsz : wz.drew.heap.size = wz.heap.size := rfl
        rw [hsz] at q2
        change (Builtin.append_ #[92, 92] 92 #[.slice none 0 0, .slice (some ⟨g, off, none⟩) i scap]).run Try.prog (wz.alloc (.cells #[.int .i64 k.1, .int .i64 k.2, .int .i64 at'] 136)).drew = .ok (.slice b1' m1 d1) v2 at q1
        clear hsz
        have kx := hx3.alloc (.cells #[.int .i64 k.1, .int .i64 k.2, .int .i64 at'] 136)
        have ky := (HV'.out.2.1.alloc (.cells #[.int .i64 k.1, .int .i64 k.2, .int .i64 at'] 136)).drew
        have y1 := Lib.hid (And.intro (hx9.cell (i := 0) rfl) (And.intro (hx9.cell (i := 1) rfl) (hx9.cell (i := 2) rfl)))
        have y2 := Lib.hid (And.intro (hx3.cell (i := 0) rfl) (And.intro (hx3.cell (i := 1) rfl) (hx3.cell (i := 2) rfl)))
        have y3 := Lib.hid (And.intro (hx4.cell (i := 0) rfl) (And.intro (hx4.cell (i := 1) rfl) (hx4.cell (i := 2) rfl)))
        have y4 := Lib.hid (And.intro (hx5.cell (i := 0) rfl) (And.intro (hx5.cell (i := 1) rfl) (hx5.cell (i := 2) rfl)))
        have y5 := Lib.hid (And.intro (hx6.cell (i := 0) rfl) (And.intro (hx6.cell (i := 1) rfl) (hx6.cell (i := 2) rfl)))
        have y6 := Lib.hid (And.intro (hx7.cell (i := 0) rfl) (And.intro (hx7.cell (i := 1) rfl) (hx7.cell (i := 2) rfl)))
        have y7 := Lib.hid (And.intro (hx8.cell (i := 0) rfl) (And.intro (hx8.cell (i := 1) rfl) (hx8.cell (i := 2) rfl)))
        have y8 := Lib.hid (And.intro (kx.cell (i := 0) rfl) (And.intro (kx.cell (i := 1) rfl) (kx.cell (i := 2) rfl)))
        have y9 := Lib.hid (And.intro (ky.cell (i := 0) rfl) (And.intro (ky.cell (i := 1) rfl) (ky.cell (i := 2) rfl)))
        have HN := Lib.hid (And.intro hN hNB)
        generalize (if scap = i then (some ⟨g, off, none⟩ : Option Addr) else (some ⟨g, off, none⟩ : Option Addr).map (·.add (i * 3))) = sx at hz2 r3 q3
        clear hN hNB hx3 hx4 hx5 hx6 hx7 hx8 hx9 kx ky HV'
        go_region_held3 (fun w' => w'.cell? ⟨w1.heap.size, 0, none⟩ = some (.int .i64 k.1) ∧ w'.cell? ⟨w1.heap.size, 1, none⟩ = some (.int .i64 k.2) ∧ w'.cell? ⟨w1.heap.size, 2, none⟩ = some (.int .i64 at')) (first | with_reducible exact y1.out | with_reducible exact y2.out | with_reducible exact y3.out | with_reducible exact y4.out | with_reducible exact y5.out | with_reducible exact y6.out | with_reducible exact y7.out | with_reducible exact y8.out | with_reducible exact y9.out) (first | ((with_reducible refine step_append_run' ?_ ?_ ?_ 92 92 ?_ _ _ ?_ ?_ _ _ r1 ?_); exact rfl; rotate_left 2; exact rfl; exact rfl; exact rfl) | ((with_reducible refine step_append_run' ?_ ?_ ?_ 92 92 ?_ _ _ ?_ ?_ _ _ r2 ?_); exact rfl; rotate_left 2; exact rfl; exact rfl; exact rfl) | ((with_reducible refine step_append_run' ?_ ?_ ?_ 92 92 ?_ _ _ ?_ ?_ _ _ r3 ?_); exact rfl; rotate_left 2; exact rfl; exact rfl; exact rfl) | ((with_reducible refine step_append_run' ?_ ?_ ?_ 92 92 ?_ _ _ ?_ ?_ _ _ q1 ?_); exact rfl; rotate_left 2; exact rfl; exact rfl; exact rfl) | ((with_reducible refine step_append_run' ?_ ?_ ?_ 92 92 ?_ _ _ ?_ ?_ _ _ q2 ?_); exact rfl; rotate_left 2; exact rfl; exact rfl; exact rfl) | ((with_reducible refine step_append_run' ?_ ?_ ?_ 92 92 ?_ _ _ ?_ ?_ _ _ q3 ?_); exact rfl; rotate_left 2; exact rfl; exact rfl; exact rfl))
        · go_wp2_with fail
          go_ret
          rw [HWH.out]
          exact HN.out.1.after (HK.out.drew)
        · go_wp2_with fail
          go_ret
          rw [HWH.out]
          exact HN.out.2.after (HK.out.drew)
      · rw [hah] at hcall
        have HP2 : Hid (∀ j q, j < i + 1 → l[j]? = some q → aheadB q (k, at') = true) := Lib.hid (fun j q hj hq => by
          by_cases e : j = i
          · subst e; rw [HI.out] at hq; cases hq; exact hah
          · exact HP.out j q (by omega) hq)
        clear hah HI HP
        go_wp2_with (go_at_call 94; refine (hcall _).mono ?_; rintro e w4 ⟨rfl, hk4⟩)
        go_roundw
        case rel => exact ⟨i + 1, by go_num, hlt, hk.drew.trans hk4, HP2⟩
        case measure => simp [intOf]; omega
    · have x : decide (i < m) = false := by simp; omega
      have hwh : setR r k at' = l.take i ++ (k, at') :: l.drop i := by
        obtain ⟨e1, e2⟩ := takeWhile_at (l := l) (f := fun p => aheadB p (k, at')) HP.out (fun p hp => by have := (List.getElem?_eq_some_iff.1 hp).1; have := HL.out.2; omega) (by have := HL.out.2; omega)
        unfold setR
        rw [← HL.out.1, e1, e2]
      have HWH := Lib.hid hwh
      clear hwh
      have hz1 := fun w0 => hv2.run_head (P := Try.prog) (t := 92) (by kernel_rfl) (fun _ => by kernel_rfl) i hi w0
      have hz2 := fun w0 => hv2.run_tail (P := Try.prog) (t := 92) (by kernel_rfl) (fun _ => by kernel_rfl) i hi w0
      have HV := Lib.hid (And.intro hv2 (And.intro hx2 hkw2))
      have HV0 := Lib.hid (And.intro trivial hkw2)
      clear hv2 hx2
      go_wp2_with fail
      go_quiet (fail)
      go_wp2_with fail
      have HK := Lib.hid ((Kept.refl (fun _ => False) wr).drewN nq)
      generalize wr.drewN nq = wq at HK ⊢
      obtain ⟨a1, n1, c1, w2, a2, n2, c2, w3, a3, n3, c3, w4, r1, r2, r3, ⟨hx3, hx4, hx5⟩, hN⟩ := setRun (w := wq.drew) (k, at') hll (HV.out.1.same HK.out.drew (by omega)) (HV.out.2.1.kept HK.out.drew id) i hi
      obtain ⟨b1', m1, d1, v2, b2', m2, d2, v3, b3', m3, d3, v4, q1, q2, q3, ⟨hx6, hx7, hx8⟩, hNB⟩ := setRunB (w := wq.drew) (k, at') hll (HV.out.1.same HK.out.drew (by omega)) (HV.out.2.1.kept HK.out.drew id) i hi
      have hx9 := HV.out.2.1.kept HK.out.drew id
      have hsz : wq.drew.heap.size = wq.heap.size := rfl
      rw [hsz] at q2
      change (Builtin.append_ #[92, 92] 92 #[.slice none 0 0, .slice sa i scap]).run Try.prog (wq.alloc (.cells #[.int .i64 k.1, .int .i64 k.2, .int .i64 at'] 136)).drew = .ok (.slice b1' m1 d1) v2 at q1
      clear hsz
      have kx := hx3.alloc (.cells #[.int .i64 k.1, .int .i64 k.2, .int .i64 at'] 136)
      have ky := ((HV.out.2.1.kept HK.out id).alloc (.cells #[.int .i64 k.1, .int .i64 k.2, .int .i64 at'] 136)).drew
      have y1 := Lib.hid (And.intro (hx9.cell (i := 0) rfl) (And.intro (hx9.cell (i := 1) rfl) (hx9.cell (i := 2) rfl)))
      have y2 := Lib.hid (And.intro (hx3.cell (i := 0) rfl) (And.intro (hx3.cell (i := 1) rfl) (hx3.cell (i := 2) rfl)))
      have y3 := Lib.hid (And.intro (hx4.cell (i := 0) rfl) (And.intro (hx4.cell (i := 1) rfl) (hx4.cell (i := 2) rfl)))
      have y4 := Lib.hid (And.intro (hx5.cell (i := 0) rfl) (And.intro (hx5.cell (i := 1) rfl) (hx5.cell (i := 2) rfl)))
      have y5 := Lib.hid (And.intro (hx6.cell (i := 0) rfl) (And.intro (hx6.cell (i := 1) rfl) (hx6.cell (i := 2) rfl)))
      have y6 := Lib.hid (And.intro (hx7.cell (i := 0) rfl) (And.intro (hx7.cell (i := 1) rfl) (hx7.cell (i := 2) rfl)))
      have y7 := Lib.hid (And.intro (hx8.cell (i := 0) rfl) (And.intro (hx8.cell (i := 1) rfl) (hx8.cell (i := 2) rfl)))
      have y8 := Lib.hid (And.intro (kx.cell (i := 0) rfl) (And.intro (kx.cell (i := 1) rfl) (kx.cell (i := 2) rfl)))
      have y9 := Lib.hid (And.intro (ky.cell (i := 0) rfl) (And.intro (ky.cell (i := 1) rfl) (ky.cell (i := 2) rfl)))
      have HN := Lib.hid (And.intro hN hNB)
      generalize (if scap = i then sa else sa.map (·.add (i * 3))) = sx at hz2 r3 q3
      clear hN hNB hx3 hx4 hx5 hx6 hx7 hx8 hx9 kx ky HV
      go_region_held3 (fun w' => w'.cell? ⟨w1.heap.size, 0, none⟩ = some (.int .i64 k.1) ∧ w'.cell? ⟨w1.heap.size, 1, none⟩ = some (.int .i64 k.2) ∧ w'.cell? ⟨w1.heap.size, 2, none⟩ = some (.int .i64 at')) (first | with_reducible exact y1.out | with_reducible exact y2.out | with_reducible exact y3.out | with_reducible exact y4.out | with_reducible exact y5.out | with_reducible exact y6.out | with_reducible exact y7.out | with_reducible exact y8.out | with_reducible exact y9.out) (first | ((with_reducible refine step_append_run' ?_ ?_ ?_ 92 92 ?_ _ _ ?_ ?_ _ _ r1 ?_); exact rfl; rotate_left 2; exact rfl; exact rfl; exact rfl) | ((with_reducible refine step_append_run' ?_ ?_ ?_ 92 92 ?_ _ _ ?_ ?_ _ _ r2 ?_); exact rfl; rotate_left 2; exact rfl; exact rfl; exact rfl) | ((with_reducible refine step_append_run' ?_ ?_ ?_ 92 92 ?_ _ _ ?_ ?_ _ _ r3 ?_); exact rfl; rotate_left 2; exact rfl; exact rfl; exact rfl) | ((with_reducible refine step_append_run' ?_ ?_ ?_ 92 92 ?_ _ _ ?_ ?_ _ _ q1 ?_); exact rfl; rotate_left 2; exact rfl; exact rfl; exact rfl) | ((with_reducible refine step_append_run' ?_ ?_ ?_ 92 92 ?_ _ _ ?_ ?_ _ _ q2 ?_); exact rfl; rotate_left 2; exact rfl; exact rfl; exact rfl) | ((with_reducible refine step_append_run' ?_ ?_ ?_ 92 92 ?_ _ _ ?_ ?_ _ _ q3 ?_); exact rfl; rotate_left 2; exact rfl; exact rfl; exact rfl))
      · go_wp2_with fail
        go_ret
        rw [HWH.out]
        exact HN.out.1.after (HV0.out.2.trans HK.out.drew)
      · go_wp2_with fail
        go_ret
        rw [HWH.out]
        exact HN.out.2.after (HV0.out.2.trans HK.out.drew)
end Go.Proofs.Ytahiimcdmojngaa
