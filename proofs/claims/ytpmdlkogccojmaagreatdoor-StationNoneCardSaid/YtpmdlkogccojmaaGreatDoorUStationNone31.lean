/- RingNext RingNext2 RingKeep RingSign -/
import Derived.Deep.RegionHeld3
import Derived.Test.YtpmdlkogccojmaaGreatDoorUStationNone30
import Derived.Test.YtpmdlkogccojmaaGreatDoorUStationNone22
set_option linter.unusedVariables false
set_option linter.unusedSimpArgs false
namespace Go.Proofs.YtpmdlkogccojmaaGreatDoor
open Go.RowKit
theorem hdC_at {l : List Hd} (h : ∀ x ∈ l, x.2.length = 32) (k : Nat) {a : Hd} (ha : l[k]? = some a) : ((hdC l).drop (k * 33)).take 33 = headC (a.1 : Int) a.2 := by
  induction l generalizing k with
  | nil => simp at ha
  | cons b r ih =>
    have hb := headC_len (size := (b.1 : Int)) (h b (by simp))
    have e : hdC (b :: r) = headC (b.1 : Int) b.2 ++ hdC r := by simp [hdC]
    rw [e]
    cases k with
    | zero =>
      simp at ha
      subst ha
      rw [Nat.zero_mul, List.drop_zero, List.take_append_of_le_length (by omega), List.take_of_length_le (by omega)]
    | succ k =>
      rw [show (k + 1) * 33 = (headC (b.1 : Int) b.2).length + k * 33 by omega, ← List.drop_drop, List.drop_left]
      exact ih (fun x hx => h x (by simp [hx])) k (by simpa using ha)
theorem Row.rangeAt {w : World} {e : TypeId} {size g n cap : Nat} {xs : List Value} (h : Row w e size (.slice (some ⟨g, 0, none⟩) n cap) xs) (j k : Nat) : w.rangeAt g j ((xs.drop j).take k) := by
  intro i u hu
  rw [List.getElem?_take] at hu
  split at hu
  · rw [List.getElem?_drop] at hu
    exact h.cellsAt hu
  · cases hu
abbrev NextS (w w' : World) (r g m cap : Nat) (size : Int) (root : By) (hs : Nat) (hr : By) : Prop := w'.cell? ⟨r, 2, none⟩ = some (.slice (some ⟨g, 0, none⟩) (m + 1) cap) ∧ w'.rangeAt g (m * 33) (headC (hs : Int) hr) ∧ w'.rangeAt w.heap.size 0 (headC size root) ∧ w'.cell? ⟨g, m * 33, none⟩ = some (.int .i64 (hs : Int)) ∧ w'.cell? ⟨w.heap.size, 0, none⟩ = some (.int .i64 size) ∧ Kept (fun _ => False) w w'
theorem nextS_at {w : World} {r d : Nat} {R : RingM} {S : Nat → Prop} (h : IsRing w r d R S) {m : Nat} {a : Hd} (hm : R.signed[m]? = some a) (hl : R.signed.length = m + 1) (size : Int) (root : By) :
    ∃ g cap, NextS w (w.alloc (.cells (headC size root).toArray 46)) r g m cap size root a.1 a.2 := by
  obtain ⟨⟨t, v, h1, h2, h3, h4, h5⟩, h6, h7, h8, h9⟩ := h
  obtain ⟨x, n, cap, rfl, hn, _, hx⟩ := h3.form (by omega)
  rw [hdC_len (fun x hx => (h7 x hx).2.2)] at hn
  obtain rfl : n = m + 1 := by omega
  obtain ⟨g, rfl, _⟩ := hx (by omega)
  have hk : Kept (fun _ => False) w (w.alloc (.cells (headC size root).toArray 46)) := (Kept.refl _ _).alloc _
  have hb := head_blk w size root
  have hr := (h3.kept hk (fun _ _ => id)).rangeAt (m * 33) 33
  rw [hdC_at (fun x hx => (h7 x hx).2.2) m hm] at hr
  refine ⟨g, cap, (h1.kept hk id).cell (i := 2) rfl, hr, hb.range0, ?_, (head_range hb).1, hk⟩
  have := hr 0 (.int .i64 (a.1 : Int)) rfl
  simpa using this
theorem nextS_drew {w w1 : World} {r g m cap : Nat} {size : Int} {root : By} {hs : Nat} {hr : By} (h : NextS w w1 r g m cap size root hs hr) : NextS w w1.drew r g m cap size root hs hr := ⟨h.1, h.2.1, h.2.2.1, h.2.2.2.1, h.2.2.2.2.1, h.2.2.2.2.2.drew⟩
section
variable {w : World} {r d : Nat} {R : RingM} {S : Nat → Prop}
def NextPost (w : World) (x : Int × Bool × Int) (e : Ending) (w' : World) : Prop := e = .returned (.tuple #[.int .i64 x.1, .bool x.2.1, .int .i64 x.2.2]) ∧ Kept (fun _ => False) w w'
set_option maxRecDepth 100000 in
set_option maxHeartbeats 1000000 in
theorem next_bad (h : IsRing w r d R S) (size : Int) (root : By) (hb : size < 1 ∨ 4096 < size) :
    Calls Tryz.prog 81 #[.pointer (some ⟨r, 0, none⟩), headV size root] w (NextPost w (0, false, 2)) := by
  have hk : Kept (fun _ => False) w (w.alloc (.cells (headC size root).toArray 46)) := (Kept.refl _ _).alloc _
  have c1 := (head_range (head_blk w size root)).1
  obtain ⟨⟨t, v, h1, h2, h3, h4, h5⟩, h6, h7, h8, h9⟩ := h
  have c2 := (h1.kept hk id).cell (i := 2) rfl
  obtain ⟨x, n, cap, rfl, _⟩ := h3.form (by omega)
  clear h2 h3 h4 h5 h6 h7 h8 h9 h1 hk
  by_cases hlo : size < 1
  · have y1 : decide (size < 1) = true := decide_eq_true hlo
    clear hb
    go_enter Tryz.func81, Tryz.ntmps81
    go_wp2_with fail
    go_ret3
    exact ⟨rfl, (Kept.refl _ _).alloc _⟩
  · have y1 : decide (size < 1) = false := decide_eq_false hlo
    have y2 : decide (4096 < size) = true := decide_eq_true (by omega)
    clear hb
    go_enter Tryz.func81, Tryz.ntmps81
    go_wp2_with fail
    go_ret3
    exact ⟨rfl, (Kept.refl _ _).alloc _⟩
set_option maxRecDepth 100000 in
set_option maxHeartbeats 4000000 in
theorem next_last (h : IsRing w r d R S) (size : Int) (root : By) (hroot : root.length = 32) (hb : ¬ (size < 1 ∨ 4096 < size)) (m : Nat) (a : Hd) (hm : R.signed[m]? = some a) (hl : R.signed.length = m + 1) :
    Calls Tryz.prog 81 #[.pointer (some ⟨r, 0, none⟩), headV size root] w (NextPost w (if (a.1 : Int) = size ∧ a.2 = root then ((m : Int), false, 0) else if size ≤ (a.1 : Int) then (0, false, 83) else if 8 ≤ m + 1 then (0, false, 85) else ((m : Int) + 1, true, 0))) := by
  obtain ⟨g, cap, S1⟩ := nextS_at h hm hl size root
  have hm8 := h.few
  have ha32 := (h.oks a (List.mem_of_getElem? hm)).2.2
  obtain ⟨hs, hr⟩ := a
  have y1 : decide (size < 1) = false := decide_eq_false (by omega)
  have y2 : decide (4096 < size) = false := decide_eq_false (by omega)
  have y3 : decide ((0 : Int) < (m : Int) + 1) = true := decide_eq_true (by omega)
  have S0 := nextS_drew S1
  have c2 := S1.1
  have HI1 := Lib.hid (show (Tryz.prog.info? 46).map (·.size) = some (headC (hs : Int) hr).length by rw [headC_len ha32]; exact info_head)
  have HI2 := Lib.hid (show (Tryz.prog.info? 46).map (·.size) = some (headC size root).length by rw [headC_len hroot]; exact info_head)
  have a1 : IntKind.i64.wrap (m : Int) = (m : Int) := IntWalk.i64_in _ (by omega)
  have heq := fun w' => eql_head w' (hs : Int) size hr root ha32 hroot
  have hm7 : m ≤ 7 := by omega
  have y4 : (m : Int) < (m : Int) + 1 := by omega
  have a2 : wrap64 (m : Int) = (m : Int) := IntWalk.wrap64_in _ (by omega)
  simp only
  clear h hm hl hb hm8
  by_cases he : (hs : Int) = size ∧ hr = root
  · have e1 : decide ((hs : Int) = size ∧ hr = root) = true := decide_eq_true he
    rw [if_pos he]
    simp only [e1] at heq
    clear he e1
    go_enter Tryz.func81, Tryz.ntmps81
    go_wp2_with fail
    refine wp_region_held_drew (S := (fun w' => NextS w w' r g m cap size root hs hr)) (by kernel_rfl) S0 (fun hH0 => ?_)
    refine wpAnyH_take (i := 0) (oi := ⟨some 23, .move (.tmp 7), 3, "keyring.go:101", #[], none⟩) (v := ?_) rfl (by kernel_rfl) (by kernel_rfl) (by kernel_rfl) (fun _ _ _ h => h) (Or.inl ⟨by rfl, fun w hSw => ?_⟩) hH0 ?_
    rotate_left 1
    · (try simp only [NextS] at hSw); go_simp; (try with_reducible rfl)
    try simp only [Act.put, List.setIfInBounds_toArray, List.set_cons_zero, List.set_cons_succ]
    refine wpAnyH_take (i := 1) (oi := ⟨some 24, .binOp .gtr 3 (.tmp 23) (.const (.int .i64 0)) 3, 4, "keyring.go:101", #[⟨0, .data⟩], none⟩) (v := ?_) rfl (by kernel_rfl) (by kernel_rfl) (by kernel_rfl) (fun _ _ _ h => h) (Or.inl ⟨by rfl, fun w hSw => ?_⟩) hH0 ?_
    rotate_left 1
    · (try simp only [NextS] at hSw); go_simp; (try with_reducible rfl)
    try simp only [Act.put, List.setIfInBounds_toArray, List.set_cons_zero, List.set_cons_succ]
    refine wpAnyH_take (i := 2) (oi := ⟨some 25, .move (.tmp 24), 4, "keyring.go:101", #[⟨1, .data⟩], none⟩) (v := ?_) rfl (by kernel_rfl) (by kernel_rfl) (by kernel_rfl) (fun _ _ _ h => h) (Or.inl ⟨by rfl, fun w hSw => ?_⟩) hH0 ?_
    rotate_left 1
    · (try simp only [NextS] at hSw); go_simp; (try with_reducible rfl)
    try simp only [Act.put, List.setIfInBounds_toArray, List.set_cons_zero, List.set_cons_succ]
    refine wpAnyH_take (i := 3) (oi := ⟨some 26, .move (.tmp 0), 63, "keyring.go:101", #[⟨2, .guard⟩], some (2, true)⟩) (v := ?_) rfl (by kernel_rfl) (by kernel_rfl) (by kernel_rfl) (fun _ _ _ h => h) (Or.inl ⟨by rfl, fun w hSw => ?_⟩) hH0 ?_
    rotate_left 1
    · (try simp only [NextS] at hSw); go_simp; (try with_reducible rfl)
    try simp only [Act.put, List.setIfInBounds_toArray, List.set_cons_zero, List.set_cons_succ]
    refine wpAnyH_take (i := 4) (oi := ⟨some 27, .nilCheck (.tmp 26), 0, "keyring.go:101", #[⟨3, .data⟩, ⟨2, .guard⟩], some (2, true)⟩) (v := ?_) rfl (by kernel_rfl) (by kernel_rfl) (by kernel_rfl) (fun _ _ _ h => h) (Or.inl ⟨by rfl, fun w hSw => ?_⟩) hH0 ?_
    rotate_left 1
    · (try simp only [NextS] at hSw); go_simp; (try with_reducible rfl)
    try simp only [Act.put, List.setIfInBounds_toArray, List.set_cons_zero, List.set_cons_succ]
    refine wpAnyH_take (i := 5) (oi := ⟨some 28, .fieldAddr 146 (.tmp 27) 2, 0, "keyring.go:101", #[⟨4, .data⟩, ⟨2, .guard⟩], some (2, true)⟩) (v := ?_) rfl (by kernel_rfl) (by kernel_rfl) (by kernel_rfl) (fun _ _ _ h => h) (Or.inl ⟨by rfl, fun w hSw => ?_⟩) hH0 ?_
    rotate_left 1
    · (try simp only [NextS] at hSw); go_simp; (try with_reducible rfl)
    try simp only [Act.put, List.setIfInBounds_toArray, List.set_cons_zero, List.set_cons_succ]
    refine wpAnyH_take (i := 6) (oi := ⟨some 29, .load 143 (.tmp 28), 143, "keyring.go:101", #[⟨5, .data⟩, ⟨2, .guard⟩], some (2, true)⟩) (v := ?_) rfl (by kernel_rfl) (by kernel_rfl) (by kernel_rfl) (fun _ _ _ h => h) (Or.inl ⟨by rfl, fun w hSw => ?_⟩) hH0 ?_
    rotate_left 1
    · (try simp only [NextS] at hSw); go_simp; (try with_reducible rfl)
    try simp only [Act.put, List.setIfInBounds_toArray, List.set_cons_zero, List.set_cons_succ]
    refine wpAnyH_take (i := 7) (oi := ⟨some 30, .move (.tmp 7), 3, "keyring.go:101", #[⟨2, .guard⟩], some (2, true)⟩) (v := ?_) rfl (by kernel_rfl) (by kernel_rfl) (by kernel_rfl) (fun _ _ _ h => h) (Or.inl ⟨by rfl, fun w hSw => ?_⟩) hH0 ?_
    rotate_left 1
    · (try simp only [NextS] at hSw); go_simp; (try with_reducible rfl)
    try simp only [Act.put, List.setIfInBounds_toArray, List.set_cons_zero, List.set_cons_succ]
    refine wpAnyH_take (i := 8) (oi := ⟨some 31, .binOp .sub 3 (.tmp 30) (.const (.int .i64 1)) 3, 3, "keyring.go:101", #[⟨7, .data⟩, ⟨2, .guard⟩], some (2, true)⟩) (v := ?_) rfl (by kernel_rfl) (by kernel_rfl) (by kernel_rfl) (fun _ _ _ h => h) (Or.inl ⟨by rfl, fun w hSw => ?_⟩) hH0 ?_
    rotate_left 1
    · (try simp only [NextS] at hSw); go_simp; (try with_reducible rfl)
    try simp only [Act.put, List.setIfInBounds_toArray, List.set_cons_zero, List.set_cons_succ]
    refine wpAnyH_take (i := 9) (oi := ⟨some 32, .indexAddr 143 (.tmp 29) (.tmp 31), 0, "keyring.go:101", #[⟨6, .data⟩, ⟨8, .data⟩, ⟨2, .guard⟩], some (2, true)⟩) (v := ?_) rfl (by kernel_rfl) (by kernel_rfl) (by kernel_rfl) (fun _ _ _ h => h) (Or.inl ⟨by rfl, fun w hSw => ?_⟩) hH0 ?_
    rotate_left 1
    · (try simp only [NextS] at hSw); go_simp; (try with_reducible rfl)
    try simp only [Act.put, List.setIfInBounds_toArray, List.set_cons_zero, List.set_cons_succ]
    refine wpAnyH_take (i := 10) (oi := ⟨some 33, .load 46 (.tmp 32), 46, "keyring.go:101", #[⟨9, .data⟩, ⟨2, .guard⟩], some (2, true)⟩) (v := .agg (headC (hs : Int) hr).toArray) rfl (by kernel_rfl) (by kernel_rfl) (by kernel_rfl) (fun _ _ _ h => h) (yieldsIf_load_mid (by rfl) _ _ rfl (g) (m * 33) rfl (headC (hs : Int) hr) _ (fun w q => q.2.1) Tryz.underlying46 rfl HI1.out) hH0 ?_
    try simp only [Act.put, List.setIfInBounds_toArray, List.set_cons_zero, List.set_cons_succ]
    refine wpAnyH_take (i := 11) (oi := ⟨some 34, .load 46 (.tmp 3), 46, "keyring.go:101", #[⟨2, .guard⟩], some (2, true)⟩) (v := .agg (headC size root).toArray) rfl (by kernel_rfl) (by kernel_rfl) (by kernel_rfl) (fun _ _ _ h => h) (yieldsIf_load_mid (by rfl) _ _ rfl (w.heap.size) (0) rfl (headC size root) _ (fun w q => q.2.2.1) Tryz.underlying46 rfl HI2.out) hH0 ?_
    try simp only [Act.put, List.setIfInBounds_toArray, List.set_cons_zero, List.set_cons_succ]
    refine wpAnyH_take (i := 12) (oi := ⟨some 35, .binOp .eql 46 (.tmp 33) (.tmp 34) 46, 4, "keyring.go:101", #[⟨10, .data⟩, ⟨11, .data⟩, ⟨2, .guard⟩], some (2, true)⟩) (v := ?_) rfl (by kernel_rfl) (by kernel_rfl) (by kernel_rfl) (fun _ _ _ h => h) (Or.inl ⟨by rfl, fun w hSw => ?_⟩) hH0 ?_
    rotate_left 1
    · (try simp only [NextS] at hSw); go_simp; (try with_reducible rfl)
    try simp only [Act.put, List.setIfInBounds_toArray, List.set_cons_zero, List.set_cons_succ]
    refine wpAnyH_take (i := 13) (oi := ⟨some 36, .pick (.tmp 25) (.tmp 35) (.const (.bool false)), 4, "keyring.go:101", #[⟨2, .data⟩, ⟨12, .data⟩], none⟩) (v := ?_) rfl (by kernel_rfl) (by kernel_rfl) (by kernel_rfl) (fun _ _ _ h => h) (Or.inl ⟨by rfl, fun w hSw => ?_⟩) hH0 ?_
    rotate_left 1
    · (try simp only [NextS] at hSw); go_simp; (try with_reducible rfl)
    try simp only [Act.put, List.setIfInBounds_toArray, List.set_cons_zero, List.set_cons_succ]
    refine wpAnyH_ready (rs := [14]) (by kernel_rfl) (by simp) ?_
    refine AllReadyH.cons (o := ⟨some 22, .assign (.tmp 36), 4, "keyring.go:101", #[⟨13, .data⟩, ⟨2, .chain⟩], none⟩) rfl (fun K hK => ?_) AllReadyH.nil
    go_simp
    refine hK.out _ _ (hH0) (fun hH1 => ?_)
    clear hK K
    try simp only [Act.put, List.setIfInBounds_toArray, List.set_cons_zero, List.set_cons_succ]
    refine wpAnyH_done (by kernel_rfl) ?_ _
    go_wp2_with fail
    go_ret3
    exact ⟨rfl, hH1.2.2.2.2.2⟩
  · have e1 : decide ((hs : Int) = size ∧ hr = root) = false := decide_eq_false he
    rw [if_neg he]
    simp only [e1] at heq
    clear he e1
    by_cases hle : size ≤ (hs : Int)
    · have y5 : decide (size ≤ (hs : Int)) = true := decide_eq_true hle
      rw [if_pos hle]
      clear hle
      go_enter Tryz.func81, Tryz.ntmps81
      go_wp2_with fail
      refine wp_region_held_drew (S := (fun w' => NextS w w' r g m cap size root hs hr)) (by kernel_rfl) S0 (fun hH0 => ?_)
      refine wpAnyH_take (i := 0) (oi := ⟨some 23, .move (.tmp 7), 3, "keyring.go:101", #[], none⟩) (v := ?_) rfl (by kernel_rfl) (by kernel_rfl) (by kernel_rfl) (fun _ _ _ h => h) (Or.inl ⟨by rfl, fun w hSw => ?_⟩) hH0 ?_
      rotate_left 1
      · (try simp only [NextS] at hSw); go_simp; (try with_reducible rfl)
      try simp only [Act.put, List.setIfInBounds_toArray, List.set_cons_zero, List.set_cons_succ]
      refine wpAnyH_take (i := 1) (oi := ⟨some 24, .binOp .gtr 3 (.tmp 23) (.const (.int .i64 0)) 3, 4, "keyring.go:101", #[⟨0, .data⟩], none⟩) (v := ?_) rfl (by kernel_rfl) (by kernel_rfl) (by kernel_rfl) (fun _ _ _ h => h) (Or.inl ⟨by rfl, fun w hSw => ?_⟩) hH0 ?_
      rotate_left 1
      · (try simp only [NextS] at hSw); go_simp; (try with_reducible rfl)
      try simp only [Act.put, List.setIfInBounds_toArray, List.set_cons_zero, List.set_cons_succ]
      refine wpAnyH_take (i := 2) (oi := ⟨some 25, .move (.tmp 24), 4, "keyring.go:101", #[⟨1, .data⟩], none⟩) (v := ?_) rfl (by kernel_rfl) (by kernel_rfl) (by kernel_rfl) (fun _ _ _ h => h) (Or.inl ⟨by rfl, fun w hSw => ?_⟩) hH0 ?_
      rotate_left 1
      · (try simp only [NextS] at hSw); go_simp; (try with_reducible rfl)
      try simp only [Act.put, List.setIfInBounds_toArray, List.set_cons_zero, List.set_cons_succ]
      refine wpAnyH_take (i := 3) (oi := ⟨some 26, .move (.tmp 0), 63, "keyring.go:101", #[⟨2, .guard⟩], some (2, true)⟩) (v := ?_) rfl (by kernel_rfl) (by kernel_rfl) (by kernel_rfl) (fun _ _ _ h => h) (Or.inl ⟨by rfl, fun w hSw => ?_⟩) hH0 ?_
      rotate_left 1
      · (try simp only [NextS] at hSw); go_simp; (try with_reducible rfl)
      try simp only [Act.put, List.setIfInBounds_toArray, List.set_cons_zero, List.set_cons_succ]
      refine wpAnyH_take (i := 4) (oi := ⟨some 27, .nilCheck (.tmp 26), 0, "keyring.go:101", #[⟨3, .data⟩, ⟨2, .guard⟩], some (2, true)⟩) (v := ?_) rfl (by kernel_rfl) (by kernel_rfl) (by kernel_rfl) (fun _ _ _ h => h) (Or.inl ⟨by rfl, fun w hSw => ?_⟩) hH0 ?_
      rotate_left 1
      · (try simp only [NextS] at hSw); go_simp; (try with_reducible rfl)
      try simp only [Act.put, List.setIfInBounds_toArray, List.set_cons_zero, List.set_cons_succ]
      refine wpAnyH_take (i := 5) (oi := ⟨some 28, .fieldAddr 146 (.tmp 27) 2, 0, "keyring.go:101", #[⟨4, .data⟩, ⟨2, .guard⟩], some (2, true)⟩) (v := ?_) rfl (by kernel_rfl) (by kernel_rfl) (by kernel_rfl) (fun _ _ _ h => h) (Or.inl ⟨by rfl, fun w hSw => ?_⟩) hH0 ?_
      rotate_left 1
      · (try simp only [NextS] at hSw); go_simp; (try with_reducible rfl)
      try simp only [Act.put, List.setIfInBounds_toArray, List.set_cons_zero, List.set_cons_succ]
      refine wpAnyH_take (i := 6) (oi := ⟨some 29, .load 143 (.tmp 28), 143, "keyring.go:101", #[⟨5, .data⟩, ⟨2, .guard⟩], some (2, true)⟩) (v := ?_) rfl (by kernel_rfl) (by kernel_rfl) (by kernel_rfl) (fun _ _ _ h => h) (Or.inl ⟨by rfl, fun w hSw => ?_⟩) hH0 ?_
      rotate_left 1
      · (try simp only [NextS] at hSw); go_simp; (try with_reducible rfl)
      try simp only [Act.put, List.setIfInBounds_toArray, List.set_cons_zero, List.set_cons_succ]
      refine wpAnyH_take (i := 7) (oi := ⟨some 30, .move (.tmp 7), 3, "keyring.go:101", #[⟨2, .guard⟩], some (2, true)⟩) (v := ?_) rfl (by kernel_rfl) (by kernel_rfl) (by kernel_rfl) (fun _ _ _ h => h) (Or.inl ⟨by rfl, fun w hSw => ?_⟩) hH0 ?_
      rotate_left 1
      · (try simp only [NextS] at hSw); go_simp; (try with_reducible rfl)
      try simp only [Act.put, List.setIfInBounds_toArray, List.set_cons_zero, List.set_cons_succ]
      refine wpAnyH_take (i := 8) (oi := ⟨some 31, .binOp .sub 3 (.tmp 30) (.const (.int .i64 1)) 3, 3, "keyring.go:101", #[⟨7, .data⟩, ⟨2, .guard⟩], some (2, true)⟩) (v := ?_) rfl (by kernel_rfl) (by kernel_rfl) (by kernel_rfl) (fun _ _ _ h => h) (Or.inl ⟨by rfl, fun w hSw => ?_⟩) hH0 ?_
      rotate_left 1
      · (try simp only [NextS] at hSw); go_simp; (try with_reducible rfl)
      try simp only [Act.put, List.setIfInBounds_toArray, List.set_cons_zero, List.set_cons_succ]
      refine wpAnyH_take (i := 9) (oi := ⟨some 32, .indexAddr 143 (.tmp 29) (.tmp 31), 0, "keyring.go:101", #[⟨6, .data⟩, ⟨8, .data⟩, ⟨2, .guard⟩], some (2, true)⟩) (v := ?_) rfl (by kernel_rfl) (by kernel_rfl) (by kernel_rfl) (fun _ _ _ h => h) (Or.inl ⟨by rfl, fun w hSw => ?_⟩) hH0 ?_
      rotate_left 1
      · (try simp only [NextS] at hSw); go_simp; (try with_reducible rfl)
      try simp only [Act.put, List.setIfInBounds_toArray, List.set_cons_zero, List.set_cons_succ]
      refine wpAnyH_take (i := 10) (oi := ⟨some 33, .load 46 (.tmp 32), 46, "keyring.go:101", #[⟨9, .data⟩, ⟨2, .guard⟩], some (2, true)⟩) (v := .agg (headC (hs : Int) hr).toArray) rfl (by kernel_rfl) (by kernel_rfl) (by kernel_rfl) (fun _ _ _ h => h) (yieldsIf_load_mid (by rfl) _ _ rfl (g) (m * 33) rfl (headC (hs : Int) hr) _ (fun w q => q.2.1) Tryz.underlying46 rfl HI1.out) hH0 ?_
      try simp only [Act.put, List.setIfInBounds_toArray, List.set_cons_zero, List.set_cons_succ]
      refine wpAnyH_take (i := 11) (oi := ⟨some 34, .load 46 (.tmp 3), 46, "keyring.go:101", #[⟨2, .guard⟩], some (2, true)⟩) (v := .agg (headC size root).toArray) rfl (by kernel_rfl) (by kernel_rfl) (by kernel_rfl) (fun _ _ _ h => h) (yieldsIf_load_mid (by rfl) _ _ rfl (w.heap.size) (0) rfl (headC size root) _ (fun w q => q.2.2.1) Tryz.underlying46 rfl HI2.out) hH0 ?_
      try simp only [Act.put, List.setIfInBounds_toArray, List.set_cons_zero, List.set_cons_succ]
      refine wpAnyH_take (i := 12) (oi := ⟨some 35, .binOp .eql 46 (.tmp 33) (.tmp 34) 46, 4, "keyring.go:101", #[⟨10, .data⟩, ⟨11, .data⟩, ⟨2, .guard⟩], some (2, true)⟩) (v := ?_) rfl (by kernel_rfl) (by kernel_rfl) (by kernel_rfl) (fun _ _ _ h => h) (Or.inl ⟨by rfl, fun w hSw => ?_⟩) hH0 ?_
      rotate_left 1
      · (try simp only [NextS] at hSw); go_simp; (try with_reducible rfl)
      try simp only [Act.put, List.setIfInBounds_toArray, List.set_cons_zero, List.set_cons_succ]
      refine wpAnyH_take (i := 13) (oi := ⟨some 36, .pick (.tmp 25) (.tmp 35) (.const (.bool false)), 4, "keyring.go:101", #[⟨2, .data⟩, ⟨12, .data⟩], none⟩) (v := ?_) rfl (by kernel_rfl) (by kernel_rfl) (by kernel_rfl) (fun _ _ _ h => h) (Or.inl ⟨by rfl, fun w hSw => ?_⟩) hH0 ?_
      rotate_left 1
      · (try simp only [NextS] at hSw); go_simp; (try with_reducible rfl)
      try simp only [Act.put, List.setIfInBounds_toArray, List.set_cons_zero, List.set_cons_succ]
      refine wpAnyH_ready (rs := [14]) (by kernel_rfl) (by simp) ?_
      refine AllReadyH.cons (o := ⟨some 22, .assign (.tmp 36), 4, "keyring.go:101", #[⟨13, .data⟩, ⟨2, .chain⟩], none⟩) rfl (fun K hK => ?_) AllReadyH.nil
      go_simp
      refine hK.out _ _ (hH0) (fun hH1 => ?_)
      clear hK K
      try simp only [Act.put, List.setIfInBounds_toArray, List.set_cons_zero, List.set_cons_succ]
      refine wpAnyH_done (by kernel_rfl) ?_ _
      go_wp2_with fail
      have S2 := nextS_drew hH1
      refine wp_region_held_drew (S := (fun w' => NextS w w' r g m cap size root hs hr)) (by kernel_rfl) S2 (fun hH0 => ?_)
      refine wpAnyH_take (i := 0) (oi := ⟨some 40, .move (.tmp 7), 3, "keyring.go:103", #[], none⟩) (v := ?_) rfl (by kernel_rfl) (by kernel_rfl) (by kernel_rfl) (fun _ _ _ h => h) (Or.inl ⟨by rfl, fun w hSw => ?_⟩) hH0 ?_
      rotate_left 1
      · (try simp only [NextS] at hSw); go_simp; (try with_reducible rfl)
      try simp only [Act.put, List.setIfInBounds_toArray, List.set_cons_zero, List.set_cons_succ]
      refine wpAnyH_take (i := 1) (oi := ⟨some 41, .binOp .gtr 3 (.tmp 40) (.const (.int .i64 0)) 3, 4, "keyring.go:103", #[⟨0, .data⟩], none⟩) (v := ?_) rfl (by kernel_rfl) (by kernel_rfl) (by kernel_rfl) (fun _ _ _ h => h) (Or.inl ⟨by rfl, fun w hSw => ?_⟩) hH0 ?_
      rotate_left 1
      · (try simp only [NextS] at hSw); go_simp; (try with_reducible rfl)
      try simp only [Act.put, List.setIfInBounds_toArray, List.set_cons_zero, List.set_cons_succ]
      refine wpAnyH_take (i := 2) (oi := ⟨some 42, .move (.tmp 41), 4, "keyring.go:103", #[⟨1, .data⟩], none⟩) (v := ?_) rfl (by kernel_rfl) (by kernel_rfl) (by kernel_rfl) (fun _ _ _ h => h) (Or.inl ⟨by rfl, fun w hSw => ?_⟩) hH0 ?_
      rotate_left 1
      · (try simp only [NextS] at hSw); go_simp; (try with_reducible rfl)
      try simp only [Act.put, List.setIfInBounds_toArray, List.set_cons_zero, List.set_cons_succ]
      refine wpAnyH_take (i := 3) (oi := ⟨some 43, .move (.tmp 0), 63, "keyring.go:103", #[⟨2, .guard⟩], some (2, true)⟩) (v := ?_) rfl (by kernel_rfl) (by kernel_rfl) (by kernel_rfl) (fun _ _ _ h => h) (Or.inl ⟨by rfl, fun w hSw => ?_⟩) hH0 ?_
      rotate_left 1
      · (try simp only [NextS] at hSw); go_simp; (try with_reducible rfl)
      try simp only [Act.put, List.setIfInBounds_toArray, List.set_cons_zero, List.set_cons_succ]
      refine wpAnyH_take (i := 4) (oi := ⟨some 44, .nilCheck (.tmp 43), 0, "keyring.go:103", #[⟨3, .data⟩, ⟨2, .guard⟩], some (2, true)⟩) (v := ?_) rfl (by kernel_rfl) (by kernel_rfl) (by kernel_rfl) (fun _ _ _ h => h) (Or.inl ⟨by rfl, fun w hSw => ?_⟩) hH0 ?_
      rotate_left 1
      · (try simp only [NextS] at hSw); go_simp; (try with_reducible rfl)
      try simp only [Act.put, List.setIfInBounds_toArray, List.set_cons_zero, List.set_cons_succ]
      refine wpAnyH_take (i := 5) (oi := ⟨some 45, .fieldAddr 146 (.tmp 44) 2, 0, "keyring.go:103", #[⟨4, .data⟩, ⟨2, .guard⟩], some (2, true)⟩) (v := ?_) rfl (by kernel_rfl) (by kernel_rfl) (by kernel_rfl) (fun _ _ _ h => h) (Or.inl ⟨by rfl, fun w hSw => ?_⟩) hH0 ?_
      rotate_left 1
      · (try simp only [NextS] at hSw); go_simp; (try with_reducible rfl)
      try simp only [Act.put, List.setIfInBounds_toArray, List.set_cons_zero, List.set_cons_succ]
      refine wpAnyH_take (i := 6) (oi := ⟨some 46, .load 143 (.tmp 45), 143, "keyring.go:103", #[⟨5, .data⟩, ⟨2, .guard⟩], some (2, true)⟩) (v := ?_) rfl (by kernel_rfl) (by kernel_rfl) (by kernel_rfl) (fun _ _ _ h => h) (Or.inl ⟨by rfl, fun w hSw => ?_⟩) hH0 ?_
      rotate_left 1
      · (try simp only [NextS] at hSw); go_simp; (try with_reducible rfl)
      try simp only [Act.put, List.setIfInBounds_toArray, List.set_cons_zero, List.set_cons_succ]
      refine wpAnyH_take (i := 7) (oi := ⟨some 47, .move (.tmp 7), 3, "keyring.go:103", #[⟨2, .guard⟩], some (2, true)⟩) (v := ?_) rfl (by kernel_rfl) (by kernel_rfl) (by kernel_rfl) (fun _ _ _ h => h) (Or.inl ⟨by rfl, fun w hSw => ?_⟩) hH0 ?_
      rotate_left 1
      · (try simp only [NextS] at hSw); go_simp; (try with_reducible rfl)
      try simp only [Act.put, List.setIfInBounds_toArray, List.set_cons_zero, List.set_cons_succ]
      refine wpAnyH_take (i := 8) (oi := ⟨some 48, .binOp .sub 3 (.tmp 47) (.const (.int .i64 1)) 3, 3, "keyring.go:103", #[⟨7, .data⟩, ⟨2, .guard⟩], some (2, true)⟩) (v := ?_) rfl (by kernel_rfl) (by kernel_rfl) (by kernel_rfl) (fun _ _ _ h => h) (Or.inl ⟨by rfl, fun w hSw => ?_⟩) hH0 ?_
      rotate_left 1
      · (try simp only [NextS] at hSw); go_simp; (try with_reducible rfl)
      try simp only [Act.put, List.setIfInBounds_toArray, List.set_cons_zero, List.set_cons_succ]
      refine wpAnyH_take (i := 9) (oi := ⟨some 49, .indexAddr 143 (.tmp 46) (.tmp 48), 0, "keyring.go:103", #[⟨6, .data⟩, ⟨8, .data⟩, ⟨2, .guard⟩], some (2, true)⟩) (v := ?_) rfl (by kernel_rfl) (by kernel_rfl) (by kernel_rfl) (fun _ _ _ h => h) (Or.inl ⟨by rfl, fun w hSw => ?_⟩) hH0 ?_
      rotate_left 1
      · (try simp only [NextS] at hSw); go_simp; (try with_reducible rfl)
      try simp only [Act.put, List.setIfInBounds_toArray, List.set_cons_zero, List.set_cons_succ]
      refine wpAnyH_take (i := 10) (oi := ⟨some 50, .fieldAddr 46 (.tmp 49) 0, 0, "keyring.go:103", #[⟨9, .data⟩, ⟨2, .guard⟩], some (2, true)⟩) (v := ?_) rfl (by kernel_rfl) (by kernel_rfl) (by kernel_rfl) (fun _ _ _ h => h) (Or.inl ⟨by rfl, fun w hSw => ?_⟩) hH0 ?_
      rotate_left 1
      · (try simp only [NextS] at hSw); go_simp; (try with_reducible rfl)
      try simp only [Act.put, List.setIfInBounds_toArray, List.set_cons_zero, List.set_cons_succ]
      refine wpAnyH_take (i := 11) (oi := ⟨some 51, .load 3 (.tmp 50), 3, "keyring.go:103", #[⟨10, .data⟩, ⟨2, .guard⟩], some (2, true)⟩) (v := ?_) rfl (by kernel_rfl) (by kernel_rfl) (by kernel_rfl) (fun _ _ _ h => h) (Or.inl ⟨by rfl, fun w hSw => ?_⟩) hH0 ?_
      rotate_left 1
      · (try simp only [NextS] at hSw); go_simp; (try with_reducible rfl)
      try simp only [Act.put, List.setIfInBounds_toArray, List.set_cons_zero, List.set_cons_succ]
      refine wpAnyH_take (i := 12) (oi := ⟨some 52, .fieldAddr 46 (.tmp 3) 0, 0, "keyring.go:103", #[⟨2, .guard⟩], some (2, true)⟩) (v := ?_) rfl (by kernel_rfl) (by kernel_rfl) (by kernel_rfl) (fun _ _ _ h => h) (Or.inl ⟨by rfl, fun w hSw => ?_⟩) hH0 ?_
      rotate_left 1
      · (try simp only [NextS] at hSw); go_simp; (try with_reducible rfl)
      try simp only [Act.put, List.setIfInBounds_toArray, List.set_cons_zero, List.set_cons_succ]
      refine wpAnyH_take (i := 13) (oi := ⟨some 53, .load 3 (.tmp 52), 3, "keyring.go:103", #[⟨12, .data⟩, ⟨2, .guard⟩], some (2, true)⟩) (v := ?_) rfl (by kernel_rfl) (by kernel_rfl) (by kernel_rfl) (fun _ _ _ h => h) (Or.inl ⟨by rfl, fun w hSw => ?_⟩) hH0 ?_
      rotate_left 1
      · (try simp only [NextS] at hSw); go_simp; (try with_reducible rfl)
      try simp only [Act.put, List.setIfInBounds_toArray, List.set_cons_zero, List.set_cons_succ]
      refine wpAnyH_take (i := 14) (oi := ⟨some 54, .binOp .geq 3 (.tmp 51) (.tmp 53) 3, 4, "keyring.go:103", #[⟨11, .data⟩, ⟨13, .data⟩, ⟨2, .guard⟩], some (2, true)⟩) (v := ?_) rfl (by kernel_rfl) (by kernel_rfl) (by kernel_rfl) (fun _ _ _ h => h) (Or.inl ⟨by rfl, fun w hSw => ?_⟩) hH0 ?_
      rotate_left 1
      · (try simp only [NextS] at hSw); go_simp; (try with_reducible rfl)
      try simp only [Act.put, List.setIfInBounds_toArray, List.set_cons_zero, List.set_cons_succ]
      refine wpAnyH_take (i := 15) (oi := ⟨some 55, .pick (.tmp 42) (.tmp 54) (.const (.bool false)), 4, "keyring.go:103", #[⟨2, .data⟩, ⟨14, .data⟩], none⟩) (v := ?_) rfl (by kernel_rfl) (by kernel_rfl) (by kernel_rfl) (fun _ _ _ h => h) (Or.inl ⟨by rfl, fun w hSw => ?_⟩) hH0 ?_
      rotate_left 1
      · (try simp only [NextS] at hSw); go_simp; (try with_reducible rfl)
      try simp only [Act.put, List.setIfInBounds_toArray, List.set_cons_zero, List.set_cons_succ]
      refine wpAnyH_ready (rs := [16]) (by kernel_rfl) (by simp) ?_
      refine AllReadyH.cons (o := ⟨some 39, .assign (.tmp 55), 4, "keyring.go:103", #[⟨15, .data⟩, ⟨2, .chain⟩], none⟩) rfl (fun K hK => ?_) AllReadyH.nil
      go_simp
      refine hK.out _ _ (hH0) (fun hH1 => ?_)
      clear hK K
      try simp only [Act.put, List.setIfInBounds_toArray, List.set_cons_zero, List.set_cons_succ]
      refine wpAnyH_done (by kernel_rfl) ?_ _
      go_wp2_with fail
      go_ret3
      exact ⟨rfl, hH1.2.2.2.2.2⟩
    · have y5 : decide (size ≤ (hs : Int)) = false := decide_eq_false hle
      rw [if_neg hle]
      clear hle
      by_cases h8 : 8 ≤ m + 1
      · have y6 : decide ((8 : Int) ≤ (m : Int) + 1) = true := decide_eq_true (by omega)
        rw [if_pos h8]
        clear h8
        go_enter Tryz.func81, Tryz.ntmps81
        go_wp2_with fail
        refine wp_region_held_drew (S := (fun w' => NextS w w' r g m cap size root hs hr)) (by kernel_rfl) S0 (fun hH0 => ?_)
        refine wpAnyH_take (i := 0) (oi := ⟨some 23, .move (.tmp 7), 3, "keyring.go:101", #[], none⟩) (v := ?_) rfl (by kernel_rfl) (by kernel_rfl) (by kernel_rfl) (fun _ _ _ h => h) (Or.inl ⟨by rfl, fun w hSw => ?_⟩) hH0 ?_
        rotate_left 1
        · (try simp only [NextS] at hSw); go_simp; (try with_reducible rfl)
        try simp only [Act.put, List.setIfInBounds_toArray, List.set_cons_zero, List.set_cons_succ]
        refine wpAnyH_take (i := 1) (oi := ⟨some 24, .binOp .gtr 3 (.tmp 23) (.const (.int .i64 0)) 3, 4, "keyring.go:101", #[⟨0, .data⟩], none⟩) (v := ?_) rfl (by kernel_rfl) (by kernel_rfl) (by kernel_rfl) (fun _ _ _ h => h) (Or.inl ⟨by rfl, fun w hSw => ?_⟩) hH0 ?_
        rotate_left 1
        · (try simp only [NextS] at hSw); go_simp; (try with_reducible rfl)
        try simp only [Act.put, List.setIfInBounds_toArray, List.set_cons_zero, List.set_cons_succ]
        refine wpAnyH_take (i := 2) (oi := ⟨some 25, .move (.tmp 24), 4, "keyring.go:101", #[⟨1, .data⟩], none⟩) (v := ?_) rfl (by kernel_rfl) (by kernel_rfl) (by kernel_rfl) (fun _ _ _ h => h) (Or.inl ⟨by rfl, fun w hSw => ?_⟩) hH0 ?_
        rotate_left 1
        · (try simp only [NextS] at hSw); go_simp; (try with_reducible rfl)
        try simp only [Act.put, List.setIfInBounds_toArray, List.set_cons_zero, List.set_cons_succ]
        refine wpAnyH_take (i := 3) (oi := ⟨some 26, .move (.tmp 0), 63, "keyring.go:101", #[⟨2, .guard⟩], some (2, true)⟩) (v := ?_) rfl (by kernel_rfl) (by kernel_rfl) (by kernel_rfl) (fun _ _ _ h => h) (Or.inl ⟨by rfl, fun w hSw => ?_⟩) hH0 ?_
        rotate_left 1
        · (try simp only [NextS] at hSw); go_simp; (try with_reducible rfl)
        try simp only [Act.put, List.setIfInBounds_toArray, List.set_cons_zero, List.set_cons_succ]
        refine wpAnyH_take (i := 4) (oi := ⟨some 27, .nilCheck (.tmp 26), 0, "keyring.go:101", #[⟨3, .data⟩, ⟨2, .guard⟩], some (2, true)⟩) (v := ?_) rfl (by kernel_rfl) (by kernel_rfl) (by kernel_rfl) (fun _ _ _ h => h) (Or.inl ⟨by rfl, fun w hSw => ?_⟩) hH0 ?_
        rotate_left 1
        · (try simp only [NextS] at hSw); go_simp; (try with_reducible rfl)
        try simp only [Act.put, List.setIfInBounds_toArray, List.set_cons_zero, List.set_cons_succ]
        refine wpAnyH_take (i := 5) (oi := ⟨some 28, .fieldAddr 146 (.tmp 27) 2, 0, "keyring.go:101", #[⟨4, .data⟩, ⟨2, .guard⟩], some (2, true)⟩) (v := ?_) rfl (by kernel_rfl) (by kernel_rfl) (by kernel_rfl) (fun _ _ _ h => h) (Or.inl ⟨by rfl, fun w hSw => ?_⟩) hH0 ?_
        rotate_left 1
        · (try simp only [NextS] at hSw); go_simp; (try with_reducible rfl)
        try simp only [Act.put, List.setIfInBounds_toArray, List.set_cons_zero, List.set_cons_succ]
        refine wpAnyH_take (i := 6) (oi := ⟨some 29, .load 143 (.tmp 28), 143, "keyring.go:101", #[⟨5, .data⟩, ⟨2, .guard⟩], some (2, true)⟩) (v := ?_) rfl (by kernel_rfl) (by kernel_rfl) (by kernel_rfl) (fun _ _ _ h => h) (Or.inl ⟨by rfl, fun w hSw => ?_⟩) hH0 ?_
        rotate_left 1
        · (try simp only [NextS] at hSw); go_simp; (try with_reducible rfl)
        try simp only [Act.put, List.setIfInBounds_toArray, List.set_cons_zero, List.set_cons_succ]
        refine wpAnyH_take (i := 7) (oi := ⟨some 30, .move (.tmp 7), 3, "keyring.go:101", #[⟨2, .guard⟩], some (2, true)⟩) (v := ?_) rfl (by kernel_rfl) (by kernel_rfl) (by kernel_rfl) (fun _ _ _ h => h) (Or.inl ⟨by rfl, fun w hSw => ?_⟩) hH0 ?_
        rotate_left 1
        · (try simp only [NextS] at hSw); go_simp; (try with_reducible rfl)
        try simp only [Act.put, List.setIfInBounds_toArray, List.set_cons_zero, List.set_cons_succ]
        refine wpAnyH_take (i := 8) (oi := ⟨some 31, .binOp .sub 3 (.tmp 30) (.const (.int .i64 1)) 3, 3, "keyring.go:101", #[⟨7, .data⟩, ⟨2, .guard⟩], some (2, true)⟩) (v := ?_) rfl (by kernel_rfl) (by kernel_rfl) (by kernel_rfl) (fun _ _ _ h => h) (Or.inl ⟨by rfl, fun w hSw => ?_⟩) hH0 ?_
        rotate_left 1
        · (try simp only [NextS] at hSw); go_simp; (try with_reducible rfl)
        try simp only [Act.put, List.setIfInBounds_toArray, List.set_cons_zero, List.set_cons_succ]
        refine wpAnyH_take (i := 9) (oi := ⟨some 32, .indexAddr 143 (.tmp 29) (.tmp 31), 0, "keyring.go:101", #[⟨6, .data⟩, ⟨8, .data⟩, ⟨2, .guard⟩], some (2, true)⟩) (v := ?_) rfl (by kernel_rfl) (by kernel_rfl) (by kernel_rfl) (fun _ _ _ h => h) (Or.inl ⟨by rfl, fun w hSw => ?_⟩) hH0 ?_
        rotate_left 1
        · (try simp only [NextS] at hSw); go_simp; (try with_reducible rfl)
        try simp only [Act.put, List.setIfInBounds_toArray, List.set_cons_zero, List.set_cons_succ]
        refine wpAnyH_take (i := 10) (oi := ⟨some 33, .load 46 (.tmp 32), 46, "keyring.go:101", #[⟨9, .data⟩, ⟨2, .guard⟩], some (2, true)⟩) (v := .agg (headC (hs : Int) hr).toArray) rfl (by kernel_rfl) (by kernel_rfl) (by kernel_rfl) (fun _ _ _ h => h) (yieldsIf_load_mid (by rfl) _ _ rfl (g) (m * 33) rfl (headC (hs : Int) hr) _ (fun w q => q.2.1) Tryz.underlying46 rfl HI1.out) hH0 ?_
        try simp only [Act.put, List.setIfInBounds_toArray, List.set_cons_zero, List.set_cons_succ]
        refine wpAnyH_take (i := 11) (oi := ⟨some 34, .load 46 (.tmp 3), 46, "keyring.go:101", #[⟨2, .guard⟩], some (2, true)⟩) (v := .agg (headC size root).toArray) rfl (by kernel_rfl) (by kernel_rfl) (by kernel_rfl) (fun _ _ _ h => h) (yieldsIf_load_mid (by rfl) _ _ rfl (w.heap.size) (0) rfl (headC size root) _ (fun w q => q.2.2.1) Tryz.underlying46 rfl HI2.out) hH0 ?_
        try simp only [Act.put, List.setIfInBounds_toArray, List.set_cons_zero, List.set_cons_succ]
        refine wpAnyH_take (i := 12) (oi := ⟨some 35, .binOp .eql 46 (.tmp 33) (.tmp 34) 46, 4, "keyring.go:101", #[⟨10, .data⟩, ⟨11, .data⟩, ⟨2, .guard⟩], some (2, true)⟩) (v := ?_) rfl (by kernel_rfl) (by kernel_rfl) (by kernel_rfl) (fun _ _ _ h => h) (Or.inl ⟨by rfl, fun w hSw => ?_⟩) hH0 ?_
        rotate_left 1
        · (try simp only [NextS] at hSw); go_simp; (try with_reducible rfl)
        try simp only [Act.put, List.setIfInBounds_toArray, List.set_cons_zero, List.set_cons_succ]
        refine wpAnyH_take (i := 13) (oi := ⟨some 36, .pick (.tmp 25) (.tmp 35) (.const (.bool false)), 4, "keyring.go:101", #[⟨2, .data⟩, ⟨12, .data⟩], none⟩) (v := ?_) rfl (by kernel_rfl) (by kernel_rfl) (by kernel_rfl) (fun _ _ _ h => h) (Or.inl ⟨by rfl, fun w hSw => ?_⟩) hH0 ?_
        rotate_left 1
        · (try simp only [NextS] at hSw); go_simp; (try with_reducible rfl)
        try simp only [Act.put, List.setIfInBounds_toArray, List.set_cons_zero, List.set_cons_succ]
        refine wpAnyH_ready (rs := [14]) (by kernel_rfl) (by simp) ?_
        refine AllReadyH.cons (o := ⟨some 22, .assign (.tmp 36), 4, "keyring.go:101", #[⟨13, .data⟩, ⟨2, .chain⟩], none⟩) rfl (fun K hK => ?_) AllReadyH.nil
        go_simp
        refine hK.out _ _ (hH0) (fun hH1 => ?_)
        clear hK K
        try simp only [Act.put, List.setIfInBounds_toArray, List.set_cons_zero, List.set_cons_succ]
        refine wpAnyH_done (by kernel_rfl) ?_ _
        go_wp2_with fail
        have S2 := nextS_drew hH1
        refine wp_region_held_drew (S := (fun w' => NextS w w' r g m cap size root hs hr)) (by kernel_rfl) S2 (fun hH0 => ?_)
        refine wpAnyH_take (i := 0) (oi := ⟨some 40, .move (.tmp 7), 3, "keyring.go:103", #[], none⟩) (v := ?_) rfl (by kernel_rfl) (by kernel_rfl) (by kernel_rfl) (fun _ _ _ h => h) (Or.inl ⟨by rfl, fun w hSw => ?_⟩) hH0 ?_
        rotate_left 1
        · (try simp only [NextS] at hSw); go_simp; (try with_reducible rfl)
        try simp only [Act.put, List.setIfInBounds_toArray, List.set_cons_zero, List.set_cons_succ]
        refine wpAnyH_take (i := 1) (oi := ⟨some 41, .binOp .gtr 3 (.tmp 40) (.const (.int .i64 0)) 3, 4, "keyring.go:103", #[⟨0, .data⟩], none⟩) (v := ?_) rfl (by kernel_rfl) (by kernel_rfl) (by kernel_rfl) (fun _ _ _ h => h) (Or.inl ⟨by rfl, fun w hSw => ?_⟩) hH0 ?_
        rotate_left 1
        · (try simp only [NextS] at hSw); go_simp; (try with_reducible rfl)
        try simp only [Act.put, List.setIfInBounds_toArray, List.set_cons_zero, List.set_cons_succ]
        refine wpAnyH_take (i := 2) (oi := ⟨some 42, .move (.tmp 41), 4, "keyring.go:103", #[⟨1, .data⟩], none⟩) (v := ?_) rfl (by kernel_rfl) (by kernel_rfl) (by kernel_rfl) (fun _ _ _ h => h) (Or.inl ⟨by rfl, fun w hSw => ?_⟩) hH0 ?_
        rotate_left 1
        · (try simp only [NextS] at hSw); go_simp; (try with_reducible rfl)
        try simp only [Act.put, List.setIfInBounds_toArray, List.set_cons_zero, List.set_cons_succ]
        refine wpAnyH_take (i := 3) (oi := ⟨some 43, .move (.tmp 0), 63, "keyring.go:103", #[⟨2, .guard⟩], some (2, true)⟩) (v := ?_) rfl (by kernel_rfl) (by kernel_rfl) (by kernel_rfl) (fun _ _ _ h => h) (Or.inl ⟨by rfl, fun w hSw => ?_⟩) hH0 ?_
        rotate_left 1
        · (try simp only [NextS] at hSw); go_simp; (try with_reducible rfl)
        try simp only [Act.put, List.setIfInBounds_toArray, List.set_cons_zero, List.set_cons_succ]
        refine wpAnyH_take (i := 4) (oi := ⟨some 44, .nilCheck (.tmp 43), 0, "keyring.go:103", #[⟨3, .data⟩, ⟨2, .guard⟩], some (2, true)⟩) (v := ?_) rfl (by kernel_rfl) (by kernel_rfl) (by kernel_rfl) (fun _ _ _ h => h) (Or.inl ⟨by rfl, fun w hSw => ?_⟩) hH0 ?_
        rotate_left 1
        · (try simp only [NextS] at hSw); go_simp; (try with_reducible rfl)
        try simp only [Act.put, List.setIfInBounds_toArray, List.set_cons_zero, List.set_cons_succ]
        refine wpAnyH_take (i := 5) (oi := ⟨some 45, .fieldAddr 146 (.tmp 44) 2, 0, "keyring.go:103", #[⟨4, .data⟩, ⟨2, .guard⟩], some (2, true)⟩) (v := ?_) rfl (by kernel_rfl) (by kernel_rfl) (by kernel_rfl) (fun _ _ _ h => h) (Or.inl ⟨by rfl, fun w hSw => ?_⟩) hH0 ?_
        rotate_left 1
        · (try simp only [NextS] at hSw); go_simp; (try with_reducible rfl)
        try simp only [Act.put, List.setIfInBounds_toArray, List.set_cons_zero, List.set_cons_succ]
        refine wpAnyH_take (i := 6) (oi := ⟨some 46, .load 143 (.tmp 45), 143, "keyring.go:103", #[⟨5, .data⟩, ⟨2, .guard⟩], some (2, true)⟩) (v := ?_) rfl (by kernel_rfl) (by kernel_rfl) (by kernel_rfl) (fun _ _ _ h => h) (Or.inl ⟨by rfl, fun w hSw => ?_⟩) hH0 ?_
        rotate_left 1
        · (try simp only [NextS] at hSw); go_simp; (try with_reducible rfl)
        try simp only [Act.put, List.setIfInBounds_toArray, List.set_cons_zero, List.set_cons_succ]
        refine wpAnyH_take (i := 7) (oi := ⟨some 47, .move (.tmp 7), 3, "keyring.go:103", #[⟨2, .guard⟩], some (2, true)⟩) (v := ?_) rfl (by kernel_rfl) (by kernel_rfl) (by kernel_rfl) (fun _ _ _ h => h) (Or.inl ⟨by rfl, fun w hSw => ?_⟩) hH0 ?_
        rotate_left 1
        · (try simp only [NextS] at hSw); go_simp; (try with_reducible rfl)
        try simp only [Act.put, List.setIfInBounds_toArray, List.set_cons_zero, List.set_cons_succ]
        refine wpAnyH_take (i := 8) (oi := ⟨some 48, .binOp .sub 3 (.tmp 47) (.const (.int .i64 1)) 3, 3, "keyring.go:103", #[⟨7, .data⟩, ⟨2, .guard⟩], some (2, true)⟩) (v := ?_) rfl (by kernel_rfl) (by kernel_rfl) (by kernel_rfl) (fun _ _ _ h => h) (Or.inl ⟨by rfl, fun w hSw => ?_⟩) hH0 ?_
        rotate_left 1
        · (try simp only [NextS] at hSw); go_simp; (try with_reducible rfl)
        try simp only [Act.put, List.setIfInBounds_toArray, List.set_cons_zero, List.set_cons_succ]
        refine wpAnyH_take (i := 9) (oi := ⟨some 49, .indexAddr 143 (.tmp 46) (.tmp 48), 0, "keyring.go:103", #[⟨6, .data⟩, ⟨8, .data⟩, ⟨2, .guard⟩], some (2, true)⟩) (v := ?_) rfl (by kernel_rfl) (by kernel_rfl) (by kernel_rfl) (fun _ _ _ h => h) (Or.inl ⟨by rfl, fun w hSw => ?_⟩) hH0 ?_
        rotate_left 1
        · (try simp only [NextS] at hSw); go_simp; (try with_reducible rfl)
        try simp only [Act.put, List.setIfInBounds_toArray, List.set_cons_zero, List.set_cons_succ]
        refine wpAnyH_take (i := 10) (oi := ⟨some 50, .fieldAddr 46 (.tmp 49) 0, 0, "keyring.go:103", #[⟨9, .data⟩, ⟨2, .guard⟩], some (2, true)⟩) (v := ?_) rfl (by kernel_rfl) (by kernel_rfl) (by kernel_rfl) (fun _ _ _ h => h) (Or.inl ⟨by rfl, fun w hSw => ?_⟩) hH0 ?_
        rotate_left 1
        · (try simp only [NextS] at hSw); go_simp; (try with_reducible rfl)
        try simp only [Act.put, List.setIfInBounds_toArray, List.set_cons_zero, List.set_cons_succ]
        refine wpAnyH_take (i := 11) (oi := ⟨some 51, .load 3 (.tmp 50), 3, "keyring.go:103", #[⟨10, .data⟩, ⟨2, .guard⟩], some (2, true)⟩) (v := ?_) rfl (by kernel_rfl) (by kernel_rfl) (by kernel_rfl) (fun _ _ _ h => h) (Or.inl ⟨by rfl, fun w hSw => ?_⟩) hH0 ?_
        rotate_left 1
        · (try simp only [NextS] at hSw); go_simp; (try with_reducible rfl)
        try simp only [Act.put, List.setIfInBounds_toArray, List.set_cons_zero, List.set_cons_succ]
        refine wpAnyH_take (i := 12) (oi := ⟨some 52, .fieldAddr 46 (.tmp 3) 0, 0, "keyring.go:103", #[⟨2, .guard⟩], some (2, true)⟩) (v := ?_) rfl (by kernel_rfl) (by kernel_rfl) (by kernel_rfl) (fun _ _ _ h => h) (Or.inl ⟨by rfl, fun w hSw => ?_⟩) hH0 ?_
        rotate_left 1
        · (try simp only [NextS] at hSw); go_simp; (try with_reducible rfl)
        try simp only [Act.put, List.setIfInBounds_toArray, List.set_cons_zero, List.set_cons_succ]
        refine wpAnyH_take (i := 13) (oi := ⟨some 53, .load 3 (.tmp 52), 3, "keyring.go:103", #[⟨12, .data⟩, ⟨2, .guard⟩], some (2, true)⟩) (v := ?_) rfl (by kernel_rfl) (by kernel_rfl) (by kernel_rfl) (fun _ _ _ h => h) (Or.inl ⟨by rfl, fun w hSw => ?_⟩) hH0 ?_
        rotate_left 1
        · (try simp only [NextS] at hSw); go_simp; (try with_reducible rfl)
        try simp only [Act.put, List.setIfInBounds_toArray, List.set_cons_zero, List.set_cons_succ]
        refine wpAnyH_take (i := 14) (oi := ⟨some 54, .binOp .geq 3 (.tmp 51) (.tmp 53) 3, 4, "keyring.go:103", #[⟨11, .data⟩, ⟨13, .data⟩, ⟨2, .guard⟩], some (2, true)⟩) (v := ?_) rfl (by kernel_rfl) (by kernel_rfl) (by kernel_rfl) (fun _ _ _ h => h) (Or.inl ⟨by rfl, fun w hSw => ?_⟩) hH0 ?_
        rotate_left 1
        · (try simp only [NextS] at hSw); go_simp; (try with_reducible rfl)
        try simp only [Act.put, List.setIfInBounds_toArray, List.set_cons_zero, List.set_cons_succ]
        refine wpAnyH_take (i := 15) (oi := ⟨some 55, .pick (.tmp 42) (.tmp 54) (.const (.bool false)), 4, "keyring.go:103", #[⟨2, .data⟩, ⟨14, .data⟩], none⟩) (v := ?_) rfl (by kernel_rfl) (by kernel_rfl) (by kernel_rfl) (fun _ _ _ h => h) (Or.inl ⟨by rfl, fun w hSw => ?_⟩) hH0 ?_
        rotate_left 1
        · (try simp only [NextS] at hSw); go_simp; (try with_reducible rfl)
        try simp only [Act.put, List.setIfInBounds_toArray, List.set_cons_zero, List.set_cons_succ]
        refine wpAnyH_ready (rs := [16]) (by kernel_rfl) (by simp) ?_
        refine AllReadyH.cons (o := ⟨some 39, .assign (.tmp 55), 4, "keyring.go:103", #[⟨15, .data⟩, ⟨2, .chain⟩], none⟩) rfl (fun K hK => ?_) AllReadyH.nil
        go_simp
        refine hK.out _ _ (hH0) (fun hH1 => ?_)
        clear hK K
        try simp only [Act.put, List.setIfInBounds_toArray, List.set_cons_zero, List.set_cons_succ]
        refine wpAnyH_done (by kernel_rfl) ?_ _
        go_wp2_with fail
        go_ret3
        exact ⟨rfl, hH1.2.2.2.2.2⟩
      · have y6 : decide ((8 : Int) ≤ (m : Int) + 1) = false := decide_eq_false (by omega)
        rw [if_neg h8]
        clear h8
        go_enter Tryz.func81, Tryz.ntmps81
        go_wp2_with fail
        refine wp_region_held_drew (S := (fun w' => NextS w w' r g m cap size root hs hr)) (by kernel_rfl) S0 (fun hH0 => ?_)
        refine wpAnyH_take (i := 0) (oi := ⟨some 23, .move (.tmp 7), 3, "keyring.go:101", #[], none⟩) (v := ?_) rfl (by kernel_rfl) (by kernel_rfl) (by kernel_rfl) (fun _ _ _ h => h) (Or.inl ⟨by rfl, fun w hSw => ?_⟩) hH0 ?_
        rotate_left 1
        · (try simp only [NextS] at hSw); go_simp; (try with_reducible rfl)
        try simp only [Act.put, List.setIfInBounds_toArray, List.set_cons_zero, List.set_cons_succ]
        refine wpAnyH_take (i := 1) (oi := ⟨some 24, .binOp .gtr 3 (.tmp 23) (.const (.int .i64 0)) 3, 4, "keyring.go:101", #[⟨0, .data⟩], none⟩) (v := ?_) rfl (by kernel_rfl) (by kernel_rfl) (by kernel_rfl) (fun _ _ _ h => h) (Or.inl ⟨by rfl, fun w hSw => ?_⟩) hH0 ?_
        rotate_left 1
        · (try simp only [NextS] at hSw); go_simp; (try with_reducible rfl)
        try simp only [Act.put, List.setIfInBounds_toArray, List.set_cons_zero, List.set_cons_succ]
        refine wpAnyH_take (i := 2) (oi := ⟨some 25, .move (.tmp 24), 4, "keyring.go:101", #[⟨1, .data⟩], none⟩) (v := ?_) rfl (by kernel_rfl) (by kernel_rfl) (by kernel_rfl) (fun _ _ _ h => h) (Or.inl ⟨by rfl, fun w hSw => ?_⟩) hH0 ?_
        rotate_left 1
        · (try simp only [NextS] at hSw); go_simp; (try with_reducible rfl)
        try simp only [Act.put, List.setIfInBounds_toArray, List.set_cons_zero, List.set_cons_succ]
        refine wpAnyH_take (i := 3) (oi := ⟨some 26, .move (.tmp 0), 63, "keyring.go:101", #[⟨2, .guard⟩], some (2, true)⟩) (v := ?_) rfl (by kernel_rfl) (by kernel_rfl) (by kernel_rfl) (fun _ _ _ h => h) (Or.inl ⟨by rfl, fun w hSw => ?_⟩) hH0 ?_
        rotate_left 1
        · (try simp only [NextS] at hSw); go_simp; (try with_reducible rfl)
        try simp only [Act.put, List.setIfInBounds_toArray, List.set_cons_zero, List.set_cons_succ]
        refine wpAnyH_take (i := 4) (oi := ⟨some 27, .nilCheck (.tmp 26), 0, "keyring.go:101", #[⟨3, .data⟩, ⟨2, .guard⟩], some (2, true)⟩) (v := ?_) rfl (by kernel_rfl) (by kernel_rfl) (by kernel_rfl) (fun _ _ _ h => h) (Or.inl ⟨by rfl, fun w hSw => ?_⟩) hH0 ?_
        rotate_left 1
        · (try simp only [NextS] at hSw); go_simp; (try with_reducible rfl)
        try simp only [Act.put, List.setIfInBounds_toArray, List.set_cons_zero, List.set_cons_succ]
        refine wpAnyH_take (i := 5) (oi := ⟨some 28, .fieldAddr 146 (.tmp 27) 2, 0, "keyring.go:101", #[⟨4, .data⟩, ⟨2, .guard⟩], some (2, true)⟩) (v := ?_) rfl (by kernel_rfl) (by kernel_rfl) (by kernel_rfl) (fun _ _ _ h => h) (Or.inl ⟨by rfl, fun w hSw => ?_⟩) hH0 ?_
        rotate_left 1
        · (try simp only [NextS] at hSw); go_simp; (try with_reducible rfl)
        try simp only [Act.put, List.setIfInBounds_toArray, List.set_cons_zero, List.set_cons_succ]
        refine wpAnyH_take (i := 6) (oi := ⟨some 29, .load 143 (.tmp 28), 143, "keyring.go:101", #[⟨5, .data⟩, ⟨2, .guard⟩], some (2, true)⟩) (v := ?_) rfl (by kernel_rfl) (by kernel_rfl) (by kernel_rfl) (fun _ _ _ h => h) (Or.inl ⟨by rfl, fun w hSw => ?_⟩) hH0 ?_
        rotate_left 1
        · (try simp only [NextS] at hSw); go_simp; (try with_reducible rfl)
        try simp only [Act.put, List.setIfInBounds_toArray, List.set_cons_zero, List.set_cons_succ]
        refine wpAnyH_take (i := 7) (oi := ⟨some 30, .move (.tmp 7), 3, "keyring.go:101", #[⟨2, .guard⟩], some (2, true)⟩) (v := ?_) rfl (by kernel_rfl) (by kernel_rfl) (by kernel_rfl) (fun _ _ _ h => h) (Or.inl ⟨by rfl, fun w hSw => ?_⟩) hH0 ?_
        rotate_left 1
        · (try simp only [NextS] at hSw); go_simp; (try with_reducible rfl)
        try simp only [Act.put, List.setIfInBounds_toArray, List.set_cons_zero, List.set_cons_succ]
        refine wpAnyH_take (i := 8) (oi := ⟨some 31, .binOp .sub 3 (.tmp 30) (.const (.int .i64 1)) 3, 3, "keyring.go:101", #[⟨7, .data⟩, ⟨2, .guard⟩], some (2, true)⟩) (v := ?_) rfl (by kernel_rfl) (by kernel_rfl) (by kernel_rfl) (fun _ _ _ h => h) (Or.inl ⟨by rfl, fun w hSw => ?_⟩) hH0 ?_
        rotate_left 1
        · (try simp only [NextS] at hSw); go_simp; (try with_reducible rfl)
        try simp only [Act.put, List.setIfInBounds_toArray, List.set_cons_zero, List.set_cons_succ]
        refine wpAnyH_take (i := 9) (oi := ⟨some 32, .indexAddr 143 (.tmp 29) (.tmp 31), 0, "keyring.go:101", #[⟨6, .data⟩, ⟨8, .data⟩, ⟨2, .guard⟩], some (2, true)⟩) (v := ?_) rfl (by kernel_rfl) (by kernel_rfl) (by kernel_rfl) (fun _ _ _ h => h) (Or.inl ⟨by rfl, fun w hSw => ?_⟩) hH0 ?_
        rotate_left 1
        · (try simp only [NextS] at hSw); go_simp; (try with_reducible rfl)
        try simp only [Act.put, List.setIfInBounds_toArray, List.set_cons_zero, List.set_cons_succ]
        refine wpAnyH_take (i := 10) (oi := ⟨some 33, .load 46 (.tmp 32), 46, "keyring.go:101", #[⟨9, .data⟩, ⟨2, .guard⟩], some (2, true)⟩) (v := .agg (headC (hs : Int) hr).toArray) rfl (by kernel_rfl) (by kernel_rfl) (by kernel_rfl) (fun _ _ _ h => h) (yieldsIf_load_mid (by rfl) _ _ rfl (g) (m * 33) rfl (headC (hs : Int) hr) _ (fun w q => q.2.1) Tryz.underlying46 rfl HI1.out) hH0 ?_
        try simp only [Act.put, List.setIfInBounds_toArray, List.set_cons_zero, List.set_cons_succ]
        refine wpAnyH_take (i := 11) (oi := ⟨some 34, .load 46 (.tmp 3), 46, "keyring.go:101", #[⟨2, .guard⟩], some (2, true)⟩) (v := .agg (headC size root).toArray) rfl (by kernel_rfl) (by kernel_rfl) (by kernel_rfl) (fun _ _ _ h => h) (yieldsIf_load_mid (by rfl) _ _ rfl (w.heap.size) (0) rfl (headC size root) _ (fun w q => q.2.2.1) Tryz.underlying46 rfl HI2.out) hH0 ?_
        try simp only [Act.put, List.setIfInBounds_toArray, List.set_cons_zero, List.set_cons_succ]
        refine wpAnyH_take (i := 12) (oi := ⟨some 35, .binOp .eql 46 (.tmp 33) (.tmp 34) 46, 4, "keyring.go:101", #[⟨10, .data⟩, ⟨11, .data⟩, ⟨2, .guard⟩], some (2, true)⟩) (v := ?_) rfl (by kernel_rfl) (by kernel_rfl) (by kernel_rfl) (fun _ _ _ h => h) (Or.inl ⟨by rfl, fun w hSw => ?_⟩) hH0 ?_
        rotate_left 1
        · (try simp only [NextS] at hSw); go_simp; (try with_reducible rfl)
        try simp only [Act.put, List.setIfInBounds_toArray, List.set_cons_zero, List.set_cons_succ]
        refine wpAnyH_take (i := 13) (oi := ⟨some 36, .pick (.tmp 25) (.tmp 35) (.const (.bool false)), 4, "keyring.go:101", #[⟨2, .data⟩, ⟨12, .data⟩], none⟩) (v := ?_) rfl (by kernel_rfl) (by kernel_rfl) (by kernel_rfl) (fun _ _ _ h => h) (Or.inl ⟨by rfl, fun w hSw => ?_⟩) hH0 ?_
        rotate_left 1
        · (try simp only [NextS] at hSw); go_simp; (try with_reducible rfl)
        try simp only [Act.put, List.setIfInBounds_toArray, List.set_cons_zero, List.set_cons_succ]
        refine wpAnyH_ready (rs := [14]) (by kernel_rfl) (by simp) ?_
        refine AllReadyH.cons (o := ⟨some 22, .assign (.tmp 36), 4, "keyring.go:101", #[⟨13, .data⟩, ⟨2, .chain⟩], none⟩) rfl (fun K hK => ?_) AllReadyH.nil
        go_simp
        refine hK.out _ _ (hH0) (fun hH1 => ?_)
        clear hK K
        try simp only [Act.put, List.setIfInBounds_toArray, List.set_cons_zero, List.set_cons_succ]
        refine wpAnyH_done (by kernel_rfl) ?_ _
        go_wp2_with fail
        have S2 := nextS_drew hH1
        refine wp_region_held_drew (S := (fun w' => NextS w w' r g m cap size root hs hr)) (by kernel_rfl) S2 (fun hH0 => ?_)
        refine wpAnyH_take (i := 0) (oi := ⟨some 40, .move (.tmp 7), 3, "keyring.go:103", #[], none⟩) (v := ?_) rfl (by kernel_rfl) (by kernel_rfl) (by kernel_rfl) (fun _ _ _ h => h) (Or.inl ⟨by rfl, fun w hSw => ?_⟩) hH0 ?_
        rotate_left 1
        · (try simp only [NextS] at hSw); go_simp; (try with_reducible rfl)
        try simp only [Act.put, List.setIfInBounds_toArray, List.set_cons_zero, List.set_cons_succ]
        refine wpAnyH_take (i := 1) (oi := ⟨some 41, .binOp .gtr 3 (.tmp 40) (.const (.int .i64 0)) 3, 4, "keyring.go:103", #[⟨0, .data⟩], none⟩) (v := ?_) rfl (by kernel_rfl) (by kernel_rfl) (by kernel_rfl) (fun _ _ _ h => h) (Or.inl ⟨by rfl, fun w hSw => ?_⟩) hH0 ?_
        rotate_left 1
        · (try simp only [NextS] at hSw); go_simp; (try with_reducible rfl)
        try simp only [Act.put, List.setIfInBounds_toArray, List.set_cons_zero, List.set_cons_succ]
        refine wpAnyH_take (i := 2) (oi := ⟨some 42, .move (.tmp 41), 4, "keyring.go:103", #[⟨1, .data⟩], none⟩) (v := ?_) rfl (by kernel_rfl) (by kernel_rfl) (by kernel_rfl) (fun _ _ _ h => h) (Or.inl ⟨by rfl, fun w hSw => ?_⟩) hH0 ?_
        rotate_left 1
        · (try simp only [NextS] at hSw); go_simp; (try with_reducible rfl)
        try simp only [Act.put, List.setIfInBounds_toArray, List.set_cons_zero, List.set_cons_succ]
        refine wpAnyH_take (i := 3) (oi := ⟨some 43, .move (.tmp 0), 63, "keyring.go:103", #[⟨2, .guard⟩], some (2, true)⟩) (v := ?_) rfl (by kernel_rfl) (by kernel_rfl) (by kernel_rfl) (fun _ _ _ h => h) (Or.inl ⟨by rfl, fun w hSw => ?_⟩) hH0 ?_
        rotate_left 1
        · (try simp only [NextS] at hSw); go_simp; (try with_reducible rfl)
        try simp only [Act.put, List.setIfInBounds_toArray, List.set_cons_zero, List.set_cons_succ]
        refine wpAnyH_take (i := 4) (oi := ⟨some 44, .nilCheck (.tmp 43), 0, "keyring.go:103", #[⟨3, .data⟩, ⟨2, .guard⟩], some (2, true)⟩) (v := ?_) rfl (by kernel_rfl) (by kernel_rfl) (by kernel_rfl) (fun _ _ _ h => h) (Or.inl ⟨by rfl, fun w hSw => ?_⟩) hH0 ?_
        rotate_left 1
        · (try simp only [NextS] at hSw); go_simp; (try with_reducible rfl)
        try simp only [Act.put, List.setIfInBounds_toArray, List.set_cons_zero, List.set_cons_succ]
        refine wpAnyH_take (i := 5) (oi := ⟨some 45, .fieldAddr 146 (.tmp 44) 2, 0, "keyring.go:103", #[⟨4, .data⟩, ⟨2, .guard⟩], some (2, true)⟩) (v := ?_) rfl (by kernel_rfl) (by kernel_rfl) (by kernel_rfl) (fun _ _ _ h => h) (Or.inl ⟨by rfl, fun w hSw => ?_⟩) hH0 ?_
        rotate_left 1
        · (try simp only [NextS] at hSw); go_simp; (try with_reducible rfl)
        try simp only [Act.put, List.setIfInBounds_toArray, List.set_cons_zero, List.set_cons_succ]
        refine wpAnyH_take (i := 6) (oi := ⟨some 46, .load 143 (.tmp 45), 143, "keyring.go:103", #[⟨5, .data⟩, ⟨2, .guard⟩], some (2, true)⟩) (v := ?_) rfl (by kernel_rfl) (by kernel_rfl) (by kernel_rfl) (fun _ _ _ h => h) (Or.inl ⟨by rfl, fun w hSw => ?_⟩) hH0 ?_
        rotate_left 1
        · (try simp only [NextS] at hSw); go_simp; (try with_reducible rfl)
        try simp only [Act.put, List.setIfInBounds_toArray, List.set_cons_zero, List.set_cons_succ]
        refine wpAnyH_take (i := 7) (oi := ⟨some 47, .move (.tmp 7), 3, "keyring.go:103", #[⟨2, .guard⟩], some (2, true)⟩) (v := ?_) rfl (by kernel_rfl) (by kernel_rfl) (by kernel_rfl) (fun _ _ _ h => h) (Or.inl ⟨by rfl, fun w hSw => ?_⟩) hH0 ?_
        rotate_left 1
        · (try simp only [NextS] at hSw); go_simp; (try with_reducible rfl)
        try simp only [Act.put, List.setIfInBounds_toArray, List.set_cons_zero, List.set_cons_succ]
        refine wpAnyH_take (i := 8) (oi := ⟨some 48, .binOp .sub 3 (.tmp 47) (.const (.int .i64 1)) 3, 3, "keyring.go:103", #[⟨7, .data⟩, ⟨2, .guard⟩], some (2, true)⟩) (v := ?_) rfl (by kernel_rfl) (by kernel_rfl) (by kernel_rfl) (fun _ _ _ h => h) (Or.inl ⟨by rfl, fun w hSw => ?_⟩) hH0 ?_
        rotate_left 1
        · (try simp only [NextS] at hSw); go_simp; (try with_reducible rfl)
        try simp only [Act.put, List.setIfInBounds_toArray, List.set_cons_zero, List.set_cons_succ]
        refine wpAnyH_take (i := 9) (oi := ⟨some 49, .indexAddr 143 (.tmp 46) (.tmp 48), 0, "keyring.go:103", #[⟨6, .data⟩, ⟨8, .data⟩, ⟨2, .guard⟩], some (2, true)⟩) (v := ?_) rfl (by kernel_rfl) (by kernel_rfl) (by kernel_rfl) (fun _ _ _ h => h) (Or.inl ⟨by rfl, fun w hSw => ?_⟩) hH0 ?_
        rotate_left 1
        · (try simp only [NextS] at hSw); go_simp; (try with_reducible rfl)
        try simp only [Act.put, List.setIfInBounds_toArray, List.set_cons_zero, List.set_cons_succ]
        refine wpAnyH_take (i := 10) (oi := ⟨some 50, .fieldAddr 46 (.tmp 49) 0, 0, "keyring.go:103", #[⟨9, .data⟩, ⟨2, .guard⟩], some (2, true)⟩) (v := ?_) rfl (by kernel_rfl) (by kernel_rfl) (by kernel_rfl) (fun _ _ _ h => h) (Or.inl ⟨by rfl, fun w hSw => ?_⟩) hH0 ?_
        rotate_left 1
        · (try simp only [NextS] at hSw); go_simp; (try with_reducible rfl)
        try simp only [Act.put, List.setIfInBounds_toArray, List.set_cons_zero, List.set_cons_succ]
        refine wpAnyH_take (i := 11) (oi := ⟨some 51, .load 3 (.tmp 50), 3, "keyring.go:103", #[⟨10, .data⟩, ⟨2, .guard⟩], some (2, true)⟩) (v := ?_) rfl (by kernel_rfl) (by kernel_rfl) (by kernel_rfl) (fun _ _ _ h => h) (Or.inl ⟨by rfl, fun w hSw => ?_⟩) hH0 ?_
        rotate_left 1
        · (try simp only [NextS] at hSw); go_simp; (try with_reducible rfl)
        try simp only [Act.put, List.setIfInBounds_toArray, List.set_cons_zero, List.set_cons_succ]
        refine wpAnyH_take (i := 12) (oi := ⟨some 52, .fieldAddr 46 (.tmp 3) 0, 0, "keyring.go:103", #[⟨2, .guard⟩], some (2, true)⟩) (v := ?_) rfl (by kernel_rfl) (by kernel_rfl) (by kernel_rfl) (fun _ _ _ h => h) (Or.inl ⟨by rfl, fun w hSw => ?_⟩) hH0 ?_
        rotate_left 1
        · (try simp only [NextS] at hSw); go_simp; (try with_reducible rfl)
        try simp only [Act.put, List.setIfInBounds_toArray, List.set_cons_zero, List.set_cons_succ]
        refine wpAnyH_take (i := 13) (oi := ⟨some 53, .load 3 (.tmp 52), 3, "keyring.go:103", #[⟨12, .data⟩, ⟨2, .guard⟩], some (2, true)⟩) (v := ?_) rfl (by kernel_rfl) (by kernel_rfl) (by kernel_rfl) (fun _ _ _ h => h) (Or.inl ⟨by rfl, fun w hSw => ?_⟩) hH0 ?_
        rotate_left 1
        · (try simp only [NextS] at hSw); go_simp; (try with_reducible rfl)
        try simp only [Act.put, List.setIfInBounds_toArray, List.set_cons_zero, List.set_cons_succ]
        refine wpAnyH_take (i := 14) (oi := ⟨some 54, .binOp .geq 3 (.tmp 51) (.tmp 53) 3, 4, "keyring.go:103", #[⟨11, .data⟩, ⟨13, .data⟩, ⟨2, .guard⟩], some (2, true)⟩) (v := ?_) rfl (by kernel_rfl) (by kernel_rfl) (by kernel_rfl) (fun _ _ _ h => h) (Or.inl ⟨by rfl, fun w hSw => ?_⟩) hH0 ?_
        rotate_left 1
        · (try simp only [NextS] at hSw); go_simp; (try with_reducible rfl)
        try simp only [Act.put, List.setIfInBounds_toArray, List.set_cons_zero, List.set_cons_succ]
        refine wpAnyH_take (i := 15) (oi := ⟨some 55, .pick (.tmp 42) (.tmp 54) (.const (.bool false)), 4, "keyring.go:103", #[⟨2, .data⟩, ⟨14, .data⟩], none⟩) (v := ?_) rfl (by kernel_rfl) (by kernel_rfl) (by kernel_rfl) (fun _ _ _ h => h) (Or.inl ⟨by rfl, fun w hSw => ?_⟩) hH0 ?_
        rotate_left 1
        · (try simp only [NextS] at hSw); go_simp; (try with_reducible rfl)
        try simp only [Act.put, List.setIfInBounds_toArray, List.set_cons_zero, List.set_cons_succ]
        refine wpAnyH_ready (rs := [16]) (by kernel_rfl) (by simp) ?_
        refine AllReadyH.cons (o := ⟨some 39, .assign (.tmp 55), 4, "keyring.go:103", #[⟨15, .data⟩, ⟨2, .chain⟩], none⟩) rfl (fun K hK => ?_) AllReadyH.nil
        go_simp
        refine hK.out _ _ (hH0) (fun hH1 => ?_)
        clear hK K
        try simp only [Act.put, List.setIfInBounds_toArray, List.set_cons_zero, List.set_cons_succ]
        refine wpAnyH_done (by kernel_rfl) ?_ _
        go_wp2_with fail
        go_ret3
        exact ⟨rfl, hH1.2.2.2.2.2⟩
end
end Go.Proofs.YtpmdlkogccojmaaGreatDoor

namespace Go.Proofs.YtpmdlkogccojmaaGreatDoor
open Go.RowKit
section
variable {w : World} {r d : Nat} {R : RingM} {S : Nat → Prop}
set_option maxRecDepth 100000 in
set_option maxHeartbeats 4000000 in
theorem next_first (h : IsRing w r d R S) (size : Int) (root : By) (hb : ¬ (size < 1 ∨ 4096 < size)) (hl : R.signed = []) :
    Calls Tryz.prog 81 #[.pointer (some ⟨r, 0, none⟩), headV size root] w (NextPost w (0, true, 0)) := by
  have hk : Kept (fun _ => False) w (w.alloc (.cells (headC size root).toArray 46)) := (Kept.refl _ _).alloc _
  have c1 := (head_range (head_blk w size root)).1
  obtain ⟨⟨t, v, h1, h2, h3, h4, h5⟩, h6, h7, h8, h9⟩ := h
  have c2 := (h1.kept hk id).cell (i := 2) rfl
  obtain ⟨x, n, cap, rfl, hn, _⟩ := h3.form (by omega)
  rw [hl] at hn
  obtain rfl : n = 0 := by have : (hdC []).length = 0 := rfl; omega
  have y1 : decide (size < 1) = false := decide_eq_false (by omega)
  have y2 : decide (4096 < size) = false := decide_eq_false (by omega)
  have k0 := hk.drew
  clear h2 h3 h4 h5 h6 h7 h8 h9 h1 hb hn
  go_enter Tryz.func81, Tryz.ntmps81
  go_wp2_with fail
  refine wp_region_held_drew (S := (fun w' => Kept (fun _ => False) w w')) (by kernel_rfl) k0 (fun hH0 => ?_)
  refine wpAnyH_take (i := 0) (oi := ⟨some 23, .move (.tmp 7), 3, "keyring.go:101", #[], none⟩) (v := ?_) rfl (by kernel_rfl) (by kernel_rfl) (by kernel_rfl) (fun _ _ _ h => h) (Or.inl ⟨by rfl, fun w hSw => ?_⟩) hH0 ?_
  rotate_left 1
  · (try dsimp only at hSw); go_simp; (try with_reducible rfl)
  try simp only [Act.put, List.setIfInBounds_toArray, List.set_cons_zero, List.set_cons_succ]
  refine wpAnyH_take (i := 1) (oi := ⟨some 24, .binOp .gtr 3 (.tmp 23) (.const (.int .i64 0)) 3, 4, "keyring.go:101", #[⟨0, .data⟩], none⟩) (v := ?_) rfl (by kernel_rfl) (by kernel_rfl) (by kernel_rfl) (fun _ _ _ h => h) (Or.inl ⟨by rfl, fun w hSw => ?_⟩) hH0 ?_
  rotate_left 1
  · (try dsimp only at hSw); go_simp; (try with_reducible rfl)
  try simp only [Act.put, List.setIfInBounds_toArray, List.set_cons_zero, List.set_cons_succ]
  refine wpAnyH_take (i := 2) (oi := ⟨some 25, .move (.tmp 24), 4, "keyring.go:101", #[⟨1, .data⟩], none⟩) (v := ?_) rfl (by kernel_rfl) (by kernel_rfl) (by kernel_rfl) (fun _ _ _ h => h) (Or.inl ⟨by rfl, fun w hSw => ?_⟩) hH0 ?_
  rotate_left 1
  · (try dsimp only at hSw); go_simp; (try with_reducible rfl)
  try simp only [Act.put, List.setIfInBounds_toArray, List.set_cons_zero, List.set_cons_succ]
  refine wpAnyH_take (i := 3) (oi := ⟨some 26, .move (.tmp 0), 63, "keyring.go:101", #[⟨2, .guard⟩], some (2, true)⟩) (v := undef) rfl (by kernel_rfl) (by kernel_rfl) (by kernel_rfl) (fun _ _ _ h => h) (Or.inr ⟨by rfl, rfl⟩) hH0 ?_
  try simp only [Act.put, List.setIfInBounds_toArray, List.set_cons_zero, List.set_cons_succ]
  refine wpAnyH_take (i := 4) (oi := ⟨some 27, .nilCheck (.tmp 26), 0, "keyring.go:101", #[⟨3, .data⟩, ⟨2, .guard⟩], some (2, true)⟩) (v := undef) rfl (by kernel_rfl) (by kernel_rfl) (by kernel_rfl) (fun _ _ _ h => h) (Or.inr ⟨by rfl, rfl⟩) hH0 ?_
  try simp only [Act.put, List.setIfInBounds_toArray, List.set_cons_zero, List.set_cons_succ]
  refine wpAnyH_take (i := 5) (oi := ⟨some 28, .fieldAddr 146 (.tmp 27) 2, 0, "keyring.go:101", #[⟨4, .data⟩, ⟨2, .guard⟩], some (2, true)⟩) (v := undef) rfl (by kernel_rfl) (by kernel_rfl) (by kernel_rfl) (fun _ _ _ h => h) (Or.inr ⟨by rfl, rfl⟩) hH0 ?_
  try simp only [Act.put, List.setIfInBounds_toArray, List.set_cons_zero, List.set_cons_succ]
  refine wpAnyH_take (i := 6) (oi := ⟨some 29, .load 143 (.tmp 28), 143, "keyring.go:101", #[⟨5, .data⟩, ⟨2, .guard⟩], some (2, true)⟩) (v := undef) rfl (by kernel_rfl) (by kernel_rfl) (by kernel_rfl) (fun _ _ _ h => h) (Or.inr ⟨by rfl, rfl⟩) hH0 ?_
  try simp only [Act.put, List.setIfInBounds_toArray, List.set_cons_zero, List.set_cons_succ]
  refine wpAnyH_take (i := 7) (oi := ⟨some 30, .move (.tmp 7), 3, "keyring.go:101", #[⟨2, .guard⟩], some (2, true)⟩) (v := undef) rfl (by kernel_rfl) (by kernel_rfl) (by kernel_rfl) (fun _ _ _ h => h) (Or.inr ⟨by rfl, rfl⟩) hH0 ?_
  try simp only [Act.put, List.setIfInBounds_toArray, List.set_cons_zero, List.set_cons_succ]
  refine wpAnyH_take (i := 8) (oi := ⟨some 31, .binOp .sub 3 (.tmp 30) (.const (.int .i64 1)) 3, 3, "keyring.go:101", #[⟨7, .data⟩, ⟨2, .guard⟩], some (2, true)⟩) (v := undef) rfl (by kernel_rfl) (by kernel_rfl) (by kernel_rfl) (fun _ _ _ h => h) (Or.inr ⟨by rfl, rfl⟩) hH0 ?_
  try simp only [Act.put, List.setIfInBounds_toArray, List.set_cons_zero, List.set_cons_succ]
  refine wpAnyH_take (i := 9) (oi := ⟨some 32, .indexAddr 143 (.tmp 29) (.tmp 31), 0, "keyring.go:101", #[⟨6, .data⟩, ⟨8, .data⟩, ⟨2, .guard⟩], some (2, true)⟩) (v := undef) rfl (by kernel_rfl) (by kernel_rfl) (by kernel_rfl) (fun _ _ _ h => h) (Or.inr ⟨by rfl, rfl⟩) hH0 ?_
  try simp only [Act.put, List.setIfInBounds_toArray, List.set_cons_zero, List.set_cons_succ]
  refine wpAnyH_take (i := 10) (oi := ⟨some 33, .load 46 (.tmp 32), 46, "keyring.go:101", #[⟨9, .data⟩, ⟨2, .guard⟩], some (2, true)⟩) (v := undef) rfl (by kernel_rfl) (by kernel_rfl) (by kernel_rfl) (fun _ _ _ h => h) (Or.inr ⟨by rfl, rfl⟩) hH0 ?_
  try simp only [Act.put, List.setIfInBounds_toArray, List.set_cons_zero, List.set_cons_succ]
  refine wpAnyH_take (i := 11) (oi := ⟨some 34, .load 46 (.tmp 3), 46, "keyring.go:101", #[⟨2, .guard⟩], some (2, true)⟩) (v := undef) rfl (by kernel_rfl) (by kernel_rfl) (by kernel_rfl) (fun _ _ _ h => h) (Or.inr ⟨by rfl, rfl⟩) hH0 ?_
  try simp only [Act.put, List.setIfInBounds_toArray, List.set_cons_zero, List.set_cons_succ]
  refine wpAnyH_take (i := 12) (oi := ⟨some 35, .binOp .eql 46 (.tmp 33) (.tmp 34) 46, 4, "keyring.go:101", #[⟨10, .data⟩, ⟨11, .data⟩, ⟨2, .guard⟩], some (2, true)⟩) (v := undef) rfl (by kernel_rfl) (by kernel_rfl) (by kernel_rfl) (fun _ _ _ h => h) (Or.inr ⟨by rfl, rfl⟩) hH0 ?_
  try simp only [Act.put, List.setIfInBounds_toArray, List.set_cons_zero, List.set_cons_succ]
  refine wpAnyH_take (i := 13) (oi := ⟨some 36, .pick (.tmp 25) (.tmp 35) (.const (.bool false)), 4, "keyring.go:101", #[⟨2, .data⟩, ⟨12, .data⟩], none⟩) (v := ?_) rfl (by kernel_rfl) (by kernel_rfl) (by kernel_rfl) (fun _ _ _ h => h) (Or.inl ⟨by rfl, fun w hSw => ?_⟩) hH0 ?_
  rotate_left 1
  · (try dsimp only at hSw); go_simp; (try with_reducible rfl)
  try simp only [Act.put, List.setIfInBounds_toArray, List.set_cons_zero, List.set_cons_succ]
  refine wpAnyH_ready (rs := [14]) (by kernel_rfl) (by simp) ?_
  refine AllReadyH.cons (o := ⟨some 22, .assign (.tmp 36), 4, "keyring.go:101", #[⟨13, .data⟩, ⟨2, .chain⟩], none⟩) rfl (fun K hK => ?_) AllReadyH.nil
  go_simp
  refine hK.out _ _ (hH0) (fun hH1 => ?_)
  clear hK K
  try simp only [Act.put, List.setIfInBounds_toArray, List.set_cons_zero, List.set_cons_succ]
  refine wpAnyH_done (by kernel_rfl) ?_ _
  go_wp2_with fail
  have k1 := hH1.drew
  refine wp_region_held_drew (S := (fun w' => Kept (fun _ => False) w w')) (by kernel_rfl) k1 (fun hH0 => ?_)
  refine wpAnyH_take (i := 0) (oi := ⟨some 40, .move (.tmp 7), 3, "keyring.go:103", #[], none⟩) (v := ?_) rfl (by kernel_rfl) (by kernel_rfl) (by kernel_rfl) (fun _ _ _ h => h) (Or.inl ⟨by rfl, fun w hSw => ?_⟩) hH0 ?_
  rotate_left 1
  · (try dsimp only at hSw); go_simp; (try with_reducible rfl)
  try simp only [Act.put, List.setIfInBounds_toArray, List.set_cons_zero, List.set_cons_succ]
  refine wpAnyH_take (i := 1) (oi := ⟨some 41, .binOp .gtr 3 (.tmp 40) (.const (.int .i64 0)) 3, 4, "keyring.go:103", #[⟨0, .data⟩], none⟩) (v := ?_) rfl (by kernel_rfl) (by kernel_rfl) (by kernel_rfl) (fun _ _ _ h => h) (Or.inl ⟨by rfl, fun w hSw => ?_⟩) hH0 ?_
  rotate_left 1
  · (try dsimp only at hSw); go_simp; (try with_reducible rfl)
  try simp only [Act.put, List.setIfInBounds_toArray, List.set_cons_zero, List.set_cons_succ]
  refine wpAnyH_take (i := 2) (oi := ⟨some 42, .move (.tmp 41), 4, "keyring.go:103", #[⟨1, .data⟩], none⟩) (v := ?_) rfl (by kernel_rfl) (by kernel_rfl) (by kernel_rfl) (fun _ _ _ h => h) (Or.inl ⟨by rfl, fun w hSw => ?_⟩) hH0 ?_
  rotate_left 1
  · (try dsimp only at hSw); go_simp; (try with_reducible rfl)
  try simp only [Act.put, List.setIfInBounds_toArray, List.set_cons_zero, List.set_cons_succ]
  refine wpAnyH_take (i := 3) (oi := ⟨some 43, .move (.tmp 0), 63, "keyring.go:103", #[⟨2, .guard⟩], some (2, true)⟩) (v := undef) rfl (by kernel_rfl) (by kernel_rfl) (by kernel_rfl) (fun _ _ _ h => h) (Or.inr ⟨by rfl, rfl⟩) hH0 ?_
  try simp only [Act.put, List.setIfInBounds_toArray, List.set_cons_zero, List.set_cons_succ]
  refine wpAnyH_take (i := 4) (oi := ⟨some 44, .nilCheck (.tmp 43), 0, "keyring.go:103", #[⟨3, .data⟩, ⟨2, .guard⟩], some (2, true)⟩) (v := undef) rfl (by kernel_rfl) (by kernel_rfl) (by kernel_rfl) (fun _ _ _ h => h) (Or.inr ⟨by rfl, rfl⟩) hH0 ?_
  try simp only [Act.put, List.setIfInBounds_toArray, List.set_cons_zero, List.set_cons_succ]
  refine wpAnyH_take (i := 5) (oi := ⟨some 45, .fieldAddr 146 (.tmp 44) 2, 0, "keyring.go:103", #[⟨4, .data⟩, ⟨2, .guard⟩], some (2, true)⟩) (v := undef) rfl (by kernel_rfl) (by kernel_rfl) (by kernel_rfl) (fun _ _ _ h => h) (Or.inr ⟨by rfl, rfl⟩) hH0 ?_
  try simp only [Act.put, List.setIfInBounds_toArray, List.set_cons_zero, List.set_cons_succ]
  refine wpAnyH_take (i := 6) (oi := ⟨some 46, .load 143 (.tmp 45), 143, "keyring.go:103", #[⟨5, .data⟩, ⟨2, .guard⟩], some (2, true)⟩) (v := undef) rfl (by kernel_rfl) (by kernel_rfl) (by kernel_rfl) (fun _ _ _ h => h) (Or.inr ⟨by rfl, rfl⟩) hH0 ?_
  try simp only [Act.put, List.setIfInBounds_toArray, List.set_cons_zero, List.set_cons_succ]
  refine wpAnyH_take (i := 7) (oi := ⟨some 47, .move (.tmp 7), 3, "keyring.go:103", #[⟨2, .guard⟩], some (2, true)⟩) (v := undef) rfl (by kernel_rfl) (by kernel_rfl) (by kernel_rfl) (fun _ _ _ h => h) (Or.inr ⟨by rfl, rfl⟩) hH0 ?_
  try simp only [Act.put, List.setIfInBounds_toArray, List.set_cons_zero, List.set_cons_succ]
  refine wpAnyH_take (i := 8) (oi := ⟨some 48, .binOp .sub 3 (.tmp 47) (.const (.int .i64 1)) 3, 3, "keyring.go:103", #[⟨7, .data⟩, ⟨2, .guard⟩], some (2, true)⟩) (v := undef) rfl (by kernel_rfl) (by kernel_rfl) (by kernel_rfl) (fun _ _ _ h => h) (Or.inr ⟨by rfl, rfl⟩) hH0 ?_
  try simp only [Act.put, List.setIfInBounds_toArray, List.set_cons_zero, List.set_cons_succ]
  refine wpAnyH_take (i := 9) (oi := ⟨some 49, .indexAddr 143 (.tmp 46) (.tmp 48), 0, "keyring.go:103", #[⟨6, .data⟩, ⟨8, .data⟩, ⟨2, .guard⟩], some (2, true)⟩) (v := undef) rfl (by kernel_rfl) (by kernel_rfl) (by kernel_rfl) (fun _ _ _ h => h) (Or.inr ⟨by rfl, rfl⟩) hH0 ?_
  try simp only [Act.put, List.setIfInBounds_toArray, List.set_cons_zero, List.set_cons_succ]
  refine wpAnyH_take (i := 10) (oi := ⟨some 50, .fieldAddr 46 (.tmp 49) 0, 0, "keyring.go:103", #[⟨9, .data⟩, ⟨2, .guard⟩], some (2, true)⟩) (v := undef) rfl (by kernel_rfl) (by kernel_rfl) (by kernel_rfl) (fun _ _ _ h => h) (Or.inr ⟨by rfl, rfl⟩) hH0 ?_
  try simp only [Act.put, List.setIfInBounds_toArray, List.set_cons_zero, List.set_cons_succ]
  refine wpAnyH_take (i := 11) (oi := ⟨some 51, .load 3 (.tmp 50), 3, "keyring.go:103", #[⟨10, .data⟩, ⟨2, .guard⟩], some (2, true)⟩) (v := undef) rfl (by kernel_rfl) (by kernel_rfl) (by kernel_rfl) (fun _ _ _ h => h) (Or.inr ⟨by rfl, rfl⟩) hH0 ?_
  try simp only [Act.put, List.setIfInBounds_toArray, List.set_cons_zero, List.set_cons_succ]
  refine wpAnyH_take (i := 12) (oi := ⟨some 52, .fieldAddr 46 (.tmp 3) 0, 0, "keyring.go:103", #[⟨2, .guard⟩], some (2, true)⟩) (v := undef) rfl (by kernel_rfl) (by kernel_rfl) (by kernel_rfl) (fun _ _ _ h => h) (Or.inr ⟨by rfl, rfl⟩) hH0 ?_
  try simp only [Act.put, List.setIfInBounds_toArray, List.set_cons_zero, List.set_cons_succ]
  refine wpAnyH_take (i := 13) (oi := ⟨some 53, .load 3 (.tmp 52), 3, "keyring.go:103", #[⟨12, .data⟩, ⟨2, .guard⟩], some (2, true)⟩) (v := undef) rfl (by kernel_rfl) (by kernel_rfl) (by kernel_rfl) (fun _ _ _ h => h) (Or.inr ⟨by rfl, rfl⟩) hH0 ?_
  try simp only [Act.put, List.setIfInBounds_toArray, List.set_cons_zero, List.set_cons_succ]
  refine wpAnyH_take (i := 14) (oi := ⟨some 54, .binOp .geq 3 (.tmp 51) (.tmp 53) 3, 4, "keyring.go:103", #[⟨11, .data⟩, ⟨13, .data⟩, ⟨2, .guard⟩], some (2, true)⟩) (v := undef) rfl (by kernel_rfl) (by kernel_rfl) (by kernel_rfl) (fun _ _ _ h => h) (Or.inr ⟨by rfl, rfl⟩) hH0 ?_
  try simp only [Act.put, List.setIfInBounds_toArray, List.set_cons_zero, List.set_cons_succ]
  refine wpAnyH_take (i := 15) (oi := ⟨some 55, .pick (.tmp 42) (.tmp 54) (.const (.bool false)), 4, "keyring.go:103", #[⟨2, .data⟩, ⟨14, .data⟩], none⟩) (v := ?_) rfl (by kernel_rfl) (by kernel_rfl) (by kernel_rfl) (fun _ _ _ h => h) (Or.inl ⟨by rfl, fun w hSw => ?_⟩) hH0 ?_
  rotate_left 1
  · (try dsimp only at hSw); go_simp; (try with_reducible rfl)
  try simp only [Act.put, List.setIfInBounds_toArray, List.set_cons_zero, List.set_cons_succ]
  refine wpAnyH_ready (rs := [16]) (by kernel_rfl) (by simp) ?_
  refine AllReadyH.cons (o := ⟨some 39, .assign (.tmp 55), 4, "keyring.go:103", #[⟨15, .data⟩, ⟨2, .chain⟩], none⟩) rfl (fun K hK => ?_) AllReadyH.nil
  go_simp
  refine hK.out _ _ (hH0) (fun hH1 => ?_)
  clear hK K
  try simp only [Act.put, List.setIfInBounds_toArray, List.set_cons_zero, List.set_cons_succ]
  refine wpAnyH_done (by kernel_rfl) ?_ _
  go_wp2_with fail
  go_ret3
  exact ⟨rfl, hH1⟩
theorem next_any (h : IsRing w r d R S) (size : Int) (root : By) (hroot : root.length = 32) :
    Calls Tryz.prog 81 #[.pointer (some ⟨r, 0, none⟩), headV size root] w (NextPost w (nextF R.signed size root)) := by
  unfold nextF
  by_cases hb : size < 1 ∨ 4096 < size
  · rw [if_pos hb]
    exact next_bad h size root hb
  · rw [if_neg hb]
    rcases Nat.eq_zero_or_pos R.signed.length with h0 | h0
    · have hl : R.signed = [] := List.eq_nil_of_length_eq_zero h0
      have := next_first h size root hb hl
      rw [hl]
      exact this
    · obtain ⟨a, ha⟩ : ∃ a, R.signed[R.signed.length - 1]? = some a := ⟨_, List.getElem?_eq_getElem (by omega)⟩
      have hg : R.signed.getLast? = some a := by rw [List.getLast?_eq_getElem?]; exact ha
      have := next_last h size root hroot hb (R.signed.length - 1) a ha (by omega)
      rw [hg]
      simp only
      rw [show R.signed.length - 1 + 1 = R.signed.length by omega] at this
      rw [show ((R.signed.length : Nat) : Int) = ((R.signed.length - 1 : Nat) : Int) + 1 by omega]
      exact this
end
end Go.Proofs.YtpmdlkogccojmaaGreatDoor

namespace Go.Proofs.YtpmdlkogccojmaaGreatDoor
open Go.RowKit
section
variable {w : World} {r d : Nat} {R : RingM} {S B : Nat → Prop} {M : DiskM}
theorem IsRing.cells (h : IsRing w r d R S) {b : Bool} (hb : R.dead = b) : w.cell? ⟨r, 0, none⟩ = some (.pointer (some ⟨d, 0, none⟩)) ∧ w.cell? ⟨r, 4, none⟩ = some (.bool b) ∧ w.frozen? ⟨r, 4, none⟩ = false := by
  obtain ⟨⟨t, v, h1, _⟩, _⟩ := h
  exact ⟨h1.cell (i := 0) rfl, h1.cell (i := 4) (by rw [hb]; rfl), h1.free 4⟩
def KeepPost (B S : Nat → Prop) (r d : Nat) (R : RingM) (w : World) (x : Int × DiskM) (e : Ending) (w' : World) : Prop :=
  e = .returned (.int .i64 x.1) ∧ IsRing w' r d { R with dead := decide (x.1 = 61) } S ∧ Apart B d x.2 w' ∧ Kept (fun k => ¬ B k ∨ k = r) w w'
theorem keep_end {w1 w2 : World} {x : Int} {M2 : DiskM} (h : IsRing w2 r d R S) (hS : ∀ k, S k → B k) (ha : Apart B d M2 w2) (hk1 : Kept (fun _ => False) w w1) (hk2 : Kept (fun k => ¬ B k) w1 w2) (b : Bool) (hb : decide (x = 61) = b) :
    KeepPost B S r d R w (x, M2) (.returned (.int .i64 x)) (w2.setCell ⟨r, 4, none⟩ (.bool b)) := by
  have hk3 : Kept (· = r) w2 (w2.setCell ⟨r, 4, none⟩ (.bool b)) := kept_cell w2 r 4 _
  have hd := h.dead b
  rw [← hb] at hd
  refine ⟨rfl, ?_, ha.turn hk3 (fun k hk => by rw [hk]; exact hS r h.own), (((hk1.mono (fun _ _ => False.elim)).then_ hk2 (fun _ _ => Or.inl)).then_ hk3 (fun _ _ => Or.inr))⟩
  show IsRing _ r d { R with dead := decide (x = 61) } S
  rw [hb] at hd ⊢
  exact hd
set_option maxRecDepth 100000 in
set_option maxHeartbeats 4000000 in
theorem keep_any (h : IsRing w r d R S) (hd : Apart B d M w) (hS : ∀ k, S k → B k) (hdead : R.dead = false) (size : Nat) (root : By) (hz : size ≤ 4096) (hroot : root.length = 32) (hc : M.files.length + M.loose.length < 300000000) (ht : Tab w) :
    Calls Tryz.prog 82 #[.pointer (some ⟨r, 0, none⟩), headV (size : Int) root] w (KeepPost B S r d R w (M.keepR (size, root))) := by
  obtain ⟨W, hW⟩ : ∃ W : World, W = w.alloc (.cells (headC (size : Int) root).toArray 46) := ⟨_, rfl⟩
  have hb := head_blk w (size : Int) root
  rw [← hW] at hb
  have kW : Kept (fun _ => False) w W := by rw [hW]; exact (Kept.refl _ _).alloc _
  have hrl : (recordF (size, root)).length ≤ 132 := by
    have := numL_len (U64n.small (n := size) (by omega))
    unfold recordF
    rw [List.length_append, hroot]
    show (numL size).length + 32 ≤ 132
    omega
  have HREC := Lib.hid (fun w' => record_any w' size root hz hroot)
  have HPUT := Lib.hid (fun w' ht' => frame_any w' ⟨(recordF (size, root)).toArray⟩ (by show (recordF (size, root)).toArray.size ≤ _; simp; omega) ht')
  have e1 : (⟨(recordF (size, root)).toArray⟩ : ByteArray).data.toList = recordF (size, root) := rfl
  rw [e1] at HPUT
  obtain ⟨r1, M1, hap⟩ : ∃ r1 M1, M.append 990 (frameF (recordF (size, root))) = (r1, M1) := ⟨_, _, rfl⟩
  have HAP := Lib.hid (fun w1 (h1 : Apart B d M w1) => append_ap h1 990 (by omega) ⟨(frameF (recordF (size, root))).toArray⟩ hc hap)
  have HI := Lib.hid (show (Tryz.prog.info? 46).map (·.size) = some (headC (size : Int) root).length by rw [headC_len hroot]; exact info_head)
  have HH := Lib.hid (And.intro h (And.intro hd (And.intro hb (And.intro kW ht))))
  have HSS := Lib.hid hS
  by_cases h0 : r1 = 0
  · subst h0
    obtain ⟨r2, M2, hsy⟩ : ∃ r2 M2, M1.sync = (r2, M2) := ⟨_, _, rfl⟩
    have hkr : M.keepR (size, root) = (r2, M2) := by simp [DiskM.keepR, hap, hsy]
    rw [hkr]
    have HS := Lib.hid (fun w1 (h1 : Apart B d M1 w1) => sync_ap h1 hsy)
    obtain ⟨b, hbb⟩ : ∃ b, decide (r2 = 61) = b := ⟨_, rfl⟩
    have hb2 : (r2 == 61) = b := by rw [← hbb]; rfl
    have HBB := Lib.hid hbb
    clear hsy hkr hap h hd hb hrl
    generalize recordF (size, root) = RC at *
    go_enter Tryz.func82, Tryz.ntmps82
    go_wp2_with (first | ((with_reducible show wpList _ _ _ (⟨some 9, _, _, _, _, _⟩ :: _) _ _); refine wpList_load_mid rfl 46 _ rfl w.heap.size 0 rfl (headC (size : Int) root) _ (show World.rangeAt _ _ _ _ by rw [← hW]; exact HH.out.2.2.1.range0) Tryz.underlying46 rfl HI.out ?_) | (go_at_call 115; refine (HREC.out _).mono ?_; rintro e w1 ⟨rfl, hk1⟩; rw [← hW] at hk1) | (go_at_call 29; refine (HPUT.out _ (HH.out.2.2.2.2.same (HH.out.2.2.2.1.trans hk1))).mono ?_; rintro e w2 ⟨rfl, hk2⟩; have k02 := Lib.hid ((HH.out.2.2.2.1.trans hk1).trans hk2); obtain ⟨c0, c4, f4⟩ := (HH.out.1.same k02.out).cells hdead) | (go_at_call 33; refine (HAP.out _ (HH.out.2.1.same k02.out)).mono ?_; rintro e w3 ⟨rfl, ha3, hk3⟩; obtain ⟨c0', c4', f4'⟩ := ((HH.out.1.same k02.out).kept hk3 (fun k q n => n (HSS.out k q))).cells hdead) | (go_at_call 97; refine (HS.out _ ha3).mono ?_; rintro e w4 ⟨rfl, ha4, hk4⟩; obtain ⟨c0'', c4'', f4''⟩ := (((HH.out.1.same k02.out).kept hk3 (fun k q n => n (HSS.out k q))).kept hk4 (fun k q n => n (HSS.out k q))).cells hdead))
    go_ret
    exact keep_end (((HH.out.1.same k02.out).kept hk3 (fun k q n => n (HSS.out k q))).kept hk4 (fun k q n => n (HSS.out k q))) HSS.out ha4 k02.out (hk3.trans hk4) b HBB.out
  · have hkr : M.keepR (size, root) = (r1, M1) := by simp [DiskM.keepR, hap, h0]
    rw [hkr]
    obtain ⟨b, hbb⟩ : ∃ b, decide (r1 = 61) = b := ⟨_, rfl⟩
    have hb2 : (r1 == 61) = b := by rw [← hbb]; rfl
    have y1 : (r1 == 0) = false := by simpa using h0
    have y2 : decide (r1 = 0) = false := decide_eq_false h0
    have HBB := Lib.hid hbb
    clear hkr hap h hd hb hrl h0
    generalize recordF (size, root) = RC at *
    go_enter Tryz.func82, Tryz.ntmps82
    go_wp2_with (first | ((with_reducible show wpList _ _ _ (⟨some 9, _, _, _, _, _⟩ :: _) _ _); refine wpList_load_mid rfl 46 _ rfl w.heap.size 0 rfl (headC (size : Int) root) _ (show World.rangeAt _ _ _ _ by rw [← hW]; exact HH.out.2.2.1.range0) Tryz.underlying46 rfl HI.out ?_) | (go_at_call 115; refine (HREC.out _).mono ?_; rintro e w1 ⟨rfl, hk1⟩; rw [← hW] at hk1) | (go_at_call 29; refine (HPUT.out _ (HH.out.2.2.2.2.same (HH.out.2.2.2.1.trans hk1))).mono ?_; rintro e w2 ⟨rfl, hk2⟩; have k02 := Lib.hid ((HH.out.2.2.2.1.trans hk1).trans hk2); obtain ⟨c0, c4, f4⟩ := (HH.out.1.same k02.out).cells hdead) | (go_at_call 33; refine (HAP.out _ (HH.out.2.1.same k02.out)).mono ?_; rintro e w3 ⟨rfl, ha3, hk3⟩; obtain ⟨c0', c4', f4'⟩ := ((HH.out.1.same k02.out).kept hk3 (fun k q n => n (HSS.out k q))).cells hdead))
    go_ret
    exact keep_end ((HH.out.1.same k02.out).kept hk3 (fun k q n => n (HSS.out k q))) HSS.out ha3 k02.out hk3 b HBB.out
end
end Go.Proofs.YtpmdlkogccojmaaGreatDoor

namespace Go.Proofs.YtpmdlkogccojmaaGreatDoor
open Go.RowKit
abbrev zeroRoot : By := List.replicate 32 0
abbrev signed0C : List Value := signedC 0 zeroRoot 0 ⟨#[]⟩ (.slice none 0 0)
section
variable {w : World} {r d : Nat} {R : RingM} {S B : Nat → Prop} {M : DiskM}
abbrev signW (w : World) (size : Int) (root : By) : World := (w.alloc (.cells (headC size root).toArray 46)).alloc (.cells signed0C.toArray 51)
theorem signW_head (w : World) (size : Int) (root : By) : Blk (signW w size root) w.heap.size (headC size root) 46 := (head_blk w size root).alloc _
theorem signW_res (w : World) (size : Int) (root : By) : Blk (signW w size root) (w.heap.size + 1) signed0C 51 := by
  have := Blk.new (w.alloc (.cells (headC size root).toArray 46)) signed0C 51
  rw [World.size_alloc] at this
  exact this
theorem signW_kept (w : World) (size : Int) (root : By) : Kept (fun _ => False) w (signW w size root) := ((Kept.refl _ _).alloc _).alloc _
theorem signed0_len : signed0C.length = 36 := signedC_len (by simp)
theorem signedC_one {size : Int} {root : By} {i : Int} {sig : ByteArray} {v : Value} (hv : v.oneCell' = true) : ∀ u ∈ signedC size root i sig v, u.oneCell' = true := by
  intro u hu
  unfold signedC at hu
  rcases List.mem_append.1 hu with hu | hu
  · exact head_oneCell u hu
  · simp only [List.mem_cons, List.not_mem_nil, or_false] at hu
    rcases hu with rfl | rfl | rfl
    · rfl
    · rfl
    · exact hv
theorem signed0_one : signed0C.toArray.all (·.oneCell') = true := all_oneCell_toArray (signedC_one rfl)
abbrev ownW (w : World) (B : Nat → Prop) (k : Nat) : Prop := B k ∨ k = w.heap.size ∨ k = w.heap.size + 1
theorem Apart.signW (hd : Apart B d M w) (size : Int) (root : By) : Apart (ownW w B) d M (signW w size root) :=
  hd.grow (signW_kept w size root) (fun _ _ => False.elim) (fun k q => by
    have hz : (Proofs.YtpmdlkogccojmaaGreatDoor.signW w size root).heap.size = w.heap.size + 2 := by rw [World.size_alloc, World.size_alloc]
    rw [hz]
    rcases q with q | q | q
    · exact Or.inl q
    · exact Or.inr (by omega)
    · exact Or.inr (by omega))
theorem dead_same (hb : R.dead = false) : { R with dead := false } = R := by cases R; simp_all
theorem over_not (ho : R.over M = false) : R.dead = false ∧ M.down = false ∧ M.starts = R.starts := by
  unfold RingM.over at ho
  simp only [Bool.or_eq_false_iff, decide_eq_false_iff_not, ne_eq, Decidable.not_not] at ho
  exact ⟨ho.1.1, ho.1.2, ho.2⟩
end
end Go.Proofs.YtpmdlkogccojmaaGreatDoor
