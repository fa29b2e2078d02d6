/- The law TimersNone, walked. -/
import Derived.Test.YtahiimcdmojngaaTimRang
import Derived.Test.YtahiimcdmojngaaOpen
namespace Go.Proofs.Ytahiimcdmojngaa
open Go.RowKit Go.WideShapes Go.ChangeShapes Go.Joins

/-- The cells of an act. -/
theorem act18_cells {H : Type} {enc : TypeId × Value → H} {w : World} {m : Nat} {x : DataW H × List MemPlace} (cs : List Value) (hl : cs.length = 4) (h : DataW.trod enc Try.prog w 0 (fun _ => true) true m 94 cs = some x) :
    ∃ k a b at' : Int, cs = [.int .u8 k, .int .i64 a, .int .i64 b, .int .i64 at'] ∧ (0 ≤ k ∧ k ≤ 255) ∧ InR (a, b) ∧ I64 at' := by
  have k1 : Try.prog.cellsOf 5 = 1 := by kernel_rfl
  have k2 : Try.prog.cellsOf 3 = 1 := by kernel_rfl
  have k3 : Try.prog.cellsOf 85 = 2 := by kernel_rfl
  match cs, hl with
  | [c0, c1, c2, c3], _ =>
    obtain ⟨xs, n, _, _, _, hl, hg⟩ := DataW.trod_struct Try.underlying94 h
    match xs, hl with
    | [y0, y1, y2], _ =>
      have g0 := hg 0 _ rfl
      have g1 := hg 1 _ rfl
      have g2 := hg 2 _ rfl
      simp [k1] at g0
      simp [k3] at g1
      simp [k2] at g2
      obtain ⟨xs1, m1, _, _, _, hl1, hg1⟩ := DataW.trod_array Try.underlying85 g1
      match xs1, hl1 with
      | [z0, z1], _ =>
        have q0 := hg1 0 (by decide)
        have q1 := hg1 1 (by decide)
        simp [k2] at q0 q1
        obtain ⟨a0, e0, _, w0⟩ := DataW.trod_int Try.underlying5 g0
        obtain ⟨a1, e1, _, w1⟩ := DataW.trod_int Try.underlying3 q0
        obtain ⟨a2, e2, _, w2⟩ := DataW.trod_int Try.underlying3 q1
        obtain ⟨a3, e3, _, w3⟩ := DataW.trod_int Try.underlying3 g2
        simp at e0 e1 e2 e3
        subst e0 e1 e2 e3
        exact ⟨a0, a1, a2, a3, rfl, wf_u8 w0, ⟨wf_i64 w1, wf_i64 w2⟩, wf_i64 w3⟩

section
variable {w : World} {v : Value}
theorem NoTim.kept {S : Nat → Prop} {w' : World} (h : NoTim w v) (hl : ∀ d, v = .pointer (some ⟨d, 0, none⟩) → d < w.heap.size ∧ ¬ S d) (hk : Kept S w w') : NoTim w' v := by
  rcases h with rfl | ⟨d, rfl, hc⟩
  · exact Or.inl rfl
  · refine Or.inr ⟨d, rfl, ?_⟩
    rw [← hc]
    simp only [World.cell?, hk.block d (hl d rfl).1 (hl d rfl).2]
end
theorem set_none (w : World) (v : Value) (a b at' : Int) (h : NoTim w v) (hl : ∀ d, v = .pointer (some ⟨d, 0, none⟩) → d < w.heap.size) : Calls Try.prog 57 #[v, .agg #[.int .i64 a, .int .i64 b], .int .i64 at'] w fun e w' => e = .returned (.tuple #[]) ∧ Kept (fun _ => False) w w' := by
  have h' : ∀ o, NoTim (w.alloc o) v := fun o => h.kept (S := fun _ => False) (fun d e => ⟨hl d e, id⟩) ((Kept.refl _ _).alloc o)
  rcases h with rfl | ⟨d, rfl, hc⟩
  all_goals
    go_enter Try.func57, Try.ntmps57
    go_wp2_with (go_at_call 88; refine (tim_none_no _ _ (h' _)).mono ?_; rintro e w' ⟨rfl, rfl⟩)
    go_end0
    exact ⟨rfl, (Kept.refl _ _).alloc _⟩
theorem clear_none (w : World) (v : Value) (a b : Int) (h : NoTim w v) (hl : ∀ d, v = .pointer (some ⟨d, 0, none⟩) → d < w.heap.size) : Calls Try.prog 60 #[v, .agg #[.int .i64 a, .int .i64 b]] w fun e w' => e = .returned (.tuple #[]) ∧ Kept (fun _ => False) w w' := by
  have h' : ∀ o, NoTim (w.alloc o) v := fun o => h.kept (S := fun _ => False) (fun d e => ⟨hl d e, id⟩) ((Kept.refl _ _).alloc o)
  rcases h with rfl | ⟨d, rfl, hc⟩
  all_goals
    go_enter Try.func60, Try.ntmps60
    go_wp2_with (go_at_call 88; refine (tim_none_no _ _ (h' _)).mono ?_; rintro e w' ⟨rfl, rfl⟩)
    go_end0
    exact ⟨rfl, (Kept.refl _ _).alloc _⟩
theorem at_none (w : World) (v : Value) (a b : Int) (h : NoTim w v) (hl : ∀ d, v = .pointer (some ⟨d, 0, none⟩) → d < w.heap.size) : Calls Try.prog 59 #[v, .agg #[.int .i64 a, .int .i64 b]] w fun e w' => e = .returned (.tuple #[.int .i64 0, .bool false]) ∧ Kept (fun _ => False) w w' := by
  have h' : ∀ o, NoTim (w.alloc o) v := fun o => h.kept (S := fun _ => False) (fun d e => ⟨hl d e, id⟩) ((Kept.refl _ _).alloc o)
  rcases h with rfl | ⟨d, rfl, hc⟩
  all_goals
    go_enter Try.func59, Try.ntmps59
    go_wp2_with (go_at_call 88; refine (tim_none_no _ _ (h' _)).mono ?_; rintro e w' ⟨rfl, rfl⟩)
    exact bodyPost_ret (v := .tuple #[.int .i64 0, .bool false]) (by simp [results, Try.results59, go_sem]) rfl ⟨rfl, (Kept.refl _ _).alloc _⟩
theorem copy_none (w : World) (v : Value) (h : NoTim w v) : Calls Try.prog 64 #[v] w fun e w' => e = .returned (.pointer none) ∧ Kept (fun _ => False) w w' := by
  have h' := h
  rcases h' with rfl | ⟨d, rfl, hc⟩
  all_goals
    go_enter Try.func64, Try.ntmps64
    go_wp2_with (go_at_call 88; refine (tim_none_no _ _ h).mono ?_; rintro e w' ⟨rfl, rfl⟩)
    go_ret
    exact ⟨rfl, Kept.refl _ _⟩

/-- The loop's relation. -/
def NoneR (w : World) (o : Obj) (v : Value) (i : Nat) (wr : World) : Prop := (i = 0 ∨ i = 1 ∨ i = 2) ∧ NoTim wr v ∧ (∀ d, v = .pointer (some ⟨d, 0, none⟩) → d < wr.heap.size) ∧ wr.heap[w.heap.size]? = some o ∧ Kept (fun _ => False) w wr
set_option maxRecDepth 100000 in
set_option maxHeartbeats 1000000 in
theorem none_walk (k a b at' : Int) (w : World) :
    Calls Try.prog 13 #[.agg #[.int .u8 k, .int .i64 a, .int .i64 b, .int .i64 at']] w fun e w' => e = .returned (.bool true) ∧ Kept (fun _ => False) w w' := by
  go_enter Try.func13, Try.ntmps13
  go_wp2_with fail
  go_loopw [3, 4] (fun v i wr => ∃ (u : Value) (n : Nat), u = v ∧ i = .int .i64 (n : Int) ∧ NoneR w (.cells #[.int .u8 k, .int .i64 a, .int .i64 b, .int .i64 at'] 94) u n wr) (fun _ i _ => 2 - (intOf i).toNat)
  case atStart => exact ⟨_, 0, rfl, rfl, Or.inl rfl, Or.inl rfl, (fun d e => by cases e), heap_alloc_new _ _, (Kept.refl _ _).alloc _⟩
  case round =>
    obtain ⟨u, n, hu, rfl, hn, hno, hlow, hbox, hk⟩ := hrel
    subst hu
    rcases Nat.lt_or_ge n 2 with hlt | hge
    · have hx : decide ((n : Int) < 2) = true := by simp; omega
      have hblk : Blk wr w.heap.size [.int .u8 k, .int .i64 a, .int .i64 b, .int .i64 at'] 94 := hbox
      have c1 := hblk.cell (i := 1) rfl
      have c2 := hblk.cell (i := 2) rfl
      have c3 := hblk.cell (i := 3) rfl
      clear hn hbox
      go_wp2_with fail
      refine (set_none _ _ _ _ _ hno hlow).mono ?_
      rintro e w1 ⟨rfl, hk1⟩
      have hno1 := hno.kept (fun d e => ⟨hlow d e, id⟩) hk1
      have hlow1 : ∀ d, u = .pointer (some ⟨d, 0, none⟩) → d < w1.heap.size := fun d e => Nat.lt_of_lt_of_le (hlow d e) hk1.size
      have hblk1 := hblk.kept hk1 id
      have hk1' := hk.trans hk1
      clear hblk hno hlow hk1 hk c1 c2 c3
      have c1 := hblk1.cell (i := 1) rfl
      have c2 := hblk1.cell (i := 2) rfl
      go_wp2_with fail
      refine (clear_none _ _ _ _ hno1 hlow1).mono ?_
      rintro e w2 ⟨rfl, hk2⟩
      have hno2 := hno1.kept (fun d e => ⟨hlow1 d e, id⟩) hk2
      have hlow2 : ∀ d, u = .pointer (some ⟨d, 0, none⟩) → d < w2.heap.size := fun d e => Nat.lt_of_lt_of_le (hlow1 d e) hk2.size
      have hblk2 := hblk1.kept hk2 id
      have hk2' := hk1'.trans hk2
      clear hblk1 hno1 hlow1 hk2 hk1' c1 c2
      have c1 := hblk2.cell (i := 1) rfl
      have c2 := hblk2.cell (i := 2) rfl
      go_wp2_with fail
      refine (at_none _ _ _ _ hno2 hlow2).mono ?_
      rintro e w3 ⟨rfl, hk3⟩
      have hno3 := hno2.kept (fun d e => ⟨hlow2 d e, id⟩) hk3
      have hlow3 : ∀ d, u = .pointer (some ⟨d, 0, none⟩) → d < w3.heap.size := fun d e => Nat.lt_of_lt_of_le (hlow2 d e) hk3.size
      have hblk3 := hblk2.kept hk3 id
      have hk3' := hk2'.trans hk3
      clear hblk2 hno2 hlow2 hk3 hk2' c1 c2
      have c3 := hblk3.cell (i := 3) rfl
      go_wp2_with fail
      refine (tim_due_no _ _ _ hno3 hlow3).mono ?_
      rintro e w4 ⟨rfl, hk4⟩
      have hno4 := hno3.kept (fun d e => ⟨hlow3 d e, id⟩) hk4
      have hblk4 := hblk3.kept hk4 id
      have hk4' := hk3'.trans hk4
      clear hblk3 hno3 hlow3 hk4 hk3' c3
      go_wp2_with fail
      refine (copy_none _ _ hno4).mono ?_
      rintro e w5 ⟨rfl, hk5⟩
      have hblk5 := hblk4.kept hk5 id
      have hk5' := hk4'.trans hk5
      clear hblk4 hno4 hk5 hk4'
      have HE : Hid (NoneR w (.cells #[.int .u8 k, .int .i64 a, .int .i64 b, .int .i64 at'] 94) (.pointer (some ⟨w5.heap.size, 0, none⟩)) (n + 1) (w5.alloc (.cells #[.map none] 106))) := Lib.hid (by
        have hnew := Blk.new w5 [.map none] 106
        exact ⟨by omega, Or.inr ⟨_, rfl, hnew.cell (i := 0) rfl⟩, (fun d e => by cases e; exact hnew.lt), hblk5.alloc _, hk5'.alloc _⟩)
      clear hblk5 hk5'
      go_wp2_with fail
      go_roundw
      case rel => exact ⟨_, n + 1, rfl, by go_num, HE.out⟩
      case measure => simp [intOf]; omega
    · have hx : decide ((n : Int) < 2) = false := by simp; omega
      clear hn hbox
      go_wp2_with fail
      refine (rang_true _).mono ?_
      rintro e w1 ⟨rfl, hk1⟩
      have hk' := hk.trans hk1
      clear hk hk1
      go_wp2_with fail
      go_ret
      exact ⟨rfl, hk'⟩

set_option maxRecDepth 100000 in
theorem timersNone_walk {H : Type} {enc : TypeId × Value → H} {base : Nat} {dd : DataW H} {pp : List MemPlace} (v : Value) (w : World) (hv : Value.okWide Try.prog w .any base 94 v) (h : DataW.Trod enc Try.prog w 0 (fun _ => true) true 94 v dd pp) :
    Calls Try.prog 13 #[v] w fun e w' => e = .returned (.bool true) ∧ Below w.heap.size w w' := by
  obtain ⟨cs, rfl, hsz⟩ := okWide_struct Try.underlying94 hv
  obtain ⟨l⟩ := cs
  have hc4 : Try.prog.cellsOf 94 = 4 := by kernel_rfl
  obtain ⟨fuel, hf⟩ := h
  obtain ⟨k, a, b, at', e, _⟩ := act18_cells l (hsz.trans hc4) hf
  subst e
  exact (none_walk k a b at' w).mono (fun e w' ⟨he, hk⟩ => ⟨he, hk.below (fun _ _ => id) (Nat.le_refl _)⟩)
end Go.Proofs.Ytahiimcdmojngaa
