/- The law DiskNone, walked. -/
import Derived.Test.YtlfemamgabeoeaaNoDisk
import Derived.Test.YtlfemamgabeoeaaOpen
namespace Go.Proofs.Ytlfemamgabeoeaa
open Go.RowKit Go.WideShapes Go.ChangeShapes Go.Joins

set_option maxRecDepth 100000 in
/-- What an act that came in is. -/
theorem act_of {H : Type} {enc : TypeId × Value → H} {base : Nat} {dd : DataW H} {pp : List MemPlace} (v : Value) (w : World) (hv : Value.okWide Try.prog w .any base 23 v) (h : DataW.Trod enc Try.prog w 0 (fun _ => true) true 23 v dd pp) :
    ∃ (k n pos size : Int) (s : ByteArray), v = .agg #[.int .u8 k, .int .i64 n, .int .i64 pos, .int .i64 size, .string s] ∧ s.size ≤ 9223372036854775807 := by
  obtain ⟨cs, rfl, hsz⟩ := okWide_struct Try.underlying23 hv
  obtain ⟨l⟩ := cs
  have hc5 : Try.prog.cellsOf 23 = 5 := by kernel_rfl
  have k1 : Try.prog.cellsOf 5 = 1 := by kernel_rfl
  have k2 : Try.prog.cellsOf 3 = 1 := by kernel_rfl
  have k3 : Try.prog.cellsOf 9 = 1 := by kernel_rfl
  match l, hsz.trans hc5 with
  | [c0, c1, c2, c3, c4], _ =>
    obtain ⟨fuel, hf⟩ := h
    obtain ⟨xs, n, _, _, _, hl, hg⟩ := DataW.trod_struct Try.underlying23 hf
    match xs, hl with
    | [y0, y1, y2, y3, y4], _ =>
      have g0 := hg 0 _ rfl
      have g1 := hg 1 _ rfl
      have g2 := hg 2 _ rfl
      have g3 := hg 3 _ rfl
      have g4 := hg 4 _ rfl
      simp [Value.cells, k1] at g0
      simp [Value.cells, k2] at g1 g2 g3
      simp [Value.cells, k3] at g4
      obtain ⟨a0, e0, _, w0⟩ := DataW.trod_int Try.underlying5 g0
      obtain ⟨a1, e1, _, w1⟩ := DataW.trod_int Try.underlying3 g1
      obtain ⟨a2, e2, _, w2⟩ := DataW.trod_int Try.underlying3 g2
      obtain ⟨a3, e3, _, w3⟩ := DataW.trod_int Try.underlying3 g3
      obtain ⟨a4, e4, _, w4⟩ := DataW.trod_string Try.underlying9 g4
      simp at e0 e1 e2 e3 e4
      subst e0 e1 e2 e3 e4
      exact ⟨a0, a1, a2, a3, a4, rfl, w4⟩

/-- Great, of one act. -/
theorem great_big (w : World) (b : Nat) (s : ByteArray) (h : w.cell? ⟨b, 4, none⟩ = some (.string s)) (hs : 500 < s.size) (hm : s.size ≤ 9223372036854775807) :
    Calls Try.prog 4 #[.slice (some ⟨b, 0, none⟩) 1 1, .int .i64 1] w fun e w' => e = .returned (.bool true) ∧ w = w' := by
  have x1 : decide (500 < s.size) = true := decide_eq_true hs
  have x2 : decide ((500 : Int) < (s.size : Int)) = true := by simp; omega
  go_enter Try.func4, Try.ntmps4
  go_wp2_with fail
  go_loop [5] (fun x => x = .int .i64 0) (fun _ => 0)
  case atStart => rfl
  case round =>
    subst hrel
    go_wp2_with fail
    go_ret
    exact ⟨rfl, rfl⟩
theorem great_small (w : World) (b : Nat) (s : ByteArray) (h : w.cell? ⟨b, 4, none⟩ = some (.string s)) (hs : s.size ≤ 500) :
    Calls Try.prog 4 #[.slice (some ⟨b, 0, none⟩) 1 1, .int .i64 1] w fun e w' => e = .returned (.bool false) ∧ w = w' := by
  have x1 : decide (500 < s.size) = false := by simp; omega
  have x2 : decide ((500 : Int) < (s.size : Int)) = false := by simp; omega
  go_enter Try.func4, Try.ntmps4
  go_wp2_with fail
  go_loop [5] (fun x => ∃ i : Nat, i ≤ 1 ∧ x = .int .i64 (i : Int)) (fun x => 1 - (intOf x).toNat)
  case atStart => exact ⟨0, by omega, rfl⟩
  case round =>
    obtain ⟨i, hi, rfl⟩ := hrel
    match i, hi with
    | 0, _ =>
      go_wp2_with fail
      go_round
      case rel => exact ⟨1, by omega, by go_num⟩
      case measure => simp [intOf]
    | 1, _ =>
      go_wp2_with fail
      go_ret
      exact ⟨rfl, rfl⟩

set_option maxRecDepth 100000 in
set_option maxHeartbeats 8000000 in
theorem diskNone_walk {H : Type} {enc : TypeId × Value → H} {base : Nat} {dd : DataW H} {pp : List MemPlace} (v : Value) (w : World) (hv : Value.okWide Try.prog w .any base 23 v) (h : DataW.Trod enc Try.prog w 0 (fun _ => true) true 23 v dd pp) :
    Calls Try.prog 3 #[v] w fun e w' => e = .returned (.bool true) ∧ Below w.heap.size w w' := by
  obtain ⟨k, n, pos, size, s, rfl, hsm⟩ := act_of v w hv h
  clear h hv
  have hblk := Blk.new w [.int .u8 k, .int .i64 n, .int .i64 pos, .int .i64 size, .string s] 23
  have hbel : Below w.heap.size w (w.alloc (.cells #[.int .u8 k, .int .i64 n, .int .i64 pos, .int .i64 size, .string s] 23)) := (Below.refl _ w).alloc (Nat.le_refl _) _
  have hcell : ((w.alloc (.cells #[.int .u8 k, .int .i64 n, .int .i64 pos, .int .i64 size, .string s] 23)).alloc (.cells #[.int .u8 k, .int .i64 n, .int .i64 pos, .int .i64 size, .string s] 23)).cell? ⟨w.heap.size + 1, 4, none⟩ = some (.string s) := by
    simp
  have hblk2 := hblk.alloc (.cells #[.int .u8 k, .int .i64 n, .int .i64 pos, .int .i64 size, .string s] 23)
  have hbel2 := hbel.alloc hbel.size (.cells #[.int .u8 k, .int .i64 n, .int .i64 pos, .int .i64 size, .string s] 23)
  clear hblk hbel
  by_cases hs : 500 < s.size
  · go_enter Try.func3, Try.ntmps3
    go_wp2_with fail
    refine (great_big _ _ s hcell hs hsm).mono ?_
    rintro e w' ⟨rfl, rfl⟩
    go_wp2_with fail
    refine (stored_any _).mono ?_
    rintro e w' ⟨rfl, hb'⟩
    go_wp2_with fail
    go_ret
    exact ⟨rfl, hbel2.trans (hb'.mono hbel2.size)⟩
  · go_enter Try.func3, Try.ntmps3
    go_wp2_with fail
    refine (great_small _ _ s hcell (by omega)).mono ?_
    rintro e w' ⟨rfl, rfl⟩
    go_wp2_with fail
    go_loopw [3, 4] (fun x y wr => ∃ j : Nat, j ≤ 2 ∧ y = .int .i64 (j : Int) ∧ NoDisk wr x ∧ Blk wr w.heap.size [.int .u8 k, .int .i64 n, .int .i64 pos, .int .i64 size, .string s] 23 ∧ Below w.heap.size w wr) (fun _ y _ => 2 - (intOf y).toNat)
    case atStart => exact ⟨0, by omega, rfl, Or.inl rfl, hblk2, hbel2⟩
    case round =>
      obtain ⟨j, hj, rfl, hnd, hB, hL⟩ := hrel
      by_cases hj2 : j < 2
      · have y1 : decide (j < 2) = true := decide_eq_true hj2
        have y2 : decide ((j : Int) < 2) = true := by simp; omega
        have q1 := hB.cell (i := 1) rfl
        have q2 := hB.cell (i := 2) rfl
        have q3 := hB.cell (i := 3) rfl
        have q4 := hB.cell (i := 4) rfl
        go_wp2_with (first
          | (go_at_call 6; refine (read_no _ _ _ _ _ hnd).mono ?_; rintro e w' ⟨rfl, rfl⟩)
          | (go_at_call 7; refine (size_no _ _ _ hnd).mono ?_; rintro e w' ⟨rfl, rfl⟩)
          | (go_at_call 8; refine (create_no _ _ _ hnd).mono ?_; rintro e w' ⟨rfl, rfl⟩)
          | (go_at_call 9; refine (append_no _ _ _ _ hnd).mono ?_; rintro e w' ⟨rfl, rfl⟩)
          | (go_at_call 10; refine (sync_no _ _ hnd).mono ?_; rintro e w' ⟨rfl, rfl⟩)
          | (go_at_call 11; refine (truncate_no _ _ _ _ hnd).mono ?_; rintro e w' ⟨rfl, rfl⟩)
          | (go_at_call 12; refine (delete_no _ _ _ hnd).mono ?_; rintro e w' ⟨rfl, rfl⟩)
          | (go_at_call 13; refine (files_no _ _ hnd).mono ?_; rintro e w' ⟨rfl, rfl⟩)
          | (go_at_call 14; refine (loose_no _ _ hnd).mono ?_; rintro e w' ⟨rfl, rfl⟩)
          | (go_at_call 15; refine (free_no _ _ hnd).mono ?_; rintro e w' ⟨rfl, rfl⟩)
          | (go_at_call 16; refine (up_no _ _ hnd).mono ?_; rintro e w' ⟨rfl, rfl⟩)
          | (go_at_call 17; refine (starts_no _ _ hnd).mono ?_; rintro e w' ⟨rfl, rfl⟩)
          | (go_at_call 18; refine (crash_no _ _ _ hnd).mono ?_; rintro e w' ⟨rfl, rfl⟩)
          | (go_at_call 19; refine (start_no _ _ hnd).mono ?_; rintro e w' ⟨rfl, rfl⟩)
          | (go_at_call 20; refine (fail_no _ _ _ _ hnd).mono ?_; rintro e w' ⟨rfl, rfl⟩))
        go_roundw
        case rel => exact ⟨j + 1, by omega, by go_num, Or.inr ⟨_, rfl, by simp⟩, hB.alloc _, hL.alloc hL.size _⟩
        case measure => simp [intOf]; omega
      · have y1 : decide (j < 2) = false := by simp; omega
        have y2 : decide ((j : Int) < 2) = false := by simp; omega
        go_wp2_with fail
        refine (stored_any _).mono ?_
        rintro e w' ⟨rfl, hb'⟩
        go_wp2_with fail
        go_ret
        exact ⟨rfl, hL.trans (hb'.mono hL.size)⟩
end Go.Proofs.Ytlfemamgabeoeaa
