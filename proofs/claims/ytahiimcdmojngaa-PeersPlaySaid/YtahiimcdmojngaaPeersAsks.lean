/- The chapter's example of peers holds. -/
import Derived.Test.YtahiimcdmojngaaPeers2
namespace Go.Proofs.Ytahiimcdmojngaa
open Go.RowKit

theorem nextZero (last : Nat) (h : last < 3) : Pr.next [(⟨0, 0, 0, false⟩ : Pr), (⟨0, 0, 0, false⟩ : Pr), (⟨0, 0, 0, false⟩ : Pr)] last (nearZ 0) = some ((last + 1) % 3) := by
  match last, h with
  | 0, _ => decide
  | 1, _ => decide
  | 2, _ => decide
theorem next_zero (w : World) (b bl cap : Nat) (rest : List Value) (last : Nat) (h : last < 3) (hs : IsPeers 65 52 w b bl cap rest [(⟨0, 0, 0, false⟩ : Pr), (⟨0, 0, 0, false⟩ : Pr), (⟨0, 0, 0, false⟩ : Pr)] last) :
    Calls Try.prog 33 #[.pointer (some ⟨b, 0, none⟩), .int .i64 0] w fun e w' => e = .returned (.tuple #[.int .i64 ((last + 1) % 3 : Nat), .bool true]) ∧ IsPeers 65 52 w' b bl cap rest [(⟨0, 0, 0, false⟩ : Pr), (⟨0, 0, 0, false⟩ : Pr), (⟨0, 0, 0, false⟩ : Pr)] ((last + 1) % 3) ∧ Kept (· = b) w w' := by
  refine (next_any w b bl cap rest _ last 0 hs).mono ?_
  intro e w' hp
  unfold NextPost at hp
  rw [nextZero last h] at hp
  exact hp
theorem next_five (w : World) (b bl cap : Nat) (rest : List Value) (hs : IsPeers 65 52 w b bl cap rest [(⟨0, 2, 208, true⟩ : Pr), (⟨1, 0, 6, false⟩ : Pr), (⟨0, 0, 9, false⟩ : Pr)] 0) :
    Calls Try.prog 33 #[.pointer (some ⟨b, 0, none⟩), .int .i64 5] w fun e w' => e = .returned (.tuple #[.int .i64 0, .bool false]) ∧ IsPeers 65 52 w' b bl cap rest [(⟨0, 2, 208, true⟩ : Pr), (⟨1, 0, 6, false⟩ : Pr), (⟨0, 0, 9, false⟩ : Pr)] 0 ∧ Kept (· = b) w w' := by
  refine (next_any w b bl cap rest _ 0 5 hs).mono ?_
  intro e w' hp
  unfold NextPost at hp
  rw [show Pr.next [(⟨0, 2, 208, true⟩ : Pr), (⟨1, 0, 6, false⟩ : Pr), (⟨0, 0, 9, false⟩ : Pr)] 0 (nearZ 5) = none from by decide] at hp
  exact hp

set_option maxRecDepth 100000 in
set_option maxHeartbeats 4000000 in
theorem asks_true (w : World) : Calls Try.prog 27 #[] w fun e w' => e = .returned (.bool true) ∧ Below w.heap.size w w' := by
  go_enter Try.func27, Try.ntmps27
  go_wp2_with fail
  refine (new_ok 3 (by omega) (by omega) _).mono ?_
  rintro e w1 ⟨rfl, hs1, hk1⟩
  obtain ⟨b, hb⟩ : ∃ b, b = w.heap.size + 1 := ⟨_, rfl⟩
  obtain ⟨bl, hbl⟩ : ∃ bl, bl = w.heap.size := ⟨_, rfl⟩
  have hs1' : IsPeers 65 52 w1 b bl 3 [] [(⟨0, 0, 0, false⟩ : Pr), (⟨0, 0, 0, false⟩ : Pr), (⟨0, 0, 0, false⟩ : Pr)] 2 := by rw [hb, hbl]; exact hs1
  rw [← hb]
  have gb : w.heap.size ≤ b := by omega
  have gbl : w.heap.size ≤ bl := by omega
  clear hs1 hb hbl
  go_wp2_with fail
  go_loopw [3] (fun i wr => ∃ k : Nat, k ≤ 4 ∧ i = .int .i64 k ∧ IsPeers 65 52 wr b bl 3 [] [(⟨0, 0, 0, false⟩ : Pr), (⟨0, 0, 0, false⟩ : Pr), (⟨0, 0, 0, false⟩ : Pr)] ((2 + k) % 3) ∧ Kept (fun x => w.heap.size ≤ x) w wr) (fun i _ => 4 - (intOf i).toNat)
  case atStart => exact ⟨0, by omega, rfl, hs1', hk1.mono (fun _ _ h => h.elim)⟩
  case round =>
    obtain ⟨k, hk, rfl, hs, hkept⟩ := hrel
    match k, hk with
    | 0, _ =>
      go_wp2_with fail
      refine (next_zero _ _ _ _ _ 2 (by omega) hs).mono ?_
      rintro e w2 ⟨rfl, hs2, hk2⟩
      go_wp2_with fail
      go_roundw
      case rel => exact ⟨1, by omega, by go_num, hs2, hkept.then_ hk2 (fun i hi he => by omega)⟩
      case measure => simp [intOf]
    | 1, _ =>
      go_wp2_with fail
      refine (next_zero _ _ _ _ _ 0 (by omega) hs).mono ?_
      rintro e w2 ⟨rfl, hs2, hk2⟩
      go_wp2_with fail
      go_roundw
      case rel => exact ⟨2, by omega, by go_num, hs2, hkept.then_ hk2 (fun i hi he => by omega)⟩
      case measure => simp [intOf]
    | 2, _ =>
      go_wp2_with fail
      refine (next_zero _ _ _ _ _ 1 (by omega) hs).mono ?_
      rintro e w2 ⟨rfl, hs2, hk2⟩
      go_wp2_with fail
      go_roundw
      case rel => exact ⟨3, by omega, by go_num, hs2, hkept.then_ hk2 (fun i hi he => by omega)⟩
      case measure => simp [intOf]
    | 3, _ =>
      go_wp2_with fail
      refine (next_zero _ _ _ _ _ 2 (by omega) hs).mono ?_
      rintro e w2 ⟨rfl, hs2, hk2⟩
      go_wp2_with fail
      go_roundw
      case rel => exact ⟨4, by omega, by go_num, hs2, hkept.then_ hk2 (fun i hi he => by omega)⟩
      case measure => simp [intOf]
    | 4, _ =>
      go_wp2_with fail
      refine (bad_in _ _ _ _ _ _ _ 0 10 ⟨0, 0, 0, false⟩ hs rfl).mono ?_
      rintro e w2 ⟨rfl, hs2, hk2⟩
      have hs2' : IsPeers 65 52 w2 b bl 3 [] [(⟨0, 1, 74, true⟩ : Pr), (⟨0, 0, 0, false⟩ : Pr), (⟨0, 0, 0, false⟩ : Pr)] 0 := hs2
      clear hs2
      go_wp2_with fail
      refine (state_in _ _ _ _ _ _ _ 0 ⟨0, 1, 74, true⟩ hs2' rfl).mono ?_
      rintro e w3 ⟨rfl, rfl⟩
      go_wp2_with fail
      have l2 := hs2'.row.lt
      have m2 := hs2'.head.lt
      have x0 := Blk.new (w2.alloc (.cells #[.int .i64 0, .int .i64 1, .int .i64 74, .bool true] 52)) [.int .i64 0, .int .i64 1, .int .i64 74, .bool true] 52
      have hs2'b := (hs2'.alloc (.cells #[.int .i64 0, .int .i64 1, .int .i64 74, .bool true] 52)).alloc (.cells #[.int .i64 0, .int .i64 1, .int .i64 74, .bool true] 52)
      refine (bad_in _ _ _ _ _ _ _ 0 80 ⟨0, 1, 74, true⟩ hs2'b rfl ).mono ?_
      rintro e w4 ⟨rfl, hs4r, hk4⟩
      have hs4 : IsPeers 65 52 w4 b bl 3 [] [(⟨0, 2, 208, true⟩ : Pr), (⟨0, 0, 0, false⟩ : Pr), (⟨0, 0, 0, false⟩ : Pr)] 0 := hs4r
      clear hs4r
      have sz4 := hk4.size
      simp only [World.size_alloc] at sz4
      have l4 := hs4.row.lt
      have m4 := hs4.head.lt
      have x0 := x0.kept hk4 (fun e => by simp only [World.size_alloc] at e; omega)
      go_wp2_with fail
      refine (state_in _ _ _ _ _ _ _ 0 ⟨0, 2, 208, true⟩ hs4 rfl).mono ?_
      rintro e w5 ⟨rfl, rfl⟩
      go_wp2_with fail
      have x1 := Blk.new (w4.alloc (.cells #[.int .i64 0, .int .i64 2, .int .i64 208, .bool true] 52)) [.int .i64 0, .int .i64 2, .int .i64 208, .bool true] 52
      have x0 := (x0.alloc (.cells #[.int .i64 0, .int .i64 2, .int .i64 208, .bool true] 52)).alloc (.cells #[.int .i64 0, .int .i64 2, .int .i64 208, .bool true] 52)
      have hs4b := (hs4.alloc (.cells #[.int .i64 0, .int .i64 2, .int .i64 208, .bool true] 52)).alloc (.cells #[.int .i64 0, .int .i64 2, .int .i64 208, .bool true] 52)
      refine (late_in _ _ _ _ _ _ _ 1 5 7 ⟨0, 0, 0, false⟩ hs4b rfl (by omega) (by omega)).mono ?_
      rintro e w6 ⟨rfl, hs6r, hk6⟩
      have hs6 : IsPeers 65 52 w6 b bl 3 [] [(⟨0, 2, 208, true⟩ : Pr), (⟨1, 0, 6, false⟩ : Pr), (⟨0, 0, 0, false⟩ : Pr)] 0 := hs6r
      clear hs6r
      have sz6 := hk6.size
      simp only [World.size_alloc] at sz6
      have l6 := hs6.row.lt
      have m6 := hs6.head.lt
      have x0 := x0.kept hk6 (fun e => by simp only [World.size_alloc] at e; omega)
      have x1 := x1.kept hk6 (fun e => by simp only [World.size_alloc] at e; omega)
      go_wp2_with fail
      refine (state_in _ _ _ _ _ _ _ 1 ⟨1, 0, 6, false⟩ hs6 rfl).mono ?_
      rintro e w7 ⟨rfl, rfl⟩
      go_wp2_with fail
      have x2 := Blk.new (w6.alloc (.cells #[.int .i64 1, .int .i64 0, .int .i64 6, .bool false] 52)) [.int .i64 1, .int .i64 0, .int .i64 6, .bool false] 52
      have x0 := (x0.alloc (.cells #[.int .i64 1, .int .i64 0, .int .i64 6, .bool false] 52)).alloc (.cells #[.int .i64 1, .int .i64 0, .int .i64 6, .bool false] 52)
      have x1 := (x1.alloc (.cells #[.int .i64 1, .int .i64 0, .int .i64 6, .bool false] 52)).alloc (.cells #[.int .i64 1, .int .i64 0, .int .i64 6, .bool false] 52)
      have hs6b := (hs6.alloc (.cells #[.int .i64 1, .int .i64 0, .int .i64 6, .bool false] 52)).alloc (.cells #[.int .i64 1, .int .i64 0, .int .i64 6, .bool false] 52)
      refine (idle_in _ _ _ _ _ _ _ 2 5 ⟨0, 0, 0, false⟩ hs6b rfl ).mono ?_
      rintro e w8 ⟨rfl, hs8r, hk8⟩
      have hs8 : IsPeers 65 52 w8 b bl 3 [] [(⟨0, 2, 208, true⟩ : Pr), (⟨1, 0, 6, false⟩ : Pr), (⟨0, 0, 9, false⟩ : Pr)] 0 := hs8r
      clear hs8r
      have sz8 := hk8.size
      simp only [World.size_alloc] at sz8
      have l8 := hs8.row.lt
      have m8 := hs8.head.lt
      have x0 := x0.kept hk8 (fun e => by simp only [World.size_alloc] at e; omega)
      have x1 := x1.kept hk8 (fun e => by simp only [World.size_alloc] at e; omega)
      have x2 := x2.kept hk8 (fun e => by simp only [World.size_alloc] at e; omega)
      go_wp2_with fail
      refine (state_in _ _ _ _ _ _ _ 2 ⟨0, 0, 9, false⟩ hs8 rfl).mono ?_
      rintro e w9 ⟨rfl, rfl⟩
      go_wp2_with fail
      have x3 := Blk.new (w8.alloc (.cells #[.int .i64 0, .int .i64 0, .int .i64 9, .bool false] 52)) [.int .i64 0, .int .i64 0, .int .i64 9, .bool false] 52
      have x0 := (x0.alloc (.cells #[.int .i64 0, .int .i64 0, .int .i64 9, .bool false] 52)).alloc (.cells #[.int .i64 0, .int .i64 0, .int .i64 9, .bool false] 52)
      have x1 := (x1.alloc (.cells #[.int .i64 0, .int .i64 0, .int .i64 9, .bool false] 52)).alloc (.cells #[.int .i64 0, .int .i64 0, .int .i64 9, .bool false] 52)
      have x2 := (x2.alloc (.cells #[.int .i64 0, .int .i64 0, .int .i64 9, .bool false] 52)).alloc (.cells #[.int .i64 0, .int .i64 0, .int .i64 9, .bool false] 52)
      have hs8b := (hs8.alloc (.cells #[.int .i64 0, .int .i64 0, .int .i64 9, .bool false] 52)).alloc (.cells #[.int .i64 0, .int .i64 0, .int .i64 9, .bool false] 52)
      refine (next_five _ _ _ _ _ hs8b).mono ?_
      rintro e w10 ⟨rfl, hs10, hk10⟩
      have x0 := x0.kept hk10 (fun e => by simp only [World.size_alloc] at e; omega)
      have x1 := x1.kept hk10 (fun e => by simp only [World.size_alloc] at e; omega)
      have x2 := x2.kept hk10 (fun e => by simp only [World.size_alloc] at e; omega)
      have x3 := x3.kept hk10 (fun e => by simp only [World.size_alloc] at e; omega)
      have x0c0 := x0.cell (i := 0) rfl
      have x0c1 := x0.cell (i := 1) rfl
      have x0c2 := x0.cell (i := 2) rfl
      have x0c3 := x0.cell (i := 3) rfl
      simp only [World.size_alloc] at x0c0 x0c1 x0c2 x0c3
      have x1c0 := x1.cell (i := 0) rfl
      have x1c1 := x1.cell (i := 1) rfl
      have x1c2 := x1.cell (i := 2) rfl
      have x1c3 := x1.cell (i := 3) rfl
      simp only [World.size_alloc] at x1c0 x1c1 x1c2 x1c3
      have x2c0 := x2.cell (i := 0) rfl
      have x2c1 := x2.cell (i := 1) rfl
      have x2c2 := x2.cell (i := 2) rfl
      have x2c3 := x2.cell (i := 3) rfl
      simp only [World.size_alloc] at x2c0 x2c1 x2c2 x2c3
      have x3c0 := x3.cell (i := 0) rfl
      have x3c1 := x3.cell (i := 1) rfl
      have x3c2 := x3.cell (i := 2) rfl
      have x3c3 := x3.cell (i := 3) rfl
      simp only [World.size_alloc] at x3c0 x3c1 x3c2 x3c3
      go_wp2_with fail
      refine (barred_in _ _ _ _ _ _ _ 0 100 ⟨0, 2, 208, true⟩ hs10 rfl).mono ?_
      rw [show Pr.isBarred ⟨0, 2, 208, true⟩ 100 = true from by decide]
      rintro e w11 ⟨rfl, hk11⟩
      go_wp2_with fail
      refine (barred_in _ _ _ _ _ _ _ 0 208 ⟨0, 2, 208, true⟩ (hs10.kept hk11 id id) rfl).mono ?_
      rw [show Pr.isBarred ⟨0, 2, 208, true⟩ 208 = false from by decide]
      rintro e w12 ⟨rfl, hk12⟩
      go_wp2_with fail
      refine (barred_in _ _ _ _ _ _ _ 1 0 ⟨1, 0, 6, false⟩ ((hs10.kept hk11 id id).kept hk12 id id) rfl).mono ?_
      rw [show Pr.isBarred ⟨1, 0, 6, false⟩ 0 = false from by decide]
      rintro e w13 ⟨rfl, hk13⟩
      go_wp2_with fail
      go_ret
      refine ⟨rfl, ?_⟩
      have t := hkept.then_ hk2 (fun i hi he => by omega)
      have t := ((t.alloc (.cells #[.int .i64 0, .int .i64 1, .int .i64 74, .bool true] 52)).alloc (.cells #[.int .i64 0, .int .i64 1, .int .i64 74, .bool true] 52)).then_ hk4 (fun i hi he => by omega)
      have t := ((t.alloc (.cells #[.int .i64 0, .int .i64 2, .int .i64 208, .bool true] 52)).alloc (.cells #[.int .i64 0, .int .i64 2, .int .i64 208, .bool true] 52)).then_ hk6 (fun i hi he => by omega)
      have t := ((t.alloc (.cells #[.int .i64 1, .int .i64 0, .int .i64 6, .bool false] 52)).alloc (.cells #[.int .i64 1, .int .i64 0, .int .i64 6, .bool false] 52)).then_ hk8 (fun i hi he => by omega)
      have t := ((t.alloc (.cells #[.int .i64 0, .int .i64 0, .int .i64 9, .bool false] 52)).alloc (.cells #[.int .i64 0, .int .i64 0, .int .i64 9, .bool false] 52)).then_ hk10 (fun i hi he => by omega)
      have t := ((t.then_ hk11 (fun i hi he => he.elim)).then_ hk12 (fun i hi he => he.elim)).then_ hk13 (fun i hi he => he.elim)
      exact t.below (fun k hk he => by omega) (Nat.le_refl _)
    | k + 5, h => omega
end Go.Proofs.Ytahiimcdmojngaa
