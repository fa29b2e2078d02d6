/- The walk of the law PeersPlay. -/
import Derived.Test.YtahiimcdmojngaaPeersBoth
namespace Go.Proofs.Ytahiimcdmojngaa
open Go.RowKit

set_option maxRecDepth 100000 in
set_option maxHeartbeats 2000000 in
theorem peersPlay_walk1 (nn : Nat) (a : Option Addr) (len cap : Nat) (w : World) (ha : Acts w a len) (hl : len ≤ 9223372036854775807) (n1 : 1 ≤ nn) (n8 : nn ≤ 8) (hlen : len ≤ 150) :
    Calls Try.prog 8 #[.int .i64 nn, .slice a len cap] w fun e w' => e = .returned (.bool true) ∧ Below w.heap.size w w' := by
  have e1 : decide ((150 : Int) < (len : Int)) = false := by simp; omega
  go_enter Try.func8, Try.ntmps8
  go_wp2_with fail
  refine (new_ok nn n1 n8 _).mono ?_
  rintro e w1 ⟨rfl, hs1, hk1⟩
  obtain ⟨b1, hb⟩ : ∃ b, b = w.heap.size + 1 := ⟨_, rfl⟩
  obtain ⟨bl1, hbl⟩ : ∃ bl, bl = w.heap.size := ⟨_, rfl⟩
  have hs1' : IsPeers 65 52 w1 b1 bl1 nn [] (List.replicate nn Pr.zero) (nn - 1) := by rw [hb, hbl]; exact hs1
  rw [← hb]
  have gb : w.heap.size ≤ b1 := by omega
  have gbl : w.heap.size ≤ bl1 := by omega
  clear hs1 hb hbl
  go_wp2_with fail
  refine (refNew_ok nn n1 n8 _).mono ?_
  rintro e w2 ⟨b2, bl20, cap20, rest20, rfl, gb2, gbl2, hr2, hk2⟩
  have hs2 := hs1'.kept hk2 id id
  have hz1 := hk1.size
  go_wp2_with fail
  go_loopw [9] (fun i wr => ∃ (j : Nat) (l : List Pr) (last b2' bl2 cap2 : Nat) (rest2 : List Value), j ≤ len ∧ i = .int .i64 j ∧ b2' = b2 ∧ IsPeers 65 52 wr b1 bl1 nn [] l last ∧ IsPeers 115 116 wr b2 bl2 cap2 rest2 l last ∧ w.heap.size ≤ bl2 ∧ Kept (fun x => w.heap.size ≤ x) w wr) (fun i _ => len - (intOf i).toNat)
  case atStart => exact ⟨0, _, _, b2, bl20, cap20, rest20, by omega, rfl, rfl, hs2, hr2, by omega, (hk1.mono (fun _ _ h => h.elim)).then_ hk2 (fun _ _ h => h.elim)⟩
  case round =>
    obtain ⟨j, l, last, _, bl2, cap2, rest2, hj, rfl, _, hs, hr, g2, hkept⟩ := hrel
    by_cases hlt : j < len
    · obtain ⟨k, ix, nw, d, k0, k1, d0, d1, x0, x1, y0, y1, hel⟩ := ha j hlt
      obtain ⟨ab, aoff, rfl, hab, hcell⟩ := hel
      have hkb := hkept.block ab hab (by omega)
      have t0 : wr.cell? ⟨ab, aoff + j * 4, none⟩ = some (.int .u8 k) := (World.cell?_of_block (w := w) (a := ⟨ab, aoff + j * 4, none⟩) hkb).trans (hcell 0 _ rfl)
      have t1 : wr.cell? ⟨ab, aoff + j * 4 + 1, none⟩ = some (.int .i64 ix) := (World.cell?_of_block (w := w) (a := ⟨ab, aoff + j * 4 + 1, none⟩) hkb).trans (hcell 1 _ rfl)
      have t2 : wr.cell? ⟨ab, aoff + j * 4 + 2, none⟩ = some (.int .i64 nw) := (World.cell?_of_block (w := w) (a := ⟨ab, aoff + j * 4 + 2, none⟩) hkb).trans (hcell 2 _ rfl)
      have t3 : wr.cell? ⟨ab, aoff + j * 4 + 3, none⟩ = some (.int .u8 d) := (World.cell?_of_block (w := w) (a := ⟨ab, aoff + j * 4 + 3, none⟩) hkb).trans (hcell 3 _ rfl)
      clear hkb hcell
      have hjl : (j : Int) < (len : Int) := by omega
      have hsx := hs.alloc (.cells #[.int .u8 k, .int .i64 ix, .int .i64 nw, .int .u8 d] 45)
      have hrx := hr.alloc (.cells #[.int .u8 k, .int .i64 ix, .int .i64 nw, .int .u8 d] 45)
      have hxx := Blk.new wr [.int .u8 k, .int .i64 ix, .int .i64 nw, .int .u8 d] 45
      have hkx := hkept.alloc (.cells #[.int .u8 k, .int .i64 ix, .int .i64 nw, .int .u8 d] 45)
      have q1 := hs.head.lt
      have q2 := hs.row.lt
      have q3 := hr.head.lt
      have q4 := hr.row.lt
      have m1 : b2 ≠ bl1 := hr.head.ne hs.row (by decide)
      have m2 : bl2 ≠ bl1 := hr.row.ne hs.row (by decide)
      have m3 : b1 ≠ b2 := hs.head.ne hr.head (by decide)
      have m4 : bl1 ≠ b2 := hs.row.ne hr.head (by decide)
      have m5 : b1 ≠ bl2 := hs.head.ne hr.row (by decide)
      have hcase : k % 8 = 3 ∨ k % 8 = 4 ∨ k % 8 = 5 ∨ k % 8 = 6 ∨ k % 8 = 7 ∨ (k % 8 ≤ 2) := by omega
      rcases hcase with hc | hc | hc | hc | hc | hc
      · have y1 := hxx.cell (i := 1) rfl
        have y2 := hxx.cell (i := 2) rfl
        have y3 := hxx.cell (i := 3) rfl
        go_wp2_with fail
        go_region_held3 (fun w' => w'.cell? ⟨wr.heap.size, 1, none⟩ = some (.int .i64 ix) ∧ w'.cell? ⟨wr.heap.size, 2, none⟩ = some (.int .i64 nw) ∧ w'.cell? ⟨wr.heap.size, 3, none⟩ = some (.int .u8 d)) (first | exact ⟨y1, y2, y3⟩ | exact ⟨z1, z2, z3⟩ | exact ⟨v1, v2, v3⟩) (first | (go_at_call 29; refine (good_all _ _ _ _ _ _ _ _ hsx.drew).mono ?_; rintro e w3 ⟨rfl, hs3, hk3⟩; have hx3 := hxx.drew.kept hk3 (fun e => by omega); have hr3 := hrx.drew.kept hk3 (fun e => by omega) (fun e => by omega); have z1 := hx3.cell (i := 1) rfl; have z2 := hx3.cell (i := 2) rfl; have z3 := hx3.cell (i := 3) rfl) | (go_at_call 37; refine (refGood_all _ _ _ _ _ _ _ _ hr3).mono ?_; rintro e w4 ⟨bl4, cap4, rest4, rfl, hr4, hbl4, hk4⟩; have hx4 := hx3.kept hk4 (fun e => by omega); have hs4 := hs3.kept hk4 (fun e => by omega) (fun e => by omega); have v1 := hx4.cell (i := 1) rfl; have v2 := hx4.cell (i := 2) rfl; have v3 := hx4.cell (i := 3) rfl))
        have hsz3 := hk3.size
        simp only [World.size_drew, World.size_alloc] at hsz3
        have hkp4 := (hkx.drew.then_ hk3 (fun x hx he => by omega)).then_ hk4 (fun x hx he => by omega)
        have gbl4 : w.heap.size ≤ bl4 := by have := hkept.size; omega
        clear y1 y2 y3 z1 z2 z3 v1 v2 v3
        have y1 := hx4.cell (i := 1) rfl
        have y2 := hx4.cell (i := 2) rfl
        have y3 := hx4.cell (i := 3) rfl
        go_wp2_with fail
        go_region_held3 (fun w' => w'.cell? ⟨wr.heap.size, 1, none⟩ = some (.int .i64 ix) ∧ w'.cell? ⟨wr.heap.size, 2, none⟩ = some (.int .i64 nw) ∧ w'.cell? ⟨wr.heap.size, 3, none⟩ = some (.int .u8 d)) (first | exact ⟨y1, y2, y3⟩ | exact ⟨z1, z2, z3⟩ | exact ⟨v1, v2, v3⟩ | exact ⟨u1, u2, u3⟩) (first | (go_at_call 43; refine (alike_true _ _ _ _ _ _ _ _ _ _ _ _ hs4.drew hr4.drew).mono ?_; rintro e w5 ⟨rfl, hk5⟩; have hs5 := hs4.drew.kept hk5 id id; have hr5 := hr4.drew.kept hk5 id id; have hx5 := hx4.drew.kept hk5 id; have z1 := hx5.cell (i := 1) rfl; have z2 := hx5.cell (i := 2) rfl; have z3 := hx5.cell (i := 3) rfl) | (go_at_call 35; refine (barred_all _ _ _ _ _ _ _ _ _ hs5).mono ?_; rintro e w6 ⟨rfl, hk6⟩; have hs6 := hs5.kept hk6 id id; have hr6 := hr5.kept hk6 id id; have hx6 := hx5.kept hk6 id; have v1 := hx6.cell (i := 1) rfl; have v2 := hx6.cell (i := 2) rfl; have v3 := hx6.cell (i := 3) rfl) | (go_at_call 44; refine (refBarred_all _ _ _ _ _ _ _ _ _ hr6).mono ?_; rintro e w7 ⟨rfl, hk7⟩; have hs7 := hs6.kept hk7 id id; have hr7 := hr6.kept hk7 id id; have hx7 := hx6.kept hk7 id; have u1 := hx7.cell (i := 1) rfl; have u2 := hx7.cell (i := 2) rfl; have u3 := hx7.cell (i := 3) rfl))
        go_wp2_with fail
        go_roundw
        case rel => exact ⟨j + 1, Pr.upd l ix Pr.good, last, b2, bl4, cap4, rest4, by omega, by go_num, by first | rfl | trivial, hs7, hr7, by omega, ((hkp4.drew.then_ hk5 (fun _ _ h => h.elim)).then_ hk6 (fun _ _ h => h.elim)).then_ hk7 (fun _ _ h => h.elim)⟩
        case measure => simp [intOf]; omega
      · have y1 := hxx.cell (i := 1) rfl
        have y2 := hxx.cell (i := 2) rfl
        have y3 := hxx.cell (i := 3) rfl
        go_wp2_with fail
        go_region_held3 (fun w' => w'.cell? ⟨wr.heap.size, 1, none⟩ = some (.int .i64 ix) ∧ w'.cell? ⟨wr.heap.size, 2, none⟩ = some (.int .i64 nw) ∧ w'.cell? ⟨wr.heap.size, 3, none⟩ = some (.int .u8 d)) (first | exact ⟨y1, y2, y3⟩ | exact ⟨z1, z2, z3⟩ | exact ⟨v1, v2, v3⟩) (first | (go_at_call 30; refine (late_all _ _ _ _ _ _ _ _ _ _ hsx.drew d0 d1).mono ?_; rintro e w3 ⟨rfl, hs3, hk3⟩; have hx3 := hxx.drew.kept hk3 (fun e => by omega); have hr3 := hrx.drew.kept hk3 (fun e => by omega) (fun e => by omega); have z1 := hx3.cell (i := 1) rfl; have z2 := hx3.cell (i := 2) rfl; have z3 := hx3.cell (i := 3) rfl) | (go_at_call 38; refine (refLate_all _ _ _ _ _ _ _ _ _ _ hr3 d0 d1).mono ?_; rintro e w4 ⟨bl4, cap4, rest4, rfl, hr4, hbl4, hk4⟩; have hx4 := hx3.kept hk4 (fun e => by omega); have hs4 := hs3.kept hk4 (fun e => by omega) (fun e => by omega); have v1 := hx4.cell (i := 1) rfl; have v2 := hx4.cell (i := 2) rfl; have v3 := hx4.cell (i := 3) rfl))
        have hsz3 := hk3.size
        simp only [World.size_drew, World.size_alloc] at hsz3
        have hkp4 := (hkx.drew.then_ hk3 (fun x hx he => by omega)).then_ hk4 (fun x hx he => by omega)
        have gbl4 : w.heap.size ≤ bl4 := by have := hkept.size; omega
        clear y1 y2 y3 z1 z2 z3 v1 v2 v3
        have y1 := hx4.cell (i := 1) rfl
        have y2 := hx4.cell (i := 2) rfl
        have y3 := hx4.cell (i := 3) rfl
        go_wp2_with fail
        go_region_held3 (fun w' => w'.cell? ⟨wr.heap.size, 1, none⟩ = some (.int .i64 ix) ∧ w'.cell? ⟨wr.heap.size, 2, none⟩ = some (.int .i64 nw) ∧ w'.cell? ⟨wr.heap.size, 3, none⟩ = some (.int .u8 d)) (first | exact ⟨y1, y2, y3⟩ | exact ⟨z1, z2, z3⟩ | exact ⟨v1, v2, v3⟩ | exact ⟨u1, u2, u3⟩) (first | (go_at_call 43; refine (alike_true _ _ _ _ _ _ _ _ _ _ _ _ hs4.drew hr4.drew).mono ?_; rintro e w5 ⟨rfl, hk5⟩; have hs5 := hs4.drew.kept hk5 id id; have hr5 := hr4.drew.kept hk5 id id; have hx5 := hx4.drew.kept hk5 id; have z1 := hx5.cell (i := 1) rfl; have z2 := hx5.cell (i := 2) rfl; have z3 := hx5.cell (i := 3) rfl) | (go_at_call 35; refine (barred_all _ _ _ _ _ _ _ _ _ hs5).mono ?_; rintro e w6 ⟨rfl, hk6⟩; have hs6 := hs5.kept hk6 id id; have hr6 := hr5.kept hk6 id id; have hx6 := hx5.kept hk6 id; have v1 := hx6.cell (i := 1) rfl; have v2 := hx6.cell (i := 2) rfl; have v3 := hx6.cell (i := 3) rfl) | (go_at_call 44; refine (refBarred_all _ _ _ _ _ _ _ _ _ hr6).mono ?_; rintro e w7 ⟨rfl, hk7⟩; have hs7 := hs6.kept hk7 id id; have hr7 := hr6.kept hk7 id id; have hx7 := hx6.kept hk7 id; have u1 := hx7.cell (i := 1) rfl; have u2 := hx7.cell (i := 2) rfl; have u3 := hx7.cell (i := 3) rfl))
        go_wp2_with fail
        go_roundw
        case rel => exact ⟨j + 1, Pr.upd l ix (fun p => p.late nw d), last, b2, bl4, cap4, rest4, by omega, by go_num, by first | rfl | trivial, hs7, hr7, by omega, ((hkp4.drew.then_ hk5 (fun _ _ h => h.elim)).then_ hk6 (fun _ _ h => h.elim)).then_ hk7 (fun _ _ h => h.elim)⟩
        case measure => simp [intOf]; omega
      · have y1 := hxx.cell (i := 1) rfl
        have y2 := hxx.cell (i := 2) rfl
        have y3 := hxx.cell (i := 3) rfl
        go_wp2_with fail
        go_region_held3 (fun w' => w'.cell? ⟨wr.heap.size, 1, none⟩ = some (.int .i64 ix) ∧ w'.cell? ⟨wr.heap.size, 2, none⟩ = some (.int .i64 nw) ∧ w'.cell? ⟨wr.heap.size, 3, none⟩ = some (.int .u8 d)) (first | exact ⟨y1, y2, y3⟩ | exact ⟨z1, z2, z3⟩ | exact ⟨v1, v2, v3⟩) (first | (go_at_call 31; refine (bad_all _ _ _ _ _ _ _ _ _ hsx.drew).mono ?_; rintro e w3 ⟨rfl, hs3, hk3⟩; have hx3 := hxx.drew.kept hk3 (fun e => by omega); have hr3 := hrx.drew.kept hk3 (fun e => by omega) (fun e => by omega); have z1 := hx3.cell (i := 1) rfl; have z2 := hx3.cell (i := 2) rfl; have z3 := hx3.cell (i := 3) rfl) | (go_at_call 39; refine (refBad_all _ _ _ _ _ _ _ _ _ hr3).mono ?_; rintro e w4 ⟨bl4, cap4, rest4, rfl, hr4, hbl4, hk4⟩; have hx4 := hx3.kept hk4 (fun e => by omega); have hs4 := hs3.kept hk4 (fun e => by omega) (fun e => by omega); have v1 := hx4.cell (i := 1) rfl; have v2 := hx4.cell (i := 2) rfl; have v3 := hx4.cell (i := 3) rfl))
        have hsz3 := hk3.size
        simp only [World.size_drew, World.size_alloc] at hsz3
        have hkp4 := (hkx.drew.then_ hk3 (fun x hx he => by omega)).then_ hk4 (fun x hx he => by omega)
        have gbl4 : w.heap.size ≤ bl4 := by have := hkept.size; omega
        clear y1 y2 y3 z1 z2 z3 v1 v2 v3
        have y1 := hx4.cell (i := 1) rfl
        have y2 := hx4.cell (i := 2) rfl
        have y3 := hx4.cell (i := 3) rfl
        go_wp2_with fail
        go_region_held3 (fun w' => w'.cell? ⟨wr.heap.size, 1, none⟩ = some (.int .i64 ix) ∧ w'.cell? ⟨wr.heap.size, 2, none⟩ = some (.int .i64 nw) ∧ w'.cell? ⟨wr.heap.size, 3, none⟩ = some (.int .u8 d)) (first | exact ⟨y1, y2, y3⟩ | exact ⟨z1, z2, z3⟩ | exact ⟨v1, v2, v3⟩ | exact ⟨u1, u2, u3⟩) (first | (go_at_call 43; refine (alike_true _ _ _ _ _ _ _ _ _ _ _ _ hs4.drew hr4.drew).mono ?_; rintro e w5 ⟨rfl, hk5⟩; have hs5 := hs4.drew.kept hk5 id id; have hr5 := hr4.drew.kept hk5 id id; have hx5 := hx4.drew.kept hk5 id; have z1 := hx5.cell (i := 1) rfl; have z2 := hx5.cell (i := 2) rfl; have z3 := hx5.cell (i := 3) rfl) | (go_at_call 35; refine (barred_all _ _ _ _ _ _ _ _ _ hs5).mono ?_; rintro e w6 ⟨rfl, hk6⟩; have hs6 := hs5.kept hk6 id id; have hr6 := hr5.kept hk6 id id; have hx6 := hx5.kept hk6 id; have v1 := hx6.cell (i := 1) rfl; have v2 := hx6.cell (i := 2) rfl; have v3 := hx6.cell (i := 3) rfl) | (go_at_call 44; refine (refBarred_all _ _ _ _ _ _ _ _ _ hr6).mono ?_; rintro e w7 ⟨rfl, hk7⟩; have hs7 := hs6.kept hk7 id id; have hr7 := hr6.kept hk7 id id; have hx7 := hx6.kept hk7 id; have u1 := hx7.cell (i := 1) rfl; have u2 := hx7.cell (i := 2) rfl; have u3 := hx7.cell (i := 3) rfl))
        go_wp2_with fail
        go_roundw
        case rel => exact ⟨j + 1, Pr.upd l ix (fun p => p.bad nw), last, b2, bl4, cap4, rest4, by omega, by go_num, by first | rfl | trivial, hs7, hr7, by omega, ((hkp4.drew.then_ hk5 (fun _ _ h => h.elim)).then_ hk6 (fun _ _ h => h.elim)).then_ hk7 (fun _ _ h => h.elim)⟩
        case measure => simp [intOf]; omega
      · have y1 := hxx.cell (i := 1) rfl
        have y2 := hxx.cell (i := 2) rfl
        have y3 := hxx.cell (i := 3) rfl
        go_wp2_with fail
        go_region_held3 (fun w' => w'.cell? ⟨wr.heap.size, 1, none⟩ = some (.int .i64 ix) ∧ w'.cell? ⟨wr.heap.size, 2, none⟩ = some (.int .i64 nw) ∧ w'.cell? ⟨wr.heap.size, 3, none⟩ = some (.int .u8 d)) (first | exact ⟨y1, y2, y3⟩ | exact ⟨z1, z2, z3⟩ | exact ⟨v1, v2, v3⟩) (first | (go_at_call 32; refine (idle_all _ _ _ _ _ _ _ _ _ hsx.drew).mono ?_; rintro e w3 ⟨rfl, hs3, hk3⟩; have hx3 := hxx.drew.kept hk3 (fun e => by omega); have hr3 := hrx.drew.kept hk3 (fun e => by omega) (fun e => by omega); have z1 := hx3.cell (i := 1) rfl; have z2 := hx3.cell (i := 2) rfl; have z3 := hx3.cell (i := 3) rfl) | (go_at_call 40; refine (refIdle_all _ _ _ _ _ _ _ _ _ hr3).mono ?_; rintro e w4 ⟨bl4, cap4, rest4, rfl, hr4, hbl4, hk4⟩; have hx4 := hx3.kept hk4 (fun e => by omega); have hs4 := hs3.kept hk4 (fun e => by omega) (fun e => by omega); have v1 := hx4.cell (i := 1) rfl; have v2 := hx4.cell (i := 2) rfl; have v3 := hx4.cell (i := 3) rfl))
        have hsz3 := hk3.size
        simp only [World.size_drew, World.size_alloc] at hsz3
        have hkp4 := (hkx.drew.then_ hk3 (fun x hx he => by omega)).then_ hk4 (fun x hx he => by omega)
        have gbl4 : w.heap.size ≤ bl4 := by have := hkept.size; omega
        clear y1 y2 y3 z1 z2 z3 v1 v2 v3
        have y1 := hx4.cell (i := 1) rfl
        have y2 := hx4.cell (i := 2) rfl
        have y3 := hx4.cell (i := 3) rfl
        go_wp2_with fail
        go_region_held3 (fun w' => w'.cell? ⟨wr.heap.size, 1, none⟩ = some (.int .i64 ix) ∧ w'.cell? ⟨wr.heap.size, 2, none⟩ = some (.int .i64 nw) ∧ w'.cell? ⟨wr.heap.size, 3, none⟩ = some (.int .u8 d)) (first | exact ⟨y1, y2, y3⟩ | exact ⟨z1, z2, z3⟩ | exact ⟨v1, v2, v3⟩ | exact ⟨u1, u2, u3⟩) (first | (go_at_call 43; refine (alike_true _ _ _ _ _ _ _ _ _ _ _ _ hs4.drew hr4.drew).mono ?_; rintro e w5 ⟨rfl, hk5⟩; have hs5 := hs4.drew.kept hk5 id id; have hr5 := hr4.drew.kept hk5 id id; have hx5 := hx4.drew.kept hk5 id; have z1 := hx5.cell (i := 1) rfl; have z2 := hx5.cell (i := 2) rfl; have z3 := hx5.cell (i := 3) rfl) | (go_at_call 35; refine (barred_all _ _ _ _ _ _ _ _ _ hs5).mono ?_; rintro e w6 ⟨rfl, hk6⟩; have hs6 := hs5.kept hk6 id id; have hr6 := hr5.kept hk6 id id; have hx6 := hx5.kept hk6 id; have v1 := hx6.cell (i := 1) rfl; have v2 := hx6.cell (i := 2) rfl; have v3 := hx6.cell (i := 3) rfl) | (go_at_call 44; refine (refBarred_all _ _ _ _ _ _ _ _ _ hr6).mono ?_; rintro e w7 ⟨rfl, hk7⟩; have hs7 := hs6.kept hk7 id id; have hr7 := hr6.kept hk7 id id; have hx7 := hx6.kept hk7 id; have u1 := hx7.cell (i := 1) rfl; have u2 := hx7.cell (i := 2) rfl; have u3 := hx7.cell (i := 3) rfl))
        go_wp2_with fail
        go_roundw
        case rel => exact ⟨j + 1, Pr.upd l ix (fun p => p.idle nw), last, b2, bl4, cap4, rest4, by omega, by go_num, by first | rfl | trivial, hs7, hr7, by omega, ((hkp4.drew.then_ hk5 (fun _ _ h => h.elim)).then_ hk6 (fun _ _ h => h.elim)).then_ hk7 (fun _ _ h => h.elim)⟩
        case measure => simp [intOf]; omega
      · have y2 := hxx.cell (i := 2) rfl
        go_wp2_with fail
        refine (copy_any _ _ _ _ _ _ _ hsx).mono ?_
        rintro e w3 ⟨b3, bl3, cap3, rest3, rfl, gb3, gbl3, hc3, hk3⟩
        simp only [World.size_alloc] at gb3 gbl3
        have hs3 := hsx.kept hk3 id id
        have hr3 := hrx.kept hk3 id id
        have hx3 := hxx.kept hk3 id
        have z2 := hx3.cell (i := 2) rfl
        go_wp2_with fail
        refine (bad_all _ _ _ _ _ _ _ _ _ hc3).mono ?_
        rintro e w4 ⟨rfl, hc4, hk4⟩
        have hs4 := hs3.kept hk4 (fun e => by omega) (fun e => by omega)
        have hr4 := hr3.kept hk4 (fun e => by omega) (fun e => by omega)
        have hx4 := hx3.kept hk4 (fun e => by omega)
        have v2 := hx4.cell (i := 2) rfl
        go_wp2_with fail
        refine (next_any _ _ _ _ _ _ _ _ hc4).mono ?_
        rintro e w8 hnp
        obtain ⟨rv, rfl, hk8⟩ : ∃ rv, e = .returned rv ∧ Kept (· = b3) w4 w8 := by
          unfold NextPost at hnp
          split at hnp
          · exact ⟨_, hnp.1, hnp.2.2⟩
          · exact ⟨_, hnp.1, hnp.2.2⟩
        clear hnp
        have hs8 := hs4.kept hk8 (fun e => by omega) (fun e => by omega)
        have hr8 := hr4.kept hk8 (fun e => by omega) (fun e => by omega)
        have hx8 := hx4.kept hk8 (fun e => by omega)
        have hkp8 := ((hkx.then_ hk3 (fun _ _ h => h.elim)).then_ hk4 (fun x hx he => by have := hkept.size; omega)).then_ hk8 (fun x hx he => by have := hkept.size; omega)
        clear y2 z2 v2
        have y1 := hx8.cell (i := 1) rfl
        have y2 := hx8.cell (i := 2) rfl
        have y3 := hx8.cell (i := 3) rfl
        go_wp2_with fail
        go_region_held3 (fun w' => w'.cell? ⟨wr.heap.size, 1, none⟩ = some (.int .i64 ix) ∧ w'.cell? ⟨wr.heap.size, 2, none⟩ = some (.int .i64 nw) ∧ w'.cell? ⟨wr.heap.size, 3, none⟩ = some (.int .u8 d)) (first | exact ⟨y1, y2, y3⟩ | exact ⟨z1, z2, z3⟩ | exact ⟨v1, v2, v3⟩ | exact ⟨u1, u2, u3⟩) (first | (go_at_call 43; refine (alike_true _ _ _ _ _ _ _ _ _ _ _ _ hs8.drew hr8.drew).mono ?_; rintro e w5 ⟨rfl, hk5⟩; have hs5 := hs8.drew.kept hk5 id id; have hr5 := hr8.drew.kept hk5 id id; have hx5 := hx8.drew.kept hk5 id; have z1 := hx5.cell (i := 1) rfl; have z2 := hx5.cell (i := 2) rfl; have z3 := hx5.cell (i := 3) rfl) | (go_at_call 35; refine (barred_all _ _ _ _ _ _ _ _ _ hs5).mono ?_; rintro e w6 ⟨rfl, hk6⟩; have hs6 := hs5.kept hk6 id id; have hr6 := hr5.kept hk6 id id; have hx6 := hx5.kept hk6 id; have v1 := hx6.cell (i := 1) rfl; have v2 := hx6.cell (i := 2) rfl; have v3 := hx6.cell (i := 3) rfl) | (go_at_call 44; refine (refBarred_all _ _ _ _ _ _ _ _ _ hr6).mono ?_; rintro e w7 ⟨rfl, hk7⟩; have hs7 := hs6.kept hk7 id id; have hr7 := hr6.kept hk7 id id; have hx7 := hx6.kept hk7 id; have u1 := hx7.cell (i := 1) rfl; have u2 := hx7.cell (i := 2) rfl; have u3 := hx7.cell (i := 3) rfl))
        go_wp2_with fail
        go_roundw
        case rel => exact ⟨j + 1, l, last, b2, bl2, cap2, rest2, by omega, by go_num, by first | rfl | trivial, hs7, hr7, by omega, ((hkp8.drew.then_ hk5 (fun _ _ h => h.elim)).then_ hk6 (fun _ _ h => h.elim)).then_ hk7 (fun _ _ h => h.elim)⟩
        case measure => simp [intOf]; omega
      · have y2 := hxx.cell (i := 2) rfl
        have hc3 : (k % 8 == 3) = false := by simp; omega
        have hc4 : (k % 8 == 4) = false := by simp; omega
        have hc5 : (k % 8 == 5) = false := by simp; omega
        have hc6 : (k % 8 == 6) = false := by simp; omega
        have hc7 : (k % 8 == 7) = false := by simp; omega
        go_wp2_with fail
        refine (next_any _ _ _ _ _ _ _ _ hsx).mono ?_
        unfold NextPost
        rcases hnn : Pr.next l last (nearZ nw) with _ | last2
        · have HNN := Lib.hid hnn
          clear hnn
          rintro e w3 ⟨rfl, hs3, hk3⟩
          have hr3 := hrx.kept hk3 (fun e => by omega) (fun e => by omega)
          have hx3 := hxx.kept hk3 (fun e => by omega)
          have z2 := hx3.cell (i := 2) rfl
          go_wp2_with fail
          refine (refNext_any _ _ _ _ _ _ _ _ hr3).mono ?_
          unfold NextPost
          rw [HNN.out]
          rintro e w4 ⟨rfl, hr4, hk4⟩
          have hs4 := hs3.kept hk4 (fun e => by omega) (fun e => by omega)
          have hx4 := hx3.kept hk4 (fun e => by omega)
          have hkp4 := (hkx.then_ hk3 (fun x hx he => by omega)).then_ hk4 (fun x hx he => by omega)
          clear y2 z2
          have y1 := hx4.cell (i := 1) rfl
          have y2 := hx4.cell (i := 2) rfl
          have y3 := hx4.cell (i := 3) rfl
          go_wp2_with fail
          go_region_held3 (fun w' => w'.cell? ⟨wr.heap.size, 1, none⟩ = some (.int .i64 ix) ∧ w'.cell? ⟨wr.heap.size, 2, none⟩ = some (.int .i64 nw) ∧ w'.cell? ⟨wr.heap.size, 3, none⟩ = some (.int .u8 d)) (first | exact ⟨y1, y2, y3⟩ | exact ⟨z1, z2, z3⟩ | exact ⟨v1, v2, v3⟩ | exact ⟨u1, u2, u3⟩) (first | (go_at_call 43; refine (alike_true _ _ _ _ _ _ _ _ _ _ _ _ hs4.drew hr4.drew).mono ?_; rintro e w5 ⟨rfl, hk5⟩; have hs5 := hs4.drew.kept hk5 id id; have hr5 := hr4.drew.kept hk5 id id; have hx5 := hx4.drew.kept hk5 id; have z1 := hx5.cell (i := 1) rfl; have z2 := hx5.cell (i := 2) rfl; have z3 := hx5.cell (i := 3) rfl) | (go_at_call 35; refine (barred_all _ _ _ _ _ _ _ _ _ hs5).mono ?_; rintro e w6 ⟨rfl, hk6⟩; have hs6 := hs5.kept hk6 id id; have hr6 := hr5.kept hk6 id id; have hx6 := hx5.kept hk6 id; have v1 := hx6.cell (i := 1) rfl; have v2 := hx6.cell (i := 2) rfl; have v3 := hx6.cell (i := 3) rfl) | (go_at_call 44; refine (refBarred_all _ _ _ _ _ _ _ _ _ hr6).mono ?_; rintro e w7 ⟨rfl, hk7⟩; have hs7 := hs6.kept hk7 id id; have hr7 := hr6.kept hk7 id id; have hx7 := hx6.kept hk7 id; have u1 := hx7.cell (i := 1) rfl; have u2 := hx7.cell (i := 2) rfl; have u3 := hx7.cell (i := 3) rfl))
          go_wp2_with fail
          go_roundw
          case rel => exact ⟨j + 1, l, last, b2, bl2, cap2, rest2, by omega, by go_num, by first | rfl | trivial, hs7, hr7, by omega, ((hkp4.drew.then_ hk5 (fun _ _ h => h.elim)).then_ hk6 (fun _ _ h => h.elim)).then_ hk7 (fun _ _ h => h.elim)⟩
          case measure => simp [intOf]; omega
        · have HNN := Lib.hid hnn
          clear hnn
          rintro e w3 ⟨rfl, hs3, hk3⟩
          have hr3 := hrx.kept hk3 (fun e => by omega) (fun e => by omega)
          have hx3 := hxx.kept hk3 (fun e => by omega)
          have z2 := hx3.cell (i := 2) rfl
          go_wp2_with fail
          refine (refNext_any _ _ _ _ _ _ _ _ hr3).mono ?_
          unfold NextPost
          rw [HNN.out]
          rintro e w4 ⟨rfl, hr4, hk4⟩
          have hs4 := hs3.kept hk4 (fun e => by omega) (fun e => by omega)
          have hx4 := hx3.kept hk4 (fun e => by omega)
          have hkp4 := (hkx.then_ hk3 (fun x hx he => by omega)).then_ hk4 (fun x hx he => by omega)
          clear y2 z2
          have y1 := hx4.cell (i := 1) rfl
          have y2 := hx4.cell (i := 2) rfl
          have y3 := hx4.cell (i := 3) rfl
          go_wp2_with fail
          go_region_held3 (fun w' => w'.cell? ⟨wr.heap.size, 1, none⟩ = some (.int .i64 ix) ∧ w'.cell? ⟨wr.heap.size, 2, none⟩ = some (.int .i64 nw) ∧ w'.cell? ⟨wr.heap.size, 3, none⟩ = some (.int .u8 d)) (first | exact ⟨y1, y2, y3⟩ | exact ⟨z1, z2, z3⟩ | exact ⟨v1, v2, v3⟩ | exact ⟨u1, u2, u3⟩) (first | (go_at_call 43; refine (alike_true _ _ _ _ _ _ _ _ _ _ _ _ hs4.drew hr4.drew).mono ?_; rintro e w5 ⟨rfl, hk5⟩; have hs5 := hs4.drew.kept hk5 id id; have hr5 := hr4.drew.kept hk5 id id; have hx5 := hx4.drew.kept hk5 id; have z1 := hx5.cell (i := 1) rfl; have z2 := hx5.cell (i := 2) rfl; have z3 := hx5.cell (i := 3) rfl) | (go_at_call 35; refine (barred_all _ _ _ _ _ _ _ _ _ hs5).mono ?_; rintro e w6 ⟨rfl, hk6⟩; have hs6 := hs5.kept hk6 id id; have hr6 := hr5.kept hk6 id id; have hx6 := hx5.kept hk6 id; have v1 := hx6.cell (i := 1) rfl; have v2 := hx6.cell (i := 2) rfl; have v3 := hx6.cell (i := 3) rfl) | (go_at_call 44; refine (refBarred_all _ _ _ _ _ _ _ _ _ hr6).mono ?_; rintro e w7 ⟨rfl, hk7⟩; have hs7 := hs6.kept hk7 id id; have hr7 := hr6.kept hk7 id id; have hx7 := hx6.kept hk7 id; have u1 := hx7.cell (i := 1) rfl; have u2 := hx7.cell (i := 2) rfl; have u3 := hx7.cell (i := 3) rfl))
          go_wp2_with fail
          go_roundw
          case rel => exact ⟨j + 1, l, last2, b2, bl2, cap2, rest2, by omega, by go_num, by first | rfl | trivial, hs7, hr7, by omega, ((hkp4.drew.then_ hk5 (fun _ _ h => h.elim)).then_ hk6 (fun _ _ h => h.elim)).then_ hk7 (fun _ _ h => h.elim)⟩
          case measure => simp [intOf]; omega
    · go_wp2_with (go_at_call 27; refine (asks_true _).mono ?_; rintro e w' ⟨rfl, hbel⟩)
      go_ret
      exact ⟨rfl, (hkept.trans (Kept.of_below hbel)).below (fun k h1 h2 => by omega) (Nat.le_refl _)⟩

set_option maxRecDepth 100000 in
set_option maxHeartbeats 2000000 in
theorem peersPlay_long (n : Int) (a : Option Addr) (len cap : Nat) (w : World) (hlen : 150 < len) :
    Calls Try.prog 8 #[.int .i64 n, .slice a len cap] w fun e w' => e = .returned (.bool true) ∧ Below w.heap.size w w' := by
  go_enter Try.func8, Try.ntmps8
  go_wp2_with (go_at_call 27; refine (asks_true _).mono ?_; rintro e w' ⟨rfl, hbel⟩)
  go_ret
  exact ⟨rfl, hbel⟩

set_option maxRecDepth 100000 in
set_option maxHeartbeats 2000000 in
theorem peersPlay_no (n : Int) (a : Option Addr) (len cap : Nat) (w : World) (hlen : len ≤ 150) (hn : n < 1 ∨ 8 < n) :
    Calls Try.prog 8 #[.int .i64 n, .slice a len cap] w fun e w' => e = .returned (.bool true) ∧ Below w.heap.size w w' := by
  go_enter Try.func8, Try.ntmps8
  go_wp2_with (first | (go_at_call 28; refine (new_no _ hn _).mono ?_; rintro e w' ⟨rfl, rfl⟩) | (go_at_call 36; refine (refNew_no _ hn _).mono ?_; rintro e w' ⟨rfl, rfl⟩) | (go_at_call 27; refine (asks_true _).mono ?_; rintro e w' ⟨rfl, hbel⟩))
  go_ret
  exact ⟨rfl, hbel⟩

set_option maxRecDepth 100000 in
theorem peersPlay_walk {H : Type} {enc : TypeId × Value → H} {base : Nat} {dd : DataW H} {pp : List MemPlace} (n : Int) (v : Value) (w : World) (_wn : (Lit.int .i64 n).wf = true) (hv : Value.okWide Try.prog w .any base 38 v) (h : DataW.Trod enc Try.prog w 0 (fun _ => true) true 38 v dd pp) :
    Calls Try.prog 8 #[.int .i64 n, v] w fun e w' => e = .returned (.bool true) ∧ Below w.heap.size w w' := by
  obtain ⟨a, len, cap, rfl, hl, ha⟩ := acts_of v w hv h
  by_cases hlen : 150 < len
  · exact peersPlay_long n a len cap w hlen
  by_cases hn : n < 1 ∨ 8 < n
  · exact peersPlay_no n a len cap w (by omega) hn
  · obtain ⟨nn, rfl⟩ := Int.eq_ofNat_of_zero_le (show 0 ≤ n by omega)
    exact peersPlay_walk1 nn a len cap w ha hl (by omega) (by omega) (by omega)
end Go.Proofs.Ytahiimcdmojngaa
