/- ChkNone ChkF1 Acts15 ChkF2 -/
import Derived.OpenShut
import Derived.Test.YtlgeijbgkipliaaGreatDoorUChecksSure50
import Derived.Test.YtlgeijbgkipliaaGreatDoorUChecksSure37
import Derived.Test.YtlgeijbgkipliaaGreatDoorUChecksSure45
import Derived.Test.YtlgeijbgkipliaaGreatDoorUChecksSure30
set_option linter.unusedVariables false
set_option linter.unusedSimpArgs false
namespace Go.Proofs.YtlgeijbgkipliaaGreatDoor
open Go.RowKit Go.WideShapes Go.ChangeShapes
def z32 : By := List.replicate 32 0
set_option maxRecDepth 100000 in
theorem trod_pt {H : Type} {enc : TypeId × Value → H} {W : World} {base : Nat} {spare : Nat → Bool} {hd : Bool} {fuel : Nat} {cs : List Value} {x : DataW H × List MemPlace}
    (h : DataW.trod enc Tryz.prog W base spare hd fuel 52 cs = some x) : ∃ sz sd : Nat, sz < 65536 ∧ sd < 256 ∧ cs = ptC sz sd := by
  obtain ⟨xs, n, _, _, hcl, hl, hg⟩ := DataW.trod_struct Tryz.underlying52 h
  have c1 : Tryz.prog.cellsOf 50 = 1 := by kernel_rfl
  have c2 : Tryz.prog.cellsOf 52 = 2 := by kernel_rfl
  match xs, hl with
  | [y0, y1], _ =>
    have g0 := hg 0 _ rfl
    have g1 := hg 1 _ rfl
    rw [c2] at hcl
    simp [c1] at g0
    simp [c_u8] at g1
    obtain ⟨a0, e0, _, w0⟩ := DataW.trod_int Tryz.underlying50 g0
    obtain ⟨a1, e1, _, w1⟩ := DataW.trod_int Tryz.underlying5 g1
    have w0 := wf_u16 w0
    have w1 := wf_u8 w1
    match cs, hcl with
    | [b0, b1], _ =>
      simp at e0 e1
      refine ⟨a0.toNat, a1.toNat, by omega, by omega, ?_⟩
      rw [e0, e1]
      simp [ptC]
      omega
end Go.Proofs.YtlgeijbgkipliaaGreatDoor

namespace Go.Proofs.YtlgeijbgkipliaaGreatDoor
open Go.RowKit Go.WideShapes Go.ChangeShapes
section
variable {w0 w : World} {d : Nat} {M : DiskM} {Os : List Og}
end
theorem c_pt : Tryz.prog.cellsOf 52 = 2 := by kernel_rfl
end Go.Proofs.YtlgeijbgkipliaaGreatDoor

namespace Go.Proofs.YtlgeijbgkipliaaGreatDoor
open Go.RowKit Go.WideShapes Go.ChangeShapes Go.Joins
structure Act15 where
  k : Int
  sz : Nat
  sd : Nat
  N : Int
  M : Int
  s : ByteArray
abbrev Act15.cells (x : Act15) : List Value := [.int .u8 x.k, .int .u16 (x.sz : Int), .int .u8 (x.sd : Int), .int .i64 x.N, .int .i64 x.M, .string x.s]
structure Act15At (w : World) (ad : Option Addr) (i : Nat) (x : Act15) : Prop where
  cells : ElemAt w ad 6 i x.cells
  size : x.s.size ≤ maxLen
  k0 : 0 ≤ x.k ∧ x.k ≤ 255
  sz0 : x.sz < 65536
  sd0 : x.sd < 256
  n0 : -9223372036854775808 ≤ x.N ∧ x.N ≤ 9223372036854775807
  m0 : -9223372036854775808 ≤ x.M ∧ x.M ≤ 9223372036854775807
def Acts15 (w : World) (ad : Option Addr) (A : List Act15) : Prop := ∀ i x, A[i]? = some x → Act15At w ad i x
theorem c_act15 : Tryz.prog.cellsOf 90 = 6 := by kernel_rfl
theorem c_u8_15 : Tryz.prog.cellsOf 5 = 1 := by kernel_rfl
theorem c_int_15 : Tryz.prog.cellsOf 3 = 1 := by kernel_rfl
theorem c_str_15 : Tryz.prog.cellsOf 9 = 1 := by kernel_rfl
set_option maxRecDepth 100000 in
theorem act15_in {H : Type} {enc : TypeId × Value → H} {W : World} {base : Nat} {spare : Nat → Bool} {hd : Bool} {fuel : Nat} {cs : List Value} {x : DataW H × List MemPlace}
    (h : DataW.trod enc Tryz.prog W base spare hd fuel 90 cs = some x) : ∃ y : Act15, cs = y.cells ∧ y.s.size ≤ maxLen ∧ (0 ≤ y.k ∧ y.k ≤ 255) ∧ y.sz < 65536 ∧ y.sd < 256 ∧ (-9223372036854775808 ≤ y.N ∧ y.N ≤ 9223372036854775807) ∧ (-9223372036854775808 ≤ y.M ∧ y.M ≤ 9223372036854775807) := by
  obtain ⟨xs, n, _, _, hcl, hl, hg⟩ := DataW.trod_struct Tryz.underlying90 h
  match xs, hl with
  | [y0, y1, y2, y3, y4], _ =>
    have g0 := hg 0 _ rfl
    have g1 := hg 1 _ rfl
    have g2 := hg 2 _ rfl
    have g3 := hg 3 _ rfl
    have g4 := hg 4 _ rfl
    rw [c_act15] at hcl
    simp [c_u8_15, c_int_15, c_str_15, c_pt] at g0 g1 g2 g3 g4
    obtain ⟨a0, e0, _, w0⟩ := DataW.trod_int Tryz.underlying5 g0
    obtain ⟨sz, sd, h1, h2, e1⟩ := trod_pt g1
    obtain ⟨a2, e2, _, w2⟩ := DataW.trod_int Tryz.underlying3 g2
    obtain ⟨a3, e3, _, w3⟩ := DataW.trod_int Tryz.underlying3 g3
    obtain ⟨a4, e4, _, w4⟩ := DataW.trod_string Tryz.underlying9 g4
    refine ⟨⟨a0, sz, sd, a2, a3, a4⟩, ?_, w4, wf_u8 w0, h1, h2, wf_i64 w2, wf_i64 w3⟩
    match cs, hcl with
    | [b0, b1, b2, b3, b4, b5], _ =>
      simp [ptC] at e0 e1 e2 e3 e4
      subst e0; subst e2; subst e3; subst e4
      obtain ⟨e1, e5⟩ := e1
      subst e1; subst e5
      rfl
set_option maxRecDepth 100000 in
theorem acts15_of {H : Type} {enc : TypeId × Value → H} {w : World} {base : Nat} {v : Value} {dd : DataW H} {p : List MemPlace} (hv : Value.okWide Tryz.prog w .any base 87 v) (h : DataW.Trod enc Tryz.prog w 0 (fun _ => true) true 87 v dd p) :
    ∃ (a : Option Addr) (A : List Act15) (c : Nat), v = .slice a A.length c ∧ A.length ≤ maxLen ∧ Acts15 w a A := by
  obtain ⟨a, len, cap, rfl, hl, hx⟩ := open_rows Tryz.underlying87 c_act15 (by omega) hv h
  have hex : ∀ i, ∃ y : Act15, i < len → Act15At w a i y := fun i => by
    by_cases hi : i < len
    · obtain ⟨cs, m, x, _, he, ht⟩ := hx i hi
      obtain ⟨y, rfl, h1, h2, h3, h4, h5, h6⟩ := act15_in ht
      exact ⟨y, fun _ => ⟨he, h1, h2, h3, h4, h5, h6⟩⟩
    · exact ⟨⟨0, 0, 0, 0, 0, ⟨#[]⟩⟩, fun h => absurd h hi⟩
  obtain ⟨V, hV⟩ : ∃ V : Nat → Act15, ∀ i, i < len → Act15At w a i (V i) := ⟨fun i => Classical.choose (hex i), fun i => Classical.choose_spec (hex i)⟩
  have hlen : ((List.range len).map V).length = len := by rw [List.length_map, List.length_range]
  refine ⟨a, (List.range len).map V, cap, by rw [hlen], by rw [hlen]; exact hl, fun i x hi => ?_⟩
  have hlt : i < len := by have := (List.getElem?_eq_some_iff.1 hi).1; omega
  rw [List.getElem?_map, List.getElem?_range hlt] at hi
  simp only [Option.map_some, Option.some.injEq] at hi
  subst hi
  exact hV i hlt
def GreatPost15 (w : World) (A : List Act15) (most : Nat) (e : Ending) (w' : World) : Prop := ∃ b, e = .returned (.bool b) ∧ (b = false → A.length ≤ most ∧ ∀ x ∈ A, x.s.size ≤ 300) ∧ w = w'
theorem dec_gt15 {a b : Nat} (h : a < b) : decide ((a : Int) < (b : Int)) = true ∧ decide (a < b) = true := ⟨decide_eq_true (by omega), decide_eq_true h⟩
theorem dec_le15 {a b : Nat} (h : ¬ a < b) : decide ((a : Int) < (b : Int)) = false ∧ decide (a < b) = false := ⟨decide_eq_false (by omega), decide_eq_false h⟩
set_option maxRecDepth 100000 in
set_option maxHeartbeats 4000000 in
theorem great15 (w : World) (ad : Option Addr) (A : List Act15) (cap : Nat) (most : Nat) (hm : most ≤ 1000) (hl : A.length ≤ maxLen) (h : Acts15 w ad A) :
    Calls Tryz.prog 30 #[.slice ad A.length cap, .int .i64 (most : Int)] w (GreatPost15 w A most) := by
  have hl2 : A.length ≤ 9223372036854775807 := hl
  have HA := Lib.hid h
  clear h hl
  go_enter Tryz.func30, Tryz.ntmps30
  go_wp2_with fail
  go_loop [5] (fun x => ∃ i : Nat, i ≤ A.length ∧ x = .int .i64 (i : Int) ∧ Hid (∀ j y, A[j]? = some y → j < i → y.s.size ≤ 300)) (fun x => A.length - (intOf x).toNat)
  case atStart => exact ⟨0, Nat.zero_le _, rfl, Lib.hid (fun j y _ hj => absurd hj (Nat.not_lt_zero _))⟩
  case round =>
    obtain ⟨i, hi, rfl, HS⟩ := hrel
    by_cases hlt : i < A.length
    · obtain ⟨y1, y2⟩ := dec_gt15 hlt
      obtain ⟨x, hx⟩ : ∃ x, A[i]? = some x := ⟨_, List.getElem?_eq_getElem hlt⟩
      have hact := HA.out i x hx
      obtain ⟨b, off, rfl, hb, hc⟩ := hact.cells
      have hcl : w.cell? ⟨b, off + i * 6 + 5, none⟩ = some (.string x.s) := hc 5 _ rfl
      by_cases h3 : 300 < x.s.size
      · have z1 : decide ((300 : Int) < (x.s.size : Int)) = true := (dec_gt15 h3).1
        have z2 : decide (300 < x.s.size) = true := (dec_gt15 h3).2
        clear hi h3 hact hc hb hx
        go_wp2_with fail
        go_ret
        exact ⟨true, rfl, (fun h => by cases h), rfl⟩
      · have z1 : decide ((300 : Int) < (x.s.size : Int)) = false := (dec_le15 h3).1
        have z2 : decide (300 < x.s.size) = false := (dec_le15 h3).2
        have HS3 : Hid (∀ j y, A[j]? = some y → j < i + 1 → y.s.size ≤ 300) := by
          refine Lib.hid ?_
          intro j q hq hj
          rcases Nat.lt_or_ge j i with z | z
          · exact HS.out j q hq z
          · obtain rfl : j = i := by omega
            rw [hx] at hq
            cases hq
            omega
        clear hi h3 hact hc hb hx
        go_wp2_with fail
        go_round
        case rel => exact ⟨i + 1, hlt, by go_num, HS3⟩
        case measure => simp [intOf]; omega
    · obtain rfl : i = A.length := by omega
      obtain ⟨y1, y2⟩ := dec_le15 hlt
      have hS : ∀ x ∈ A, x.s.size ≤ 300 := fun x hx => by
        obtain ⟨j, hj, e⟩ := List.getElem_of_mem hx
        exact HS.out j x (by rw [List.getElem?_eq_getElem hj, e]) hj
      have HF := Lib.hid hS
      clear hi hlt hS
      by_cases hmm : most < A.length
      · obtain ⟨t1, t2⟩ := dec_gt15 hmm
        clear hmm
        go_wp2_with fail
        go_ret
        exact ⟨true, rfl, (fun h => by cases h), rfl⟩
      · obtain ⟨t1, t2⟩ := dec_le15 hmm
        have HM := Lib.hid (Nat.le_of_not_lt hmm)
        clear hmm
        go_wp2_with fail
        go_ret
        exact ⟨false, rfl, (fun _ => ⟨HM.out, HF.out⟩), rfl⟩
end Go.Proofs.YtlgeijbgkipliaaGreatDoor

namespace Go.Proofs.YtlgeijbgkipliaaGreatDoor
open Go.RowKit
end Go.Proofs.YtlgeijbgkipliaaGreatDoor
