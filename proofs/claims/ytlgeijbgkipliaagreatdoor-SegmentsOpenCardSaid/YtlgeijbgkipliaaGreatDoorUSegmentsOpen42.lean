/- Acts13 Great13 -/
import Derived.Test.YtlgeijbgkipliaaGreatDoorUSegmentsOpen39
import Derived.Test.YtlgeijbgkipliaaGreatDoorUSegmentsOpen08
set_option linter.unusedVariables false
set_option linter.unusedSimpArgs false
namespace Go.Proofs.YtlgeijbgkipliaaGreatDoor
open Go.RowKit Go.WideShapes Go.ChangeShapes Go.Joins
theorem c_str13 : Tryz.prog.cellsOf 9 = 1 := by kernel_rfl
def bytesOf : Value → By
  | .string s => s.data.toList
  | _ => []
theorem texts_in {H : Type} {enc : TypeId × Value → H} {W : World} {base : Nat} {hd : Bool} {fuel : Nat} {cs : List Value} {x : DataW H × List MemPlace}
    (h : DataW.trod enc Tryz.prog W base (fun _ => true) hd fuel 23 cs = some x) : ∃ (a : Option Addr) (l : List By) (c : Nat), cs = [.slice a l.length c] ∧ View W 1 (.slice a l.length c) (strV l) ∧ ∀ p ∈ l, p.length ≤ maxLen := by
  rcases Deep.open_slice1 Tryz.underlying23 c_str13 h with ⟨rfl, _⟩ | ⟨a, len, cap, m, n, V, D, Pl, rfl, _, hl, hm, hmm, _, hx⟩
  · exact ⟨none, [], 0, rfl, View.nil W 1, fun p hp => by cases hp⟩
  · simp only [if_true] at hmm
    subst hmm
    have hs : ∀ i, i < m → ∃ s, V i = .string s ∧ s.size ≤ maxLen := fun i hi => by
      obtain ⟨s, e, _, w0⟩ := DataW.trod_string Tryz.underlying9 (hx i hi).2
      exact ⟨s, by simpa using e, w0⟩
    have hlen : ((List.range len).map fun i => bytesOf (V i)).length = len := by rw [List.length_map, List.length_range]
    have hg : ∀ j u, (strV ((List.range len).map fun i => bytesOf (V i)))[j]? = some u → j < len ∧ u = V j := by
      intro j u hu
      unfold strV at hu
      rw [List.getElem?_map, List.getElem?_map] at hu
      rcases Nat.lt_or_ge j len with q | q
      · rw [List.getElem?_range q] at hu
        simp only [Option.map_some, Option.some.injEq] at hu
        obtain ⟨s, e, _⟩ := hs j (by omega)
        rw [e] at hu ⊢
        subst hu
        exact ⟨q, by simp [bytesOf]⟩
      · rw [List.getElem?_eq_none (by rw [List.length_range]; exact q)] at hu
        cases hu
    refine ⟨some a, (List.range len).map fun i => bytesOf (V i), m, by rw [hlen], ?_, ?_⟩
    · rw [hlen]
      have sp : 0 < m → a.spot = none := fun h0 => by
        have := World.cell?_spot (hx 0 h0).1
        simpa [Addr.add] using this
      refine ⟨some a, len, m, rfl, by rw [strV_len, hlen, Nat.mul_one], hl, hm, fun h0 => ?_, fun h0 => ?_⟩
      · have := sp h0
        obtain ⟨b, o, s⟩ := a
        simp only at this
        subst this
        exact ⟨b, o, rfl⟩
      · have := sp (by omega)
        obtain ⟨b, o, s⟩ := a
        simp only at this
        subst this
        refine ⟨b, o, rfl, ?_, fun j u hu => ?_⟩
        · exact World.block_lt_of_cell? W _ (hx 0 (by omega)).1
        · obtain ⟨hj, rfl⟩ := hg j u hu
          have := (hx j (by omega)).1
          rwa [addr_add _ rfl] at this
    · intro p hp
      obtain ⟨i, hi, rfl⟩ := List.mem_map.1 hp
      obtain ⟨s, e, hz⟩ := hs i (by have := List.mem_range.1 hi; omega)
      rw [e]
      show s.data.toList.length ≤ _
      simpa using hz
theorem texts_of {H : Type} {enc : TypeId × Value → H} {w : World} {v : Value} {dd : DataW H} {p : List MemPlace} (h : DataW.Trod enc Tryz.prog w 0 (fun _ => true) true 23 v dd p) (hv : ∃ a n c, v = .slice a n c) :
    ∃ (a : Option Addr) (l : List By) (c : Nat), v = .slice a l.length c ∧ View w 1 (.slice a l.length c) (strV l) ∧ ∀ p ∈ l, p.length ≤ maxLen := by
  obtain ⟨fuel, hf⟩ := h
  obtain ⟨a, l, c, e, h1, h2⟩ := texts_in hf
  obtain ⟨a', n', c', rfl⟩ := hv
  simp [Value.cells] at e
  obtain ⟨rfl, rfl, rfl⟩ := e
  exact ⟨_, l, _, rfl, h1, h2⟩
structure Act13 where
  k : Int
  la : Option Addr
  c : Nat
  l : List By
  N : Int
  M : Int
instance : Inhabited Act13 := ⟨⟨0, none, 0, [], 0, 0⟩⟩
structure ActAt (w : World) (ad : Option Addr) (i : Nat) (x : Act13) : Prop where
  cells : ElemAt w ad 4 i [.int .u8 x.k, .slice x.la x.l.length x.c, .int .i64 x.N, .int .i64 x.M]
  view : View w 1 (.slice x.la x.l.length x.c) (strV x.l)
  size : ∀ p ∈ x.l, p.length ≤ maxLen
  k0 : 0 ≤ x.k ∧ x.k ≤ 255
  n0 : -9223372036854775808 ≤ x.N ∧ x.N ≤ 9223372036854775807
  m0 : -9223372036854775808 ≤ x.M ∧ x.M ≤ 9223372036854775807
def ActsAt (w : World) (ad : Option Addr) (A : List Act13) : Prop := ∀ i x, A[i]? = some x → ActAt w ad i x
end Go.Proofs.YtlgeijbgkipliaaGreatDoor

namespace Go.Proofs.YtlgeijbgkipliaaGreatDoor
open Go.RowKit
def GreatPost13 (w : World) (A : List Act13) (most : Nat) (e : Ending) (w' : World) : Prop := ∃ b, e = .returned (.bool b) ∧ (b = false → A.length ≤ most ∧ ∀ x ∈ A, x.l.length ≤ 20 ∧ ∀ p ∈ x.l, p.length ≤ 300) ∧ w = w'
theorem dec_gt {a b : Nat} (h : a < b) : decide ((a : Int) < (b : Int)) = true ∧ decide (a < b) = true := ⟨decide_eq_true (by omega), decide_eq_true h⟩
theorem dec_le {a b : Nat} (h : ¬ a < b) : decide ((a : Int) < (b : Int)) = false ∧ decide (a < b) = false := ⟨decide_eq_false (by omega), decide_eq_false h⟩
set_option maxRecDepth 100000 in
set_option maxHeartbeats 4000000 in
theorem great13 (w : World) (ad : Option Addr) (A : List Act13) (cap : Nat) (most : Nat) (hm : most ≤ 1000) (hl : A.length ≤ maxLen) (h : ActsAt w ad A) :
    Calls Tryz.prog 7 #[.slice ad A.length cap, .int .i64 (most : Int)] w (GreatPost13 w A most) := by
  have hl2 : A.length ≤ 9223372036854775807 := hl
  have HA := Lib.hid h
  clear h hl
  go_enter Tryz.func7, Tryz.ntmps7
  go_wp2_with fail
  go_loop [5] (fun x => ∃ i : Nat, i ≤ A.length ∧ x = .int .i64 (i : Int) ∧ Hid (∀ j y, A[j]? = some y → j < i → y.l.length ≤ 20 ∧ ∀ p ∈ y.l, p.length ≤ 300)) (fun x => A.length - (intOf x).toNat)
  case atStart => exact ⟨0, Nat.zero_le _, rfl, Lib.hid (fun j y _ hj => absurd hj (Nat.not_lt_zero _))⟩
  case round =>
    obtain ⟨i, hi, rfl, HS⟩ := hrel
    by_cases hlt : i < A.length
    · obtain ⟨y1, y2⟩ := dec_gt hlt
      obtain ⟨x, hx⟩ : ∃ x, A[i]? = some x := ⟨_, List.getElem?_eq_getElem hlt⟩
      have hact := HA.out i x hx
      obtain ⟨b, off, rfl, hb, hc⟩ := hact.cells
      have hcl : w.cell? ⟨b, off + i * 4 + 1, none⟩ = some (.slice x.la x.l.length x.c) := hc 1 _ rfl
      have HV := Lib.hid hact.view
      have HX := Lib.hid hx
      obtain ⟨xa, xl, xc, hxa, hxl, hxc⟩ : ∃ xa xl xc, xa = x.la ∧ xl = x.l ∧ xc = x.c := ⟨_, _, _, rfl, rfl, rfl⟩
      rw [← hxa, ← hxl, ← hxc] at hcl HV
      have HXL := Lib.hid hxl
      clear hact hc hb hx hxa hxl hxc
      by_cases h20 : 20 < xl.length
      · have z1 : decide ((20 : Int) < (xl.length : Int)) = true := (dec_gt h20).1
        have z2 : decide (20 < xl.length) = true := (dec_gt h20).2
        clear hi h20
        go_wp2_with fail
        go_ret
        exact ⟨true, rfl, (fun h => by cases h), rfl⟩
      · have z1 : decide ((20 : Int) < (xl.length : Int)) = false := (dec_le h20).1
        have z2 : decide (20 < xl.length) = false := (dec_le h20).2
        have H20 := Lib.hid h20
        have HI := Lib.hid (And.intro hi hlt)
        clear hi h20
        go_wp2_with fail
        go_loop [6] (fun x => ∃ k : Nat, k ≤ xl.length ∧ x = .int .i64 (k : Int) ∧ Hid (∀ j p, xl[j]? = some p → j < k → p.length ≤ 300)) (fun x => xl.length - (intOf x).toNat)
        case atStart => exact ⟨0, Nat.zero_le _, rfl, Lib.hid (fun j y _ hj => absurd hj (Nat.not_lt_zero _))⟩
        case round =>
          obtain ⟨k, hk, rfl, HS2⟩ := hrel
          by_cases hltk : k < xl.length
          · obtain ⟨t1, t2⟩ := dec_gt hltk
            obtain ⟨p, hp⟩ : ∃ p, xl[k]? = some p := ⟨_, List.getElem?_eq_getElem hltk⟩
            obtain ⟨g, o, rfl, hcc⟩ := view_text HV.out hp
            by_cases h3 : 300 < p.length
            · have s1 : decide ((300 : Int) < (p.length : Int)) = true := (dec_gt h3).1
              have s2 : decide (300 < p.length) = true := (dec_gt h3).2
              clear hp hk h3
              go_wp2_with fail
              go_ret
              exact ⟨true, rfl, (fun h => by cases h), rfl⟩
            · have s1 : decide ((300 : Int) < (p.length : Int)) = false := (dec_le h3).1
              have s2 : decide (300 < p.length) = false := (dec_le h3).2
              have HS3 : Hid (∀ j p, xl[j]? = some p → j < k + 1 → p.length ≤ 300) := by
                refine Lib.hid ?_
                intro j q hq hj
                rcases Nat.lt_or_ge j k with z | z
                · exact HS2.out j q hq z
                · obtain rfl : j = k := by omega
                  rw [hp] at hq
                  cases hq
                  omega
              have h20 := H20.out
              clear hp h3
              go_wp2_with fail
              go_round
              case rel => exact ⟨k + 1, hltk, by go_num, HS3⟩
              case measure => simp [intOf]; omega
          · obtain rfl : k = xl.length := by omega
            obtain ⟨t1, t2⟩ := dec_le hltk
            have HS3 : Hid (∀ j y, A[j]? = some y → j < i + 1 → y.l.length ≤ 20 ∧ ∀ p ∈ y.l, p.length ≤ 300) := by
              refine Lib.hid ?_
              intro j q hq hj
              rcases Nat.lt_or_ge j i with z | z
              · exact HS.out j q hq z
              · obtain rfl : j = i := by omega
                rw [HX.out] at hq
                cases hq
                refine ⟨by have := H20.out; rw [HXL.out] at this; omega, fun p hp => ?_⟩
                rw [← HXL.out] at hp
                obtain ⟨j, hj, e⟩ := List.getElem_of_mem hp
                exact HS2.out j p (by rw [List.getElem?_eq_getElem hj, e]) hj
            have hi2 := HI.out.2
            clear hk hltk
            go_wp2_with fail
            go_round
            case rel => exact ⟨i + 1, hi2, by go_num, HS3⟩
            case measure => simp [intOf]; omega
    · obtain rfl : i = A.length := by omega
      obtain ⟨y1, y2⟩ := dec_le hlt
      have hS : A.length ≤ most → ∀ x ∈ A, x.l.length ≤ 20 ∧ ∀ p ∈ x.l, p.length ≤ 300 := fun _ x hx => by
        obtain ⟨j, hj, e⟩ := List.getElem_of_mem hx
        exact HS.out j x (by rw [List.getElem?_eq_getElem hj, e]) hj
      have HF := Lib.hid hS
      clear hi hlt hS
      by_cases hmm : most < A.length
      · obtain ⟨t1, t2⟩ := dec_gt hmm
        clear hmm
        go_wp2_with fail
        go_ret
        exact ⟨true, rfl, (fun h => by cases h), rfl⟩
      · obtain ⟨t1, t2⟩ := dec_le hmm
        have HM := Lib.hid (Nat.le_of_not_lt hmm)
        clear hmm
        go_wp2_with fail
        go_ret
        exact ⟨false, rfl, (fun _ => ⟨HM.out, HF.out HM.out⟩), rfl⟩
end Go.Proofs.YtlgeijbgkipliaaGreatDoor
