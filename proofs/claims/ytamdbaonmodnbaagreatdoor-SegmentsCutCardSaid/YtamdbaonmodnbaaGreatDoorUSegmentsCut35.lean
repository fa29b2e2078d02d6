/- Arguments that are texts, or acts of chapter 13: what the walk is told of them; Great. Package speculumlaw13: Great. The law SegmentsNone, walked. The law SegmentsCut, walked. -/
import Derived.Test.YtamdbaonmodnbaaGreatDoorUSegmentsCut33
import Derived.Test.YtamdbaonmodnbaaGreatDoorUSegmentsCut34
set_option linter.unusedVariables false
set_option linter.unusedSimpArgs false
namespace Go.Proofs.YtamdbaonmodnbaaGreatDoor
open Go.RowKit Go.WideShapes Go.ChangeShapes Go.Joins

theorem c_str13 : Tryz.prog.cellsOf 9 = 1 := by kernel_rfl
/-- The bytes of a text. -/
def bytesOf : Value → By
  | .string s => s.data.toList
  | _ => []
theorem texts_in {H : Type} {enc : TypeId × Value → H} {W : World} {base : Nat} {hd : Bool} {fuel : Nat} {cs : List Value} {x : DataW H × List MemPlace}
    (h : DataW.trod enc Tryz.prog W base (fun _ => true) hd fuel 22 cs = some x) : ∃ (a : Option Addr) (l : List By) (c : Nat), cs = [.slice a l.length c] ∧ View W 1 (.slice a l.length c) (strV l) ∧ ∀ p ∈ l, p.length ≤ maxLen := by
  rcases Deep.open_slice1 Tryz.underlying22 c_str13 h with ⟨rfl, _⟩ | ⟨a, len, cap, m, n, V, D, Pl, rfl, _, hl, hm, hmm, _, hx⟩
  · exact ⟨none, [], 0, rfl, View.nil W 1, fun p hp => by cases hp⟩
  · simp only [if_true] at hmm
    subst hmm
    have hs : ∀ i, i < m → ∃ s, V i = .string s ∧ s.size ≤ maxLen := fun i hi => by
      obtain ⟨s, e, _, w0⟩ := DataW.trod_string Tryz.underlying9 (hx i hi).2
      exact ⟨s, by simpa using e, w0⟩
    have hlen : ((List.range len).map fun i => bytesOf (V i)).length = len := by rw [List.length_map, List.length_range]
    have hg : ∀ j u, (strV ((List.range len).map fun i => bytesOf (V i)))[j]? = some u → j < len ∧ u = V j := by
      intro j u hu
      unfold strV at hu
      rw [List.getElem?_map, List.getElem?_map] at hu
      rcases Nat.lt_or_ge j len with q | q
      · rw [List.getElem?_range q] at hu
        simp only [Option.map_some, Option.some.injEq] at hu
        obtain ⟨s, e, _⟩ := hs j (by omega)
        rw [e] at hu ⊢
        subst hu
        exact ⟨q, by simp [bytesOf]⟩
      · rw [List.getElem?_eq_none (by rw [List.length_range]; exact q)] at hu
        cases hu
    refine ⟨some a, (List.range len).map fun i => bytesOf (V i), m, by rw [hlen], ?_, ?_⟩
    · rw [hlen]
      have sp : 0 < m → a.spot = none := fun h0 => by
        have := World.cell?_spot (hx 0 h0).1
        simpa [Addr.add] using this
      refine ⟨some a, len, m, rfl, by rw [strV_len, hlen, Nat.mul_one], hl, hm, fun h0 => ?_, fun h0 => ?_⟩
      · have := sp h0
        obtain ⟨b, o, s⟩ := a
        simp only at this
        subst this
        exact ⟨b, o, rfl⟩
      · have := sp (by omega)
        obtain ⟨b, o, s⟩ := a
        simp only at this
        subst this
        refine ⟨b, o, rfl, ?_, fun j u hu => ?_⟩
        · exact World.block_lt_of_cell? W _ (hx 0 (by omega)).1
        · obtain ⟨hj, rfl⟩ := hg j u hu
          have := (hx j (by omega)).1
          rwa [addr_add _ rfl] at this
    · intro p hp
      obtain ⟨i, hi, rfl⟩ := List.mem_map.1 hp
      obtain ⟨s, e, hz⟩ := hs i (by have := List.mem_range.1 hi; omega)
      rw [e]
      show s.data.toList.length ≤ _
      simpa using hz
/-- Texts that came in. -/
theorem texts_of {H : Type} {enc : TypeId × Value → H} {w : World} {v : Value} {dd : DataW H} {p : List MemPlace} (h : DataW.Trod enc Tryz.prog w 0 (fun _ => true) true 22 v dd p) (hv : ∃ a n c, v = .slice a n c) :
    ∃ (a : Option Addr) (l : List By) (c : Nat), v = .slice a l.length c ∧ View w 1 (.slice a l.length c) (strV l) ∧ ∀ p ∈ l, p.length ≤ maxLen := by
  obtain ⟨fuel, hf⟩ := h
  obtain ⟨a, l, c, e, h1, h2⟩ := texts_in hf
  obtain ⟨a', n', c', rfl⟩ := hv
  simp [Value.cells] at e
  obtain ⟨rfl, rfl, rfl⟩ := e
  exact ⟨_, l, _, rfl, h1, h2⟩
/-- An act of chapter 13. -/
structure Act13 where
  k : Int
  la : Option Addr
  c : Nat
  l : List By
  N : Int
  M : Int
instance : Inhabited Act13 := ⟨⟨0, none, 0, [], 0, 0⟩⟩
/-- It lies at that place. -/
structure ActAt (w : World) (ad : Option Addr) (i : Nat) (x : Act13) : Prop where
  cells : ElemAt w ad 4 i [.int .u8 x.k, .slice x.la x.l.length x.c, .int .i64 x.N, .int .i64 x.M]
  view : View w 1 (.slice x.la x.l.length x.c) (strV x.l)
  size : ∀ p ∈ x.l, p.length ≤ maxLen
  k0 : 0 ≤ x.k ∧ x.k ≤ 255
  n0 : -9223372036854775808 ≤ x.N ∧ x.N ≤ 9223372036854775807
  m0 : -9223372036854775808 ≤ x.M ∧ x.M ≤ 9223372036854775807
def ActsAt (w : World) (ad : Option Addr) (A : List Act13) : Prop := ∀ i x, A[i]? = some x → ActAt w ad i x
theorem c_act13 : Tryz.prog.cellsOf 25 = 4 := by kernel_rfl
theorem c_u8' : Tryz.prog.cellsOf 5 = 1 := by kernel_rfl
theorem c_int' : Tryz.prog.cellsOf 3 = 1 := by kernel_rfl
theorem c_texts : Tryz.prog.cellsOf 22 = 1 := by kernel_rfl
theorem one_at' {cs : List Value} {v : Value} {i : Nat} (h : (cs.drop i).take 1 = [v]) : cs[i]? = some v := by
  have e5 := congrArg (·[0]?) h
  simpa [List.getElem?_take, List.getElem?_drop] using e5
set_option maxRecDepth 100000 in
theorem act13_in {H : Type} {enc : TypeId × Value → H} {W : World} {base : Nat} {hd : Bool} {fuel : Nat} {cs : List Value} {x : DataW H × List MemPlace}
    (h : DataW.trod enc Tryz.prog W base (fun _ => true) hd fuel 25 cs = some x) : ∃ y : Act13, cs = [.int .u8 y.k, .slice y.la y.l.length y.c, .int .i64 y.N, .int .i64 y.M] ∧ View W 1 (.slice y.la y.l.length y.c) (strV y.l) ∧ (∀ p ∈ y.l, p.length ≤ maxLen) ∧ (0 ≤ y.k ∧ y.k ≤ 255) ∧ (-9223372036854775808 ≤ y.N ∧ y.N ≤ 9223372036854775807) ∧ (-9223372036854775808 ≤ y.M ∧ y.M ≤ 9223372036854775807) := by
  obtain ⟨xs, n, _, _, hcl, hl, hg⟩ := DataW.trod_struct Tryz.underlying25 h
  match xs, hl with
  | [y0, y1, y2, y3], _ =>
    have g0 := hg 0 _ rfl
    have g1 := hg 1 _ rfl
    have g2 := hg 2 _ rfl
    have g3 := hg 3 _ rfl
    rw [c_act13] at hcl
    simp [c_u8', c_int', c_texts] at g0 g1 g2 g3
    obtain ⟨a0, e0, _, w0⟩ := DataW.trod_int Tryz.underlying5 g0
    obtain ⟨la, l, c, e1, hv, hs⟩ := texts_in g1
    obtain ⟨a2, e2, _, w2⟩ := DataW.trod_int Tryz.underlying3 g2
    obtain ⟨a3, e3, _, w3⟩ := DataW.trod_int Tryz.underlying3 g3
    have q0 := one_at' (i := 0) (by simpa using e0)
    have q1 := one_at' (i := 1) (by simpa using e1)
    have q2 := one_at' (i := 2) (by simpa using e2)
    have q3 := one_at' (i := 3) (by simpa using e3)
    refine ⟨⟨a0, la, c, l, a2, a3⟩, ?_, hv, hs, wf_u8 w0, wf_i64 w2, wf_i64 w3⟩
    match cs, hcl with
    | [b0, b1, b2, b3], _ =>
      simp at q0 q1 q2 q3
      subst q0; subst q1; subst q2; subst q3
      rfl
set_option maxRecDepth 100000 in
theorem acts13_of {H : Type} {enc : TypeId × Value → H} {w : World} {base : Nat} {v : Value} {dd : DataW H} {p : List MemPlace} (hv : Value.okWide Tryz.prog w .any base 26 v) (h : DataW.Trod enc Tryz.prog w 0 (fun _ => true) true 26 v dd p) :
    ∃ (a : Option Addr) (A : List Act13) (c : Nat), v = .slice a A.length c ∧ A.length ≤ maxLen ∧ ActsAt w a A := by
  obtain ⟨a, len, cap, rfl, hl, hx⟩ := open_rows Tryz.underlying26 c_act13 (by omega) hv h
  obtain ⟨V, hV⟩ := Deep.choose_lt (α := Act13) (p := fun i y => ActAt w a i y) (n := len) (fun i hi => by
    obtain ⟨cs, m, x, _, he, ht⟩ := hx i hi
    obtain ⟨y, rfl, h1, h2, h3, h4, h5⟩ := act13_in ht
    exact ⟨y, he, h1, h2, h3, h4, h5⟩)
  have hlen : ((List.range len).map V).length = len := by rw [List.length_map, List.length_range]
  refine ⟨a, (List.range len).map V, cap, by rw [hlen], by rw [hlen]; exact hl, fun i x hi => ?_⟩
  have hlt : i < len := by have := (List.getElem?_eq_some_iff.1 hi).1; omega
  rw [List.getElem?_map, List.getElem?_range hlt] at hi
  simp only [Option.map_some, Option.some.injEq] at hi
  subst hi
  exact hV i hlt
end Go.Proofs.YtamdbaonmodnbaaGreatDoor

namespace Go.Proofs.YtamdbaonmodnbaaGreatDoor
open Go.RowKit

def GreatPost13 (w : World) (A : List Act13) (most : Nat) (e : Ending) (w' : World) : Prop := ∃ b, e = .returned (.bool b) ∧ (b = false → A.length ≤ most ∧ ∀ x ∈ A, x.l.length ≤ 20 ∧ ∀ p ∈ x.l, p.length ≤ 300) ∧ w = w'
theorem dec_gt {a b : Nat} (h : a < b) : decide ((a : Int) < (b : Int)) = true ∧ decide (a < b) = true := ⟨decide_eq_true (by omega), decide_eq_true h⟩
theorem dec_le {a b : Nat} (h : ¬ a < b) : decide ((a : Int) < (b : Int)) = false ∧ decide (a < b) = false := ⟨decide_eq_false (by omega), decide_eq_false h⟩
set_option maxRecDepth 100000 in
set_option maxHeartbeats 4000000 in
theorem great13 (w : World) (ad : Option Addr) (A : List Act13) (cap : Nat) (most : Nat) (hm : most ≤ 1000) (hl : A.length ≤ maxLen) (h : ActsAt w ad A) :
    Calls Tryz.prog 11 #[.slice ad A.length cap, .int .i64 (most : Int)] w (GreatPost13 w A most) := by
  have hl2 : A.length ≤ 9223372036854775807 := hl
  have HA := Lib.hid h
  clear h hl
  go_enter Tryz.func11, Tryz.ntmps11
  go_wp2_with fail
  go_loop [5] (fun x => ∃ i : Nat, i ≤ A.length ∧ x = .int .i64 (i : Int) ∧ Hid (∀ j y, A[j]? = some y → j < i → y.l.length ≤ 20 ∧ ∀ p ∈ y.l, p.length ≤ 300)) (fun x => A.length - (intOf x).toNat)
  case atStart => exact ⟨0, Nat.zero_le _, rfl, Lib.hid (fun j y _ hj => absurd hj (Nat.not_lt_zero _))⟩
  case round =>
    obtain ⟨i, hi, rfl, HS⟩ := hrel
    by_cases hlt : i < A.length
    · obtain ⟨y1, y2⟩ := dec_gt hlt
      obtain ⟨x, hx⟩ : ∃ x, A[i]? = some x := ⟨_, List.getElem?_eq_getElem hlt⟩
      have hact := HA.out i x hx
      obtain ⟨b, off, rfl, hb, hc⟩ := hact.cells
      have hcl : w.cell? ⟨b, off + i * 4 + 1, none⟩ = some (.slice x.la x.l.length x.c) := hc 1 _ rfl
      have HV := Lib.hid hact.view
      have HX := Lib.hid hx
      obtain ⟨xa, xl, xc, hxa, hxl, hxc⟩ : ∃ xa xl xc, xa = x.la ∧ xl = x.l ∧ xc = x.c := ⟨_, _, _, rfl, rfl, rfl⟩
      rw [← hxa, ← hxl, ← hxc] at hcl HV
      have HXL := Lib.hid hxl
      clear hact hc hb hx hxa hxl hxc
      by_cases h20 : 20 < xl.length
      · have z1 : decide ((20 : Int) < (xl.length : Int)) = true := (dec_gt h20).1
        have z2 : decide (20 < xl.length) = true := (dec_gt h20).2
        clear hi h20
        go_wp2_with fail
        go_ret
        exact ⟨true, rfl, (fun h => by cases h), rfl⟩
      · have z1 : decide ((20 : Int) < (xl.length : Int)) = false := (dec_le h20).1
        have z2 : decide (20 < xl.length) = false := (dec_le h20).2
        have H20 := Lib.hid h20
        have HI := Lib.hid (And.intro hi hlt)
        clear hi h20
        go_wp2_with fail
        go_loop [6] (fun x => ∃ k : Nat, k ≤ xl.length ∧ x = .int .i64 (k : Int) ∧ Hid (∀ j p, xl[j]? = some p → j < k → p.length ≤ 300)) (fun x => xl.length - (intOf x).toNat)
        case atStart => exact ⟨0, Nat.zero_le _, rfl, Lib.hid (fun j y _ hj => absurd hj (Nat.not_lt_zero _))⟩
        case round =>
          obtain ⟨k, hk, rfl, HS2⟩ := hrel
          by_cases hltk : k < xl.length
          · obtain ⟨t1, t2⟩ := dec_gt hltk
            obtain ⟨p, hp⟩ : ∃ p, xl[k]? = some p := ⟨_, List.getElem?_eq_getElem hltk⟩
            obtain ⟨g, o, rfl, hcc⟩ := view_text HV.out hp
            by_cases h3 : 300 < p.length
            · have s1 : decide ((300 : Int) < (p.length : Int)) = true := (dec_gt h3).1
              have s2 : decide (300 < p.length) = true := (dec_gt h3).2
              clear hp hk h3
              go_wp2_with fail
              go_ret
              exact ⟨true, rfl, (fun h => by cases h), rfl⟩
            · have s1 : decide ((300 : Int) < (p.length : Int)) = false := (dec_le h3).1
              have s2 : decide (300 < p.length) = false := (dec_le h3).2
              have HS3 : Hid (∀ j p, xl[j]? = some p → j < k + 1 → p.length ≤ 300) := by
                refine Lib.hid ?_
                intro j q hq hj
                rcases Nat.lt_or_ge j k with z | z
                · exact HS2.out j q hq z
                · obtain rfl : j = k := by omega
                  rw [hp] at hq
                  cases hq
                  omega
              have h20 := H20.out
              clear hp h3
              go_wp2_with fail
              go_round
              case rel => exact ⟨k + 1, hltk, by go_num, HS3⟩
              case measure => simp [intOf]; omega
          · obtain rfl : k = xl.length := by omega
            obtain ⟨t1, t2⟩ := dec_le hltk
            have HS3 : Hid (∀ j y, A[j]? = some y → j < i + 1 → y.l.length ≤ 20 ∧ ∀ p ∈ y.l, p.length ≤ 300) := by
              refine Lib.hid ?_
              intro j q hq hj
              rcases Nat.lt_or_ge j i with z | z
              · exact HS.out j q hq z
              · obtain rfl : j = i := by omega
                rw [HX.out] at hq
                cases hq
                refine ⟨by have := H20.out; rw [HXL.out] at this; omega, fun p hp => ?_⟩
                rw [← HXL.out] at hp
                obtain ⟨j, hj, e⟩ := List.getElem_of_mem hp
                exact HS2.out j p (by rw [List.getElem?_eq_getElem hj, e]) hj
            have hi2 := HI.out.2
            clear hk hltk
            go_wp2_with fail
            go_round
            case rel => exact ⟨i + 1, hi2, by go_num, HS3⟩
            case measure => simp [intOf]; omega
    · obtain rfl : i = A.length := by omega
      obtain ⟨y1, y2⟩ := dec_le hlt
      have hS : A.length ≤ most → ∀ x ∈ A, x.l.length ≤ 20 ∧ ∀ p ∈ x.l, p.length ≤ 300 := fun _ x hx => by
        obtain ⟨j, hj, e⟩ := List.getElem_of_mem hx
        exact HS.out j x (by rw [List.getElem?_eq_getElem hj, e]) hj
      have HF := Lib.hid hS
      clear hi hlt hS
      by_cases hmm : most < A.length
      · obtain ⟨t1, t2⟩ := dec_gt hmm
        clear hmm
        go_wp2_with fail
        go_ret
        exact ⟨true, rfl, (fun h => by cases h), rfl⟩
      · obtain ⟨t1, t2⟩ := dec_le hmm
        have HM := Lib.hid (Nat.le_of_not_lt hmm)
        clear hmm
        go_wp2_with fail
        go_ret
        exact ⟨false, rfl, (fun _ => ⟨HM.out, HF.out HM.out⟩), rfl⟩
end Go.Proofs.YtamdbaonmodnbaaGreatDoor

namespace Go.Proofs.YtamdbaonmodnbaaGreatDoor
open Go.RowKit

/-- Between two rounds of the law's loop. -/
def SNone (w : World) (v : Value) (n : Nat) (wr : World) : Prop := n ≤ 2 ∧ NoSeg wr v ∧ Kept (fun _ => False) w wr
theorem actsAt_one {w : World} {la : Option Addr} {l : List By} {c : Nat} (hl : View w 1 (.slice la l.length c) (strV l)) (hs : ∀ p ∈ l, p.length ≤ maxLen) :
    ActsAt (w.alloc (.cells #[.int .u8 0, .slice la l.length c, .int .i64 0, .int .i64 0] 25)) (some ⟨w.heap.size, 0, none⟩) [⟨0, la, c, l, 0, 0⟩] := by
  intro i x hx
  have hi : i < 1 := (List.getElem?_eq_some_iff.1 hx).1
  obtain rfl : i = 0 := by omega
  simp at hx
  subst hx
  have hb := Blk.new w [.int .u8 0, .slice la l.length c, .int .i64 0, .int .i64 0] 25
  refine ⟨⟨w.heap.size, 0, rfl, hb.lt, fun j v hv => ?_⟩, hl.alloc _ (by omega), hs, by show (0 : Int) ≤ 0 ∧ (0 : Int) ≤ 255; omega, by show -9223372036854775808 ≤ (0 : Int) ∧ (0 : Int) ≤ 9223372036854775807; omega, by show -9223372036854775808 ≤ (0 : Int) ∧ (0 : Int) ≤ 9223372036854775807; omega⟩
  simpa using hb.cell hv
set_option maxRecDepth 100000 in
set_option maxHeartbeats 4000000 in
theorem segmentsNone_walk0 (w : World) (ht : Tab w) (la : Option Addr) (l : List By) (c : Nat) (hl : View w 1 (.slice la l.length c) (strV l)) (hs : ∀ p ∈ l, p.length ≤ maxLen) (n : Int) :
    Calls Tryz.prog 3 #[.slice la l.length c, .int .i64 n] w fun e w' => e = .returned (.bool true) ∧ Kept (fun _ => False) w w' := by
  have HT := Lib.hid ht
  have hgr := great13 _ (some ⟨w.heap.size, 0, none⟩) [⟨0, la, c, l, 0, 0⟩] 1 1 (by omega) (by unfold maxLen; simp) (actsAt_one hl hs)
  have HLD := Lib.hid (fun w1 (hk : Kept (fun _ => False) w w1) => laid_any w1 (HT.out.same hk))
  have k0 := Lib.hid ((Kept.refl (fun _ => False) w).alloc (.cells #[.int .u8 0, .slice la l.length c, .int .i64 0, .int .i64 0] 25))
  clear ht hl hs
  go_enter Tryz.func3, Tryz.ntmps3
  go_upto_if 21 with (go_at_call 11; refine hgr.mono ?_; rintro e w' ⟨b, rfl, _, rfl⟩)
  generalize hW : World.alloc w _ = W at *
  have hR0 := Lib.hid (show SNone w (.pointer none) 0 W from ⟨by omega, Or.inl rfl, k0.out⟩)
  clear hgr
  cases b
  · go_wp2_with fail
    go_loopw [5, 6] (fun v i wr => ∃ (u : Value) (k : Nat), u = v ∧ i = .int .i64 (k : Int) ∧ Hid (SNone w u k wr)) (fun _ i _ => 2 - (intOf i).toNat)
    case atStart => exact ⟨_, 0, rfl, rfl, hR0⟩
    case round =>
      obtain ⟨v, k, hvv, rfl, HS⟩ := hrel
      subst hvv
      have hn := HS.out.1
      rcases Nat.lt_or_ge k 2 with hlt | hge
      · have hx : decide ((k : Int) < 2) = true := decide_eq_true (by omega)
        have hget := noseg_get wr v n n HS.out.2.1
        have happ := noseg_append wr v la l.length c HS.out.2.1
        have hcut := noseg_cut wr v n HS.out.2.1
        have HC := Lib.hid (fun w1 (hk : Kept (fun _ => False) wr w1) => noseg_count w1 v (HS.out.2.1.kept hk))
        clear hn
        go_wp2_with (first
          | (go_at_call 13; refine hget.mono ?_; rintro e w' ⟨rfl, rfl⟩)
          | (go_at_call 14; refine happ.mono ?_; rintro e w' ⟨rfl, rfl⟩)
          | (go_at_call 15; refine hcut.mono ?_; rintro e w3 ⟨rfl, hk3⟩; have HK3 := Lib.hid hk3; clear hk3)
          | (go_at_call 16; refine (HC.out _ HK3.out).mono ?_; rintro e w' ⟨rfl, rfl⟩))
        go_roundw
        case rel => exact ⟨_, k + 1, rfl, by go_num, Lib.hid ⟨by omega, Or.inr ⟨_, rfl, (Blk.new w3 [.pointer none, .slice none 0 0, .slice none 0 0, .int .i64 0, .bool false] 38).cell (i := 0) rfl, (Blk.new w3 [.pointer none, .slice none 0 0, .slice none 0 0, .int .i64 0, .bool false] 38).cell (i := 1) rfl⟩, (HS.out.2.2.trans HK3.out).trans ((Kept.refl _ _).alloc _)⟩⟩
        case measure => simp [intOf]; omega
      · have hx : decide ((k : Int) < 2) = false := decide_eq_false (by omega)
        have hK := HS.out.2.2
        have HKK := Lib.hid hK
        clear hK hge hn
        obtain ⟨M', hM', hdn, hcnt⟩ : ∃ M', (DiskM.new 100).crashR 0 = (0, M') ∧ M'.openS = (61, [], M') ∧ M'.files.length + M'.loose.length < 100000000 := ⟨(DiskM.new 100).crash 0, rfl, rfl, by show 0 + 0 < 100000000; omega⟩
        have HM := Lib.hid (And.intro hM' (And.intro hdn hcnt))
        clear hM' hdn hcnt
        go_wp2_with (first
          | (go_at_call 17; refine (new_ok _ 100 (by omega) (by omega)).mono ?_; rintro e w1 hnew; obtain ⟨d, rfl, hA1, k1⟩ := Apart.made _ hnew; have HD1 := Lib.hid (Fr.made hA1 (HT.out.same HKK.out) k1); have hop1 := segOpen_no w1 (.pointer none) (Or.inl rfl); clear hnew hA1 k1)
          | (go_at_call 18; refine hop1.mono ?_; clear hop1; rintro e w2 ⟨rfl, hk2⟩; have HD2 := Lib.hid (HD1.out.same hk2); clear hk2; have hb := (Blk.new w2 [.map none, .slice none 0 0, .int .i64 0, .bool false, .int .i64 0, .bool false, .int .i64 0, .int .i64 0] 46).cell (i := 0) rfl; have hop2 := segOpen_no (w2.alloc (.cells #[.map none, .slice none 0 0, .int .i64 0, .bool false, .int .i64 0, .bool false, .int .i64 0, .int .i64 0] 46)) (.pointer (some ⟨w2.heap.size, 0, none⟩)) (Or.inr ⟨_, rfl, hb⟩); clear hb)
          | (go_at_call 18; refine hop2.mono ?_; clear hop2; rintro e w3 ⟨rfl, hk3⟩; have HD3 := Lib.hid (HD2.out.same (((Kept.refl _ _).alloc _).trans hk3)); clear hk3; have hcr := HD3.out.crash 0 (by omega) HM.out.1)
          | (go_at_call 19; refine hcr.mono ?_; clear hcr; rintro e w4 ⟨rfl, hd4⟩; have HD4 := Lib.hid hd4; clear hd4; have hop3 := HD4.out.opens HM.out.2.2; rw [HM.out.2.1] at hop3)
          | (go_at_call 18; refine hop3.mono ?_; clear hop3; intro e w5 ho; obtain ⟨rfl, hd5⟩ := (ho.elim (fun q => ⟨q.2.1, q.2.2⟩) (fun q => absurd q.1 (show ¬ (61 : Int) = 0 by decide)) : e = .returned (.tuple #[.pointer none, .int .i64 61]) ∧ Dn wr w5 d M' []); have HD5 := Lib.hid hd5; clear ho hd5; have hld := HLD.out w5 (HKK.out.trans HD5.out.old))
          | (go_at_call 12; refine hld.mono ?_; rintro e w6 ⟨rfl, hk6⟩))
        go_ret
        exact ⟨rfl, (HKK.out.trans HD5.out.old).trans hk6⟩
  · have hld := HLD.out W k0.out
    go_wp2_with (go_at_call 12; refine hld.mono ?_; rintro e w1 ⟨rfl, hk1⟩)
    go_ret
    exact ⟨rfl, k0.out.trans hk1⟩
open Go.WideShapes Go.ChangeShapes Go.Joins in
set_option maxRecDepth 100000 in
theorem segmentsNone_walk (v : Value) (n : Int) (W : World) (ht : Tab W) {base : Nat} {H : Type} {enc : TypeId × Value → H} {dd : DataW H} {pp : List MemPlace} (hv : Value.okWide Tryz.prog W .any base 22 v) (h : DataW.Trod enc Tryz.prog W 0 (fun _ => true) true 22 v dd pp) (_hn : (Lit.int .i64 n).wf = true) :
    Calls Tryz.prog 3 #[v, .int .i64 n] W fun e w' => e = .returned (.bool true) ∧ Below W.heap.size W w' := by
  obtain ⟨a, l, c, rfl, h1, h2⟩ := texts_of h (okWide_slice Tryz.underlying22 hv)
  exact (segmentsNone_walk0 W ht a l c h1 h2 n).mono (fun e w' ⟨he, hk⟩ => ⟨he, hk.below (fun _ _ => id) (Nat.le_refl _)⟩)
end Go.Proofs.YtamdbaonmodnbaaGreatDoor

namespace Go.Proofs.YtamdbaonmodnbaaGreatDoor
open Go.RowKit

/-- The i-th text of the law. -/
def twoB (k i : Nat) : By := [UInt8.ofNat i, UInt8.ofNat k]
def allB (k n : Nat) : List By := (List.range n).map (twoB k)
theorem allB_len (k n : Nat) : (allB k n).length = n := by simp [allB]
theorem allB_succ (k n : Nat) : allB k (n + 1) = allB k n ++ [twoB k n] := by simp [allB, List.range_succ]
theorem allB_short (k n : Nat) : ∀ p ∈ allB k n, p.length ≤ 200 := by
  intro p hp
  obtain ⟨i, _, rfl⟩ := List.mem_map.1 hp
  simp [twoB]
theorem allB_frames (k n : Nat) : (framesF (allB k n)).length = n * 14 := by
  induction n with
  | zero => simp [allB, framesF]
  | succ n ih => rw [allB_succ, framesF_append, List.length_append, ih, frames_len_cons, framesF_nil]; simp [twoB]; omega
theorem two_text (w : World) {i k : Nat} (hi : i < 256) (hk : k < 256) :
    (convert 61 9 (.slice (some ⟨w.heap.size, 0, none⟩) 2 2)).run Tryz.prog (w.alloc (.cells #[.int .u8 (i : Int), .int .u8 (k : Int)] 5)) = .ok (.string ⟨(twoB k i).toArray⟩) (w.alloc (.cells #[.int .u8 (i : Int), .int .u8 (k : Int)] 5)) := by
  have hr : Row (w.alloc (.cells #[.int .u8 (i : Int), .int .u8 (k : Int)] 5)) 5 1 (.slice (some ⟨w.heap.size, 0, none⟩) 2 2) (bytes8 (twoB k i)) := by
    have e : bytes8 (twoB k i) = [.int .u8 (i : Int), .int .u8 (k : Int)] := by
      unfold bytes8 twoB
      simp [UInt8.toNat_ofNat, Nat.mod_eq_of_lt hi, Nat.mod_eq_of_lt hk]
    rw [e]
    exact Row.fresh (Blk.new w [.int .u8 (i : Int), .int .u8 (k : Int)] 5) rfl (by omega) (by omega)
  exact hr.view.text
theorem cut_nums13 {n : Int} (h0 : 0 ≤ n ∧ n ≤ 255) {q : Nat} (hq : (q : Int) = n % 201) : Int.tmod n 201 = (q : Int) ∧ n % 201 = (q : Int) ∧ wrap64 n = n ∧ wrap64 (q : Int) = (q : Int) ∧ q ≤ 200 := by
  refine ⟨by rw [Int.tmod_eq_emod_of_nonneg h0.1]; omega, hq.symm, IntWalk.wrap64_in _ (by omega), IntWalk.wrap64_in _ (by omega), by omega⟩
theorem cut_nums14 {n : Int} (h0 : 0 ≤ n ∧ n ≤ 255) {k m a : Nat} (hk : k ≤ 200) (ha : a = k + 1) (hm : (m : Int) = n % (a : Int)) : wrap64 ((k : Int) + 1) = (a : Int) ∧ Int.tmod n (a : Int) = (m : Int) ∧ n % (a : Int) = (m : Int) ∧ wrap64 n = n ∧ wrap64 (m : Int) = (m : Int) ∧ ((a : Int) == 0) = false ∧ decide ((a : Int) = 0) = false ∧ ¬ a = 0 := by
  have hlt := Int.emod_lt_of_pos n (show (0 : Int) < (a : Int) by omega)
  refine ⟨by rw [IntWalk.wrap64_in _ (by omega)]; omega, by rw [Int.tmod_eq_emod_of_nonneg h0.1]; exact hm.symm, hm.symm, IntWalk.wrap64_in _ (by omega), IntWalk.wrap64_in _ (by omega), ?_, decide_eq_false (by omega), by omega⟩
  simp
  omega
theorem cat_str {w : World} {v1 v2 : Value} {A L : List By} (h1 : View w 1 v1 (strV A)) (h2 : View w 1 v2 (strV L)) {N : Nat} (hN : N = A.length + L.length) (hl : N ≤ 100000000) :
    ∃ (a1 : Option Addr) (m1 c1 : Nat) (W1 : World) (a2 : Option Addr) (c2 : Nat) (W2 : World), (Builtin.append_ #[22, 22] 22 #[.slice none 0 0, v1]).run Tryz.prog w = .ok (.slice a1 m1 c1) W1 ∧ (Builtin.append_ #[22, 22] 22 #[.slice a1 m1 c1, v2]).run Tryz.prog W1 = .ok (.slice a2 N c2) W2 ∧
      Hid (Row W2 9 1 (.slice a2 N c2) (strV (A ++ L)) ∧ Kept (fun _ => False) w W2 ∧ ∀ k, (Value.slice a2 N c2).ownBlock = some k → w.heap.size ≤ k) := by
  obtain ⟨i0, hi, hz0, hz1, hz3⟩ := info_parts info_str
  obtain ⟨x1, W1, r1, row1, k1, f1⟩ := (Row.nil w 9 1).append_view (P := Tryz.prog) (t := 22) h1 Tryz.underlying22 hi hz0 hz1 rfl (by omega) (by rw [hz3]; decide) (one_str A) (by rw [strV_len]; simp; omega) 22
  have k1' : Kept (fun _ => False) w W1 := k1.mono (fun k _ q => by simp [Value.ownBlock] at q)
  obtain ⟨x2, W2, r2, row2, k2, f2⟩ := row1.append_view (P := Tryz.prog) (t := 22) (h2.same k1' (by omega)) Tryz.underlying22 hi hz0 hz1 rfl (by omega) (by rw [hz3]; decide) (one_str L) (by rw [List.nil_append, strV_len, strV_len]; omega) 22
  have hz := k1'.size
  have o1 : ∀ k, x1.ownBlock = some k → w.heap.size ≤ k := fun k q => by
    rcases f1 k q with z | z
    · simp [Value.ownBlock] at z
    · exact z
  rw [List.nil_append, ← strV_append] at row2
  obtain ⟨a1, m1, c1, rfl, _⟩ := row1.shape
  obtain ⟨a2, m2, c2, rfl, _⟩ := row2.shape
  obtain rfl : m2 = N := by
    have := (view_len row2.view).1
    rw [List.length_append] at this
    omega
  refine ⟨a1, m1, c1, W1, a2, c2, W2, r1, r2, Lib.hid ⟨row2, k1'.then_ k2 (fun k hk q => by have := o1 k q; omega), fun k q => ?_⟩⟩
  rcases f2 k q with z | z
  · exact o1 k z
  · omega
theorem cut_nums15 {N D b1 b2 : Nat} (hN : N ≤ 4096) (h1 : b1 = N + 64) (h2 : b2 = N + 63) (hD : D = (N + 63) / 64) : wrap64 ((N : Int) + 64) = (b1 : Int) ∧ wrap64 ((b1 : Int) - 1) = (b2 : Int) ∧ Int.tdiv (b2 : Int) 64 = (D : Int) ∧ (b2 : Int) / 64 = (D : Int) ∧ wrap64 (D : Int) = (D : Int) ∧ ((D : Int) == (D : Int)) = true ∧ ((N : Int) == (N : Int)) = true := by
  refine ⟨by rw [IntWalk.wrap64_in _ (by omega)]; omega, by rw [IntWalk.wrap64_in _ (by omega)]; omega, by rw [Int.tdiv_eq_ediv_of_nonneg (by omega)]; omega, by omega, IntWalk.wrap64_in _ (by omega), beq_self_eq_true _, beq_self_eq_true _⟩
set_option maxRecDepth 100000 in
set_option maxHeartbeats 8000000 in
theorem segmentsCut_walk0 (w : World) (ht : Tab w) (n stay : Int) (hn : 0 ≤ n ∧ n ≤ 255) (hs : 0 ≤ stay ∧ stay ≤ 255) (la : Option Addr) (l : List By) (c : Nat) (hl : View w 1 (.slice la l.length c) (strV l)) (hz : ∀ p ∈ l, p.length ≤ maxLen) :
    Calls Tryz.prog 5 #[.int .u8 n, .int .u8 stay, .slice la l.length c] w fun e w' => e = .returned (.bool true) ∧ Kept (fun _ => False) w w' := by
  have HT := Lib.hid ht
  have HL := Lib.hid hl
  obtain ⟨hl1, hl2⟩ := view_len hl
  unfold maxLen at hl2
  have hgr := great13 _ (some ⟨w.heap.size, 0, none⟩) [⟨0, la, c, l, 0, 0⟩] 1 1 (by omega) (by unfold maxLen; simp) (actsAt_one hl hz)
  have HLD := Lib.hid (fun w1 (hk : Kept (fun _ => False) w w1) => laid_any w1 (HT.out.same hk))
  have k0 := Lib.hid ((Kept.refl (fun _ => False) w).alloc (.cells #[.int .u8 0, .slice la l.length c, .int .i64 0, .int .i64 0] 25))
  clear ht hl hz hl1
  by_cases h10 : 10 < l.length
  · have x1 : decide ((10 : Int) < (l.length : Int)) = true := (dec_gt h10).1
    have x2 : decide (10 < l.length) = true := (dec_gt h10).2
    clear h10
    go_enter Tryz.func5, Tryz.ntmps5
    go_upto_region 2 with (go_at_call 11; refine hgr.mono ?_; rintro e w' ⟨b, rfl, _, rfl⟩; rcases b)
    all_goals
      generalize hW : World.alloc w _ = W at *
      have hld := HLD.out W k0.out
      go_wp2_with (go_at_call 12; refine hld.mono ?_; rintro e w1 ⟨rfl, hk1⟩)
      go_ret
      exact ⟨rfl, k0.out.trans hk1⟩
  · have x1 : decide ((10 : Int) < (l.length : Int)) = false := (dec_le h10).1
    have x2 : decide (10 < l.length) = false := (dec_le h10).2
    have hle10 : l.length ≤ 10 := by omega
    clear h10
    go_enter Tryz.func5, Tryz.ntmps5
    go_upto_if 29 with (go_at_call 11; refine hgr.mono ?_; rintro e w' ⟨b, rfl, _, rfl⟩; rcases b)
    all_goals generalize hW : World.alloc w _ = W at *
    rotate_left 1
    · have hld := HLD.out W k0.out
      go_wp2_with (go_at_call 12; refine hld.mono ?_; rintro e w1 ⟨rfl, hk1⟩)
      go_ret
      exact ⟨rfl, k0.out.trans hk1⟩
    · have HLW : Hid (View W 1 (.slice la l.length c) (strV l)) := Lib.hid (HL.out.same k0.out (by omega))
      have HLO : Hid (l ≠ [] → ∀ k, (Value.slice la l.length c).ownBlock = some k → k < W.heap.size) := Lib.hid (fun h0 k q => Nat.lt_of_lt_of_le (HL.out.ownlt (fun e => h0 (by
        have := congrArg List.length e
        rw [strV_len] at this
        exact List.eq_nil_of_length_eq_zero this)) k q) k0.out.size)
      clear hgr x1 x2 hW
      go_wp2_with fail
      go_loop [7] (fun x => ∃ i : Nat, i ≤ l.length ∧ x = .int .i64 (i : Int) ∧ Hid (∀ j p, l[j]? = some p → j < i → p.length ≤ 200)) (fun x => l.length - (intOf x).toNat)
      case atStart => exact ⟨0, Nat.zero_le _, rfl, Lib.hid (fun j p _ hj => absurd hj (Nat.not_lt_zero _))⟩
      case round =>
        obtain ⟨i, hi, rfl, HS⟩ := hrel
        by_cases hlt : i < l.length
        · obtain ⟨y1, y2⟩ := dec_gt hlt
          obtain ⟨p, hp⟩ : ∃ p, l[i]? = some p := ⟨_, List.getElem?_eq_getElem hlt⟩
          obtain ⟨g, off, rfl, hc⟩ := view_text HLW.out hp
          by_cases h2 : 200 < p.length
          · have z1 : decide ((200 : Int) < (p.length : Int)) = true := (dec_gt h2).1
            have z2 : decide (200 < p.length) = true := (dec_gt h2).2
            have hld := HLD.out W k0.out
            clear hp hi h2
            go_wp2_with (go_at_call 12; refine hld.mono ?_; rintro e w1 ⟨rfl, hk1⟩)
            go_ret
            exact ⟨rfl, k0.out.trans hk1⟩
          · have z1 : decide ((200 : Int) < (p.length : Int)) = false := (dec_le h2).1
            have z2 : decide (200 < p.length) = false := (dec_le h2).2
            have HS3 : Hid (∀ j p, l[j]? = some p → j < i + 1 → p.length ≤ 200) := by
              refine Lib.hid ?_
              intro j q hq hj
              rcases Nat.lt_or_ge j i with z | z
              · exact HS.out j q hq z
              · obtain rfl : j = i := by omega
                rw [hp] at hq
                cases hq
                omega
            clear hp h2
            go_wp2_with fail
            go_round
            case rel => exact ⟨i + 1, hlt, by go_num, HS3⟩
            case measure => simp [intOf]; omega
        · obtain rfl : i = l.length := by omega
          obtain ⟨y1, y2⟩ := dec_le hlt
          have hsh : ∀ p ∈ l, p.length ≤ 200 := fun p hp => by
            obtain ⟨j, hj, e⟩ := List.getElem_of_mem hp
            exact HS.out j p (by rw [List.getElem?_eq_getElem hj, e]) hj
          have HSH := Lib.hid (And.intro hsh hle10)
          clear hi hlt hsh HS hl2 hle10
          go_upto_region 12 with (first
            | (go_at_call 17; refine (new_ok _ 60000 (by omega) (by omega)).mono ?_; rintro e w1 hnew; obtain ⟨d, rfl, hA1, k1⟩ := Apart.made _ hnew; have HOP := Lib.hid (seg_start (HT.out.same k0.out) hA1 k1); clear hnew hA1 k1)
            | (go_at_call 18; refine HOP.out.mono ?_; rintro e w2 ⟨s, rfl, hu⟩; have HU := Lib.hid hu; clear hu))
          clear HOP y1 y2
          obtain ⟨q, hq⟩ : ∃ q : Nat, (q : Int) = n % 201 := ⟨(n % 201).toNat, by omega⟩
          have HN := Lib.hid (cut_nums13 hn hq)
          clear hq
          obtain ⟨n1, n2, n3, n4, n5⟩ := HN.out
          go_wp2_with fail
          clear n1 n2 n3 n4
          go_loopw [13, 14] (fun x y wr => ∃ (i : Nat) (a : Option Addr) (c : Nat), i ≤ q ∧ x = .slice a i c ∧ y = .int .i64 (i : Int) ∧ Hid (Row wr 9 1 (.slice a i c) (strV (allB q i)) ∧ Kept (fun _ => False) w2 wr ∧ ∀ k, (Value.slice a i c).ownBlock = some k → w2.heap.size ≤ k)) (fun _ y _ => q - (intOf y).toNat)
          case atStart => exact ⟨0, none, 0, Nat.zero_le _, rfl, rfl, Lib.hid ⟨Row.nil _ _ _, Kept.refl _ _, fun k q => by simp [Value.ownBlock] at q⟩⟩
          case round =>
            obtain ⟨i, a, c5, hi, rfl, rfl, HS⟩ := hrel
            by_cases hlt : i < q
            · obtain ⟨y1, y2⟩ := dec_gt hlt
              have u1 : IntKind.u8.wrap (i : Int) = (i : Int) := IntWalk.u8_in _ (by omega)
              have u2 : IntKind.u8.wrap (q : Int) = (q : Int) := IntWalk.u8_in _ (by omega)
              have u3 : ((i : Int) % 256) = (i : Int) := by omega
              have u4 : ((q : Int) % 256) = (q : Int) := by omega
              have hcv := two_text wr (i := i) (k := q) (by omega) (by omega)
              obtain ⟨v', w', hr, h1, h2, h3⟩ := append_str1 (HS.out.1.alloc (.cells #[.int .u8 (i : Int), .int .u8 (q : Int)] 5)) (twoB q i) (by rw [allB_len]; omega)
              rw [World.size_alloc] at hr
              obtain ⟨a', m', c', rfl, _⟩ := h1.shape
              rw [← allB_succ] at h1
              obtain rfl : m' = i + 1 := by
                have := (view_len h1.view).1
                rwa [allB_len] at this
              have HN2 : Hid (Row w' 9 1 (.slice a' (i + 1) c') (strV (allB q (i + 1))) ∧ Kept (fun _ => False) w2 w' ∧ ∀ k, (Value.slice a' (i + 1) c').ownBlock = some k → w2.heap.size ≤ k) := Lib.hid ⟨h1, (HS.out.2.1.trans ((Kept.refl _ _).alloc _)).then_ h2 (fun k hk q => by have := HS.out.2.2 k q; omega), fun k q => by
                rcases h3 k q with z | z
                · exact HS.out.2.2 k z
                · have := HS.out.2.1.size
                  simp at z
                  omega⟩
              clear h1 h2 h3
              go_wp2_with ((with_reducible show wpList _ _ _ (⟨some 75, _, _, _, _, _⟩ :: _) _ _); refine Lib.wpList_append_run _ rfl _ _ 22 22 rfl _ _ rfl rfl _ _ hr ?_)
              go_roundw
              case rel => exact ⟨i + 1, a', c', hlt, rfl, by go_num, HN2⟩
              case measure => simp [intOf]; omega
            · obtain rfl : i = q := by omega
              obtain ⟨y1, y2⟩ := dec_le hlt
              clear hi hlt
              go_upto_region 18 with fail
              have HU2 := Lib.hid (HU.out.new HS.out.2.1 HS.out.1 HS.out.2.2)
              clear HU HS y1 y2 HN
              obtain ⟨a1, ha1⟩ : ∃ a1, a1 = i + 1 := ⟨_, rfl⟩
              obtain ⟨m, hm⟩ : ∃ m : Nat, (m : Int) = stay % (a1 : Int) := ⟨(stay % (a1 : Int)).toNat, Int.toNat_of_nonneg (Int.emod_nonneg _ (by omega))⟩
              have hmi : m ≤ i := by have := Int.emod_lt_of_pos stay (show (0 : Int) < (a1 : Int) by omega); omega
              have HN := Lib.hid (cut_nums14 hs n5 ha1 hm)
              have HM := Lib.hid (And.intro hmi n5)
              clear ha1 hm hmi n5
              obtain ⟨n1, n2, n3, n4, n6, n7, n8, n9⟩ := HN.out
              go_upto_region 19 with fail
              clear n1 n2 n3 n4 n6 n7 n8 n9
              obtain ⟨A, hA⟩ : ∃ A, A = (allB i i).take m := ⟨_, rfl⟩
              obtain ⟨E, hE⟩ : ∃ E, E = A ++ l := ⟨_, rfl⟩
              obtain ⟨N, hN⟩ : ∃ N, N = A.length + l.length := ⟨_, rfl⟩
              obtain ⟨T, hT⟩ : ∃ T, T = i * 14 + (framesF l).length := ⟨_, rfl⟩
              have hAl : A.length = m := by rw [hA, List.length_take, allB_len, Nat.min_eq_left HM.out.1]
              have hEl : E.length = N := by rw [hE, List.length_append, hN]
              have hfl := frames_le l HSH.out.1
              have hN4 : N ≤ 4096 := by have := HM.out; have := HSH.out.2; omega
              have hT6 : (T : Int) ≤ 60000 := by have := HM.out; have := HSH.out.2; omega
              have HE := Lib.hid (And.intro hA (And.intro hE (And.intro hN (And.intro hT (And.intro hAl (And.intro hEl (And.intro hN4 hT6)))))))
              clear hA hE hN hT hAl hEl hfl hN4 hT6
              have hap1 := HU2.out.append_row (a := a) (n := i) (c := c5) (l := allB i i) (by simp) (allB_short i i) (by rw [allB_len]; have := HM.out.2; simp; omega) (T2 := i * 14) (by rw [allB_frames]; omega) (by have := HM.out.2; omega)
              go_upto_region 21 with (first
                | (go_at_call 14; refine hap1.mono ?_; clear hap1; rintro e w5 ⟨rfl, hu5⟩; rw [List.nil_append] at hu5; have HU5 := Lib.hid hu5; clear hu5; have hcut := HU5.out.cut (n := m) (by rw [allB_len]; exact HM.out.1))
                | (go_at_call 15; refine hcut.mono ?_; clear hcut; rintro e w6 ⟨rfl, hu6⟩; rw [← HE.out.1] at hu6; have HU6 := Lib.hid hu6; clear hu6; have hcnt := HU6.out.count (k := (m : Int)) (by rw [HE.out.2.2.2.2.1]))
                | (go_at_call 16; refine hcnt.mono ?_; clear hcnt; rintro e w' ⟨rfl, rfl⟩; have hap2 := HU6.out.append (l := l) (a := la) (n := l.length) (c := c) (HLW.out.same HU6.out.old (by omega)) (fun h0 k q => Or.inl (HLO.out h0 k q)) HSH.out.1 (by rw [← HE.out.2.2.1]; exact HE.out.2.2.2.2.2.2.1) (T2 := T) HE.out.2.2.2.1 HE.out.2.2.2.2.2.2.2)
                | (go_at_call 14; refine hap2.mono ?_; clear hap2; rintro e w7 ⟨rfl, hu7⟩; rw [← HE.out.2.1] at hu7; have HU7 := Lib.hid hu7; clear hu7; have hcr := HU7.out.crash 0 (by omega))
                | (go_at_call 19; refine hcr.mono ?_; clear hcr; rintro e w8 ⟨rfl, hu8⟩; have HU8 := Lib.hid hu8; clear hu8; have hst := HU8.out.start (by omega))
                | (go_at_call 29; refine hst.mono ?_; clear hst; rintro e w9 ⟨rfl, hu9⟩; have HU9 := Lib.hid hu9; clear hu9; have hap3 := HU9.out.append (l := l) (a := la) (n := l.length) (c := c) (HLW.out.same HU9.out.old (by omega)) (fun h0 k q => Or.inl (HLO.out h0 k q)))
                | (go_at_call 14; refine hap3.mono ?_; clear hap3; rintro e w10 ⟨rfl, hu10⟩; have HD10 := Lib.hid hu10; clear hu10))
              clear HU2 HU5 HU6 HU7 HU8 HU9
              have hrow : Row w10 9 1 (.slice a i c5) (strV (allB i i)) := HD10.out.row (v := .slice a i c5) (l := allB i i) (by simp)
              have hrun := fun w0 => hrow.view.run_head (P := Tryz.prog) (t := 22) (by kernel_rfl) (fun _ => by kernel_rfl) m HM.out.1 w0
              have hv1 := hrow.view.head m HM.out.1
              have ev1 : (strV (allB i i)).take (m * 1) = strV A := by rw [HE.out.1]; unfold strV; rw [Nat.mul_one, List.map_take]
              rw [ev1] at hv1
              obtain ⟨b1, m1, c1, W1, b2, c2, W2, r1, r2, HC⟩ := cat_str hv1 (HLW.out.same HD10.out.old (by omega)) (N := N) HE.out.2.2.1 (by have := HE.out.2.2.2.2.2.2.1; omega)
              have HRUN := Lib.hid hrun
              clear hrow hv1 ev1 hrun
              have hrun := HRUN.out
              go_upto_region 22 with (first
                | ((with_reducible show wpList _ _ _ (⟨some 122, _, _, _, _, _⟩ :: _) _ _); refine Lib.wpList_append_run _ rfl _ _ 22 22 rfl _ _ rfl rfl _ _ r1 ?_)
                | ((with_reducible show wpList _ _ _ (⟨some 124, _, _, _, _, _⟩ :: _) _ _); refine Lib.wpList_append_run _ rfl _ _ 22 22 rfl _ _ rfl rfl _ _ r2 ?_))
              have HD11 := Lib.hid (HD10.out.new HC.out.2.1 HC.out.1 HC.out.2.2)
              have hop := HD11.out.open
              clear hrun HRUN HD10 r1 r2 HC
              go_upto_region 25 with (first
                | (go_at_call 18; refine hop.mono ?_; clear hop; rintro e w12 ⟨t, rfl, hu12⟩; have HU12 := Lib.hid hu12; clear hu12; have hcnt := HU12.out.count (k := (N : Int)) (by rw [HE.out.2.2.2.2.2.1]))
                | (go_at_call 16; refine hcnt.mono ?_; clear hcnt; rintro e w' ⟨rfl, rfl⟩))
              have hget := HU12.out.get 0 N (by rw [HE.out.2.2.2.2.2.1]; omega) (by rw [HE.out.2.2.2.2.2.1]; exact HE.out.2.2.2.2.2.2.1)
              go_upto_region 26 with (go_at_call 13; refine hget.mono ?_; clear hget; rintro e w13 ⟨x13, m13, c13, rfl, hu13⟩; have HU13 := Lib.hid hu13; clear hu13)
              have heq : (E.drop 0).take N = A ++ l := by rw [List.drop_zero, ← HE.out.2.2.2.2.2.1, List.take_length, HE.out.2.1]
              have hr1 := HU13.out.row (v := .slice x13 m13 c13) (l := (E.drop 0).take N) (by simp)
              have hr2 := HU13.out.row (v := .slice b2 N c2) (l := A ++ l) (by simp)
              have htx := texts_any hr1.view hr2.view
              rw [decide_eq_true heq] at htx
              clear heq hr1 hr2
              obtain ⟨D, hD⟩ : ∃ D, D = (N + 63) / 64 := ⟨_, rfl⟩
              obtain ⟨e1, he1⟩ : ∃ e1, e1 = N + 64 := ⟨_, rfl⟩
              obtain ⟨e2, he2⟩ : ∃ e2, e2 = N + 63 := ⟨_, rfl⟩
              have HN2 := Lib.hid (cut_nums15 HE.out.2.2.2.2.2.2.1 he1 he2 hD)
              have HDD := Lib.hid (show (E.length + 63) / 64 = D by rw [HE.out.2.2.2.2.2.1, hD])
              clear hD he1 he2
              obtain ⟨n1, n2, n3, n4, n6, n7, n8⟩ := HN2.out
              go_wp2_with (first
                | (go_at_call 30; refine htx.mono ?_; clear htx; rintro e w14 ⟨rfl, hk14⟩; have HU14 := Lib.hid (HU13.out.same hk14); have hfi := HU14.out.filesOf; rw [HDD.out] at hfi; clear hk14)
                | (go_at_call 31; refine hfi.mono ?_; clear hfi; rintro e w15 ⟨a15, c15, rfl, hu15⟩; have HU15 := Lib.hid hu15; clear hu15; have hld := HLD.out w15 (k0.out.trans HU15.out.old))
                | (go_at_call 12; refine hld.mono ?_; rintro e w16 ⟨rfl, hk16⟩))
              go_ret
              exact ⟨rfl, (k0.out.trans HU15.out.old).trans hk16⟩
open Go.WideShapes Go.ChangeShapes Go.Joins in
set_option maxRecDepth 100000 in
theorem segmentsCut_walk (n stay : Int) (v : Value) (W : World) (ht : Tab W) {base : Nat} {H : Type} {enc : TypeId × Value → H} {dd : DataW H} {pp : List MemPlace} (hn : (Lit.int .u8 n).wf = true) (hs : (Lit.int .u8 stay).wf = true) (hv : Value.okWide Tryz.prog W .any base 22 v) (h : DataW.Trod enc Tryz.prog W 0 (fun _ => true) true 22 v dd pp) :
    Calls Tryz.prog 5 #[.int .u8 n, .int .u8 stay, v] W fun e w' => e = .returned (.bool true) ∧ Below W.heap.size W w' := by
  obtain ⟨a, l, c, rfl, h1, h2⟩ := texts_of h (okWide_slice Tryz.underlying22 hv)
  exact (segmentsCut_walk0 W ht n stay (wf_u8 hn) (wf_u8 hs) a l c h1 h2).mono (fun e w' ⟨he, hk⟩ => ⟨he, hk.below (fun _ _ => id) (Nat.le_refl _)⟩)
end Go.Proofs.YtamdbaonmodnbaaGreatDoor
