/- Arguments that are texts, or acts of chapter 13: what the walk is told of them; Great. Package speculumlaw13: Great. The law SegmentsNone, walked. -/
import Derived.Test.YtamdbaonmodnbaaGreatDoorUSegmentsNone33
import Derived.Test.YtamdbaonmodnbaaGreatDoorUSegmentsNone34
set_option linter.unusedVariables false
set_option linter.unusedSimpArgs false
namespace Go.Proofs.YtamdbaonmodnbaaGreatDoor
open Go.RowKit Go.WideShapes Go.ChangeShapes Go.Joins

theorem c_str13 : Tryz.prog.cellsOf 9 = 1 := by kernel_rfl
/-- The bytes of a text. -/
def bytesOf : Value → By
  | .string s => s.data.toList
  | _ => []
theorem texts_in {H : Type} {enc : TypeId × Value → H} {W : World} {base : Nat} {hd : Bool} {fuel : Nat} {cs : List Value} {x : DataW H × List MemPlace}
    (h : DataW.trod enc Tryz.prog W base (fun _ => true) hd fuel 22 cs = some x) : ∃ (a : Option Addr) (l : List By) (c : Nat), cs = [.slice a l.length c] ∧ View W 1 (.slice a l.length c) (strV l) ∧ ∀ p ∈ l, p.length ≤ maxLen := by
  rcases Deep.open_slice1 Tryz.underlying22 c_str13 h with ⟨rfl, _⟩ | ⟨a, len, cap, m, n, V, D, Pl, rfl, _, hl, hm, hmm, _, hx⟩
  · exact ⟨none, [], 0, rfl, View.nil W 1, fun p hp => by cases hp⟩
  · simp only [if_true] at hmm
    subst hmm
    have hs : ∀ i, i < m → ∃ s, V i = .string s ∧ s.size ≤ maxLen := fun i hi => by
      obtain ⟨s, e, _, w0⟩ := DataW.trod_string Tryz.underlying9 (hx i hi).2
      exact ⟨s, by simpa using e, w0⟩
    have hlen : ((List.range len).map fun i => bytesOf (V i)).length = len := by rw [List.length_map, List.length_range]
    have hg : ∀ j u, (strV ((List.range len).map fun i => bytesOf (V i)))[j]? = some u → j < len ∧ u = V j := by
      intro j u hu
      unfold strV at hu
      rw [List.getElem?_map, List.getElem?_map] at hu
      rcases Nat.lt_or_ge j len with q | q
      · rw [List.getElem?_range q] at hu
        simp only [Option.map_some, Option.some.injEq] at hu
        obtain ⟨s, e, _⟩ := hs j (by omega)
        rw [e] at hu ⊢
        subst hu
        exact ⟨q, by simp [bytesOf]⟩
      · rw [List.getElem?_eq_none (by rw [List.length_range]; exact q)] at hu
        cases hu
    refine ⟨some a, (List.range len).map fun i => bytesOf (V i), m, by rw [hlen], ?_, ?_⟩
    · rw [hlen]
      have sp : 0 < m → a.spot = none := fun h0 => by
        have := World.cell?_spot (hx 0 h0).1
        simpa [Addr.add] using this
      refine ⟨some a, len, m, rfl, by rw [strV_len, hlen, Nat.mul_one], hl, hm, fun h0 => ?_, fun h0 => ?_⟩
      · have := sp h0
        obtain ⟨b, o, s⟩ := a
        simp only at this
        subst this
        exact ⟨b, o, rfl⟩
      · have := sp (by omega)
        obtain ⟨b, o, s⟩ := a
        simp only at this
        subst this
        refine ⟨b, o, rfl, ?_, fun j u hu => ?_⟩
        · exact World.block_lt_of_cell? W _ (hx 0 (by omega)).1
        · obtain ⟨hj, rfl⟩ := hg j u hu
          have := (hx j (by omega)).1
          rwa [addr_add _ rfl] at this
    · intro p hp
      obtain ⟨i, hi, rfl⟩ := List.mem_map.1 hp
      obtain ⟨s, e, hz⟩ := hs i (by have := List.mem_range.1 hi; omega)
      rw [e]
      show s.data.toList.length ≤ _
      simpa using hz
/-- Texts that came in. -/
theorem texts_of {H : Type} {enc : TypeId × Value → H} {w : World} {v : Value} {dd : DataW H} {p : List MemPlace} (h : DataW.Trod enc Tryz.prog w 0 (fun _ => true) true 22 v dd p) (hv : ∃ a n c, v = .slice a n c) :
    ∃ (a : Option Addr) (l : List By) (c : Nat), v = .slice a l.length c ∧ View w 1 (.slice a l.length c) (strV l) ∧ ∀ p ∈ l, p.length ≤ maxLen := by
  obtain ⟨fuel, hf⟩ := h
  obtain ⟨a, l, c, e, h1, h2⟩ := texts_in hf
  obtain ⟨a', n', c', rfl⟩ := hv
  simp [Value.cells] at e
  obtain ⟨rfl, rfl, rfl⟩ := e
  exact ⟨_, l, _, rfl, h1, h2⟩
/-- An act of chapter 13. -/
structure Act13 where
  k : Int
  la : Option Addr
  c : Nat
  l : List By
  N : Int
  M : Int
instance : Inhabited Act13 := ⟨⟨0, none, 0, [], 0, 0⟩⟩
/-- It lies at that place. -/
structure ActAt (w : World) (ad : Option Addr) (i : Nat) (x : Act13) : Prop where
  cells : ElemAt w ad 4 i [.int .u8 x.k, .slice x.la x.l.length x.c, .int .i64 x.N, .int .i64 x.M]
  view : View w 1 (.slice x.la x.l.length x.c) (strV x.l)
  size : ∀ p ∈ x.l, p.length ≤ maxLen
  k0 : 0 ≤ x.k ∧ x.k ≤ 255
  n0 : -9223372036854775808 ≤ x.N ∧ x.N ≤ 9223372036854775807
  m0 : -9223372036854775808 ≤ x.M ∧ x.M ≤ 9223372036854775807
def ActsAt (w : World) (ad : Option Addr) (A : List Act13) : Prop := ∀ i x, A[i]? = some x → ActAt w ad i x
theorem c_act13 : Tryz.prog.cellsOf 25 = 4 := by kernel_rfl
theorem c_u8' : Tryz.prog.cellsOf 5 = 1 := by kernel_rfl
theorem c_int' : Tryz.prog.cellsOf 3 = 1 := by kernel_rfl
theorem c_texts : Tryz.prog.cellsOf 22 = 1 := by kernel_rfl
theorem one_at' {cs : List Value} {v : Value} {i : Nat} (h : (cs.drop i).take 1 = [v]) : cs[i]? = some v := by
  have e5 := congrArg (·[0]?) h
  simpa [List.getElem?_take, List.getElem?_drop] using e5
set_option maxRecDepth 100000 in
theorem act13_in {H : Type} {enc : TypeId × Value → H} {W : World} {base : Nat} {hd : Bool} {fuel : Nat} {cs : List Value} {x : DataW H × List MemPlace}
    (h : DataW.trod enc Tryz.prog W base (fun _ => true) hd fuel 25 cs = some x) : ∃ y : Act13, cs = [.int .u8 y.k, .slice y.la y.l.length y.c, .int .i64 y.N, .int .i64 y.M] ∧ View W 1 (.slice y.la y.l.length y.c) (strV y.l) ∧ (∀ p ∈ y.l, p.length ≤ maxLen) ∧ (0 ≤ y.k ∧ y.k ≤ 255) ∧ (-9223372036854775808 ≤ y.N ∧ y.N ≤ 9223372036854775807) ∧ (-9223372036854775808 ≤ y.M ∧ y.M ≤ 9223372036854775807) := by
  obtain ⟨xs, n, _, _, hcl, hl, hg⟩ := DataW.trod_struct Tryz.underlying25 h
  match xs, hl with
  | [y0, y1, y2, y3], _ =>
    have g0 := hg 0 _ rfl
    have g1 := hg 1 _ rfl
    have g2 := hg 2 _ rfl
    have g3 := hg 3 _ rfl
    rw [c_act13] at hcl
    simp [c_u8', c_int', c_texts] at g0 g1 g2 g3
    obtain ⟨a0, e0, _, w0⟩ := DataW.trod_int Tryz.underlying5 g0
    obtain ⟨la, l, c, e1, hv, hs⟩ := texts_in g1
    obtain ⟨a2, e2, _, w2⟩ := DataW.trod_int Tryz.underlying3 g2
    obtain ⟨a3, e3, _, w3⟩ := DataW.trod_int Tryz.underlying3 g3
    have q0 := one_at' (i := 0) (by simpa using e0)
    have q1 := one_at' (i := 1) (by simpa using e1)
    have q2 := one_at' (i := 2) (by simpa using e2)
    have q3 := one_at' (i := 3) (by simpa using e3)
    refine ⟨⟨a0, la, c, l, a2, a3⟩, ?_, hv, hs, wf_u8 w0, wf_i64 w2, wf_i64 w3⟩
    match cs, hcl with
    | [b0, b1, b2, b3], _ =>
      simp at q0 q1 q2 q3
      subst q0; subst q1; subst q2; subst q3
      rfl
set_option maxRecDepth 100000 in
theorem acts13_of {H : Type} {enc : TypeId × Value → H} {w : World} {base : Nat} {v : Value} {dd : DataW H} {p : List MemPlace} (hv : Value.okWide Tryz.prog w .any base 26 v) (h : DataW.Trod enc Tryz.prog w 0 (fun _ => true) true 26 v dd p) :
    ∃ (a : Option Addr) (A : List Act13) (c : Nat), v = .slice a A.length c ∧ A.length ≤ maxLen ∧ ActsAt w a A := by
  obtain ⟨a, len, cap, rfl, hl, hx⟩ := open_rows Tryz.underlying26 c_act13 (by omega) hv h
  obtain ⟨V, hV⟩ := Deep.choose_lt (α := Act13) (p := fun i y => ActAt w a i y) (n := len) (fun i hi => by
    obtain ⟨cs, m, x, _, he, ht⟩ := hx i hi
    obtain ⟨y, rfl, h1, h2, h3, h4, h5⟩ := act13_in ht
    exact ⟨y, he, h1, h2, h3, h4, h5⟩)
  have hlen : ((List.range len).map V).length = len := by rw [List.length_map, List.length_range]
  refine ⟨a, (List.range len).map V, cap, by rw [hlen], by rw [hlen]; exact hl, fun i x hi => ?_⟩
  have hlt : i < len := by have := (List.getElem?_eq_some_iff.1 hi).1; omega
  rw [List.getElem?_map, List.getElem?_range hlt] at hi
  simp only [Option.map_some, Option.some.injEq] at hi
  subst hi
  exact hV i hlt
end Go.Proofs.YtamdbaonmodnbaaGreatDoor

namespace Go.Proofs.YtamdbaonmodnbaaGreatDoor
open Go.RowKit

def GreatPost13 (w : World) (A : List Act13) (most : Nat) (e : Ending) (w' : World) : Prop := ∃ b, e = .returned (.bool b) ∧ (b = false → A.length ≤ most ∧ ∀ x ∈ A, x.l.length ≤ 20 ∧ ∀ p ∈ x.l, p.length ≤ 300) ∧ w = w'
theorem dec_gt {a b : Nat} (h : a < b) : decide ((a : Int) < (b : Int)) = true ∧ decide (a < b) = true := ⟨decide_eq_true (by omega), decide_eq_true h⟩
theorem dec_le {a b : Nat} (h : ¬ a < b) : decide ((a : Int) < (b : Int)) = false ∧ decide (a < b) = false := ⟨decide_eq_false (by omega), decide_eq_false h⟩
set_option maxRecDepth 100000 in
set_option maxHeartbeats 4000000 in
theorem great13 (w : World) (ad : Option Addr) (A : List Act13) (cap : Nat) (most : Nat) (hm : most ≤ 1000) (hl : A.length ≤ maxLen) (h : ActsAt w ad A) :
    Calls Tryz.prog 11 #[.slice ad A.length cap, .int .i64 (most : Int)] w (GreatPost13 w A most) := by
  have hl2 : A.length ≤ 9223372036854775807 := hl
  have HA := Lib.hid h
  clear h hl
  go_enter Tryz.func11, Tryz.ntmps11
  go_wp2_with fail
  go_loop [5] (fun x => ∃ i : Nat, i ≤ A.length ∧ x = .int .i64 (i : Int) ∧ Hid (∀ j y, A[j]? = some y → j < i → y.l.length ≤ 20 ∧ ∀ p ∈ y.l, p.length ≤ 300)) (fun x => A.length - (intOf x).toNat)
  case atStart => exact ⟨0, Nat.zero_le _, rfl, Lib.hid (fun j y _ hj => absurd hj (Nat.not_lt_zero _))⟩
  case round =>
    obtain ⟨i, hi, rfl, HS⟩ := hrel
    by_cases hlt : i < A.length
    · obtain ⟨y1, y2⟩ := dec_gt hlt
      obtain ⟨x, hx⟩ : ∃ x, A[i]? = some x := ⟨_, List.getElem?_eq_getElem hlt⟩
      have hact := HA.out i x hx
      obtain ⟨b, off, rfl, hb, hc⟩ := hact.cells
      have hcl : w.cell? ⟨b, off + i * 4 + 1, none⟩ = some (.slice x.la x.l.length x.c) := hc 1 _ rfl
      have HV := Lib.hid hact.view
      have HX := Lib.hid hx
      obtain ⟨xa, xl, xc, hxa, hxl, hxc⟩ : ∃ xa xl xc, xa = x.la ∧ xl = x.l ∧ xc = x.c := ⟨_, _, _, rfl, rfl, rfl⟩
      rw [← hxa, ← hxl, ← hxc] at hcl HV
      have HXL := Lib.hid hxl
      clear hact hc hb hx hxa hxl hxc
      by_cases h20 : 20 < xl.length
      · have z1 : decide ((20 : Int) < (xl.length : Int)) = true := (dec_gt h20).1
        have z2 : decide (20 < xl.length) = true := (dec_gt h20).2
        clear hi h20
        go_wp2_with fail
        go_ret
        exact ⟨true, rfl, (fun h => by cases h), rfl⟩
      · have z1 : decide ((20 : Int) < (xl.length : Int)) = false := (dec_le h20).1
        have z2 : decide (20 < xl.length) = false := (dec_le h20).2
        have H20 := Lib.hid h20
        have HI := Lib.hid (And.intro hi hlt)
        clear hi h20
        go_wp2_with fail
        go_loop [6] (fun x => ∃ k : Nat, k ≤ xl.length ∧ x = .int .i64 (k : Int) ∧ Hid (∀ j p, xl[j]? = some p → j < k → p.length ≤ 300)) (fun x => xl.length - (intOf x).toNat)
        case atStart => exact ⟨0, Nat.zero_le _, rfl, Lib.hid (fun j y _ hj => absurd hj (Nat.not_lt_zero _))⟩
        case round =>
          obtain ⟨k, hk, rfl, HS2⟩ := hrel
          by_cases hltk : k < xl.length
          · obtain ⟨t1, t2⟩ := dec_gt hltk
            obtain ⟨p, hp⟩ : ∃ p, xl[k]? = some p := ⟨_, List.getElem?_eq_getElem hltk⟩
            obtain ⟨g, o, rfl, hcc⟩ := view_text HV.out hp
            by_cases h3 : 300 < p.length
            · have s1 : decide ((300 : Int) < (p.length : Int)) = true := (dec_gt h3).1
              have s2 : decide (300 < p.length) = true := (dec_gt h3).2
              clear hp hk h3
              go_wp2_with fail
              go_ret
              exact ⟨true, rfl, (fun h => by cases h), rfl⟩
            · have s1 : decide ((300 : Int) < (p.length : Int)) = false := (dec_le h3).1
              have s2 : decide (300 < p.length) = false := (dec_le h3).2
              have HS3 : Hid (∀ j p, xl[j]? = some p → j < k + 1 → p.length ≤ 300) := by
                refine Lib.hid ?_
                intro j q hq hj
                rcases Nat.lt_or_ge j k with z | z
                · exact HS2.out j q hq z
                · obtain rfl : j = k := by omega
                  rw [hp] at hq
                  cases hq
                  omega
              have h20 := H20.out
              clear hp h3
              go_wp2_with fail
              go_round
              case rel => exact ⟨k + 1, hltk, by go_num, HS3⟩
              case measure => simp [intOf]; omega
          · obtain rfl : k = xl.length := by omega
            obtain ⟨t1, t2⟩ := dec_le hltk
            have HS3 : Hid (∀ j y, A[j]? = some y → j < i + 1 → y.l.length ≤ 20 ∧ ∀ p ∈ y.l, p.length ≤ 300) := by
              refine Lib.hid ?_
              intro j q hq hj
              rcases Nat.lt_or_ge j i with z | z
              · exact HS.out j q hq z
              · obtain rfl : j = i := by omega
                rw [HX.out] at hq
                cases hq
                refine ⟨by have := H20.out; rw [HXL.out] at this; omega, fun p hp => ?_⟩
                rw [← HXL.out] at hp
                obtain ⟨j, hj, e⟩ := List.getElem_of_mem hp
                exact HS2.out j p (by rw [List.getElem?_eq_getElem hj, e]) hj
            have hi2 := HI.out.2
            clear hk hltk
            go_wp2_with fail
            go_round
            case rel => exact ⟨i + 1, hi2, by go_num, HS3⟩
            case measure => simp [intOf]; omega
    · obtain rfl : i = A.length := by omega
      obtain ⟨y1, y2⟩ := dec_le hlt
      have hS : A.length ≤ most → ∀ x ∈ A, x.l.length ≤ 20 ∧ ∀ p ∈ x.l, p.length ≤ 300 := fun _ x hx => by
        obtain ⟨j, hj, e⟩ := List.getElem_of_mem hx
        exact HS.out j x (by rw [List.getElem?_eq_getElem hj, e]) hj
      have HF := Lib.hid hS
      clear hi hlt hS
      by_cases hmm : most < A.length
      · obtain ⟨t1, t2⟩ := dec_gt hmm
        clear hmm
        go_wp2_with fail
        go_ret
        exact ⟨true, rfl, (fun h => by cases h), rfl⟩
      · obtain ⟨t1, t2⟩ := dec_le hmm
        have HM := Lib.hid (Nat.le_of_not_lt hmm)
        clear hmm
        go_wp2_with fail
        go_ret
        exact ⟨false, rfl, (fun _ => ⟨HM.out, HF.out HM.out⟩), rfl⟩
end Go.Proofs.YtamdbaonmodnbaaGreatDoor

namespace Go.Proofs.YtamdbaonmodnbaaGreatDoor
open Go.RowKit

/-- Between two rounds of the law's loop. -/
def SNone (w : World) (v : Value) (n : Nat) (wr : World) : Prop := n ≤ 2 ∧ NoSeg wr v ∧ Kept (fun _ => False) w wr
theorem actsAt_one {w : World} {la : Option Addr} {l : List By} {c : Nat} (hl : View w 1 (.slice la l.length c) (strV l)) (hs : ∀ p ∈ l, p.length ≤ maxLen) :
    ActsAt (w.alloc (.cells #[.int .u8 0, .slice la l.length c, .int .i64 0, .int .i64 0] 25)) (some ⟨w.heap.size, 0, none⟩) [⟨0, la, c, l, 0, 0⟩] := by
  intro i x hx
  have hi : i < 1 := (List.getElem?_eq_some_iff.1 hx).1
  obtain rfl : i = 0 := by omega
  simp at hx
  subst hx
  have hb := Blk.new w [.int .u8 0, .slice la l.length c, .int .i64 0, .int .i64 0] 25
  refine ⟨⟨w.heap.size, 0, rfl, hb.lt, fun j v hv => ?_⟩, hl.alloc _ (by omega), hs, by show (0 : Int) ≤ 0 ∧ (0 : Int) ≤ 255; omega, by show -9223372036854775808 ≤ (0 : Int) ∧ (0 : Int) ≤ 9223372036854775807; omega, by show -9223372036854775808 ≤ (0 : Int) ∧ (0 : Int) ≤ 9223372036854775807; omega⟩
  simpa using hb.cell hv
set_option maxRecDepth 100000 in
set_option maxHeartbeats 4000000 in
theorem segmentsNone_walk0 (w : World) (ht : Tab w) (la : Option Addr) (l : List By) (c : Nat) (hl : View w 1 (.slice la l.length c) (strV l)) (hs : ∀ p ∈ l, p.length ≤ maxLen) (n : Int) :
    Calls Tryz.prog 3 #[.slice la l.length c, .int .i64 n] w fun e w' => e = .returned (.bool true) ∧ Kept (fun _ => False) w w' := by
  have HT := Lib.hid ht
  have hgr := great13 _ (some ⟨w.heap.size, 0, none⟩) [⟨0, la, c, l, 0, 0⟩] 1 1 (by omega) (by unfold maxLen; simp) (actsAt_one hl hs)
  have HLD := Lib.hid (fun w1 (hk : Kept (fun _ => False) w w1) => laid_any w1 (HT.out.same hk))
  have k0 := Lib.hid ((Kept.refl (fun _ => False) w).alloc (.cells #[.int .u8 0, .slice la l.length c, .int .i64 0, .int .i64 0] 25))
  clear ht hl hs
  go_enter Tryz.func3, Tryz.ntmps3
  go_upto_if 21 with (go_at_call 11; refine hgr.mono ?_; rintro e w' ⟨b, rfl, _, rfl⟩)
  generalize hW : World.alloc w _ = W at *
  have hR0 := Lib.hid (show SNone w (.pointer none) 0 W from ⟨by omega, Or.inl rfl, k0.out⟩)
  clear hgr
  cases b
  · go_wp2_with fail
    go_loopw [5, 6] (fun v i wr => ∃ (u : Value) (k : Nat), u = v ∧ i = .int .i64 (k : Int) ∧ Hid (SNone w u k wr)) (fun _ i _ => 2 - (intOf i).toNat)
    case atStart => exact ⟨_, 0, rfl, rfl, hR0⟩
    case round =>
      obtain ⟨v, k, hvv, rfl, HS⟩ := hrel
      subst hvv
      have hn := HS.out.1
      rcases Nat.lt_or_ge k 2 with hlt | hge
      · have hx : decide ((k : Int) < 2) = true := decide_eq_true (by omega)
        have hget := noseg_get wr v n n HS.out.2.1
        have happ := noseg_append wr v la l.length c HS.out.2.1
        have hcut := noseg_cut wr v n HS.out.2.1
        have HC := Lib.hid (fun w1 (hk : Kept (fun _ => False) wr w1) => noseg_count w1 v (HS.out.2.1.kept hk))
        clear hn
        go_wp2_with (first
          | (go_at_call 13; refine hget.mono ?_; rintro e w' ⟨rfl, rfl⟩)
          | (go_at_call 14; refine happ.mono ?_; rintro e w' ⟨rfl, rfl⟩)
          | (go_at_call 15; refine hcut.mono ?_; rintro e w3 ⟨rfl, hk3⟩; have HK3 := Lib.hid hk3; clear hk3)
          | (go_at_call 16; refine (HC.out _ HK3.out).mono ?_; rintro e w' ⟨rfl, rfl⟩))
        go_roundw
        case rel => exact ⟨_, k + 1, rfl, by go_num, Lib.hid ⟨by omega, Or.inr ⟨_, rfl, (Blk.new w3 [.pointer none, .slice none 0 0, .slice none 0 0, .int .i64 0, .bool false] 38).cell (i := 0) rfl, (Blk.new w3 [.pointer none, .slice none 0 0, .slice none 0 0, .int .i64 0, .bool false] 38).cell (i := 1) rfl⟩, (HS.out.2.2.trans HK3.out).trans ((Kept.refl _ _).alloc _)⟩⟩
        case measure => simp [intOf]; omega
      · have hx : decide ((k : Int) < 2) = false := decide_eq_false (by omega)
        have hK := HS.out.2.2
        have HKK := Lib.hid hK
        clear hK hge hn
        obtain ⟨M', hM', hdn, hcnt⟩ : ∃ M', (DiskM.new 100).crashR 0 = (0, M') ∧ M'.openS = (61, [], M') ∧ M'.files.length + M'.loose.length < 100000000 := ⟨(DiskM.new 100).crash 0, rfl, rfl, by show 0 + 0 < 100000000; omega⟩
        have HM := Lib.hid (And.intro hM' (And.intro hdn hcnt))
        clear hM' hdn hcnt
        go_wp2_with (first
          | (go_at_call 17; refine (new_ok _ 100 (by omega) (by omega)).mono ?_; rintro e w1 hnew; obtain ⟨d, rfl, hA1, k1⟩ := Apart.made _ hnew; have HD1 := Lib.hid (Fr.made hA1 (HT.out.same HKK.out) k1); have hop1 := segOpen_no w1 (.pointer none) (Or.inl rfl); clear hnew hA1 k1)
          | (go_at_call 18; refine hop1.mono ?_; clear hop1; rintro e w2 ⟨rfl, hk2⟩; have HD2 := Lib.hid (HD1.out.same hk2); clear hk2; have hb := (Blk.new w2 [.map none, .slice none 0 0, .int .i64 0, .bool false, .int .i64 0, .bool false, .int .i64 0, .int .i64 0] 46).cell (i := 0) rfl; have hop2 := segOpen_no (w2.alloc (.cells #[.map none, .slice none 0 0, .int .i64 0, .bool false, .int .i64 0, .bool false, .int .i64 0, .int .i64 0] 46)) (.pointer (some ⟨w2.heap.size, 0, none⟩)) (Or.inr ⟨_, rfl, hb⟩); clear hb)
          | (go_at_call 18; refine hop2.mono ?_; clear hop2; rintro e w3 ⟨rfl, hk3⟩; have HD3 := Lib.hid (HD2.out.same (((Kept.refl _ _).alloc _).trans hk3)); clear hk3; have hcr := HD3.out.crash 0 (by omega) HM.out.1)
          | (go_at_call 19; refine hcr.mono ?_; clear hcr; rintro e w4 ⟨rfl, hd4⟩; have HD4 := Lib.hid hd4; clear hd4; have hop3 := HD4.out.opens HM.out.2.2; rw [HM.out.2.1] at hop3)
          | (go_at_call 18; refine hop3.mono ?_; clear hop3; intro e w5 ho; obtain ⟨rfl, hd5⟩ := (ho.elim (fun q => ⟨q.2.1, q.2.2⟩) (fun q => absurd q.1 (show ¬ (61 : Int) = 0 by decide)) : e = .returned (.tuple #[.pointer none, .int .i64 61]) ∧ Dn wr w5 d M' []); have HD5 := Lib.hid hd5; clear ho hd5; have hld := HLD.out w5 (HKK.out.trans HD5.out.old))
          | (go_at_call 12; refine hld.mono ?_; rintro e w6 ⟨rfl, hk6⟩))
        go_ret
        exact ⟨rfl, (HKK.out.trans HD5.out.old).trans hk6⟩
  · have hld := HLD.out W k0.out
    go_wp2_with (go_at_call 12; refine hld.mono ?_; rintro e w1 ⟨rfl, hk1⟩)
    go_ret
    exact ⟨rfl, k0.out.trans hk1⟩
open Go.WideShapes Go.ChangeShapes Go.Joins in
set_option maxRecDepth 100000 in
theorem segmentsNone_walk (v : Value) (n : Int) (W : World) (ht : Tab W) {base : Nat} {H : Type} {enc : TypeId × Value → H} {dd : DataW H} {pp : List MemPlace} (hv : Value.okWide Tryz.prog W .any base 22 v) (h : DataW.Trod enc Tryz.prog W 0 (fun _ => true) true 22 v dd pp) (_hn : (Lit.int .i64 n).wf = true) :
    Calls Tryz.prog 3 #[v, .int .i64 n] W fun e w' => e = .returned (.bool true) ∧ Below W.heap.size W w' := by
  obtain ⟨a, l, c, rfl, h1, h2⟩ := texts_of h (okWide_slice Tryz.underlying22 hv)
  exact (segmentsNone_walk0 W ht a l c h1 h2 n).mono (fun e w' ⟨he, hk⟩ => ⟨he, hk.below (fun _ _ => id) (Nat.le_refl _)⟩)
end Go.Proofs.YtamdbaonmodnbaaGreatDoor
