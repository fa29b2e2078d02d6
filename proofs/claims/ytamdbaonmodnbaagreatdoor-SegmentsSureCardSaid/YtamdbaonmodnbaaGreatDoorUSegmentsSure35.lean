/- Arguments that are texts, or acts of chapter 13: what the walk is told of them; Great. Package speculumlaw13: Great. The law SegmentsSure: what an act leaves. The law SegmentsSure: an act is done. The law SegmentsSure: the disk is started. The law SegmentsSure, walked. -/
import Derived.Test.YtamdbaonmodnbaaGreatDoorUSegmentsSure33
import Derived.Test.YtamdbaonmodnbaaGreatDoorUSegmentsSure34
import Derived.Test.YtamdbaonmodnbaaGreatDoorUSegmentsSure02
set_option linter.unusedVariables false
set_option linter.unusedSimpArgs false
namespace Go.Proofs.YtamdbaonmodnbaaGreatDoor
open Go.RowKit Go.WideShapes Go.ChangeShapes Go.Joins

theorem c_str13 : Tryz.prog.cellsOf 9 = 1 := by kernel_rfl
/-- The bytes of a text. -/
def bytesOf : Value → By
  | .string s => s.data.toList
  | _ => []
theorem texts_in {H : Type} {enc : TypeId × Value → H} {W : World} {base : Nat} {hd : Bool} {fuel : Nat} {cs : List Value} {x : DataW H × List MemPlace}
    (h : DataW.trod enc Tryz.prog W base (fun _ => true) hd fuel 22 cs = some x) : ∃ (a : Option Addr) (l : List By) (c : Nat), cs = [.slice a l.length c] ∧ View W 1 (.slice a l.length c) (strV l) ∧ ∀ p ∈ l, p.length ≤ maxLen := by
  rcases Deep.open_slice1 Tryz.underlying22 c_str13 h with ⟨rfl, _⟩ | ⟨a, len, cap, m, n, V, D, Pl, rfl, _, hl, hm, hmm, _, hx⟩
  · exact ⟨none, [], 0, rfl, View.nil W 1, fun p hp => by cases hp⟩
  · simp only [if_true] at hmm
    subst hmm
    have hs : ∀ i, i < m → ∃ s, V i = .string s ∧ s.size ≤ maxLen := fun i hi => by
      obtain ⟨s, e, _, w0⟩ := DataW.trod_string Tryz.underlying9 (hx i hi).2
      exact ⟨s, by simpa using e, w0⟩
    have hlen : ((List.range len).map fun i => bytesOf (V i)).length = len := by rw [List.length_map, List.length_range]
    have hg : ∀ j u, (strV ((List.range len).map fun i => bytesOf (V i)))[j]? = some u → j < len ∧ u = V j := by
      intro j u hu
      unfold strV at hu
      rw [List.getElem?_map, List.getElem?_map] at hu
      rcases Nat.lt_or_ge j len with q | q
      · rw [List.getElem?_range q] at hu
        simp only [Option.map_some, Option.some.injEq] at hu
        obtain ⟨s, e, _⟩ := hs j (by omega)
        rw [e] at hu ⊢
        subst hu
        exact ⟨q, by simp [bytesOf]⟩
      · rw [List.getElem?_eq_none (by rw [List.length_range]; exact q)] at hu
        cases hu
    refine ⟨some a, (List.range len).map fun i => bytesOf (V i), m, by rw [hlen], ?_, ?_⟩
    · rw [hlen]
      have sp : 0 < m → a.spot = none := fun h0 => by
        have := World.cell?_spot (hx 0 h0).1
        simpa [Addr.add] using this
      refine ⟨some a, len, m, rfl, by rw [strV_len, hlen, Nat.mul_one], hl, hm, fun h0 => ?_, fun h0 => ?_⟩
      · have := sp h0
        obtain ⟨b, o, s⟩ := a
        simp only at this
        subst this
        exact ⟨b, o, rfl⟩
      · have := sp (by omega)
        obtain ⟨b, o, s⟩ := a
        simp only at this
        subst this
        refine ⟨b, o, rfl, ?_, fun j u hu => ?_⟩
        · exact World.block_lt_of_cell? W _ (hx 0 (by omega)).1
        · obtain ⟨hj, rfl⟩ := hg j u hu
          have := (hx j (by omega)).1
          rwa [addr_add _ rfl] at this
    · intro p hp
      obtain ⟨i, hi, rfl⟩ := List.mem_map.1 hp
      obtain ⟨s, e, hz⟩ := hs i (by have := List.mem_range.1 hi; omega)
      rw [e]
      show s.data.toList.length ≤ _
      simpa using hz
/-- Texts that came in. -/
theorem texts_of {H : Type} {enc : TypeId × Value → H} {w : World} {v : Value} {dd : DataW H} {p : List MemPlace} (h : DataW.Trod enc Tryz.prog w 0 (fun _ => true) true 22 v dd p) (hv : ∃ a n c, v = .slice a n c) :
    ∃ (a : Option Addr) (l : List By) (c : Nat), v = .slice a l.length c ∧ View w 1 (.slice a l.length c) (strV l) ∧ ∀ p ∈ l, p.length ≤ maxLen := by
  obtain ⟨fuel, hf⟩ := h
  obtain ⟨a, l, c, e, h1, h2⟩ := texts_in hf
  obtain ⟨a', n', c', rfl⟩ := hv
  simp [Value.cells] at e
  obtain ⟨rfl, rfl, rfl⟩ := e
  exact ⟨_, l, _, rfl, h1, h2⟩
/-- An act of chapter 13. -/
structure Act13 where
  k : Int
  la : Option Addr
  c : Nat
  l : List By
  N : Int
  M : Int
instance : Inhabited Act13 := ⟨⟨0, none, 0, [], 0, 0⟩⟩
/-- It lies at that place. -/
structure ActAt (w : World) (ad : Option Addr) (i : Nat) (x : Act13) : Prop where
  cells : ElemAt w ad 4 i [.int .u8 x.k, .slice x.la x.l.length x.c, .int .i64 x.N, .int .i64 x.M]
  view : View w 1 (.slice x.la x.l.length x.c) (strV x.l)
  size : ∀ p ∈ x.l, p.length ≤ maxLen
  k0 : 0 ≤ x.k ∧ x.k ≤ 255
  n0 : -9223372036854775808 ≤ x.N ∧ x.N ≤ 9223372036854775807
  m0 : -9223372036854775808 ≤ x.M ∧ x.M ≤ 9223372036854775807
def ActsAt (w : World) (ad : Option Addr) (A : List Act13) : Prop := ∀ i x, A[i]? = some x → ActAt w ad i x
theorem c_act13 : Tryz.prog.cellsOf 25 = 4 := by kernel_rfl
theorem c_u8' : Tryz.prog.cellsOf 5 = 1 := by kernel_rfl
theorem c_int' : Tryz.prog.cellsOf 3 = 1 := by kernel_rfl
theorem c_texts : Tryz.prog.cellsOf 22 = 1 := by kernel_rfl
theorem one_at' {cs : List Value} {v : Value} {i : Nat} (h : (cs.drop i).take 1 = [v]) : cs[i]? = some v := by
  have e5 := congrArg (·[0]?) h
  simpa [List.getElem?_take, List.getElem?_drop] using e5
set_option maxRecDepth 100000 in
theorem act13_in {H : Type} {enc : TypeId × Value → H} {W : World} {base : Nat} {hd : Bool} {fuel : Nat} {cs : List Value} {x : DataW H × List MemPlace}
    (h : DataW.trod enc Tryz.prog W base (fun _ => true) hd fuel 25 cs = some x) : ∃ y : Act13, cs = [.int .u8 y.k, .slice y.la y.l.length y.c, .int .i64 y.N, .int .i64 y.M] ∧ View W 1 (.slice y.la y.l.length y.c) (strV y.l) ∧ (∀ p ∈ y.l, p.length ≤ maxLen) ∧ (0 ≤ y.k ∧ y.k ≤ 255) ∧ (-9223372036854775808 ≤ y.N ∧ y.N ≤ 9223372036854775807) ∧ (-9223372036854775808 ≤ y.M ∧ y.M ≤ 9223372036854775807) := by
  obtain ⟨xs, n, _, _, hcl, hl, hg⟩ := DataW.trod_struct Tryz.underlying25 h
  match xs, hl with
  | [y0, y1, y2, y3], _ =>
    have g0 := hg 0 _ rfl
    have g1 := hg 1 _ rfl
    have g2 := hg 2 _ rfl
    have g3 := hg 3 _ rfl
    rw [c_act13] at hcl
    simp [c_u8', c_int', c_texts] at g0 g1 g2 g3
    obtain ⟨a0, e0, _, w0⟩ := DataW.trod_int Tryz.underlying5 g0
    obtain ⟨la, l, c, e1, hv, hs⟩ := texts_in g1
    obtain ⟨a2, e2, _, w2⟩ := DataW.trod_int Tryz.underlying3 g2
    obtain ⟨a3, e3, _, w3⟩ := DataW.trod_int Tryz.underlying3 g3
    have q0 := one_at' (i := 0) (by simpa using e0)
    have q1 := one_at' (i := 1) (by simpa using e1)
    have q2 := one_at' (i := 2) (by simpa using e2)
    have q3 := one_at' (i := 3) (by simpa using e3)
    refine ⟨⟨a0, la, c, l, a2, a3⟩, ?_, hv, hs, wf_u8 w0, wf_i64 w2, wf_i64 w3⟩
    match cs, hcl with
    | [b0, b1, b2, b3], _ =>
      simp at q0 q1 q2 q3
      subst q0; subst q1; subst q2; subst q3
      rfl
set_option maxRecDepth 100000 in
theorem acts13_of {H : Type} {enc : TypeId × Value → H} {w : World} {base : Nat} {v : Value} {dd : DataW H} {p : List MemPlace} (hv : Value.okWide Tryz.prog w .any base 26 v) (h : DataW.Trod enc Tryz.prog w 0 (fun _ => true) true 26 v dd p) :
    ∃ (a : Option Addr) (A : List Act13) (c : Nat), v = .slice a A.length c ∧ A.length ≤ maxLen ∧ ActsAt w a A := by
  obtain ⟨a, len, cap, rfl, hl, hx⟩ := open_rows Tryz.underlying26 c_act13 (by omega) hv h
  obtain ⟨V, hV⟩ := Deep.choose_lt (α := Act13) (p := fun i y => ActAt w a i y) (n := len) (fun i hi => by
    obtain ⟨cs, m, x, _, he, ht⟩ := hx i hi
    obtain ⟨y, rfl, h1, h2, h3, h4, h5⟩ := act13_in ht
    exact ⟨y, he, h1, h2, h3, h4, h5⟩)
  have hlen : ((List.range len).map V).length = len := by rw [List.length_map, List.length_range]
  refine ⟨a, (List.range len).map V, cap, by rw [hlen], by rw [hlen]; exact hl, fun i x hi => ?_⟩
  have hlt : i < len := by have := (List.getElem?_eq_some_iff.1 hi).1; omega
  rw [List.getElem?_map, List.getElem?_range hlt] at hi
  simp only [Option.map_some, Option.some.injEq] at hi
  subst hi
  exact hV i hlt
end Go.Proofs.YtamdbaonmodnbaaGreatDoor

namespace Go.Proofs.YtamdbaonmodnbaaGreatDoor
open Go.RowKit

def GreatPost13 (w : World) (A : List Act13) (most : Nat) (e : Ending) (w' : World) : Prop := ∃ b, e = .returned (.bool b) ∧ (b = false → A.length ≤ most ∧ ∀ x ∈ A, x.l.length ≤ 20 ∧ ∀ p ∈ x.l, p.length ≤ 300) ∧ w = w'
theorem dec_gt {a b : Nat} (h : a < b) : decide ((a : Int) < (b : Int)) = true ∧ decide (a < b) = true := ⟨decide_eq_true (by omega), decide_eq_true h⟩
theorem dec_le {a b : Nat} (h : ¬ a < b) : decide ((a : Int) < (b : Int)) = false ∧ decide (a < b) = false := ⟨decide_eq_false (by omega), decide_eq_false h⟩
set_option maxRecDepth 100000 in
set_option maxHeartbeats 4000000 in
theorem great13 (w : World) (ad : Option Addr) (A : List Act13) (cap : Nat) (most : Nat) (hm : most ≤ 1000) (hl : A.length ≤ maxLen) (h : ActsAt w ad A) :
    Calls Tryz.prog 11 #[.slice ad A.length cap, .int .i64 (most : Int)] w (GreatPost13 w A most) := by
  have hl2 : A.length ≤ 9223372036854775807 := hl
  have HA := Lib.hid h
  clear h hl
  go_enter Tryz.func11, Tryz.ntmps11
  go_wp2_with fail
  go_loop [5] (fun x => ∃ i : Nat, i ≤ A.length ∧ x = .int .i64 (i : Int) ∧ Hid (∀ j y, A[j]? = some y → j < i → y.l.length ≤ 20 ∧ ∀ p ∈ y.l, p.length ≤ 300)) (fun x => A.length - (intOf x).toNat)
  case atStart => exact ⟨0, Nat.zero_le _, rfl, Lib.hid (fun j y _ hj => absurd hj (Nat.not_lt_zero _))⟩
  case round =>
    obtain ⟨i, hi, rfl, HS⟩ := hrel
    by_cases hlt : i < A.length
    · obtain ⟨y1, y2⟩ := dec_gt hlt
      obtain ⟨x, hx⟩ : ∃ x, A[i]? = some x := ⟨_, List.getElem?_eq_getElem hlt⟩
      have hact := HA.out i x hx
      obtain ⟨b, off, rfl, hb, hc⟩ := hact.cells
      have hcl : w.cell? ⟨b, off + i * 4 + 1, none⟩ = some (.slice x.la x.l.length x.c) := hc 1 _ rfl
      have HV := Lib.hid hact.view
      have HX := Lib.hid hx
      obtain ⟨xa, xl, xc, hxa, hxl, hxc⟩ : ∃ xa xl xc, xa = x.la ∧ xl = x.l ∧ xc = x.c := ⟨_, _, _, rfl, rfl, rfl⟩
      rw [← hxa, ← hxl, ← hxc] at hcl HV
      have HXL := Lib.hid hxl
      clear hact hc hb hx hxa hxl hxc
      by_cases h20 : 20 < xl.length
      · have z1 : decide ((20 : Int) < (xl.length : Int)) = true := (dec_gt h20).1
        have z2 : decide (20 < xl.length) = true := (dec_gt h20).2
        clear hi h20
        go_wp2_with fail
        go_ret
        exact ⟨true, rfl, (fun h => by cases h), rfl⟩
      · have z1 : decide ((20 : Int) < (xl.length : Int)) = false := (dec_le h20).1
        have z2 : decide (20 < xl.length) = false := (dec_le h20).2
        have H20 := Lib.hid h20
        have HI := Lib.hid (And.intro hi hlt)
        clear hi h20
        go_wp2_with fail
        go_loop [6] (fun x => ∃ k : Nat, k ≤ xl.length ∧ x = .int .i64 (k : Int) ∧ Hid (∀ j p, xl[j]? = some p → j < k → p.length ≤ 300)) (fun x => xl.length - (intOf x).toNat)
        case atStart => exact ⟨0, Nat.zero_le _, rfl, Lib.hid (fun j y _ hj => absurd hj (Nat.not_lt_zero _))⟩
        case round =>
          obtain ⟨k, hk, rfl, HS2⟩ := hrel
          by_cases hltk : k < xl.length
          · obtain ⟨t1, t2⟩ := dec_gt hltk
            obtain ⟨p, hp⟩ : ∃ p, xl[k]? = some p := ⟨_, List.getElem?_eq_getElem hltk⟩
            obtain ⟨g, o, rfl, hcc⟩ := view_text HV.out hp
            by_cases h3 : 300 < p.length
            · have s1 : decide ((300 : Int) < (p.length : Int)) = true := (dec_gt h3).1
              have s2 : decide (300 < p.length) = true := (dec_gt h3).2
              clear hp hk h3
              go_wp2_with fail
              go_ret
              exact ⟨true, rfl, (fun h => by cases h), rfl⟩
            · have s1 : decide ((300 : Int) < (p.length : Int)) = false := (dec_le h3).1
              have s2 : decide (300 < p.length) = false := (dec_le h3).2
              have HS3 : Hid (∀ j p, xl[j]? = some p → j < k + 1 → p.length ≤ 300) := by
                refine Lib.hid ?_
                intro j q hq hj
                rcases Nat.lt_or_ge j k with z | z
                · exact HS2.out j q hq z
                · obtain rfl : j = k := by omega
                  rw [hp] at hq
                  cases hq
                  omega
              have h20 := H20.out
              clear hp h3
              go_wp2_with fail
              go_round
              case rel => exact ⟨k + 1, hltk, by go_num, HS3⟩
              case measure => simp [intOf]; omega
          · obtain rfl : k = xl.length := by omega
            obtain ⟨t1, t2⟩ := dec_le hltk
            have HS3 : Hid (∀ j y, A[j]? = some y → j < i + 1 → y.l.length ≤ 20 ∧ ∀ p ∈ y.l, p.length ≤ 300) := by
              refine Lib.hid ?_
              intro j q hq hj
              rcases Nat.lt_or_ge j i with z | z
              · exact HS.out j q hq z
              · obtain rfl : j = i := by omega
                rw [HX.out] at hq
                cases hq
                refine ⟨by have := H20.out; rw [HXL.out] at this; omega, fun p hp => ?_⟩
                rw [← HXL.out] at hp
                obtain ⟨j, hj, e⟩ := List.getElem_of_mem hp
                exact HS2.out j p (by rw [List.getElem?_eq_getElem hj, e]) hj
            have hi2 := HI.out.2
            clear hk hltk
            go_wp2_with fail
            go_round
            case rel => exact ⟨i + 1, hi2, by go_num, HS3⟩
            case measure => simp [intOf]; omega
    · obtain rfl : i = A.length := by omega
      obtain ⟨y1, y2⟩ := dec_le hlt
      have hS : A.length ≤ most → ∀ x ∈ A, x.l.length ≤ 20 ∧ ∀ p ∈ x.l, p.length ≤ 300 := fun _ x hx => by
        obtain ⟨j, hj, e⟩ := List.getElem_of_mem hx
        exact HS.out j x (by rw [List.getElem?_eq_getElem hj, e]) hj
      have HF := Lib.hid hS
      clear hi hlt hS
      by_cases hmm : most < A.length
      · obtain ⟨t1, t2⟩ := dec_gt hmm
        clear hmm
        go_wp2_with fail
        go_ret
        exact ⟨true, rfl, (fun h => by cases h), rfl⟩
      · obtain ⟨t1, t2⟩ := dec_le hmm
        have HM := Lib.hid (Nat.le_of_not_lt hmm)
        clear hmm
        go_wp2_with fail
        go_ret
        exact ⟨false, rfl, (fun _ => ⟨HM.out, HF.out HM.out⟩), rfl⟩
end Go.Proofs.YtamdbaonmodnbaaGreatDoor

namespace Go.Proofs.YtamdbaonmodnbaaGreatDoor
open Go.RowKit

section
variable {w0 w w' : World} {d s xb : Nat} {M M' : DiskM} {E L l : List By} {st : Int} {X : Nat} {fl : Bool} {sv av : Value} {bx : Tx} {g : Int} {m2 N : Nat} {G : SegM}
theorem UpT.mono {Y : Nat} (h : UpT M E st X fl) (hXY : X ≤ Y) : UpT M E st Y fl := by obtain ⟨F, h1, h2, h3⟩ := h; exact ⟨F, h1, h2, by omega⟩
theorem DnT.mono {Y : Nat} (h : DnT M E L st X) (hXY : X ≤ Y) : DnT M E L st Y := by obtain ⟨j, F, h1, h2, h3, h4⟩ := h; exact ⟨j, F, h1, h2, by omega, h4⟩
/-- What an act leaves: also holds E ++ L. -/
def SureQ (w0 w' : World) (d s : Nat) (E : List By) (st : Int) (X : Nat) (sv : Value) (bx : Tx) (av : Value) (m2 : Nat) (g : Int) : Prop :=
  ∃ L : List By, L.length ≤ 20 ∧ m2 = E.length + L.length ∧
    ((∃ M fl, g = 0 ∧ UpT M (E ++ L) st (X + 4240) fl ∧ Up w0 w' d s ⟨E ++ L, st, false⟩ M [.row av (E ++ L), .row sv E, bx]) ∨
     (∃ M fl, g = 3 ∧ UpT M E st (X + 4240) fl ∧ Up w0 w' d s ⟨E, st, false⟩ M [.row av (E ++ L), .row sv E, bx]) ∨
     (∃ M, (g = 61 ∨ (g = 0 ∧ L = [])) ∧ DnT M E L st (X + 4240) ∧ Dn w0 w' d M [.row av (E ++ L), .row sv E, bx]))
theorem Up.twice (h : Up w0 w d s G M [.row sv E, bx]) : Up w0 w d s G M [.row sv (E ++ []), .row sv E, bx] := by
  rw [List.append_nil]
  exact h.fewer (fun x hx => by
    simp only [List.mem_cons, List.not_mem_nil, or_false] at hx ⊢
    rcases hx with rfl | rfl | rfl <;> simp)
theorem sure_still (hT : UpT M E st X fl) (hU : Up w0 w d s ⟨E, st, false⟩ M [.row sv E, bx]) : SureQ w0 w d s E st X sv bx sv E.length 0 :=
  ⟨[], by simp, by simp, Or.inl ⟨M, fl, rfl, by rw [List.append_nil]; exact hT.mono (by omega), by have := hU.twice; rwa [List.append_nil] at this ⊢⟩⟩
theorem sure_crash (hT : DnT M E [] st X) (hU : Up w0 w d s ⟨E, st, false⟩ M [.row sv E, bx]) : SureQ w0 w d s E st X sv bx sv E.length 0 :=
  ⟨[], by simp, by simp, Or.inr (Or.inr ⟨M, Or.inr ⟨rfl, rfl⟩, hT.mono (by omega), hU.twice.dn⟩)⟩
theorem sure_cat {sa la : Option Addr} {sc lc : Nat} {c : List Value} {t : TypeId} (hs : Row w 9 1 (.slice sa E.length sc) (strV E)) (hl : View w 1 (.slice la l.length lc) (strV l)) (hb : Blk w xb c t) (hc : c[1]? = some (.slice la l.length lc)) (hN : N = E.length + l.length) (hn : N ≤ 100000) :
    ∃ (a1 : Option Addr) (n1 c1 : Nat) (w1 : World) (a2 : Option Addr) (c2 : Nat) (w2 : World), (Builtin.append_ #[22, 22] 22 #[.slice none 0 0, .slice sa E.length sc]).run Tryz.prog w.drew = .ok (.slice a1 n1 c1) w1 ∧ (Builtin.append_ #[22, 22] 22 #[.slice a1 n1 c1, .slice la l.length lc]).run Tryz.prog w1 = .ok (.slice a2 N c2) w2 ∧
      w.drew.cell? ⟨xb, 1, none⟩ = some (.slice la l.length lc) ∧ w1.cell? ⟨xb, 1, none⟩ = some (.slice la l.length lc) ∧ w2.cell? ⟨xb, 1, none⟩ = some (.slice la l.length lc) ∧
      Hid (Row w2 9 1 (.slice a2 N c2) (strV (E ++ l)) ∧ Kept (fun _ => False) w w2 ∧ ∀ k, (Value.slice a2 N c2).ownBlock = some k → w.heap.size ≤ k) := by
  have kd : Kept (fun _ => False) w w.drew := (Kept.refl _ _).drew
  obtain ⟨a1, n1, c1, w1, a2, c2, w2, r1, r2, k1, H⟩ := cat_str2 (hs.kept kd (fun _ _ => id)).view (hl.same kd (by omega)) hN (by omega)
  exact ⟨a1, n1, c1, w1, a2, c2, w2, r1, r2, (hb.kept kd id).cell hc, ((hb.kept kd id).kept k1 id).cell hc, ((hb.kept kd id).kept H.out.2.1 id).cell hc, Lib.hid ⟨H.out.1, kd.trans H.out.2.1, H.out.2.2⟩⟩
theorem and15 (x : Int) : ∃ q : Int, bits .and .i64 x 15 = q ∧ wrap64 q = q ∧ (0 ≤ q ∧ q ≤ 9223372036854775807) := ⟨x % 16, i64_mask15 x, IntWalk.wrap64_in _ (by omega), by omega⟩
theorem and3 (x : Int) : ∃ q : Int, bits .and .i64 x 3 = q ∧ wrap64 q = q ∧ (0 ≤ q ∧ q ≤ 9223372036854775807) := ⟨x % 4, i64_mask 2 (by decide) x, IntWalk.wrap64_in _ (by omega), by omega⟩
/-- What is there when the disk was started, and opened. -/
def SureE (w0 w' : World) (d t : Nat) (e0 : Nat) (st : Int) (X : Nat) (v : Value) (n : Nat) : Prop :=
  ∃ M E' st' fl, n = E'.length ∧ E'.length ≤ e0 + 20 ∧ (st ≤ st' ∧ st' ≤ st + 20) ∧ UpT M E' st' X fl ∧ Up w0 w' d t ⟨E', st', false⟩ M [.row v E']
/-- In the midst of starting it. -/
def SureL (w0 wr : World) (d : Nat) (E L : List By) (st : Int) (X : Nat) (Rs : List Tx) (v5 v7 x5 x7 : Value) (n : Nat) : Prop :=
  (n ≤ 3 ∧ x5 = v5 ∧ x7 = v7 ∧ ∃ M, DnT M E L (st + (n : Int)) X ∧ Dn w0 wr d M Rs) ∨ (n ≤ 4 ∧ ∃ t a7 n7 c7, x5 = .pointer (some ⟨t, 0, none⟩) ∧ x7 = .slice a7 n7 c7 ∧ SureE w0 wr d t E.length st X x7 n7)
theorem get_all {e : Ending} (h : SegGet w E 0 (E.length : Int) e w') (hE : E.length ≤ 4096) : ∃ x m c, e = .returned (.tuple #[.slice x m c, .int .i64 0]) ∧ m = E.length ∧ Row w' 9 1 (.slice x m c) (strV E) ∧ Kept (fun _ => False) w w' ∧ ∀ k, (Value.slice x m c).ownBlock = some k → w.heap.size ≤ k := by
  rcases h with ⟨hq, _⟩ | ⟨i, k, e1, e2, hle, x, m, c, he, hrow, hk, ho⟩
  · omega
  · obtain rfl : i = 0 := by omega
    obtain rfl : k = E.length := by omega
    rw [List.drop_zero, List.take_length] at hrow
    exact ⟨x, m, c, he, (view_len hrow.view).1, hrow, hk, ho⟩
theorem sure_lens {E2 : List By} {j : Nat} (h1 : E2.length = E.length + j) (h2 : m2 = E.length + L.length ∧ j ≤ L.length ∧ L.length ≤ 20) : decide ((E2.length : Int) < (E.length : Int)) = false ∧ decide (E2.length < E.length) = false ∧ decide ((m2 : Int) < (E2.length : Int)) = false ∧ decide (m2 < E2.length) = false :=
  ⟨decide_eq_false (by omega), decide_eq_false (by omega), decide_eq_false (by omega), decide_eq_false (by omega)⟩
theorem open_up {Rs : List Tx} {y : Int × List By × DiskM} {e : Ending} (h : OpenSt w0 d Rs st y e w') (h0 : y.1 = 0) (h1 : y.2.1 = E) : ∃ t, e = .returned (.tuple #[.pointer (some ⟨t, 0, none⟩), .int .i64 0]) ∧ Up w0 w' d t ⟨E, st, false⟩ y.2.2 Rs := by
  rcases h with ⟨q, _⟩ | ⟨_, t, he, hU⟩
  · exact absurd h0 q
  · rw [h1] at hU
    exact ⟨t, he, hU⟩
theorem open_dn {Rs : List Tx} {y : Int × List By × DiskM} {e : Ending} (h : OpenSt w0 d Rs st y e w') (h0 : y.1 = 61) : e = .returned (.tuple #[.pointer none, .int .i64 61]) ∧ Dn w0 w' d y.2.2 Rs := by
  rcases h with ⟨_, he, hD⟩ | ⟨q, _⟩
  · rw [h0] at he
    exact ⟨he, hD⟩
  · rw [h0] at q
    cases q
end
end Go.Proofs.YtamdbaonmodnbaaGreatDoor

namespace Go.Proofs.YtamdbaonmodnbaaGreatDoor
open Go.RowKit

set_option maxRecDepth 100000 in
set_option maxHeartbeats 8000000 in
theorem sure_act {w0 w : World} {d s xb sc lc : Nat} {sa la : Option Addr} {M : DiskM} {E l : List By} {st k kk Nx Mx : Int} {X : Nat} {fl : Bool} {XC : List Value} {Q : Exit → Act → World → Prop} {g0 g1 g2 g4 g6 g8 g12 g13 g14 g15 g16 g17 g18 g19 g20 g21 g22 g23 g24 g25 g26 g27 g28 g29 g30 g31 g32 g33 g34 g35 g36 g37 g38 g39 g40 g41 g42 g43 g44 g45 g46 g47 g48 g50 g51 g52 g53 g54 g55 g56 g57 g58 g59 g60 g61 g62 g63 g64 g65 g66 g67 g68 g69 g70 g71 g72 g73 g74 g75 g76 g77 g78 g79 g80 g81 g82 g83 g84 g85 g86 g87 g88 g89 g90 g91 g92 g93 g94 g95 g96 g97 g98 g99 g100 g101 g102 g103 g104 g105 g106 g107 g108 g109 g110 g111 g112 g113 g114 g115 g116 g117 g118 g119 g120 g121 g122 g123 g124 g125 g126 g127 g128 g129 g130 g131 g132 g133 g134 g135 g136 g137 g138 g139 g140 g141 g142 g143 g144 g145 g146 g147 g148 g149 g150 g151 g152 g153 g154 g155 g156 g157 g158 g159 g160 g161 g162 g163 g164 g165 : Value} {code : Code} (hcode : codeBlock 2 (Tryz.f6.body.getD .skip) = some code) (hU : Up w0 w d s ⟨E, st, false⟩ M [.row (.slice sa E.length sc) E, .blk xb XC 25]) (hX : XC = [.int .u8 k, .slice la l.length lc, .int .i64 Nx, .int .i64 Mx]) (hT : UpT M E st X fl) (hl : View w0 1 (.slice la l.length lc) (strV l)) (h20 : l.length ≤ 20) (hE : E.length + 20 ≤ 4096) (hX0 : X + 4240 ≤ 200000) (n0 : -9223372036854775808 ≤ Nx ∧ Nx ≤ 9223372036854775807) (m0 : -9223372036854775808 ≤ Mx ∧ Mx ≤ 9223372036854775807)
    (HP : ∀ c a (k : Nat) v w, Q (.panic c) (Act.put a (some k) v) w → Q (.panic c) a w) (HEND : ∀ (a2 : Option Addr) (m2 c2 : Nat) (g : Int) (v50 v51 v52 v53 v54 v55 v56 v57 v58 v59 v60 v61 v62 v63 v64 v65 v66 v67 v68 v69 v70 v71 v72 v73 v74 v75 v76 v77 v78 v79 : Value) (w' : World), Hid (SureQ w0 w' d s E st X (.slice sa E.length sc) (.blk xb XC 25) (.slice a2 m2 c2) m2 g) → Q .normal ⟨List.toArray (g0 :: g1 :: g2 :: (.pointer (some ⟨d, 0, none⟩)) :: g4 :: (.pointer (some ⟨s, 0, none⟩)) :: g6 :: (.slice sa E.length sc) :: g8 :: (.pointer (some ⟨xb, 0, none⟩)) :: (.slice a2 m2 c2) :: (.int .i64 g) :: g12 :: g13 :: g14 :: g15 :: g16 :: g17 :: g18 :: g19 :: g20 :: g21 :: g22 :: g23 :: g24 :: g25 :: g26 :: g27 :: g28 :: g29 :: g30 :: g31 :: g32 :: g33 :: g34 :: g35 :: g36 :: g37 :: g38 :: g39 :: g40 :: g41 :: g42 :: g43 :: g44 :: g45 :: g46 :: g47 :: g48 :: (.int .u8 kk) :: v50 :: v51 :: v52 :: v53 :: v54 :: v55 :: v56 :: v57 :: v58 :: v59 :: v60 :: v61 :: v62 :: v63 :: v64 :: v65 :: v66 :: v67 :: v68 :: v69 :: v70 :: v71 :: v72 :: v73 :: v74 :: v75 :: v76 :: v77 :: v78 :: v79 :: g80 :: g81 :: g82 :: g83 :: g84 :: g85 :: g86 :: g87 :: g88 :: g89 :: g90 :: g91 :: g92 :: g93 :: g94 :: g95 :: g96 :: g97 :: g98 :: g99 :: g100 :: g101 :: g102 :: g103 :: g104 :: g105 :: g106 :: g107 :: g108 :: g109 :: g110 :: g111 :: g112 :: g113 :: g114 :: g115 :: g116 :: g117 :: g118 :: g119 :: g120 :: g121 :: g122 :: g123 :: g124 :: g125 :: g126 :: g127 :: g128 :: g129 :: g130 :: g131 :: g132 :: g133 :: g134 :: g135 :: g136 :: g137 :: g138 :: g139 :: g140 :: g141 :: g142 :: g143 :: g144 :: g145 :: g146 :: g147 :: g148 :: g149 :: g150 :: g151 :: g152 :: g153 :: g154 :: g155 :: g156 :: g157 :: g158 :: g159 :: g160 :: g161 :: g162 :: g163 :: g164 :: g165 :: []), []⟩ w') :
    Code.wp Tryz.prog code Q ⟨List.toArray (g0 :: g1 :: g2 :: (.pointer (some ⟨d, 0, none⟩)) :: g4 :: (.pointer (some ⟨s, 0, none⟩)) :: g6 :: (.slice sa E.length sc) :: g8 :: (.pointer (some ⟨xb, 0, none⟩)) :: (.slice sa E.length sc) :: (.int .i64 0) :: g12 :: g13 :: g14 :: g15 :: g16 :: g17 :: g18 :: g19 :: g20 :: g21 :: g22 :: g23 :: g24 :: g25 :: g26 :: g27 :: g28 :: g29 :: g30 :: g31 :: g32 :: g33 :: g34 :: g35 :: g36 :: g37 :: g38 :: g39 :: g40 :: g41 :: g42 :: g43 :: g44 :: g45 :: g46 :: g47 :: g48 :: (.int .u8 kk) :: g50 :: g51 :: g52 :: g53 :: g54 :: g55 :: g56 :: g57 :: g58 :: g59 :: g60 :: g61 :: g62 :: g63 :: g64 :: g65 :: g66 :: g67 :: g68 :: g69 :: g70 :: g71 :: g72 :: g73 :: g74 :: g75 :: g76 :: g77 :: g78 :: g79 :: g80 :: g81 :: g82 :: g83 :: g84 :: g85 :: g86 :: g87 :: g88 :: g89 :: g90 :: g91 :: g92 :: g93 :: g94 :: g95 :: g96 :: g97 :: g98 :: g99 :: g100 :: g101 :: g102 :: g103 :: g104 :: g105 :: g106 :: g107 :: g108 :: g109 :: g110 :: g111 :: g112 :: g113 :: g114 :: g115 :: g116 :: g117 :: g118 :: g119 :: g120 :: g121 :: g122 :: g123 :: g124 :: g125 :: g126 :: g127 :: g128 :: g129 :: g130 :: g131 :: g132 :: g133 :: g134 :: g135 :: g136 :: g137 :: g138 :: g139 :: g140 :: g141 :: g142 :: g143 :: g144 :: g145 :: g146 :: g147 :: g148 :: g149 :: g150 :: g151 :: g152 :: g153 :: g154 :: g155 :: g156 :: g157 :: g158 :: g159 :: g160 :: g161 :: g162 :: g163 :: g164 :: g165 :: []), []⟩ w := by
  have HP := Lib.hid HP
  have HEND := Lib.hid HEND
  simp only [Tryz.f6, Option.getD_some, codeSeq, codeBlock, codeCond, Nat.reduceEqDiff, ↓reduceIte, Option.none_or, Option.or_none, Option.some_or, Option.some.injEq] at hcode
  subst hcode
  have hb := hU.blk (b := xb) (c := XC) (t := 25) (by simp)
  have c0 : w.cell? ⟨xb, 1, none⟩ = some (.slice la l.length lc) := hb.cell (by rw [hX]; rfl)
  have c1 : w.cell? ⟨xb, 2, none⟩ = some (.int .i64 Nx) := hb.cell (by rw [hX]; rfl)
  have c2 : w.cell? ⟨xb, 3, none⟩ = some (.int .i64 Mx) := hb.cell (by rw [hX]; rfl)
  clear hb
  by_cases h5 : kk = 0 ∨ kk = 1 ∨ kk = 2 ∨ kk = 3 ∨ kk = 4
  · clear c1 c2
    rcases h5 with rfl | rfl | rfl | rfl | rfl
    all_goals
      have hap := fun {y : Int × SegM × DiskM} (he : (⟨E, st, false⟩ : SegM).append M l = y) => hU.append la lc l (hl.same hU.old (by omega)) (fun h0 k q => Or.inl (hl.ownlt (fun e => h0 (by
        have := congrArg List.length e
        rw [strV_len] at this
        exact List.eq_nil_of_length_eq_zero this)) k q)) (by have := hT.up; omega) he
      obtain ⟨N, hN⟩ : ∃ N, N = E.length + l.length := ⟨_, rfl⟩
      have hN5 : N ≤ 100000 := by omega
      have hcat := fun w' (hs : Row w' 9 1 (.slice sa E.length sc) (strV E)) (hk : Kept (fun _ => False) w0 w') (hb : Blk w' xb XC 25) => sure_cat (xb := xb) hs (hl.same hk (by omega)) hb (by rw [hX]; rfl) hN hN5
      have HC := Lib.hid hcat
      rcases hT.append (l := l) (by omega) h20 (by omega) with ⟨M', he, hT'⟩ | he | ⟨M', he, hT'⟩
      · have hap := hap he
        have HT := Lib.hid (And.intro hT' (And.intro hN h20))
        clear he hT' hcat hN hN5 hT hU hl hX h20 hE hX0
        go_upto_region 21 with (go_at_call 14; refine hap.mono ?_; clear hap; rintro e w2 ⟨rfl, hu2⟩; have HU2 := Lib.hid hu2; clear hu2)
        obtain ⟨a1, n1, c1, w3, a2, c2, w4, r1, r2, e0, e1, e2, HR⟩ := HC.out w2 (HU2.out.row (v := .slice sa E.length sc) (l := E) (by simp)) HU2.out.old (HU2.out.blk (b := xb) (c := XC) (t := 25) (by simp))
        refine sure_reg21 r1 r2 e0 e1 e2 (fun _ _ _ _ _ h => HP.out _ _ _ _ _ h) ?_
        intros
        go_wp2_with fail
        exact Lib.hid ⟨l, HT.out.2.2, HT.out.2.1, Or.inl ⟨M', fl, rfl, HT.out.1, HU2.out.new HR.out.2.1 HR.out.1 HR.out.2.2⟩⟩
      · have hap := hap he
        have HT := Lib.hid (And.intro hT (And.intro hN h20))
        clear he hcat hN hN5 hT hU hl hX h20 hE hX0
        go_upto_region 21 with (go_at_call 14; refine hap.mono ?_; clear hap; rintro e w2 ⟨rfl, hu2⟩; have HU2 := Lib.hid hu2; clear hu2)
        obtain ⟨a1, n1, c1, w3, a2, c2, w4, r1, r2, e0, e1, e2, HR⟩ := HC.out w2 (HU2.out.row (v := .slice sa E.length sc) (l := E) (by simp)) HU2.out.old (HU2.out.blk (b := xb) (c := XC) (t := 25) (by simp))
        refine sure_reg21 r1 r2 e0 e1 e2 (fun _ _ _ _ _ h => HP.out _ _ _ _ _ h) ?_
        intros
        go_wp2_with fail
        exact Lib.hid ⟨l, HT.out.2.2, HT.out.2.1, Or.inr (Or.inl ⟨M, fl, rfl, HT.out.1.mono (by omega), HU2.out.new HR.out.2.1 HR.out.1 HR.out.2.2⟩)⟩
      · have hap := hap he
        have HT := Lib.hid (And.intro hT' (And.intro hN h20))
        clear he hT' hcat hN hN5 hT hU hl hX h20 hE hX0
        go_upto_region 21 with (go_at_call 14; refine hap.mono ?_; clear hap; rintro e w2 ⟨rfl, hu2⟩; have HU2 := Lib.hid hu2; clear hu2)
        obtain ⟨a1, n1, c1, w3, a2, c2, w4, r1, r2, e0, e1, e2, HR⟩ := HC.out w2 (HU2.out.row (v := .slice sa E.length sc) (l := E) (by simp)) HU2.out.old (HU2.out.blk (b := xb) (c := XC) (t := 25) (by simp))
        refine sure_reg21 r1 r2 e0 e1 e2 (fun _ _ _ _ _ h => HP.out _ _ _ _ _ h) ?_
        intros
        go_wp2_with fail
        exact Lib.hid ⟨l, HT.out.2.2, HT.out.2.1, Or.inr (Or.inr ⟨M', Or.inl rfl, HT.out.1, (HU2.out.new HR.out.2.1 HR.out.1 HR.out.2.2).dn⟩)⟩
  · have f0 : (kk == 0) = false := by simp; omega
    have f1 : (kk == 1) = false := by simp; omega
    have f2 : (kk == 2) = false := by simp; omega
    have f3 : (kk == 3) = false := by simp; omega
    have f4 : (kk == 4) = false := by simp; omega
    by_cases h7 : kk = 7
    · subst h7
      obtain ⟨M', he, hT'⟩ := hT.crash Nx
      have hcr := hU.crash Nx n0 he
      have HT := Lib.hid hT'
      clear he hT' hT hU hl hX h20 hE hX0 h5 c0 c2
      go_wp2_with (go_at_call 19; refine hcr.mono ?_; clear hcr; rintro e w2 ⟨rfl, hu2⟩; have HU2 := Lib.hid hu2; clear hu2)
      exact Lib.hid (sure_crash HT.out HU2.out)
    · have f7 : (kk == 7) = false := by simpa using h7
      by_cases h10 : kk = 10
      · subst h10
        obtain ⟨q, hq, hqw, hq2⟩ := and15 Nx
        obtain ⟨M', he, hT'⟩ := hT.fail (n := q) (k := Mx) hq2 m0
        have hfa := hU.fail q Mx (by omega) m0 he
        have HT := Lib.hid hT'
        clear he hT' hT hU hl hX h20 hE hX0 h5 hq2 c0
        go_wp2_with (go_at_call 32; refine hfa.mono ?_; clear hfa; rintro e w2 ⟨rfl, hu2⟩; have HU2 := Lib.hid hu2; clear hu2)
        exact Lib.hid (sure_still HT.out HU2.out)
      · have f10 : (kk == 10) = false := by simpa using h10
        have HT := Lib.hid (And.intro hT hU)
        clear hT hU hl hX h20 hE hX0 h5 h7 h10 c0 c1 c2
        go_wp2_with fail
        exact Lib.hid (sure_still HT.out.1 HT.out.2)

end Go.Proofs.YtamdbaonmodnbaaGreatDoor

namespace Go.Proofs.YtamdbaonmodnbaaGreatDoor
open Go.RowKit

set_option maxRecDepth 100000 in
set_option maxHeartbeats 8000000 in
theorem sure_loop {w0 w : World} {d xb sc m2 ac : Nat} {sa aa la : Option Addr} {lc : Nat} {M : DiskM} {E L l : List By} {st k Nx Mx : Int} {X : Nat} {XC : List Value} {Q : Exit → Act → World → Prop} {g0 g1 g2 g4 g5 g6 g8 g11 g13 g14 g15 g16 g17 g18 g19 g20 g21 g22 g23 g24 g25 g26 g27 g28 g29 g30 g31 g32 g33 g34 g35 g36 g37 g38 g39 g40 g41 g42 g43 g44 g45 g46 g47 g48 g49 g50 g51 g52 g53 g54 g55 g56 g57 g58 g59 g60 g61 g62 g63 g64 g65 g66 g67 g68 g69 g70 g71 g72 g73 g74 g75 g76 g77 g78 g79 g80 g81 g82 g83 g84 g85 g86 g87 g88 g89 g90 g91 g92 g93 g94 g95 g96 g97 g98 g99 g100 g101 g102 g103 g104 g105 g106 g107 g108 g109 g110 g111 g112 g113 g114 g115 g116 g117 g118 g119 g120 g121 g122 g123 g124 g125 g126 g127 g128 g129 g130 g131 g132 g133 g134 g135 g136 g137 g138 g139 g140 g141 g142 g143 g144 g145 g146 g147 g148 g149 g150 g151 g152 g153 g154 g155 g156 g157 g158 g159 g160 g161 g162 g163 g164 g165 : Value} {code : Code} (hcode : codeBlock 3 (Tryz.f6.body.getD .skip) = some code) (hD : Dn w0 w d M [.row (.slice aa m2 ac) (E ++ L), .row (.slice sa E.length sc) E, .blk xb XC 25]) (hX : XC = [.int .u8 k, .slice la l.length lc, .int .i64 Nx, .int .i64 Mx]) (hT : DnT M E L st X) (h20 : L.length ≤ 20) (hm2 : m2 = E.length + L.length) (hE : E.length + 20 ≤ 4096) (hs : 0 ≤ st ∧ st ≤ 1000000) (n0 : -9223372036854775808 ≤ Nx ∧ Nx ≤ 9223372036854775807) (m0 : -9223372036854775808 ≤ Mx ∧ Mx ≤ 9223372036854775807)
    (HP : ∀ c a (k : Nat) v w, Q (.panic c) (Act.put a (some k) v) w → Q (.panic c) a w) (HEND : ∀ (t : Nat) (a7 : Option Addr) (n7 c7 : Nat) (v2 v12 v13 v14 v15 v16 v17 v98 v99 v100 v101 v102 v103 v104 v105 v106 v107 v108 v109 v110 v111 v112 v113 v114 v115 v116 v117 v118 v119 v120 v121 v122 v123 v124 v125 v126 v127 v128 v129 v130 v131 v132 v133 v134 v135 v136 v137 v138 v139 v140 v141 v142 v143 v144 v145 v146 v147 v148 v149 v150 v151 v152 v153 v154 v155 v156 v157 v158 v159 v160 v161 : Value) (w' : World), Hid (SureE w0 w' d t E.length st X (.slice a7 n7 c7) n7) → Q .normal ⟨List.toArray (g0 :: g1 :: v2 :: (.pointer (some ⟨d, 0, none⟩)) :: g4 :: (.pointer (some ⟨t, 0, none⟩)) :: g6 :: (.slice a7 n7 c7) :: g8 :: (.pointer (some ⟨xb, 0, none⟩)) :: (.slice aa m2 ac) :: g11 :: v12 :: v13 :: v14 :: v15 :: v16 :: v17 :: g18 :: g19 :: g20 :: g21 :: g22 :: g23 :: g24 :: g25 :: g26 :: g27 :: g28 :: g29 :: g30 :: g31 :: g32 :: g33 :: g34 :: g35 :: g36 :: g37 :: g38 :: g39 :: g40 :: g41 :: g42 :: g43 :: g44 :: g45 :: g46 :: g47 :: g48 :: g49 :: g50 :: g51 :: g52 :: g53 :: g54 :: g55 :: g56 :: g57 :: g58 :: g59 :: g60 :: g61 :: g62 :: g63 :: g64 :: g65 :: g66 :: g67 :: g68 :: g69 :: g70 :: g71 :: g72 :: g73 :: g74 :: g75 :: g76 :: g77 :: g78 :: g79 :: g80 :: g81 :: g82 :: g83 :: g84 :: g85 :: g86 :: g87 :: g88 :: g89 :: g90 :: g91 :: g92 :: g93 :: g94 :: g95 :: g96 :: g97 :: v98 :: v99 :: v100 :: v101 :: v102 :: v103 :: v104 :: v105 :: v106 :: v107 :: v108 :: v109 :: v110 :: v111 :: v112 :: v113 :: v114 :: v115 :: v116 :: v117 :: v118 :: v119 :: v120 :: v121 :: v122 :: v123 :: v124 :: v125 :: v126 :: v127 :: v128 :: v129 :: v130 :: v131 :: v132 :: v133 :: v134 :: v135 :: v136 :: v137 :: v138 :: v139 :: v140 :: v141 :: v142 :: v143 :: v144 :: v145 :: v146 :: v147 :: v148 :: v149 :: v150 :: v151 :: v152 :: v153 :: v154 :: v155 :: v156 :: v157 :: v158 :: v159 :: v160 :: v161 :: g162 :: g163 :: g164 :: g165 :: []), []⟩ w') :
    Code.wp Tryz.prog code Q ⟨List.toArray (g0 :: g1 :: g2 :: (.pointer (some ⟨d, 0, none⟩)) :: g4 :: g5 :: g6 :: (.slice sa E.length sc) :: g8 :: (.pointer (some ⟨xb, 0, none⟩)) :: (.slice aa m2 ac) :: g11 :: (.int .i64 0) :: g13 :: g14 :: g15 :: g16 :: g17 :: g18 :: g19 :: g20 :: g21 :: g22 :: g23 :: g24 :: g25 :: g26 :: g27 :: g28 :: g29 :: g30 :: g31 :: g32 :: g33 :: g34 :: g35 :: g36 :: g37 :: g38 :: g39 :: g40 :: g41 :: g42 :: g43 :: g44 :: g45 :: g46 :: g47 :: g48 :: g49 :: g50 :: g51 :: g52 :: g53 :: g54 :: g55 :: g56 :: g57 :: g58 :: g59 :: g60 :: g61 :: g62 :: g63 :: g64 :: g65 :: g66 :: g67 :: g68 :: g69 :: g70 :: g71 :: g72 :: g73 :: g74 :: g75 :: g76 :: g77 :: g78 :: g79 :: g80 :: g81 :: g82 :: g83 :: g84 :: g85 :: g86 :: g87 :: g88 :: g89 :: g90 :: g91 :: g92 :: g93 :: g94 :: g95 :: g96 :: g97 :: g98 :: g99 :: g100 :: g101 :: g102 :: g103 :: g104 :: g105 :: g106 :: g107 :: g108 :: g109 :: g110 :: g111 :: g112 :: g113 :: g114 :: g115 :: g116 :: g117 :: g118 :: g119 :: g120 :: g121 :: g122 :: g123 :: g124 :: g125 :: g126 :: g127 :: g128 :: g129 :: g130 :: g131 :: g132 :: g133 :: g134 :: g135 :: g136 :: g137 :: g138 :: g139 :: g140 :: g141 :: g142 :: g143 :: g144 :: g145 :: g146 :: g147 :: g148 :: g149 :: g150 :: g151 :: g152 :: g153 :: g154 :: g155 :: g156 :: g157 :: g158 :: g159 :: g160 :: g161 :: g162 :: g163 :: g164 :: g165 :: []), []⟩ w := by
  have HP := Lib.hid HP
  have HEND := Lib.hid HEND
  simp only [Tryz.f6, Option.getD_some, codeSeq, codeBlock, codeCond, Nat.reduceEqDiff, ↓reduceIte, Option.none_or, Option.or_none, Option.some_or, Option.some.injEq] at hcode
  subst hcode
  have HX := Lib.hid hX
  have HRG := Lib.hid (And.intro n0 (And.intro m0 (And.intro hs (And.intro h20 (And.intro hm2 hE)))))
  have HI := Lib.hid (show SureL w0 w d E L st X [.row (.slice aa m2 ac) (E ++ L), .row (.slice sa E.length sc) E, .blk xb XC 25] g5 (.slice sa E.length sc) g5 (.slice sa E.length sc) 0 from Or.inl ⟨by omega, rfl, rfl, M, by simpa using hT, hD⟩)
  clear hD hX hT hs n0 m0 h20 hm2 hE
  go_wp2_with fail
  go_loopw [5, 7, 12] (fun x5 x7 x12 wr => ∃ n : Nat, x12 = .int .i64 (n : Int) ∧ Hid (SureL w0 wr d E L st X [.row (.slice aa m2 ac) (E ++ L), .row (.slice sa E.length sc) E, .blk xb XC 25] g5 (.slice sa E.length sc) x5 x7 n)) (fun _ _ x12 _ => 20 - (intOf x12).toNat)
  case atStart => exact ⟨0, rfl, HI⟩
  case round =>
    obtain ⟨n, rfl, HR⟩ := hrel
    rcases HR.out with ⟨hn, rfl, rfl, M1, hT1, hD1⟩ | ⟨hn, t, a7, n7, c7, rfl, rfl, hE7⟩
    · have x1 : decide ((n : Int) < 20) = true := decide_eq_true (by omega)
      obtain ⟨d1, d2⟩ := hT1.down
      have hup := hD1.isup (b := false) (by rw [d1]; rfl)
      have hb := hD1.blk (b := xb) (c := XC) (t := 25) (by simp)
      obtain ⟨M2, j, he2, hj, hT2⟩ := hT1.start
      have hst := hD1.start (by rw [d2]; have := HRG.out.2.2.1; omega) he2
      clear d1 d2 he2 hT1 hD1 hb HR
      obtain ⟨E2, hE2⟩ : ∃ E2, E2 = E ++ L.take j := ⟨_, rfl⟩
      have hEl : E2.length = E.length + j := by rw [hE2, List.length_append, List.length_take]; omega
      have HE := Lib.hid (show E2.length = E.length + j ∧ E2.length ≤ 4096 ∧ (m2 = E.length + L.length ∧ j ≤ L.length ∧ L.length ≤ 20) ∧ E2 = (E ++ L).take E2.length from ⟨hEl, by have := HRG.out; omega, ⟨HRG.out.2.2.2.2.1, hj, HRG.out.2.2.2.1⟩, by rw [hEl, List.take_append, List.take_of_length_le (by omega), Nat.add_sub_cancel_left, hE2]⟩)
      rw [← hE2] at hT2
      clear hE2 hEl hj
      by_cases h3 : n < 3
      · have x2 : decide ((n : Int) < 3) = true := decide_eq_true (by omega)
        obtain ⟨q, hq, hqw, hq2⟩ := and3 (wrap64 (Nx + (n : Int)))
        obtain ⟨M4, he4, hT4⟩ := hT2.fail (n := q) (k := Mx) hq2 HRG.out.2.1
        have HFA := Lib.hid (fun w2 (h : Dn w0 w2 d M2 [.row (.slice aa m2 ac) (E ++ L), .row (.slice sa E.length sc) E, .blk xb XC 25]) => h.fail q Mx (by omega) HRG.out.2.1 he4)
        have hu4 := hT4.up
        have HOP := Lib.hid (fun w3 (h : Dn w0 w3 d M4 [.row (.slice aa m2 ac) (E ++ L), .row (.slice sa E.length sc) E, .blk xb XC 25]) => h.opens (by omega))
        rw [hu4.2.1] at HOP
        have HB := Lib.hid (fun w2 (h : Dn w0 w2 d M2 [.row (.slice aa m2 ac) (E ++ L), .row (.slice sa E.length sc) E, .blk xb XC 25]) => h.blk (b := xb) (c := XC) (t := 25) (by simp))
        clear he4 hT2 hq2 hu4
        rcases hT4.open with ⟨o1, o2, o3⟩ | ⟨o1, -, o3⟩
        · have HO := Lib.hid (And.intro o1 o2)
          obtain ⟨M3, hM3⟩ : ∃ M3, M3 = M4.openS.2.2 := ⟨_, rfl⟩
          rw [← hM3] at o3
          have HT3 := Lib.hid o3
          have HM3 := Lib.hid hM3
          clear o1 o2 o3 hM3 hT4
          go_upto_region 40 with (first
            | (go_at_call 33; refine hup.mono ?_; rintro e w' ⟨rfl, rfl⟩)
            | (go_at_call 29; refine hst.mono ?_; clear hst; rintro e w1 ⟨rfl, hd1⟩; have hb1 := HB.out w1 hd1; have c1 : w1.cell? ⟨xb, 2, none⟩ = some (.int .i64 Nx) := hb1.cell (by rw [HX.out]; rfl); have c2 : w1.cell? ⟨xb, 3, none⟩ = some (.int .i64 Mx) := hb1.cell (by rw [HX.out]; rfl); have hfa := HFA.out w1 hd1; clear hb1 hd1)
            | (go_at_call 32; refine hfa.mono ?_; clear hfa c1 c2; rintro e w2 ⟨rfl, hd2⟩; have hop := HOP.out w2 hd2; clear hd2)
            | (go_at_call 18; refine hop.mono ?_; clear hop; intro e w3 ho; obtain ⟨t, rfl, hu3⟩ := open_up ho HO.out.1 HO.out.2; rw [← HM3.out] at hu3; have HU3 := Lib.hid hu3; clear ho hu3))
          clear x2 hq hqw HFA HOP HB HO HM3
          have hcnt := HU3.out.count
          have hget := HU3.out.get 0 (E2.length : Int) (by omega) (by have := HE.out.2.1; omega)
          have hcg := hget
          clear hget
          have HGT := Lib.hid (show Calls Tryz.prog 13 #[.pointer (some ⟨t, 0, none⟩), .int .i64 0, .int .i64 (E2.length : Int)] w3 fun e w' => ∃ x m c, e = .returned (.tuple #[.slice x m c, .int .i64 0]) ∧ m = E2.length ∧ Row w' 9 1 (.slice x m c) (strV E2) ∧ Kept (fun _ => False) w3 w' ∧ ∀ k, (Value.slice x m c).ownBlock = some k → w3.heap.size ≤ k from hcg.mono (fun e w' hq => get_all hq (by have := HE.out.2.1; omega)))
          clear hcg
          go_upto_region 41 with (first
            | (go_at_call 16; refine hcnt.mono ?_; clear hcnt; rintro e w' ⟨rfl, rfl⟩))
          obtain ⟨g1, g2, g3, g4⟩ := sure_lens HE.out.1 HE.out.2.2.1
          go_upto_region 43 with fail
          clear g1 g2 g3 g4
          go_upto_region 44 with (go_at_call 13; refine HGT.out.mono ?_; clear HGT; rintro e w4 ⟨gx, gm, gc, rfl, rfl, hgr, hgk, hgo⟩; have HU4 := Lib.hid (HU3.out.new hgk hgr hgo); clear hgr hgk hgo)
          have hrow : Row w4 9 1 (.slice aa m2 ac) (strV (E ++ L)) := HU4.out.row (v := .slice aa m2 ac) (l := E ++ L) (by simp)
          have hle : E2.length ≤ m2 := by have := HE.out.1; have := HE.out.2.2.1; omega
          have hrun := fun w0 => hrow.view.run_head (P := Tryz.prog) (t := 22) (by kernel_rfl) (fun _ => by kernel_rfl) E2.length hle w0
          have hv1 := hrow.view.head E2.length hle
          have ev1 : (strV (E ++ L)).take (E2.length * 1) = strV E2 := by
            have := HE.out.2.2.2
            conv => rhs; rw [this]
            unfold strV; rw [Nat.mul_one, List.map_take]
          rw [ev1] at hv1
          have htx := texts_any (HU4.out.row (v := .slice gx E2.length gc) (l := E2) (by simp)).view hv1
          rw [decide_eq_true rfl] at htx
          have HRUN := Lib.hid hrun
          clear hrow hle hv1 ev1 hrun
          have hrun := HRUN.out
          go_wp2_with (go_at_call 30; refine htx.mono ?_; clear htx; rintro e w5 ⟨rfl, hk5⟩; have HU5 := Lib.hid ((HU4.out.same hk5).fewer (Rs' := [.row (.slice gx E2.length gc) E2]) (by simp)); clear hk5)
          clear hrun HRUN
          go_roundw
          case rel => exact ⟨n + 1, by go_num, Lib.hid (Or.inr ⟨by omega, t, gx, E2.length, gc, rfl, rfl, M3, E2, st + (n : Int) + 1, _, rfl, by have := HE.out.1; have := HE.out.2.2.1; omega, by omega, HT3.out, HU5.out⟩)⟩
          case measure => simp [intOf]; omega
        · obtain ⟨F', f1, f2, f3⟩ := o3
          have HT3 := Lib.hid (show DnT M4.openS.2.2 E L (st + (n : Int) + 1) X from ⟨j, F', HE.out.2.2.1.2.1, by have := HE.out.2.2.2; have e2 := HE.out.1; rw [e2, List.take_append, List.take_of_length_le (by omega), Nat.add_sub_cancel_left] at this; rw [← this]; exact f1, f2, f3⟩)
          clear f1 f2 f3 hT4
          go_wp2_with (first
            | (go_at_call 33; refine hup.mono ?_; rintro e w' ⟨rfl, rfl⟩)
            | (go_at_call 29; refine hst.mono ?_; clear hst; rintro e w1 ⟨rfl, hd1⟩; have hb1 := HB.out w1 hd1; have c1 : w1.cell? ⟨xb, 2, none⟩ = some (.int .i64 Nx) := hb1.cell (by rw [HX.out]; rfl); have c2 : w1.cell? ⟨xb, 3, none⟩ = some (.int .i64 Mx) := hb1.cell (by rw [HX.out]; rfl); have hfa := HFA.out w1 hd1; clear hb1 hd1)
            | (go_at_call 32; refine hfa.mono ?_; clear hfa c1 c2; rintro e w2 ⟨rfl, hd2⟩; have hop := HOP.out w2 hd2; clear hd2)
            | (go_at_call 18; refine hop.mono ?_; clear hop; intro e w3 ho; obtain ⟨rfl, hu3⟩ := open_dn ho o1; have HU3 := Lib.hid hu3; clear ho hu3))
          go_roundw
          case rel => exact ⟨n + 1, by go_num, Lib.hid (Or.inl ⟨by omega, rfl, rfl, _, by have := HT3.out; rwa [show st + (n : Int) + 1 = st + ((n + 1 : Nat) : Int) by omega] at this, HU3.out⟩)⟩
          case measure => simp [intOf]; omega
      · have x2 : decide ((n : Int) < 3) = false := decide_eq_false (by omega)
        have hu4 := hT2.up
        have HOP := Lib.hid (fun w3 (h : Dn w0 w3 d M2 [.row (.slice aa m2 ac) (E ++ L), .row (.slice sa E.length sc) E, .blk xb XC 25]) => h.opens (by omega))
        rw [hu4.2.1] at HOP
        clear hu4
        rcases hT2.open with ⟨o1, o2, o3⟩ | ⟨_, o1, _⟩
        · have HO := Lib.hid (And.intro o1 o2)
          obtain ⟨M3, hM3⟩ : ∃ M3, M3 = M2.openS.2.2 := ⟨_, rfl⟩
          rw [← hM3] at o3
          have HT3 := Lib.hid o3
          have HM3 := Lib.hid hM3
          clear o1 o2 o3 hM3 hT2
          go_upto_region 40 with (first
            | (go_at_call 33; refine hup.mono ?_; rintro e w' ⟨rfl, rfl⟩)
            | (go_at_call 29; refine hst.mono ?_; clear hst; rintro e w1 ⟨rfl, hd1⟩; have hop := HOP.out w1 hd1; clear hd1)
            | (go_at_call 18; refine hop.mono ?_; clear hop; intro e w3 ho; obtain ⟨t, rfl, hu3⟩ := open_up ho HO.out.1 HO.out.2; rw [← HM3.out] at hu3; have HU3 := Lib.hid hu3; clear ho hu3))
          clear x2 HOP HO HM3
          have hcnt := HU3.out.count
          have hget := HU3.out.get 0 (E2.length : Int) (by omega) (by have := HE.out.2.1; omega)
          have hcg := hget
          clear hget
          have HGT := Lib.hid (show Calls Tryz.prog 13 #[.pointer (some ⟨t, 0, none⟩), .int .i64 0, .int .i64 (E2.length : Int)] w3 fun e w' => ∃ x m c, e = .returned (.tuple #[.slice x m c, .int .i64 0]) ∧ m = E2.length ∧ Row w' 9 1 (.slice x m c) (strV E2) ∧ Kept (fun _ => False) w3 w' ∧ ∀ k, (Value.slice x m c).ownBlock = some k → w3.heap.size ≤ k from hcg.mono (fun e w' hq => get_all hq (by have := HE.out.2.1; omega)))
          clear hcg
          go_upto_region 41 with (first
            | (go_at_call 16; refine hcnt.mono ?_; clear hcnt; rintro e w' ⟨rfl, rfl⟩))
          obtain ⟨g1, g2, g3, g4⟩ := sure_lens HE.out.1 HE.out.2.2.1
          go_upto_region 43 with fail
          clear g1 g2 g3 g4
          go_upto_region 44 with (go_at_call 13; refine HGT.out.mono ?_; clear HGT; rintro e w4 ⟨gx, gm, gc, rfl, rfl, hgr, hgk, hgo⟩; have HU4 := Lib.hid (HU3.out.new hgk hgr hgo); clear hgr hgk hgo)
          have hrow : Row w4 9 1 (.slice aa m2 ac) (strV (E ++ L)) := HU4.out.row (v := .slice aa m2 ac) (l := E ++ L) (by simp)
          have hle : E2.length ≤ m2 := by have := HE.out.1; have := HE.out.2.2.1; omega
          have hrun := fun w0 => hrow.view.run_head (P := Tryz.prog) (t := 22) (by kernel_rfl) (fun _ => by kernel_rfl) E2.length hle w0
          have hv1 := hrow.view.head E2.length hle
          have ev1 : (strV (E ++ L)).take (E2.length * 1) = strV E2 := by
            have := HE.out.2.2.2
            conv => rhs; rw [this]
            unfold strV; rw [Nat.mul_one, List.map_take]
          rw [ev1] at hv1
          have htx := texts_any (HU4.out.row (v := .slice gx E2.length gc) (l := E2) (by simp)).view hv1
          rw [decide_eq_true rfl] at htx
          have HRUN := Lib.hid hrun
          clear hrow hle hv1 ev1 hrun
          have hrun := HRUN.out
          go_wp2_with (go_at_call 30; refine htx.mono ?_; clear htx; rintro e w5 ⟨rfl, hk5⟩; have HU5 := Lib.hid ((HU4.out.same hk5).fewer (Rs' := [.row (.slice gx E2.length gc) E2]) (by simp)); clear hk5)
          clear hrun HRUN
          go_roundw
          case rel => exact ⟨n + 1, by go_num, Lib.hid (Or.inr ⟨by omega, t, gx, E2.length, gc, rfl, rfl, M3, E2, st + (n : Int) + 1, _, rfl, by have := HE.out.1; have := HE.out.2.2.1; omega, by omega, HT3.out, HU5.out⟩)⟩
          case measure => simp [intOf]; omega
        · cases o1
    · have x1 : decide ((n : Int) < 20) = true := decide_eq_true (by omega)
      obtain ⟨M1, E', st', fl', q1, q2, q3, q4, q5⟩ := hE7
      have hup := q5.isup (b := true) (by rw [q4.up.1]; rfl)
      have HF := Lib.hid (show SureE w0 wr d t E.length st X (.slice a7 n7 c7) n7 from ⟨M1, E', st', fl', q1, q2, q3, q4, q5⟩)
      clear q1 q2 q3 q4 q5 HR
      go_wp2_with (go_at_call 33; refine hup.mono ?_; rintro e w' ⟨rfl, rfl⟩)
      first | exact HF | exact HEND.out t a7 n7 c7 _ _ _ _ _ _ _ _ _ _ _ _ _ _ _ _ _ _ _ _ _ _ _ _ _ _ _ _ _ _ _ _ _ _ _ _ _ _ _ _ _ _ _ _ _ _ _ _ _ _ _ _ _ _ _ _ _ _ _ _ _ _ _ _ _ _ _ _ _ _ _ _ HF

end Go.Proofs.YtamdbaonmodnbaaGreatDoor

namespace Go.Proofs.YtamdbaonmodnbaaGreatDoor
open Go.RowKit

theorem c_act13' : (Tryz.prog.info? 25).map (·.size) = some 4 := by kernel_rfl
/-- The cells of an act. -/
abbrev actC (x : Act13) : List Value := [.int .u8 x.k, .slice x.la x.l.length x.c, .int .i64 x.N, .int .i64 x.M]
abbrev act13Z : List Value := [.int .u8 0, .slice none 0 0, .int .i64 0, .int .i64 0]
theorem actC_one (x : Act13) : ∀ u ∈ actC x, u.oneCell' = true := by
  intro u hu
  simp only [actC, List.mem_cons, List.not_mem_nil, or_false] at hu
  rcases hu with rfl | rfl | rfl | rfl <;> rfl
/-- Between two acts. -/
def SureO (w wr : World) (d s : Nat) (i : Nat) (v : Value) (n : Nat) : Prop :=
  ∃ M E st fl, n = E.length ∧ E.length ≤ 20 * i ∧ (0 ≤ st ∧ st ≤ 20 * (i : Int)) ∧ UpT M E st (4240 * i) fl ∧ Up w wr d s ⟨E, st, false⟩ M [.row v E]
theorem UpX.sure {w wr : World} {d s : Nat} (h : UpX w wr d s [] 200000 0 0 []) : SureO w wr d s 0 (.slice none 0 0) 0 := by
  obtain ⟨M, F, h1, h2, h3, h4⟩ := h
  exact ⟨M, [], 0, false, rfl, by simp, by omega, ⟨F, h2, h3.1, by omega⟩, h1.add (x := .row (.slice none 0 0) []) (Kept.refl _ _) (Row.nil _ _ _) (fun k q => by
    have : (Value.slice none 0 0).ownBlock = some k := q
    simp [Value.ownBlock] at this)⟩
theorem sureE_to {w w5 : World} {d t e0 i n : Nat} {st : Int} {v : Value} (h : SureE w w5 d t e0 st (4240 * i + 4240) v n) (h1 : e0 ≤ 20 * i) (h2 : 0 ≤ st ∧ st ≤ 20 * (i : Int)) : SureO w w5 d t (i + 1) v n := by
  obtain ⟨M, E', st', fl, q1, q2, q3, q4, q5⟩ := h
  exact ⟨M, E', st', fl, q1, by omega, by omega, by rwa [show 4240 * i + 4240 = 4240 * (i + 1) by omega] at q4, q5⟩
theorem kind_nums {k kk : Int} (hk : 0 ≤ k ∧ k ≤ 255) (h : kk = k % 14) : Int.tmod k 14 = kk ∧ k % 14 = kk ∧ IntKind.u8.wrap kk = kk ∧ kk % 256 = kk := by
  refine ⟨by rw [Int.tmod_eq_emod_of_nonneg hk.1]; exact h.symm, h.symm, IntWalk.u8_in _ (by omega), by omega⟩
set_option maxRecDepth 100000 in
set_option maxHeartbeats 8000000 in
theorem sure_walk0 (w : World) (ht : Tab w) (ad : Option Addr) (A : List Act13) (cap : Nat) (hl : A.length ≤ maxLen) (hA : ActsAt w ad A) :
    Calls Tryz.prog 6 #[.slice ad A.length cap] w fun e w' => e = .returned (.bool true) ∧ Kept (fun _ => False) w w' := by
  have HT := Lib.hid ht
  have HAA := Lib.hid hA
  have hl2 : A.length ≤ 9223372036854775807 := hl
  have HG := Lib.hid (great13 w ad A cap 30 (by omega) hl hA)
  have HLD := Lib.hid (fun w1 (hk : Kept (fun _ => False) w w1) => laid_any w1 (HT.out.same hk))
  clear ht hA hl
  go_enter Tryz.func6, Tryz.ntmps6
  go_upto_if 19 with (go_at_call 11; refine HG.out.mono ?_; rintro e w' ⟨b, rfl, hb, rfl⟩; have HB := Lib.hid hb; clear hb; rcases b)
  rotate_left 1
  · have hld := HLD.out w (Kept.refl _ _)
    go_wp2_with (go_at_call 12; refine hld.mono ?_; rintro e w1 ⟨rfl, hk1⟩)
    go_ret
    exact ⟨rfl, hk1⟩
  · go_upto_region 7 with (first
      | (go_at_call 17; refine (new_ok _ 200000 (by omega) (by omega)).mono ?_; rintro e w1 hnew; obtain ⟨d, rfl, hA1, k1⟩ := Apart.made _ hnew; have HOP := Lib.hid (seg_start HT.out hA1 k1); clear hnew hA1 k1)
      | (go_at_call 18; refine HOP.out.mono ?_; rintro e w2 ⟨s, rfl, hu⟩; have HU := Lib.hid hu.sure; clear hu))
    clear HOP HG
    go_wp2_with fail
    go_loopw [5, 7, 8] (fun x5 x7 x8 wr => ∃ (i s n : Nat) (a : Option Addr) (c : Nat), x5 = .pointer (some ⟨s, 0, none⟩) ∧ x7 = .slice a n c ∧ x8 = .int .i64 (i : Int) ∧ i ≤ A.length ∧ Hid (SureO w wr d s i (.slice a n c) n)) (fun _ _ x8 _ => A.length - (intOf x8).toNat)
    case atStart => exact ⟨0, s, 0, none, 0, rfl, rfl, rfl, Nat.zero_le _, HU⟩
    case round =>
      obtain ⟨i, s, n, sa, sc, rfl, rfl, rfl, hi, HO⟩ := hrel
      by_cases hlt : i < A.length
      · obtain ⟨y1, y2⟩ := dec_gt hlt
        obtain ⟨x, hx⟩ : ∃ x, A[i]? = some x := ⟨_, List.getElem?_eq_getElem hlt⟩
        have hact := HAA.out i x hx
        have hsm := (HB.out trivial).2 x (List.mem_of_getElem? hx)
        have h30 := (HB.out trivial).1
        obtain ⟨M, E, st, fl, rfl, hE, hst, hT, hU⟩ := HO.out
        have hk := hU.old
        obtain ⟨b, off, rfl, hbb, hc⟩ := hact.cells
        obtain ⟨XC, hXC⟩ : ∃ XC, XC = actC x := ⟨_, rfl⟩
        have hrg : wr.rangeAt b (off + i * 4) XC := by
          rw [hXC]
          exact fun j v hv => hk.cell (hc j v hv) id
        have HRG := Lib.hid (And.intro hrg (show (Tryz.prog.info? 25).map (·.size) = some XC.length by rw [hXC]; exact c_act13'))
        have HXC := Lib.hid (And.intro hXC (show ∀ u ∈ XC, u.oneCell' = true by rw [hXC]; exact actC_one x))
        have HAC := Lib.hid (And.intro hact.view (And.intro hsm.1 (And.intro hact.n0 (And.intro hact.m0 hact.k0))))
        have HS := Lib.hid (And.intro hT (And.intro hE (And.intro hst (And.intro h30 (And.intro hlt hU)))))
        clear hx hact hsm h30 hE hst hT hU hk hbb hc hXC hrg HO hi
        go_upto_region 12 with (first
          | ((with_reducible show wpList _ _ _ (⟨some 45, _, _, _, _, _⟩ :: _) _ _); refine wpList_load_mid rfl 25 _ rfl b (off + i * 4) rfl XC _ HRG.out.1 Tryz.underlying25 rfl HRG.out.2 ?_)
          | ((with_reducible show wpList _ _ _ (⟨none, .store _ (.tmp 9) _, _, _, _, _⟩ :: _) _ _); refine wpList_store_mid rfl 25 _ _ rfl wr.heap.size 0 XC.toArray rfl rfl ?htc ?hic ?h1c ?_))
        case htc => exact (store_fresh wr act13Z XC 25 (by rw [HXC.out.1]; rfl)).1
        case hic => exact (by rw [List.size_toArray]; exact HRG.out.2)
        case h1c => exact all_oneCell_toArray HXC.out.2
        generalize hw1 : World.setCells _ wr.heap.size 0 _ = w1
        have hw1' : Blk w1 wr.heap.size XC 25 ∧ Kept (fun _ => False) wr w1 := by rw [← hw1]; exact (store_fresh wr act13Z XC 25 (by rw [HXC.out.1]; rfl)).2
        have HU1 := Lib.hid ((HS.out.2.2.2.2.2.add (x := .blk wr.heap.size XC 25) hw1'.2 hw1'.1 (fun k e => by have : wr.heap.size = k := e; omega)).fewer (Rs' := [.row (.slice sa E.length sc) E, .blk wr.heap.size XC 25]) (fun y q => by simp only [List.mem_cons, List.not_mem_nil, or_false] at q ⊢; rcases q with rfl | rfl <;> simp))
        have c0 : w1.cell? ⟨wr.heap.size, 0, none⟩ = some (.int .u8 x.k) := hw1'.1.cell (by rw [HXC.out.1]; rfl)
        clear hw1 hw1' HRG
        generalize wr.heap.size = xb at *
        obtain ⟨kk, hkk⟩ : ∃ kk, kk = x.k % 14 := ⟨_, rfl⟩
        obtain ⟨n1, n2, n3, n4⟩ := kind_nums HAC.out.2.2.2.2 hkk
        clear hkk
        go_upto_block 2 with fail
        refine sure_act (code := _) (by kernel_rfl) HU1.out HXC.out.1 HS.out.1 HAC.out.1 HAC.out.2.1 (by have h1 := HS.out.2.1; have h2 := HS.out.2.2.2.1; have h3 := HS.out.2.2.2.2.1; omega) (by have h1 := HS.out.2.1; have h2 := HS.out.2.2.2.1; have h3 := HS.out.2.2.2.2.1; omega) HAC.out.2.2.1 HAC.out.2.2.2.1 (fun _ _ _ _ _ h => h) ?_
        intro a2 m2 c2 g
        intros
        rename_i w3 HQ
        clear n1 n2 n3 n4 c0 HU1
        rcases HQ.out with ⟨L, hL, hm2, ⟨M3, fl3, rfl, hT3, hU3⟩ | ⟨M3, fl3, rfl, hT3, hU3⟩ | ⟨M3, hg, hT3, hD3⟩⟩
        · have hup := hU3.isup (b := true) (by rw [hT3.up.1]; rfl)
          have hcnt : Calls Tryz.prog 16 #[.pointer (some ⟨s, 0, none⟩)] w3 fun e w' => e = .returned (.int .i64 (m2 : Int)) ∧ w3 = w' := by
            have h := hU3.count
            rw [show ((⟨E ++ L, st, false⟩ : SegM).entries.length : Int) = (m2 : Int) by show ((E ++ L).length : Int) = _; rw [List.length_append, hm2]] at h
            exact h
          have HF := Lib.hid (show SureO w w3 d s (i + 1) (.slice a2 m2 c2) m2 from ⟨M3, E ++ L, st, fl3, by rw [List.length_append, hm2], by rw [List.length_append]; have := HS.out.2.1; omega, by have := HS.out.2.2.1; omega, by have := hT3; rwa [show 4240 * i + 4240 = 4240 * (i + 1) by omega] at this, hU3.fewer (fun y q => by simp only [List.mem_cons, List.not_mem_nil, or_false] at q ⊢; subst q; simp)⟩)
          have z1 : ((m2 : Int) == (m2 : Int)) = true := beq_self_eq_true _
          have hlt := HS.out.2.2.2.2.1
          clear HQ hT3 hU3 hm2 hL
          go_wp2_with (first | (go_at_call 33; refine hup.mono ?_; rintro e w' ⟨rfl, rfl⟩) | (go_at_call 16; refine hcnt.mono ?_; rintro e w' ⟨rfl, rfl⟩))
          go_roundw
          case rel => exact ⟨i + 1, s, m2, a2, c2, rfl, rfl, by go_num, hlt, HF⟩
          case measure => simp [intOf]; omega
        · have hup := hU3.isup (b := true) (by rw [hT3.up.1]; rfl)
          have hcnt := hU3.count
          have HF := Lib.hid (show SureO w w3 d s (i + 1) (.slice sa E.length sc) E.length from ⟨M3, E, st, fl3, rfl, by have := HS.out.2.1; omega, by have := HS.out.2.2.1; omega, by have := hT3; rwa [show 4240 * i + 4240 = 4240 * (i + 1) by omega] at this, hU3.fewer (fun y q => by simp only [List.mem_cons, List.not_mem_nil, or_false] at q ⊢; subst q; simp)⟩)
          have z1 : ((E.length : Int) == (E.length : Int)) = true := beq_self_eq_true _
          have hlt := HS.out.2.2.2.2.1
          clear HQ hT3 hU3 hm2 hL
          go_wp2_with (first | (go_at_call 33; refine hup.mono ?_; rintro e w' ⟨rfl, rfl⟩) | (go_at_call 16; refine hcnt.mono ?_; rintro e w' ⟨rfl, rfl⟩))
          go_roundw
          case rel => exact ⟨i + 1, s, E.length, sa, sc, rfl, rfl, by go_num, hlt, HF⟩
          case measure => simp [intOf]; omega
        · have hup := hD3.isup (b := false) (by rw [hT3.down.1]; rfl)
          rcases hg with rfl | ⟨rfl, rfl⟩
          · have HD3 := Lib.hid hD3
            have HT3 := Lib.hid (And.intro hT3 (And.intro hL hm2))
            clear HQ hT3 hD3 hm2 hL
            go_upto_block 3 with (go_at_call 33; refine hup.mono ?_; rintro e w' ⟨rfl, rfl⟩)
            refine sure_loop (code := _) (by kernel_rfl) HD3.out HXC.out.1 HT3.out.1 HT3.out.2.1 HT3.out.2.2 (by have h1 := HS.out.2.1; have h2 := HS.out.2.2.2.1; have h3 := HS.out.2.2.2.2.1; omega) (by have h1 := HS.out.2.2.1; have h2 := HS.out.2.2.2.1; have h3 := HS.out.2.2.2.2.1; omega) HAC.out.2.2.1 HAC.out.2.2.2.1 (fun _ _ _ _ _ h => h) ?_
            intro t a7 n7 c7
            intros
            rename_i w5 HE
            have hup5 : Calls Tryz.prog 33 #[.pointer (some ⟨d, 0, none⟩)] w5 fun e w2 => e = .returned (.bool true) ∧ w5 = w2 := by
              obtain ⟨M5, E5, st5, fl5, -, -, -, hT5, hU5⟩ := HE.out
              exact hU5.isup (by rw [hT5.up.1]; rfl)
            have HF := Lib.hid (sureE_to HE.out HS.out.2.1 HS.out.2.2.1)
            have hlt := HS.out.2.2.2.2.1
            clear HE HD3 HT3
            go_wp2_with (go_at_call 33; refine hup5.mono ?_; rintro e w' ⟨rfl, rfl⟩)
            go_roundw
            case rel => exact ⟨i + 1, t, n7, a7, c7, rfl, rfl, by go_num, hlt, HF⟩
            case measure => simp [intOf]; omega
          · obtain rfl : m2 = E.length := by simpa using hm2
            have HD3 := Lib.hid (hD3.fewer (Rs' := [.row (.slice a2 E.length c2) (E ++ []), .row (.slice a2 E.length c2) E, .blk xb XC 25]) (fun y q => by
              rw [List.append_nil] at q ⊢
              simp only [List.mem_cons, List.not_mem_nil, or_false] at q ⊢
              rcases q with rfl | rfl | rfl <;> simp))
            have HT3 := Lib.hid (And.intro hT3 (And.intro hL hm2))
            clear HQ hT3 hD3 hm2 hL
            go_upto_block 3 with (go_at_call 33; refine hup.mono ?_; rintro e w' ⟨rfl, rfl⟩)
            refine sure_loop (code := _) (by kernel_rfl) HD3.out HXC.out.1 HT3.out.1 HT3.out.2.1 HT3.out.2.2 (by have h1 := HS.out.2.1; have h2 := HS.out.2.2.2.1; have h3 := HS.out.2.2.2.2.1; omega) (by have h1 := HS.out.2.2.1; have h2 := HS.out.2.2.2.1; have h3 := HS.out.2.2.2.2.1; omega) HAC.out.2.2.1 HAC.out.2.2.2.1 (fun _ _ _ _ _ h => h) ?_
            intro t a7 n7 c7
            intros
            rename_i w5 HE
            have hup5 : Calls Tryz.prog 33 #[.pointer (some ⟨d, 0, none⟩)] w5 fun e w2 => e = .returned (.bool true) ∧ w5 = w2 := by
              obtain ⟨M5, E5, st5, fl5, -, -, -, hT5, hU5⟩ := HE.out
              exact hU5.isup (by rw [hT5.up.1]; rfl)
            have HF := Lib.hid (sureE_to HE.out HS.out.2.1 HS.out.2.2.1)
            have hlt := HS.out.2.2.2.2.1
            clear HE HD3 HT3
            go_wp2_with (go_at_call 33; refine hup5.mono ?_; rintro e w' ⟨rfl, rfl⟩)
            go_roundw
            case rel => exact ⟨i + 1, t, n7, a7, c7, rfl, rfl, by go_num, hlt, HF⟩
            case measure => simp [intOf]; omega
      · obtain rfl : i = A.length := by omega
        obtain ⟨y1, y2⟩ := dec_le hlt
        have hK : Kept (fun _ => False) w wr := by obtain ⟨M, E, st, fl, -, -, -, -, hU⟩ := HO.out; exact hU.old
        have hld := HLD.out wr hK
        clear hi hlt
        go_wp2_with (go_at_call 12; refine hld.mono ?_; rintro e w1 ⟨rfl, hk1⟩)
        go_ret
        exact ⟨rfl, hK.trans hk1⟩
open Go.WideShapes Go.ChangeShapes Go.Joins in
set_option maxRecDepth 100000 in
theorem segmentsSure_walk (v : Value) (W : World) (ht : Tab W) {base : Nat} {H : Type} {enc : TypeId × Value → H} {dd : DataW H} {pp : List MemPlace} (hv : Value.okWide Tryz.prog W .any base 26 v) (h : DataW.Trod enc Tryz.prog W 0 (fun _ => true) true 26 v dd pp) :
    Calls Tryz.prog 6 #[v] W fun e w' => e = .returned (.bool true) ∧ Below W.heap.size W w' := by
  obtain ⟨a, A, c, rfl, h1, h2⟩ := acts13_of hv h
  exact (sure_walk0 W ht a A c h1 h2).mono (fun e w' ⟨he, hk⟩ => ⟨he, hk.below (fun _ _ => id) (Nat.le_refl _)⟩)
end Go.Proofs.YtamdbaonmodnbaaGreatDoor
