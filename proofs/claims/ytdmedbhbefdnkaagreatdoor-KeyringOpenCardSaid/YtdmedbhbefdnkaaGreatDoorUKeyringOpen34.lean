/- RD1 RD2 RD3 RD4 RD5 RD6 RD7 RD9 RD10 RGo -/
import Derived.Deep.Upon
import Derived.Test.YtdmedbhbefdnkaaGreatDoorUKeyringOpen31
import Derived.Test.YtdmedbhbefdnkaaGreatDoorUKeyringOpen24
import Derived.Test.YtdmedbhbefdnkaaGreatDoorUKeyringOpen12
import Derived.Test.YtdmedbhbefdnkaaGreatDoorUKeyringOpen33
import Derived.Test.YtdmedbhbefdnkaaGreatDoorUKeyringOpen02
import Derived.Test.YtdmedbhbefdnkaaGreatDoorUKeyringOpen13
import Derived.Test.YtdmedbhbefdnkaaGreatDoorUKeyringOpen21
set_option linter.unusedVariables false
set_option linter.unusedSimpArgs false
namespace Go.Proofs.YtdmedbhbefdnkaaGreatDoor
open Go.RowKit
structure RefM where
  cap : Int
  L : List (Int × By)
  loose : List Int
  down : Bool
  starts : Int
  fails : Int
  keep : Int
structure RefM.Ok (R : RefM) : Prop where
  few : R.L.length ≤ 100
  size : ∀ p ∈ R.L, p.2.length ≤ 2000000
  loo : R.loose.length ≤ 10000000
  cap0 : 0 ≤ R.cap ∧ R.cap ≤ 1048576
  fail0 : 0 ≤ R.fails ∧ R.fails ≤ 2000000000000
def fcells (L : List (Int × By)) : List Value := L.flatMap fun p => [.int .i64 p.1, .string (strB p.2)]
theorem fcells_len (L : List (Int × By)) : (fcells L).length = L.length * 2 := by
  induction L with
  | nil => rfl
  | cons a r ih => simp only [fcells, List.flatMap_cons, List.length_append, List.length_cons, List.length_nil] at *; omega
theorem fcells_append (L M : List (Int × By)) : fcells (L ++ M) = fcells L ++ fcells M := by simp [fcells]
theorem fcells_cons (a : Int × By) (L : List (Int × By)) : fcells (a :: L) = [.int .i64 a.1, .string (strB a.2)] ++ fcells L := by simp [fcells]
theorem fcells_get (L : List (Int × By)) (i : Nat) (p : Int × By) (h : L[i]? = some p) : (fcells L)[i * 2]? = some (.int .i64 p.1) ∧ (fcells L)[i * 2 + 1]? = some (.string (strB p.2)) := by
  induction L generalizing i with
  | nil => simp at h
  | cons a r ih =>
    rw [fcells_cons]
    cases i with
    | zero => simp at h; subst h; simp
    | succ i =>
      have := ih i (by simpa using h)
      rw [List.getElem?_append_right (by simp; omega), List.getElem?_append_right (by simp; omega)]
      have e0 : [Value.int .i64 a.1, Value.string (strB a.2)].length = 2 := rfl
      rw [e0, show (i + 1) * 2 - 2 = i * 2 by omega, show (i + 1) * 2 + 1 - 2 = i * 2 + 1 by omega]
      exact this
theorem fcells_one (L : List (Int × By)) : ∀ u ∈ fcells L, u.oneCell' = true := by
  intro u hu
  unfold fcells at hu
  simp only [List.mem_flatMap, List.mem_cons, List.not_mem_nil, or_false] at hu
  obtain ⟨p, _, rfl | rfl⟩ := hu <;> rfl
theorem fcells_take (L : List (Int × By)) (i : Nat) : (fcells L).take (i * 2) = fcells (L.take i) := by
  induction L generalizing i with
  | nil => simp [fcells]
  | cons a r ih =>
    cases i with
    | zero => simp [fcells]
    | succ i =>
      rw [List.take_succ_cons, fcells_cons, fcells_cons, ← ih i, show (i + 1) * 2 = i * 2 + 1 + 1 by omega]
      rfl
theorem fcells_drop (L : List (Int × By)) (i : Nat) : (fcells L).drop (i * 2) = fcells (L.drop i) := by
  induction L generalizing i with
  | nil => simp [fcells]
  | cons a r ih =>
    cases i with
    | zero => simp
    | succ i =>
      rw [List.drop_succ_cons, fcells_cons, ← ih i, show (i + 1) * 2 = i * 2 + 1 + 1 by omega]
      rfl
abbrev refC (R : RefM) (x y : Value) : List Value := [.int .i64 R.cap, x, y, .bool R.down, .int .i64 R.starts, .int .i64 R.fails, .int .i64 R.keep]
structure IsRef (w : World) (r : Nat) (R : RefM) (x y : Value) : Prop where
  blk : Blk w r (refC R x y) 82
  files : Row w 87 2 x (fcells R.L)
  loose : Row w 3 1 y (icells R.loose)
def refOwn (r : Nat) (x y : Value) (k : Nat) : Prop := k = r ∨ x.ownBlock = some k ∨ y.ownBlock = some k
section
variable {w w' W : World} {r : Nat} {R R' : RefM} {x y x' y' : Value} {S : Nat → Prop}
theorem icells_len (l : List Int) : (icells l).length = l.length := by simp [icells]
theorem IsRef.kept (h : IsRef w r R x y) (hk : Kept S w w') (hS : ∀ k, refOwn r x y k → ¬ S k) : IsRef w' r R x y :=
  ⟨h.blk.kept hk (hS r (Or.inl rfl)), h.files.kept hk (fun k q => hS k (Or.inr (Or.inl q))), h.loose.kept hk (fun k q => hS k (Or.inr (Or.inr q)))⟩
theorem IsRef.same (h : IsRef w r R x y) (hk : Kept (fun _ => False) w w') : IsRef w' r R x y := h.kept hk (fun _ _ => id)
theorem IsRef.lt (h : IsRef w r R x y) {k : Nat} (hk : refOwn r x y k) : k < w.heap.size := by
  rcases hk with rfl | q | q
  · exact h.blk.lt
  · exact h.files.lt q
  · exact h.loose.lt q
theorem IsRef.ne (h : IsRef w r R x y) : (∀ k, x.ownBlock = some k → k ≠ r) ∧ (∀ k, y.ownBlock = some k → k ≠ r) :=
  ⟨fun _ q => h.files.ne_blk q h.blk (by decide), fun _ q => h.loose.ne_blk q h.blk (by decide)⟩
theorem IsRef.form (h : IsRef w r R x y) : ∃ a c, x = .slice a R.L.length c ∧ ∀ (i : Nat) (p : Int × By), R.L[i]? = some p → ∃ g, a = some ⟨g, 0, none⟩ ∧ w.cell? ⟨g, i * 2, none⟩ = some (.int .i64 p.1) ∧ w.cell? ⟨g, i * 2 + 1, none⟩ = some (.string (strB p.2)) := by
  obtain ⟨a, n, c, rfl, hn, _, hc⟩ := h.files.form (by omega)
  rw [fcells_len] at hn
  obtain rfl : n = R.L.length := by omega
  refine ⟨a, c, rfl, fun i p hp => ?_⟩
  have hi := (List.getElem?_eq_some_iff.1 hp).1
  obtain ⟨g, rfl, _, hg⟩ := hc (by omega)
  obtain ⟨g0, g1⟩ := fcells_get _ i p hp
  exact ⟨g, rfl, hg _ _ g0, hg _ _ g1⟩
theorem IsRef.lform (h : IsRef w r R x y) : ∃ a c, y = .slice a R.loose.length c ∧ ∀ (i : Nat) (n : Int), R.loose[i]? = some n → ∃ g, a = some ⟨g, 0, none⟩ ∧ w.cell? ⟨g, i, none⟩ = some (.int .i64 n) := by
  obtain ⟨a, n, c, rfl, hn, _, hc⟩ := h.loose.form (by omega)
  rw [icells_len] at hn
  obtain rfl : n = R.loose.length := by omega
  refine ⟨a, c, rfl, fun i p hp => ?_⟩
  have hi := (List.getElem?_eq_some_iff.1 hp).1
  obtain ⟨g, rfl, _, hg⟩ := hc (by omega)
  exact ⟨g, rfl, hg i _ (by unfold icells; rw [List.getElem?_map, hp]; rfl)⟩
def RefTo (w : World) (r : Nat) (x y : Value) (R' : RefM) (w' : World) : Prop :=
  ∃ x' y', IsRef w' r R' x' y' ∧ Kept (· = r) w w' ∧ (∀ k, x'.ownBlock = some k → x.ownBlock = some k ∨ w.heap.size ≤ k) ∧ (∀ k, y'.ownBlock = some k → y.ownBlock = some k ∨ w.heap.size ≤ k)
theorem RefTo.self (h : IsRef w r R x y) : RefTo w r x y R w := ⟨x, y, h, Kept.refl _ _, fun _ => Or.inl, fun _ => Or.inl⟩
def findV (L : List (Int × By)) (n : Int) : Int := match L.findIdx? (fun p => decide (p.1 = n)) with
  | some i => (i : Int)
  | none => -1
theorem findV_at {L : List (Int × By)} {n : Int} {i : Nat} {p : Int × By} (hp : L[i]? = some p) (hn : p.1 = n) (hb : ∀ j q, L[j]? = some q → j < i → q.1 ≠ n) : findV L n = (i : Int) := by
  obtain ⟨hi, e⟩ := List.getElem?_eq_some_iff.1 hp
  have : L.findIdx? (fun p => decide (p.1 = n)) = some i := by
    rw [List.findIdx?_eq_some_iff_getElem]
    refine ⟨hi, by rw [e]; exact decide_eq_true hn, fun j hj => ?_⟩
    have := hb j _ (List.getElem?_eq_getElem (by omega)) hj
    simpa using this
  unfold findV
  rw [this]
theorem findV_none {L : List (Int × By)} {n : Int} (hb : ∀ j q, L[j]? = some q → j < L.length → q.1 ≠ n) : findV L n = -1 := by
  have : L.findIdx? (fun p => decide (p.1 = n)) = none := by
    rw [List.findIdx?_eq_none_iff]
    intro q hq
    obtain ⟨j, hj, e⟩ := List.getElem_of_mem hq
    have := hb j q (by rw [List.getElem?_eq_getElem hj, e]) hj
    simpa using this
  unfold findV
  rw [this]
theorem findV_cases (L : List (Int × By)) (n : Int) : (findV L n = -1 ∧ ∀ p ∈ L, p.1 ≠ n) ∨ ∃ (i : Nat) (p : Int × By), findV L n = (i : Int) ∧ L[i]? = some p ∧ p.1 = n := by
  unfold findV
  cases h : L.findIdx? (fun p => decide (p.1 = n)) with
  | none =>
    left
    rw [List.findIdx?_eq_none_iff] at h
    exact ⟨rfl, fun p hp => by simpa using h p hp⟩
  | some i =>
    right
    rw [List.findIdx?_eq_some_iff_getElem] at h
    obtain ⟨hi, h1, _⟩ := h
    exact ⟨i, L[i], rfl, List.getElem?_eq_getElem hi, by simpa using h1⟩
theorem dec_gtr {a b : Nat} (h : a < b) : decide ((a : Int) < (b : Int)) = true ∧ decide (a < b) = true := ⟨decide_eq_true (by omega), decide_eq_true h⟩
theorem dec_ler {a b : Nat} (h : ¬ a < b) : decide ((a : Int) < (b : Int)) = false ∧ decide (a < b) = false := ⟨decide_eq_false (by omega), decide_eq_false h⟩
set_option maxRecDepth 100000 in
set_option maxHeartbeats 2000000 in
theorem find_ref (h : IsRef w r R x y) (hl : R.L.length ≤ 100) (n : Int) :
    Calls Tryz.prog 42 #[.pointer (some ⟨r, 0, none⟩), .int .i64 n] w fun e w' => e = .returned (.int .i64 (findV R.L n)) ∧ w = w' := by
  obtain ⟨a, c, rfl, hc⟩ := h.form
  have c1 := h.blk.cell (i := 1) rfl
  have HC := Lib.hid hc
  have HV := Lib.hid (And.intro (fun i p hp hn hb => findV_at (L := R.L) (n := n) (i := i) (p := p) hp hn hb) (fun hb => findV_none (L := R.L) (n := n) hb))
  clear h hc
  generalize findV R.L n = V at *
  go_enter Tryz.func42, Tryz.ntmps42
  go_wp2_with fail
  go_loop [5] (fun z => ∃ i : Nat, i ≤ R.L.length ∧ z = .int .i64 (i : Int) ∧ Hid (∀ j q, R.L[j]? = some q → j < i → q.1 ≠ n)) (fun z => R.L.length - (intOf z).toNat)
  case atStart => exact ⟨0, Nat.zero_le _, rfl, Lib.hid (fun j q _ hj => absurd hj (Nat.not_lt_zero _))⟩
  case round =>
    obtain ⟨i, hi, rfl, HS⟩ := hrel
    by_cases hlt : i < R.L.length
    · obtain ⟨y1, y2⟩ := dec_gtr hlt
      obtain ⟨p, hp⟩ : ∃ p, R.L[i]? = some p := ⟨_, List.getElem?_eq_getElem hlt⟩
      obtain ⟨g, rfl, q0, -⟩ := HC.out i p hp
      by_cases hn : p.1 = n
      · have z1 : (p.1 == n) = true := by simpa using hn
        have hv := HV.out.1 i p hp hn HS.out
        have HR := Lib.hid hv
        clear hi hp hn hv
        go_wp2_with fail
        go_ret
        exact ⟨by rw [HR.out]; rfl, rfl⟩
      · have z1 : (p.1 == n) = false := by simpa using hn
        have HS3 : Hid (∀ j q, R.L[j]? = some q → j < i + 1 → q.1 ≠ n) := by
          refine Lib.hid ?_
          intro j q hq hj
          rcases Nat.lt_or_ge j i with z | z
          · exact HS.out j q hq z
          · obtain rfl : j = i := by omega
            rw [hp] at hq
            cases hq
            exact hn
        have HLT := Lib.hid hlt
        clear hi hp hn
        go_wp2_with fail
        go_round
        case rel => exact ⟨i + 1, HLT.out, by go_num, HS3⟩
        case measure => have := HLT.out; simp [intOf]; omega
    · obtain rfl : i = R.L.length := by omega
      obtain ⟨y1, y2⟩ := dec_ler hlt
      have HR := Lib.hid (HV.out.2 HS.out)
      clear hi hlt
      go_wp2_with fail
      go_ret
      exact ⟨by rw [HR.out]; rfl, rfl⟩
def RefM.at_ (R : RefM) (n : Int) : Int × Int := if R.down = true then (-1, 61) else if findV R.L n < 0 then (-1, 4) else (findV R.L n, 0)
set_option maxRecDepth 100000 in
theorem at_ref (h : IsRef w r R x y) (hl : R.L.length ≤ 100) (n : Int) {i e0 : Int} (he : R.at_ n = (i, e0)) :
    Calls Tryz.prog 32 #[.pointer (some ⟨r, 0, none⟩), .int .i64 n] w fun e w' => e = .returned (.tuple #[.int .i64 i, .int .i64 e0]) ∧ w = w' := by
  have c3 := h.blk.cell (i := 3) rfl
  have HF := Lib.hid (find_ref h hl n)
  clear h
  unfold RefM.at_ at he
  generalize findV R.L n = V at *
  cases hd : R.down with
  | true =>
    rw [if_pos hd] at he
    rw [hd] at c3
    cases he
    go_enter Tryz.func32, Tryz.ntmps32
    go_wp2_with fail
    refine bodyPost_ret (v := .tuple #[.int .i64 (-1), .int .i64 61]) (by simp [results, Tryz.results32, go_sem]) rfl ⟨rfl, rfl⟩
  | false =>
    rw [if_neg (by rw [hd]; simp)] at he
    rw [hd] at c3
    by_cases h0 : V < 0
    · rw [if_pos h0] at he
      cases he
      have z1 : decide (V < 0) = true := decide_eq_true h0
      clear h0
      go_enter Tryz.func32, Tryz.ntmps32
      go_wp2_with (go_at_call 42; refine HF.out.mono ?_; rintro e w' ⟨rfl, rfl⟩)
      refine bodyPost_ret (v := .tuple #[.int .i64 (-1), .int .i64 4]) (by simp [results, Tryz.results32, go_sem]) rfl ⟨rfl, rfl⟩
    · rw [if_neg h0] at he
      cases he
      have z1 : decide (i < 0) = false := decide_eq_false h0
      clear h0
      go_enter Tryz.func32, Tryz.ntmps32
      go_wp2_with (go_at_call 42; refine HF.out.mono ?_; rintro e w' ⟨rfl, rfl⟩)
      refine bodyPost_ret (v := .tuple #[.int .i64 i, .int .i64 0]) (by simp [results, Tryz.results32, go_sem]) rfl ⟨rfl, rfl⟩
def RefM.sinks (R : RefM) : Bool := decide (R.fails = 1)
def RefM.tick (R : RefM) : RefM := if R.fails = 0 then R else { R with fails := R.fails - 1 }
set_option maxRecDepth 100000 in
theorem fails_ref (h : IsRef w r R x y) (hf : 0 ≤ R.fails ∧ R.fails ≤ 2000000000000) :
    Calls Tryz.prog 33 #[.pointer (some ⟨r, 0, none⟩)] w fun e w' => e = .returned (.bool R.sinks) ∧ IsRef w' r R.tick x y ∧ Kept (· = r) w w' := by
  have c5 := h.blk.cell (i := 5) rfl
  have z5 := h.blk.free 5
  by_cases h0 : R.fails = 0
  · have e1 : R.sinks = false := decide_eq_false (by omega)
    have e2 : R.tick = R := by unfold RefM.tick; rw [if_pos h0]
    have z1 : (R.fails == 0) = true := by simpa using h0
    have HI := Lib.hid h
    rw [e1, e2]
    clear e1 e2 h h0 hf
    go_enter Tryz.func33, Tryz.ntmps33
    go_wp2_with fail
    go_ret
    exact ⟨rfl, HI.out, Kept.refl _ _⟩
  · have e2 : R.tick = { R with fails := R.fails - 1 } := by unfold RefM.tick; rw [if_neg h0]
    have z1 : (R.fails == 0) = false := by simpa using h0
    have z2 : (R.fails - 1 == 0) = R.sinks := by unfold RefM.sinks; by_cases q : R.fails = 1 <;> simp [q]; omega
    have hw : wrap64 (R.fails - 1) = R.fails - 1 := IntWalk.wrap64_in _ (by omega)
    have hE : ∀ W', w.setCell ⟨r, 5, none⟩ (.int .i64 (R.fails - 1)) = W' → IsRef W' r R.tick x y ∧ Kept (· = r) w W' := by
      intro W' hW
      have hk := kept_cell w r 5 (.int .i64 (R.fails - 1))
      have hb := h.blk.set 5 (.int .i64 (R.fails - 1))
      rw [hW] at hk hb
      rw [e2]
      exact ⟨⟨hb, h.files.kept hk (fun k q => h.ne.1 k q), h.loose.kept hk (fun k q => h.ne.2 k q)⟩, hk⟩
    have HE := Lib.hid hE
    clear hE e2 h h0 hf
    go_enter Tryz.func33, Tryz.ntmps33
    go_wp2_with fail
    generalize hW : World.setCell _ _ _ = W'
    obtain ⟨g1, g2⟩ := HE.out W' hW
    refine bodyPost_ret (v := .bool R.sinks) (by simp [results, Tryz.results33, go_sem]) rfl ⟨rfl, g1, g2⟩
end
end Go.Proofs.YtdmedbhbefdnkaaGreatDoor

namespace Go.Proofs.YtdmedbhbefdnkaaGreatDoor
open Go.RowKit
theorem info_file : (Tryz.prog.info? 87).map (fun i => (i.zero, i.size, i.bytes)) = some (some (.agg #[.int .i64 0, .string ⟨#[]⟩]), 2, 24) := by kernel_rfl
theorem file_append {w : World} {v : Value} {L : List (Int × By)} (p : Int × By) (hL : L.length ≤ 1000000) (hrow : Row w 87 2 v (fcells L)) :
    ∃ sa n cap w3, (Builtin.append_ #[79, 79] 79 #[v, .slice (some ⟨w.heap.size, 0, none⟩) 1 1]).run Tryz.prog (w.alloc (.cells #[.int .i64 p.1, .string (strB p.2)] 87)) = .ok (.slice sa n cap) w3 ∧
      Row w3 87 2 (.slice sa n cap) (fcells (L ++ [p])) ∧ Kept (fun x => v.ownBlock = some x) w w3 ∧ ∀ k, (Value.slice sa n cap).ownBlock = some k → v.ownBlock = some k ∨ w.heap.size ≤ k := by
  obtain ⟨i0, hi, hz0, hz1, hz2⟩ := info_parts info_file
  have hnew := Blk.new w [.int .i64 p.1, .string (strB p.2)] 87
  have hal : Kept (fun _ => False) w (w.alloc (.cells #[.int .i64 p.1, .string (strB p.2)] 87)) := (Kept.refl _ _).alloc _
  have hkl : (fcells L).length = L.length * 2 := fcells_len L
  obtain ⟨v', w3, hrun, hrow3, hk3, hf3⟩ := Row.append_cells (P := Tryz.prog) (t := 79) (hrow.kept hal (fun _ _ => id)) Tryz.underlying79 hi hz0 hz1 rfl (by decide) (by rw [hz2]; decide) ⟨w.heap.size, 0, none⟩ 1 1 [.int .i64 p.1, .string (strB p.2)] rfl
    (fun j u hu => by rw [addr0_add]; exact hnew.cell hu) (fun u hu => by simp at hu; rcases hu with rfl | rfl <;> rfl) (by decide) (by simp; omega) 79
  obtain ⟨sa, n, cap, rfl, _⟩ := hrow3.form (by omega)
  refine ⟨sa, n, cap, w3, hrun, ?_, (hal.mono (fun _ _ => False.elim)).trans hk3, fun k hk => (hf3 k hk).imp id (fun q => by have := hal.size; omega)⟩
  rw [fcells_append]
  exact hrow3
theorem files_append {w : World} {v u : Value} {L M : List (Int × By)} (hL : L.length + M.length ≤ 1000000) (hrow : Row w 87 2 v (fcells L)) (hview : View w 2 u (fcells M)) :
    ∃ sa n cap w3, (Builtin.append_ #[79, 79] 79 #[v, u]).run Tryz.prog w = .ok (.slice sa n cap) w3 ∧
      Row w3 87 2 (.slice sa n cap) (fcells (L ++ M)) ∧ Kept (fun x => v.ownBlock = some x) w w3 ∧ ∀ k, (Value.slice sa n cap).ownBlock = some k → v.ownBlock = some k ∨ w.heap.size ≤ k := by
  obtain ⟨i0, hi, hz0, hz1, hz2⟩ := info_parts info_file
  have hkl : (fcells L).length = L.length * 2 := fcells_len L
  have hkm : (fcells M).length = M.length * 2 := fcells_len M
  obtain ⟨v', w3, hrun, hrow3, hk3, hf3⟩ := Row.append_view (P := Tryz.prog) (t := 79) hrow hview Tryz.underlying79 hi hz0 hz1 rfl (by decide) (by rw [hz2]; decide) (fcells_one M) (by omega) 79
  obtain ⟨sa, n, cap, rfl, _⟩ := hrow3.form (by omega)
  exact ⟨sa, n, cap, w3, hrun, by rw [fcells_append]; exact hrow3, hk3, hf3⟩
section
variable {w w' W : World} {r : Nat} {R R' : RefM} {x y x' y' : Value} {S : Nat → Prop}
theorem sum_take {L : List (Int × By)} {i : Nat} {p : Int × By} (hp : L[i]? = some p) : AM.sum List.length (L.take (i + 1)) = AM.sum List.length (L.take i) + p.2.length := by
  rw [List.take_add_one, hp]
  simp [AM.sum]
theorem sum_take_le (L : List (Int × By)) (i : Nat) : AM.sum List.length (L.take i) ≤ AM.sum List.length L := by
  conv => rhs; rw [← List.take_append_drop i L]
  unfold AM.sum
  rw [List.map_append, List.sum_append]
  omega
theorem RefM.Ok.sum (h : R.Ok) : AM.sum List.length R.L ≤ 200000000 := by
  have h1 : ∀ (L : List (Int × By)), (∀ p ∈ L, p.2.length ≤ 2000000) → AM.sum List.length L ≤ L.length * 2000000 := by
    intro L
    induction L with
    | nil => intro _; simp [AM.sum]
    | cons a r ih =>
      intro hq
      have := ih (fun p hp => hq p (by simp [hp]))
      have := hq a (by simp)
      rw [AM.sum_cons, List.length_cons]
      omega
  have := h1 R.L h.size
  have := h.few
  omega
def RefM.free (R : RefM) : Int := R.cap - (AM.sum List.length R.L : Nat)
set_option maxRecDepth 100000 in
set_option maxHeartbeats 2000000 in
theorem free_ref (h : IsRef w r R x y) (hR : R.Ok) :
    Calls Tryz.prog 36 #[.pointer (some ⟨r, 0, none⟩)] w fun e w' => e = .returned (.int .i64 R.free) ∧ w = w' := by
  obtain ⟨a, c, rfl, hc⟩ := h.form
  have c0 := h.blk.cell (i := 0) rfl
  have c1 := h.blk.cell (i := 1) rfl
  have HC := Lib.hid hc
  have HS := Lib.hid (And.intro hR.sum hR.cap0)
  have hl := hR.few
  clear h hc hR
  unfold RefM.free
  go_enter Tryz.func36, Tryz.ntmps36
  go_wp2_with fail
  go_loop [3, 4] (fun u z => ∃ i : Nat, i ≤ R.L.length ∧ u = .int .i64 (R.cap - (AM.sum List.length (R.L.take i) : Nat)) ∧ z = .int .i64 (i : Int)) (fun _ z => R.L.length - (intOf z).toNat)
  case atStart => exact ⟨0, Nat.zero_le _, by simp [AM.sum], rfl⟩
  case round =>
    obtain ⟨i, hi, rfl, rfl⟩ := hrel
    by_cases hlt : i < R.L.length
    · obtain ⟨y1, y2⟩ := dec_gtr hlt
      obtain ⟨p, hp⟩ : ∃ p, R.L[i]? = some p := ⟨_, List.getElem?_eq_getElem hlt⟩
      obtain ⟨g, rfl, -, q1⟩ := HC.out i p hp
      have hs := sum_take hp
      have hs2 := sum_take_le R.L (i + 1)
      obtain ⟨T, hT⟩ : ∃ T, AM.sum List.length (R.L.take i) = T := ⟨_, rfl⟩
      rw [hT] at hs ⊢
      have hsz : (strB p.2).size = p.2.length := strB_size p.2
      obtain ⟨bs, hbs⟩ : ∃ bs, strB p.2 = bs := ⟨_, rfl⟩
      rw [hbs] at hsz q1
      have HG := Lib.hid (show R.cap - (T : Int) - (bs.size : Int) = R.cap - (AM.sum List.length (R.L.take (i + 1)) : Nat) by rw [hs, hsz]; omega)
      have HW := Lib.hid (show wrap64 (R.cap - (AM.sum List.length (R.L.take (i + 1)) : Nat)) = R.cap - (AM.sum List.length (R.L.take (i + 1)) : Nat) from IntWalk.wrap64_in _ (by have := HS.out; omega))
      have HLT := Lib.hid hlt
      clear hi hp hs hs2 hT hsz hbs
      go_wp2_with fail
      go_round
      case rel => exact ⟨i + 1, HLT.out, by rw [HG.out, HW.out], by go_num⟩
      case measure => have := HLT.out; simp [intOf]; omega
    · obtain rfl : i = R.L.length := by omega
      obtain ⟨y1, y2⟩ := dec_ler hlt
      clear hi hlt
      rw [List.take_length]
      go_wp2_with fail
      go_ret
      exact ⟨rfl, rfl⟩
set_option maxRecDepth 100000 in
theorem new_ref (w : World) (cap : Int) (h0 : 0 ≤ cap) (h1 : cap ≤ 1048576) :
    Calls Tryz.prog 9 #[.int .i64 cap] w fun e w' => ∃ r, e = .returned (.tuple #[.pointer (some ⟨r, 0, none⟩), .int .i64 0]) ∧ w.heap.size ≤ r ∧ IsRef w' r ⟨cap, [], [], false, 0, 0, 0⟩ (.slice none 0 0) (.slice none 0 0) ∧ Kept (fun _ => False) w w' := by
  have z1 : decide (cap < 0) = false := decide_eq_false (by omega)
  have z2 : decide (1048576 < cap) = false := decide_eq_false (by omega)
  have HN := Lib.hid (show IsRef (w.alloc (.cells (refC ⟨cap, [], [], false, 0, 0, 0⟩ (.slice none 0 0) (.slice none 0 0)).toArray 82)) w.heap.size ⟨cap, [], [], false, 0, 0, 0⟩ (.slice none 0 0) (.slice none 0 0) from ⟨Blk.new _ _ _, Row.nil _ _ _, Row.nil _ _ _⟩)
  clear h0 h1
  go_enter Tryz.func9, Tryz.ntmps9
  go_wp2_with fail
  refine bodyPost_ret (v := .tuple #[.pointer (some ⟨w.heap.size, 0, none⟩), .int .i64 0]) (by simp [results, Tryz.results9, go_sem]) rfl ⟨w.heap.size, rfl, Nat.le_refl _, HN.out, (Kept.refl _ _).alloc _⟩
def RefM.sync (R : RefM) : Int × RefM := if R.down = true then (61, R) else (0, { R.tick with loose := [] })
set_option maxRecDepth 100000 in
theorem sync_ref (h : IsRef w r R x y) (hR : R.Ok) (hs : R.sinks = false) {e0 : Int} (he : R.sync = (e0, R')) :
    Calls Tryz.prog 46 #[.pointer (some ⟨r, 0, none⟩)] w fun e w' => e = .returned (.int .i64 e0) ∧ RefTo w r x y R' w' := by
  have c3 := h.blk.cell (i := 3) rfl
  unfold RefM.sync at he
  cases hd : R.down with
  | true =>
    rw [if_pos hd] at he
    rw [hd] at c3
    cases he
    have HT := Lib.hid (RefTo.self h)
    clear h hR hs hd
    go_enter Tryz.func46, Tryz.ntmps46
    go_wp2_with fail
    go_ret
    exact ⟨rfl, HT.out⟩
  | false =>
    rw [if_neg (by rw [hd]; simp)] at he
    rw [hd] at c3
    cases he
    have HF := fails_ref h hR.fail0
    rw [hs] at HF
    have HF := Lib.hid HF
    have HE := Lib.hid (fun w1 (g1 : IsRef w1 r R.tick x y) (g2 : Kept (· = r) w w1) => (show w1.frozen? ⟨r, 2, none⟩ = false ∧ (w1.cell? ⟨r, 2, none⟩).isSome ∧ RefTo w r x y { R.tick with loose := [] } (w1.setCell ⟨r, 2, none⟩ (.slice none 0 0)) from by
      have hk := kept_cell w1 r 2 (.slice none 0 0)
      have hb := g1.blk.set 2 (.slice none 0 0)
      exact ⟨g1.blk.free 2, by rw [g1.blk.cell (i := 2) rfl]; rfl, x, .slice none 0 0, ⟨hb, g1.files.kept hk (fun k q => g1.ne.1 k q), Row.nil _ _ _⟩, g2.then_ hk (fun _ _ q => q), fun _ => Or.inl, fun k q => by simp [Value.ownBlock] at q⟩))
    clear h hR hs hd
    go_enter Tryz.func46, Tryz.ntmps46
    go_wp2_with (go_at_call 33; refine HF.out.mono ?_; rintro e w1 ⟨rfl, g1, g2⟩; have z2 := g1.blk.free 2; have d2 := g1.blk.cell (i := 2) rfl; have H1 := Lib.hid (HE.out w1 g1 g2).2.2; clear g1 g2)
    go_ret
    exact ⟨rfl, H1.out⟩
end
end Go.Proofs.YtdmedbhbefdnkaaGreatDoor

namespace Go.Proofs.YtdmedbhbefdnkaaGreatDoor
open Go.RowKit
theorem step_append_runR {P : Program} {w : World} {ops : Array Oper} {o : Oper} {a : Act} {K : Act → World → Prop} {Q : Exit → Act → World → Prop} {E : Prop} (hgd : o.guard = none) (s x : Operand) (t tn : TypeId)
    (ho : o.op = .call { callee := .builtin .append, args := #[s, x], argTypes := #[t, tn] }) (vs vx : Value) (hs : a.eval s = vs) (hx : a.eval x = vx)
    (v' : Value) (w' : World) (hr : (Builtin.append_ #[t, tn] o.type #[vs, vx]).run P w = .ok v' w') (h : K (a.put o.dst v') w') :
    if Region.wanted o (yielded ops a.tmps) = true then Oper.wp P o a w K Q else E := by
  have hw : Region.wanted o (yielded ops a.tmps) = true := by simp [Region.wanted, hgd]
  rw [if_pos hw]
  exact Lib.wp_append_run w s x t tn ho vs vx hs hx v' w' hr h
def madeL (L : List (Int × By)) (n : Int) : List (Int × By) := L.takeWhile (fun p => decide (p.1 < n)) ++ (n, []) :: L.dropWhile (fun p => decide (p.1 < n))
theorem while_at {L : List (Int × By)} {f : Int × By → Bool} {i : Nat} (h1 : ∀ j p, L[j]? = some p → j < i → f p = true) (h2 : ∀ p, L[i]? = some p → f p = false) (hi : i ≤ L.length) : L.takeWhile f = L.take i ∧ L.dropWhile f = L.drop i := by
  induction L generalizing i with
  | nil => simp
  | cons a l ih =>
    cases i with
    | zero =>
      have := h2 a rfl
      simp [List.takeWhile_cons, List.dropWhile_cons, this]
    | succ i =>
      have h0 := h1 0 a rfl (by omega)
      obtain ⟨g1, g2⟩ := ih (i := i) (fun j p hp hj => h1 (j + 1) p (by simpa using hp) (by omega)) (fun p hp => h2 p (by simpa using hp)) (by simpa using hi)
      simp [List.takeWhile_cons, List.dropWhile_cons, h0, g1, g2]
def RefM.create (R : RefM) (n : Int) : Int × RefM :=
  if R.down = true then (61, R) else if n < 0 then (2, R) else if 0 ≤ findV R.L n then (62, R) else if 99 < R.L.length then (60, R) else (0, { R.tick with L := madeL R.L n })
section
variable {w w' W : World} {r : Nat} {R R' : RefM} {x y x' y' : Value} {S : Nat → Prop}
theorem RefM.tick_eq (R : RefM) : R.tick.L = R.L ∧ R.tick.loose = R.loose ∧ R.tick.cap = R.cap ∧ R.tick.down = R.down ∧ R.tick.starts = R.starts ∧ R.tick.keep = R.keep := by
  unfold RefM.tick
  split <;> exact ⟨rfl, rfl, rfl, rfl, rfl, rfl⟩
def MakeS (w : World) (r : Nat) (R : RefM) (x y : Value) (v : Value) (i : Nat) (W : World) : Prop :=
  IsRef W r R x y ∧ Kept (· = r) w W ∧ Row W 87 2 v (fcells (R.L.take i)) ∧ (∀ k, v.ownBlock = some k → w.heap.size ≤ k) ∧ ∀ k, refOwn r x y k → k < w.heap.size
theorem MakeS.drew {v : Value} {i : Nat} (h : MakeS w r R x y v i W) : MakeS w r R x y v i W.drew := ⟨h.1.same (Kept.refl _ _).drew, h.2.1.drew, h.2.2.1.drew, h.2.2.2⟩
theorem MakeS.app {v : Value} {i : Nat} {p : Int × By} (h : MakeS w r R x y v i W) (hR : R.L.length ≤ 100) (hp : R.L[i]? = some p) :
    ∃ sa n cap w3, (Builtin.append_ #[79, 79] 79 #[v, .slice (some ⟨W.heap.size, 0, none⟩) 1 1]).run Tryz.prog (W.alloc (.cells #[.int .i64 p.1, .string (strB p.2)] 87)) = .ok (.slice sa n cap) w3 ∧ Hid (MakeS w r R x y (.slice sa n cap) (i + 1) w3) := by
  obtain ⟨h1, h2, h3, h4, h5⟩ := h
  obtain ⟨sa, n, cap, w3, hr, g1, g2, g3⟩ := file_append p (by rw [List.length_take]; omega) h3
  refine ⟨sa, n, cap, w3, hr, Lib.hid ⟨h1.kept g2 (fun k q e => by have := h4 k e; have := h5 k q; omega), h2.then_ g2 (fun k hk e => by have := h4 k e; omega), ?_, fun k e => (g3 k e).elim (h4 k) (fun q => by have := h2.size; omega), h5⟩⟩
  rw [List.take_add_one, hp]
  exact g1
theorem MakeS.last {v : Value} {i : Nat} (h : MakeS w r R x y v i W) (hR : R.L.length ≤ 100) (hi : i ≤ R.L.length) (n : Int) :
    ∃ a c s1 m1 c1 w1 s2 m2 c2 w2, x = .slice a R.L.length c ∧
      (∀ w0, (Instr.slice 79 x (some (.int .i64 (i : Int))) none none).run Tryz.prog w0 = .ok (.slice (if c = i then a else a.map (·.add (i * 2))) (R.L.length - i) (c - i)) w0) ∧
      (Builtin.append_ #[79, 79] 79 #[v, .slice (some ⟨W.heap.size, 0, none⟩) 1 1]).run Tryz.prog (W.alloc (.cells #[.int .i64 n, .string (strB [])] 87)) = .ok (.slice s1 m1 c1) w1 ∧
      (Builtin.append_ #[79, 79] 79 #[.slice s1 m1 c1, .slice (if c = i then a else a.map (·.add (i * 2))) (R.L.length - i) (c - i)]).run Tryz.prog w1 = .ok (.slice s2 m2 c2) w2 ∧
      (W.cell? ⟨r, 1, none⟩ = some x ∧ (W.alloc (.cells #[.int .i64 n, .string (strB [])] 87)).cell? ⟨r, 1, none⟩ = some x ∧ w1.cell? ⟨r, 1, none⟩ = some x ∧ w2.cell? ⟨r, 1, none⟩ = some x ∧ w2.frozen? ⟨r, 1, none⟩ = false) ∧
      Hid (∀ W', w2.setCell ⟨r, 1, none⟩ (.slice s2 m2 c2) = W' → RefTo w r x y { R with L := R.L.take i ++ (n, []) :: R.L.drop i } W') := by
  obtain ⟨h1, h2, h3, h4, h5⟩ := h
  obtain ⟨a, c, rfl, -⟩ := h1.form
  have hv := h1.files.view
  have v2 := hv.tail i hi
  rw [fcells_drop] at v2
  have hz := fun w0 => hv.run_tail (P := Tryz.prog) (t := 79) (by kernel_rfl) (fun _ => by kernel_rfl) i hi w0
  obtain ⟨s1, m1, c1, w1, r1, g1, k1, o1⟩ := file_append (n, []) (by rw [List.length_take]; omega) h3
  have hk1 : IsRef w1 r R (.slice a R.L.length c) y := h1.kept k1 (fun k q e => by have := h4 k e; have := h5 k q; omega)
  have hv1 : View w1 2 (.slice (if c = i then a else a.map (·.add (i * 2))) (R.L.length - i) (c - i)) (fcells (R.L.drop i)) := by
    have e := hk1.files.view.tail i hi
    rwa [fcells_drop] at e
  obtain ⟨s2, m2, c2, w2, r2, g2, k2, o2⟩ := files_append (by simp; omega) g1 hv1
  have ho1 : ∀ k, (Value.slice s1 m1 c1).ownBlock = some k → w.heap.size ≤ k := fun k e => (o1 k e).elim (h4 k) (fun q => by have := h2.size; omega)
  have hk2 : IsRef w2 r R (.slice a R.L.length c) y := hk1.kept k2 (fun k q e => by have := ho1 k e; have := h5 k q; omega)
  have hK1 : Kept (· = r) w w1 := h2.then_ k1 (fun k hk e => by have := h4 k e; omega)
  have hK2 : Kept (· = r) w w2 := hK1.then_ k2 (fun k hk e => by have := ho1 k e; omega)
  have ho2 : ∀ k, (Value.slice s2 m2 c2).ownBlock = some k → w.heap.size ≤ k := fun k e => (o2 k e).elim (ho1 k) (fun q => by have := hK1.size; omega)
  refine ⟨a, c, s1, m1, c1, w1, s2, m2, c2, w2, rfl, hz, r1, r2, ⟨h1.blk.cell rfl, (h1.blk.alloc _).cell rfl, hk1.blk.cell rfl, hk2.blk.cell rfl, hk2.blk.free 1⟩, Lib.hid ?_⟩
  intro W' hW
  have hkc := kept_cell w2 r 1 (.slice s2 m2 c2)
  have hb := hk2.blk.set 1 (.slice s2 m2 c2)
  rw [hW] at hkc hb
  have hrr := h5 r (Or.inl rfl)
  refine ⟨.slice s2 m2 c2, y, ⟨hb, ?_, hk2.loose.kept hkc (fun k q => hk2.ne.2 k q)⟩, hK2.then_ hkc (fun _ _ q => q), fun k e => Or.inr (ho2 k e), fun _ => Or.inl⟩
  have e1 : R.L.take i ++ [(n, [])] ++ R.L.drop i = R.L.take i ++ (n, []) :: R.L.drop i := by simp
  rw [e1] at g2
  exact g2.kept hkc (fun k q e => by have := ho2 k q; have : k = r := e; omega)
set_option maxRecDepth 100000 in
set_option maxHeartbeats 4000000 in
theorem create_ref (h : IsRef w r R x y) (hR : R.Ok) (hs : R.sinks = false) (n : Int) (n0 : -9223372036854775808 ≤ n ∧ n ≤ 9223372036854775807) {e0 : Int} (he : R.create n = (e0, R')) :
    Calls Tryz.prog 11 #[.pointer (some ⟨r, 0, none⟩), .int .i64 n] w fun e w' => e = .returned (.int .i64 e0) ∧ RefTo w r x y R' w' := by
  have HT := Lib.hid (RefTo.self h)
  have hlow := fun k (q : refOwn r x y k) => h.lt q
  have hfew := hR.few
  unfold RefM.create at he
  cases hd : R.down with
  | true =>
    rw [if_pos hd] at he
    cases he
    have HAT := Lib.hid (at_ref h hR.few n (i := -1) (e0 := 61) (by unfold RefM.at_; rw [if_pos hd]))
    clear h hR hs hd hlow
    go_enter Tryz.func11, Tryz.ntmps11
    go_wp2_with (go_at_call 32; refine HAT.out.mono ?_; rintro e w' ⟨rfl, rfl⟩)
    go_ret
    exact ⟨rfl, HT.out⟩
  | false =>
    rw [if_neg (by rw [hd]; simp)] at he
    obtain ⟨i0, e1, hat, he1, hneg⟩ : ∃ i0 e1, R.at_ n = (i0, e1) ∧ (e1 == 61) = false ∧ (findV R.L n < 0 → i0 < 0) ∧ (¬ findV R.L n < 0 → i0 = findV R.L n) := by
      unfold RefM.at_
      rw [if_neg (by rw [hd]; simp)]
      by_cases q : findV R.L n < 0
      · exact ⟨-1, 4, by rw [if_pos q], rfl, fun _ => by omega, fun q2 => absurd q q2⟩
      · exact ⟨_, 0, by rw [if_neg q], rfl, fun q2 => absurd q2 q, fun _ => rfl⟩
    have HAT := Lib.hid (at_ref h hR.few n hat)
    clear hat
    by_cases hn : n < 0
    · rw [if_pos hn] at he
      cases he
      have z1 : decide (n < 0) = true := decide_eq_true hn
      clear h hR hs hd hlow hn hneg
      go_enter Tryz.func11, Tryz.ntmps11
      go_wp2_with (go_at_call 32; refine HAT.out.mono ?_; rintro e w' ⟨rfl, rfl⟩)
      go_ret
      exact ⟨rfl, HT.out⟩
    · rw [if_neg hn] at he
      have z1 : decide (n < 0) = false := decide_eq_false hn
      by_cases hf : 0 ≤ findV R.L n
      · rw [if_pos hf] at he
        cases he
        have z2 : decide (0 ≤ i0) = true := decide_eq_true (by rw [hneg.2 (by omega)]; exact hf)
        clear h hR hs hd hlow hn hneg hf
        go_enter Tryz.func11, Tryz.ntmps11
        go_wp2_with (go_at_call 32; refine HAT.out.mono ?_; rintro e w' ⟨rfl, rfl⟩)
        go_ret
        exact ⟨rfl, HT.out⟩
      · rw [if_neg hf] at he
        have z2 : decide (0 ≤ i0) = false := decide_eq_false (by have := hneg.1 (by omega); omega)
        clear hneg hf
        obtain ⟨a, c, rfl, hc⟩ := h.form
        have c1 := h.blk.cell (i := 1) rfl
        by_cases hfull : 99 < R.L.length
        · rw [if_pos hfull] at he
          cases he
          have z3 : decide ((99 : Int) < (R.L.length : Int)) = true := decide_eq_true (by omega)
          have z4 : decide (99 < R.L.length) = true := decide_eq_true hfull
          clear h hR hs hd hlow hn hc hfull
          go_enter Tryz.func11, Tryz.ntmps11
          go_wp2_with (go_at_call 32; refine HAT.out.mono ?_; rintro e w' ⟨rfl, rfl⟩)
          go_ret
          exact ⟨rfl, HT.out⟩
        · rw [if_neg hfull] at he
          cases he
          have z3 : decide ((99 : Int) < (R.L.length : Int)) = false := decide_eq_false (by omega)
          have z4 : decide (99 < R.L.length) = false := decide_eq_false hfull
          have HF := fails_ref h hR.fail0
          rw [hs] at HF
          have HF := Lib.hid HF
          have HLW := Lib.hid (And.intro hlow (And.intro hn hfew))
          obtain ⟨t1, t2, t3, t4, t5, t6⟩ := R.tick_eq
          have HTK := Lib.hid t1
          generalize R.tick = R1 at *
          clear t1 t2 t3 t4 t5 t6 h hR hs hd hlow hn hc HT hfull
          go_enter Tryz.func11, Tryz.ntmps11
          go_upto_region 12 with (first
            | (go_at_call 32; refine HAT.out.mono ?_; rintro e w' ⟨rfl, rfl⟩)
            | (go_at_call 33; refine HF.out.mono ?_; rintro e w1 ⟨rfl, g1, g2⟩; have HM := Lib.hid (show MakeS w r R1 (.slice a R.L.length c) y (.slice none 0 0) 0 w1 from ⟨g1, g2, Row.nil _ _ _, fun k q => by simp [Value.ownBlock] at q, HLW.out.1⟩); clear g1 g2))
          clear HAT HF z1 z2 z3 z4 c1
          go_wp2_with fail
          go_loopw [7, 8] (fun z7 z8 wr => ∃ (i : Nat) (sa : Option Addr) (sc : Nat), i ≤ R.L.length ∧ z7 = .slice sa i sc ∧ z8 = .int .i64 (i : Int) ∧ Hid (MakeS w r R1 (.slice a R.L.length c) y (.slice sa i sc) i wr) ∧ Hid (∀ j p, R1.L[j]? = some p → j < i → p.1 < n)) (fun _ z8 _ => R.L.length - (intOf z8).toNat)
          case atStart => exact ⟨0, none, 0, Nat.zero_le _, rfl, rfl, HM, Lib.hid (fun j p _ q => absurd q (Nat.not_lt_zero _))⟩
          case round =>
            obtain ⟨i, sa, sc, hi, rfl, rfl, HS, HP⟩ := hrel
            have d1 := HS.out.1.blk.cell (i := 1) rfl
            by_cases hlt : i < R.L.length
            · obtain ⟨y1, y2⟩ := dec_gtr hlt
              obtain ⟨p, hp⟩ : ∃ p, R1.L[i]? = some p := ⟨_, List.getElem?_eq_getElem (by rw [HTK.out]; exact hlt)⟩
              obtain ⟨a', c', hx', hcc⟩ := HS.out.1.form
              simp only [Value.slice.injEq] at hx'
              obtain ⟨rfl, -, rfl⟩ := hx'
              obtain ⟨g, rfl, q0, q1⟩ := hcc i p hp
              have HI := Lib.hid hp
              have HLT := Lib.hid hlt
              by_cases hpn : p.1 < n
              · have z5 : decide (p.1 < n) = true := decide_eq_true hpn
                have HP2 : Hid (∀ j q, R1.L[j]? = some q → j < i + 1 → q.1 < n) := by
                  refine Lib.hid ?_
                  intro j q hq hj
                  rcases Nat.lt_or_ge j i with z | z
                  · exact HP.out j q hq z
                  · obtain rfl : j = i := by omega
                    rw [hp] at hq
                    cases hq
                    exact hpn
                obtain ⟨sb, m, cb, w3, hap, hm⟩ := HS.out.app (by rw [HTK.out]; exact HLW.out.2.2) hp
                have hmi : m = i + 1 := by
                  obtain ⟨_, m', _, hv', q2, _⟩ := hm.out.2.2.1.form (by omega)
                  cases hv'
                  rw [fcells_len, List.length_take, HTK.out] at q2
                  omega
                subst hmi
                clear hpn hcc hp HP hi
                go_wp2_with (at_builtin; refine Lib.wpList_append_run _ rfl _ _ 79 79 rfl _ _ rfl rfl _ _ hap ?_)
                go_roundw
                case rel => exact ⟨i + 1, sb, cb, HLT.out, rfl, by go_num, hm, HP2⟩
                case measure => have := HLT.out; simp [intOf]; omega
              · have z5 : decide (p.1 < n) = false := decide_eq_false hpn
                have hmade : madeL R.L n = R1.L.take i ++ (n, []) :: R1.L.drop i := by
                  obtain ⟨e1, e2⟩ := while_at (L := R1.L) (f := fun p => decide (p.1 < n)) (fun j p hp hj => decide_eq_true (HP.out j p hp hj)) (fun p' hp' => by rw [hp] at hp'; cases hp'; exact z5) (by rw [HTK.out]; exact hi)
                  unfold madeL
                  rw [HTK.out] at e1 e2
                  rw [e1, e2, HTK.out]
                have HMD := Lib.hid hmade
                have HI9 := Lib.hid hi
                clear hpn hcc hp HP hmade
                go_upto_region 17 with fail
                clear q0 q1 z5 y1 y2
                refine wp_region_held_drew (S := fun _ => True) (by kernel_rfl) trivial (fun _ => ?_)
                have hSd := HS.out.drew
                generalize World.drew wr = Wd at *
                obtain ⟨a2, k2, s1, m1, l1, w5, s2, m2, l2, w6, hx2, hz, r1, r2, ⟨e0, e1, e2, e3, f3⟩, HE⟩ := hSd.last (by rw [HTK.out]; exact HLW.out.2.2) (by rw [HTK.out]; exact HI9.out) n
                clear hSd
                rw [HTK.out] at hx2 hz r2 HE
                simp only [Value.slice.injEq] at hx2
                obtain ⟨rfl, -, rfl⟩ := hx2
                rw [HTK.out] at HMD
                rw [← HMD.out] at HE
                generalize (if c = i then (some ⟨g, 0, none⟩) else ((some ⟨g, 0, none⟩) : Option Addr).map (·.add (i * 2))) = sx at hz r2
                clear d1
                change (Builtin.append_ #[79, 79] 79 #[_, .slice (some ⟨Wd.heap.size, 0, none⟩) 1 1]).run Tryz.prog (Wd.alloc (.cells #[.int .i64 n, .string ⟨#[]⟩] 87)) = _ at r1
                change (Wd.alloc (.cells #[.int .i64 n, .string ⟨#[]⟩] 87)).cell? _ = _ at e1
                refine tk 0 rfl (fun _ _ _ h => h) trivial ?_
                refine tk 1 rfl (fun _ _ _ h => h) trivial ?_
                refine tk 2 rfl (fun _ _ _ h => h) trivial ?_
                refine tk 3 rfl (fun _ _ _ h => h) trivial ?_
                refine tk 6 rfl (fun _ _ _ h => h) trivial ?_
                refine tk 7 rfl (fun _ _ _ h => h) trivial ?_
                refine tk 8 rfl (fun _ _ _ h => h) trivial ?_
                refine tk 10 rfl (fun _ _ _ h => h) trivial ?_
                refine tk 11 rfl (fun _ _ _ h => h) trivial ?_
                refine rd2 4 9 (fun K hK => ?_) (fun K hK => ?_)
                · go_simp
                  refine hK.out _ _ trivial (fun _ => ?_)
                  clear hK K
                  try simp only [lyA, lyB, lyC, lyD]
                  refine rd2 5 9 (fun K hK => ?_) (fun K hK => ?_)
                  · ((with_reducible refine step_append_runR ?_ ?_ ?_ 79 79 ?_ _ _ ?_ ?_ _ _ r1 ?_); exact rfl; rotate_left 2; exact rfl; exact rfl; exact rfl)
                    refine hK.out _ _ trivial (fun _ => ?_)
                    clear hK K
                    try simp only [lyA, lyB, lyC, lyD]
                    refine rd1 9 (fun K hK => ?_)
                    have hq := e2
                    go_simp
                    clear hq
                    refine hK.out _ _ trivial (fun _ => ?_)
                    clear hK K
                    try simp only [lyA, lyB, lyC, lyD]
                    refine tk 12 rfl (fun _ _ _ h => h) trivial ?_
                    refine rd1 13 (fun K hK => ?_)
                    ((with_reducible refine step_append_runR ?_ ?_ ?_ 79 79 ?_ _ _ ?_ ?_ _ _ r2 ?_); exact rfl; rotate_left 2; exact rfl; exact rfl; exact rfl)
                    refine hK.out _ _ trivial (fun _ => ?_)
                    clear hK K
                    try simp only [lyA, lyB, lyC, lyD]
                    refine tk 14 rfl (fun _ _ _ h => h) trivial ?_
                    refine tk 15 rfl (fun _ _ _ h => h) trivial ?_
                    refine rd1 16 (fun K hK => ?_)
                    have hq := e3
                    have hq2 := f3
                    go_simp
                    clear hq hq2
                    refine hK.out _ _ trivial (fun _ => ?_)
                    clear hK K
                    try simp only [lyA, lyB, lyC, lyD]
                    refine wpAnyH_done (by kernel_rfl) ?_ _
                    generalize hW9 : World.setCell _ _ _ = W9
                    have H9 := HE.out W9 hW9
                    go_wp2_with fail
                    go_ret
                    exact ⟨rfl, H9⟩
                  · have hq := e1
                    go_simp
                    clear hq
                    refine hK.out _ _ trivial (fun _ => ?_)
                    clear hK K
                    try simp only [lyA, lyB, lyC, lyD]
                    refine tk 12 rfl (fun _ _ _ h => h) trivial ?_
                    refine rd1 5 (fun K hK => ?_)
                    ((with_reducible refine step_append_runR ?_ ?_ ?_ 79 79 ?_ _ _ ?_ ?_ _ _ r1 ?_); exact rfl; rotate_left 2; exact rfl; exact rfl; exact rfl)
                    refine hK.out _ _ trivial (fun _ => ?_)
                    clear hK K
                    try simp only [lyA, lyB, lyC, lyD]
                    refine rd1 13 (fun K hK => ?_)
                    ((with_reducible refine step_append_runR ?_ ?_ ?_ 79 79 ?_ _ _ ?_ ?_ _ _ r2 ?_); exact rfl; rotate_left 2; exact rfl; exact rfl; exact rfl)
                    refine hK.out _ _ trivial (fun _ => ?_)
                    clear hK K
                    try simp only [lyA, lyB, lyC, lyD]
                    refine tk 14 rfl (fun _ _ _ h => h) trivial ?_
                    refine tk 15 rfl (fun _ _ _ h => h) trivial ?_
                    refine rd1 16 (fun K hK => ?_)
                    have hq := e3
                    have hq2 := f3
                    go_simp
                    clear hq hq2
                    refine hK.out _ _ trivial (fun _ => ?_)
                    clear hK K
                    try simp only [lyA, lyB, lyC, lyD]
                    refine wpAnyH_done (by kernel_rfl) ?_ _
                    generalize hW9 : World.setCell _ _ _ = W9
                    have H9 := HE.out W9 hW9
                    go_wp2_with fail
                    go_ret
                    exact ⟨rfl, H9⟩
                · have hq := e0
                  go_simp
                  clear hq
                  refine hK.out _ _ trivial (fun _ => ?_)
                  clear hK K
                  try simp only [lyA, lyB, lyC, lyD]
                  refine tk 12 rfl (fun _ _ _ h => h) trivial ?_
                  refine rd1 4 (fun K hK => ?_)
                  go_simp
                  refine hK.out _ _ trivial (fun _ => ?_)
                  clear hK K
                  try simp only [lyA, lyB, lyC, lyD]
                  refine rd1 5 (fun K hK => ?_)
                  ((with_reducible refine step_append_runR ?_ ?_ ?_ 79 79 ?_ _ _ ?_ ?_ _ _ r1 ?_); exact rfl; rotate_left 2; exact rfl; exact rfl; exact rfl)
                  refine hK.out _ _ trivial (fun _ => ?_)
                  clear hK K
                  try simp only [lyA, lyB, lyC, lyD]
                  refine rd1 13 (fun K hK => ?_)
                  ((with_reducible refine step_append_runR ?_ ?_ ?_ 79 79 ?_ _ _ ?_ ?_ _ _ r2 ?_); exact rfl; rotate_left 2; exact rfl; exact rfl; exact rfl)
                  refine hK.out _ _ trivial (fun _ => ?_)
                  clear hK K
                  try simp only [lyA, lyB, lyC, lyD]
                  refine tk 14 rfl (fun _ _ _ h => h) trivial ?_
                  refine tk 15 rfl (fun _ _ _ h => h) trivial ?_
                  refine rd1 16 (fun K hK => ?_)
                  have hq := e3
                  have hq2 := f3
                  go_simp
                  clear hq hq2
                  refine hK.out _ _ trivial (fun _ => ?_)
                  clear hK K
                  try simp only [lyA, lyB, lyC, lyD]
                  refine wpAnyH_done (by kernel_rfl) ?_ _
                  generalize hW9 : World.setCell _ _ _ = W9
                  have H9 := HE.out W9 hW9
                  go_wp2_with fail
                  go_ret
                  exact ⟨rfl, H9⟩
            · obtain rfl : i = R.L.length := by omega
              obtain ⟨y1, y2⟩ := dec_ler hlt
              have hmade : madeL R.L n = R1.L.take R.L.length ++ (n, []) :: R1.L.drop R.L.length := by
                obtain ⟨e1, e2⟩ := while_at (L := R1.L) (f := fun p => decide (p.1 < n)) (fun j p hp hj => decide_eq_true (HP.out j p hp hj)) (fun p' hp' => by have := (List.getElem?_eq_some_iff.1 hp').1; rw [HTK.out] at this; omega) (by rw [HTK.out]; exact hi)
                unfold madeL
                rw [HTK.out] at e1 e2
                rw [e1, e2, HTK.out]
              have HMD := Lib.hid hmade
              have HI9 := Lib.hid hi
              clear hlt HP hmade
              go_upto_region 17 with fail
              refine wp_region_held_drew (S := fun _ => True) (by kernel_rfl) trivial (fun _ => ?_)
              have hSd := HS.out.drew
              generalize World.drew wr = Wd at *
              obtain ⟨a2, k2, s1, m1, l1, w5, s2, m2, l2, w6, hx2, hz, r1, r2, ⟨e0, e1, e2, e3, f3⟩, HE⟩ := hSd.last (by rw [HTK.out]; exact HLW.out.2.2) (by rw [HTK.out]; exact HI9.out) n
              clear hSd
              rw [HTK.out] at hx2 hz r2 HE
              simp only [Value.slice.injEq] at hx2
              obtain ⟨rfl, -, rfl⟩ := hx2
              rw [HTK.out] at HMD
              rw [← HMD.out] at HE
              generalize (if c = R.L.length then a else (a : Option Addr).map (·.add (R.L.length * 2))) = sx at hz r2
              clear d1
              rw [Nat.sub_self] at r2
              simp only [Nat.sub_self] at hz
              change (Builtin.append_ #[79, 79] 79 #[_, .slice (some ⟨Wd.heap.size, 0, none⟩) 1 1]).run Tryz.prog (Wd.alloc (.cells #[.int .i64 n, .string ⟨#[]⟩] 87)) = _ at r1
              change (Wd.alloc (.cells #[.int .i64 n, .string ⟨#[]⟩] 87)).cell? _ = _ at e1
              refine tk 0 rfl (fun _ _ _ h => h) trivial ?_
              refine tk 1 rfl (fun _ _ _ h => h) trivial ?_
              refine tk 2 rfl (fun _ _ _ h => h) trivial ?_
              refine tk 3 rfl (fun _ _ _ h => h) trivial ?_
              refine tk 6 rfl (fun _ _ _ h => h) trivial ?_
              refine tk 7 rfl (fun _ _ _ h => h) trivial ?_
              refine tk 8 rfl (fun _ _ _ h => h) trivial ?_
              refine tk 10 rfl (fun _ _ _ h => h) trivial ?_
              refine tk 11 rfl (fun _ _ _ h => h) trivial ?_
              refine rd2 4 9 (fun K hK => ?_) (fun K hK => ?_)
              · go_simp
                refine hK.out _ _ trivial (fun _ => ?_)
                clear hK K
                try simp only [lyA, lyB, lyC, lyD]
                refine rd2 5 9 (fun K hK => ?_) (fun K hK => ?_)
                · ((with_reducible refine step_append_runR ?_ ?_ ?_ 79 79 ?_ _ _ ?_ ?_ _ _ r1 ?_); exact rfl; rotate_left 2; exact rfl; exact rfl; exact rfl)
                  refine hK.out _ _ trivial (fun _ => ?_)
                  clear hK K
                  try simp only [lyA, lyB, lyC, lyD]
                  refine rd1 9 (fun K hK => ?_)
                  have hq := e2
                  go_simp
                  clear hq
                  refine hK.out _ _ trivial (fun _ => ?_)
                  clear hK K
                  try simp only [lyA, lyB, lyC, lyD]
                  refine tk 12 rfl (fun _ _ _ h => h) trivial ?_
                  refine rd1 13 (fun K hK => ?_)
                  ((with_reducible refine step_append_runR ?_ ?_ ?_ 79 79 ?_ _ _ ?_ ?_ _ _ r2 ?_); exact rfl; rotate_left 2; exact rfl; exact rfl; exact rfl)
                  refine hK.out _ _ trivial (fun _ => ?_)
                  clear hK K
                  try simp only [lyA, lyB, lyC, lyD]
                  refine tk 14 rfl (fun _ _ _ h => h) trivial ?_
                  refine tk 15 rfl (fun _ _ _ h => h) trivial ?_
                  refine rd1 16 (fun K hK => ?_)
                  have hq := e3
                  have hq2 := f3
                  go_simp
                  clear hq hq2
                  refine hK.out _ _ trivial (fun _ => ?_)
                  clear hK K
                  try simp only [lyA, lyB, lyC, lyD]
                  refine wpAnyH_done (by kernel_rfl) ?_ _
                  generalize hW9 : World.setCell _ _ _ = W9
                  have H9 := HE.out W9 hW9
                  go_wp2_with fail
                  go_ret
                  exact ⟨rfl, H9⟩
                · have hq := e1
                  go_simp
                  clear hq
                  refine hK.out _ _ trivial (fun _ => ?_)
                  clear hK K
                  try simp only [lyA, lyB, lyC, lyD]
                  refine tk 12 rfl (fun _ _ _ h => h) trivial ?_
                  refine rd1 5 (fun K hK => ?_)
                  ((with_reducible refine step_append_runR ?_ ?_ ?_ 79 79 ?_ _ _ ?_ ?_ _ _ r1 ?_); exact rfl; rotate_left 2; exact rfl; exact rfl; exact rfl)
                  refine hK.out _ _ trivial (fun _ => ?_)
                  clear hK K
                  try simp only [lyA, lyB, lyC, lyD]
                  refine rd1 13 (fun K hK => ?_)
                  ((with_reducible refine step_append_runR ?_ ?_ ?_ 79 79 ?_ _ _ ?_ ?_ _ _ r2 ?_); exact rfl; rotate_left 2; exact rfl; exact rfl; exact rfl)
                  refine hK.out _ _ trivial (fun _ => ?_)
                  clear hK K
                  try simp only [lyA, lyB, lyC, lyD]
                  refine tk 14 rfl (fun _ _ _ h => h) trivial ?_
                  refine tk 15 rfl (fun _ _ _ h => h) trivial ?_
                  refine rd1 16 (fun K hK => ?_)
                  have hq := e3
                  have hq2 := f3
                  go_simp
                  clear hq hq2
                  refine hK.out _ _ trivial (fun _ => ?_)
                  clear hK K
                  try simp only [lyA, lyB, lyC, lyD]
                  refine wpAnyH_done (by kernel_rfl) ?_ _
                  generalize hW9 : World.setCell _ _ _ = W9
                  have H9 := HE.out W9 hW9
                  go_wp2_with fail
                  go_ret
                  exact ⟨rfl, H9⟩
              · have hq := e0
                go_simp
                clear hq
                refine hK.out _ _ trivial (fun _ => ?_)
                clear hK K
                try simp only [lyA, lyB, lyC, lyD]
                refine tk 12 rfl (fun _ _ _ h => h) trivial ?_
                refine rd1 4 (fun K hK => ?_)
                go_simp
                refine hK.out _ _ trivial (fun _ => ?_)
                clear hK K
                try simp only [lyA, lyB, lyC, lyD]
                refine rd1 5 (fun K hK => ?_)
                ((with_reducible refine step_append_runR ?_ ?_ ?_ 79 79 ?_ _ _ ?_ ?_ _ _ r1 ?_); exact rfl; rotate_left 2; exact rfl; exact rfl; exact rfl)
                refine hK.out _ _ trivial (fun _ => ?_)
                clear hK K
                try simp only [lyA, lyB, lyC, lyD]
                refine rd1 13 (fun K hK => ?_)
                ((with_reducible refine step_append_runR ?_ ?_ ?_ 79 79 ?_ _ _ ?_ ?_ _ _ r2 ?_); exact rfl; rotate_left 2; exact rfl; exact rfl; exact rfl)
                refine hK.out _ _ trivial (fun _ => ?_)
                clear hK K
                try simp only [lyA, lyB, lyC, lyD]
                refine tk 14 rfl (fun _ _ _ h => h) trivial ?_
                refine tk 15 rfl (fun _ _ _ h => h) trivial ?_
                refine rd1 16 (fun K hK => ?_)
                have hq := e3
                have hq2 := f3
                go_simp
                clear hq hq2
                refine hK.out _ _ trivial (fun _ => ?_)
                clear hK K
                try simp only [lyA, lyB, lyC, lyD]
                refine wpAnyH_done (by kernel_rfl) ?_ _
                generalize hW9 : World.setCell _ _ _ = W9
                have H9 := HE.out W9 hW9
                go_wp2_with fail
                go_ret
                exact ⟨rfl, H9⟩
end
end Go.Proofs.YtdmedbhbefdnkaaGreatDoor

namespace Go.Proofs.YtdmedbhbefdnkaaGreatDoor
open Go.RowKit
theorem info_i64 : (Tryz.prog.info? 3).map (fun i => (i.zero, i.size, i.bytes)) = some (some (.int .i64 0), 1, 8) := by kernel_rfl
theorem icells_append (l m : List Int) : icells (l ++ m) = icells l ++ icells m := by simp [icells]
theorem icells_one (l : List Int) : ∀ u ∈ icells l, u.oneCell' = true := by
  intro u hu
  unfold icells at hu
  simp only [List.mem_map] at hu
  obtain ⟨p, _, rfl⟩ := hu
  rfl
theorem int_append {w : World} {v : Value} {L : List Int} (p : Int) (hL : L.length ≤ 100000000) (hrow : Row w 3 1 v (icells L)) :
    ∃ sa n cap w3, (Builtin.append_ #[80, 80] 80 #[v, .slice (some ⟨w.heap.size, 0, none⟩) 1 1]).run Tryz.prog (w.alloc (.cells #[.int .i64 p] 3)) = .ok (.slice sa n cap) w3 ∧
      Row w3 3 1 (.slice sa n cap) (icells (L ++ [p])) ∧ Kept (fun x => v.ownBlock = some x) w w3 ∧ ∀ k, (Value.slice sa n cap).ownBlock = some k → v.ownBlock = some k ∨ w.heap.size ≤ k := by
  obtain ⟨i0, hi, hz0, hz1, hz2⟩ := info_parts info_i64
  have hnew := Blk.new w [.int .i64 p] 3
  have hal : Kept (fun _ => False) w (w.alloc (.cells #[.int .i64 p] 3)) := (Kept.refl _ _).alloc _
  have hkl : (icells L).length = L.length := icells_len L
  obtain ⟨v', w3, hrun, hrow3, hk3, hf3⟩ := Row.append_cells (P := Tryz.prog) (t := 80) (hrow.kept hal (fun _ _ => id)) Tryz.underlying80 hi hz0 hz1 rfl (by decide) (by rw [hz2]; decide) ⟨w.heap.size, 0, none⟩ 1 1 [.int .i64 p] rfl
    (fun j u hu => by rw [addr0_add]; exact hnew.cell hu) (fun u hu => by simp at hu; rcases hu with rfl; rfl) (by decide) (by simp; omega) 80
  obtain ⟨sa, n, cap, rfl, _⟩ := hrow3.form (by omega)
  refine ⟨sa, n, cap, w3, hrun, ?_, (hal.mono (fun _ _ => False.elim)).trans hk3, fun k hk => (hf3 k hk).imp id (fun q => by have := hal.size; omega)⟩
  rw [icells_append]
  exact hrow3
theorem ints_append {w : World} {v u : Value} {L M : List Int} (hL : L.length + M.length ≤ 100000000) (hrow : Row w 3 1 v (icells L)) (hview : View w 1 u (icells M)) :
    ∃ sa n cap w3, (Builtin.append_ #[80, 80] 80 #[v, u]).run Tryz.prog w = .ok (.slice sa n cap) w3 ∧
      Row w3 3 1 (.slice sa n cap) (icells (L ++ M)) ∧ Kept (fun x => v.ownBlock = some x) w w3 ∧ ∀ k, (Value.slice sa n cap).ownBlock = some k → v.ownBlock = some k ∨ w.heap.size ≤ k := by
  obtain ⟨i0, hi, hz0, hz1, hz2⟩ := info_parts info_i64
  have hkl : (icells L).length = L.length := icells_len L
  have hkm : (icells M).length = M.length := icells_len M
  obtain ⟨v', w3, hrun, hrow3, hk3, hf3⟩ := Row.append_view (P := Tryz.prog) (t := 80) hrow hview Tryz.underlying80 hi hz0 hz1 rfl (by decide) (by rw [hz2]; decide) (icells_one M) (by omega) 80
  obtain ⟨sa, n, cap, rfl, _⟩ := hrow3.form (by omega)
  exact ⟨sa, n, cap, w3, hrun, by rw [icells_append]; exact hrow3, hk3, hf3⟩
theorem int_len {w : World} {a : Option Addr} {n c : Nat} {l : List Int} (h : Row w 3 1 (.slice a n c) (icells l)) : n = l.length := by
  obtain ⟨_, n', _, hv, q, _⟩ := h.form (by omega)
  cases hv
  rw [icells_len] at q
  omega
theorem file_len {w : World} {a : Option Addr} {n c : Nat} {l : List (Int × By)} (h : Row w 87 2 (.slice a n c) (fcells l)) : n = l.length := by
  obtain ⟨_, n', _, hv, q, _⟩ := h.form (by omega)
  cases hv
  rw [fcells_len] at q
  omega
def datL (L : List (Int × By)) (i : Nat) : By := (L.getD i (0, [])).2
def setL (L : List (Int × By)) (i : Nat) (b : By) : List (Int × By) := L.set i ((L.getD i (0, [])).1, b)
theorem setL_at {L : List (Int × By)} {i : Nat} {p : Int × By} (hp : L[i]? = some p) (b : By) : setL L i b = L.set i (p.1, b) ∧ datL L i = p.2 := by
  have e : L.getD i (0, []) = p := by rw [List.getD_eq_getElem?_getD, hp]; rfl
  unfold setL datL
  rw [e]
  exact ⟨rfl, rfl⟩
theorem fcells_set {L : List (Int × By)} {i : Nat} {p : Int × By} (hp : L[i]? = some p) (b : By) (rest : List Value) : (fcells L ++ rest).set (i * 2 + 1) (.string (strB b)) = fcells (L.set i (p.1, b)) ++ rest := by
  induction L generalizing i with
  | nil => simp at hp
  | cons a r ih =>
    cases i with
    | zero =>
      simp at hp
      subst hp
      rw [List.set_cons_zero, fcells_cons, fcells_cons]
      rfl
    | succ i =>
      rw [List.set_cons_succ, fcells_cons, fcells_cons, show (i + 1) * 2 + 1 = i * 2 + 1 + 1 + 1 by omega]
      show _ :: _ :: ((fcells r ++ rest).set (i * 2 + 1) _) = _ :: _ :: (fcells _ ++ rest)
      rw [ih (by simpa using hp)]
theorem file_set {w : World} {g n c i : Nat} {L : List (Int × By)} {p : Int × By} (h : Row w 87 2 (.slice (some ⟨g, 0, none⟩) n c) (fcells L)) (hp : L[i]? = some p) (b : By) :
    w.frozen? ⟨g, i * 2 + 1, none⟩ = false ∧ Row (w.setCell ⟨g, i * 2 + 1, none⟩ (.string (strB b))) 87 2 (.slice (some ⟨g, 0, none⟩) n c) (fcells (L.set i (p.1, b))) := by
  rcases h with ⟨e, _⟩ | ⟨g', n', c', rest, e, h1, hb, h2, h3, h4⟩
  · cases e
  · cases e
    have h9 := hb.set (i * 2 + 1) (.string (strB b))
    rw [fcells_set hp b rest] at h9
    exact ⟨hb.free _, Or.inr ⟨g, n, c, rest, rfl, by rw [fcells_len, List.length_set]; rwa [fcells_len] at h1, h9, h2, by rw [fcells_len, List.length_set]; rwa [fcells_len] at h3, h4⟩⟩
section
variable {w w' W : World} {r : Nat} {R R' : RefM} {x y x' y' v : Value} {l : List Int}
def LooS (w : World) (r : Nat) (R : RefM) (x y : Value) (v : Value) (l : List Int) (W : World) : Prop :=
  IsRef W r R x y ∧ Kept (· = r) w W ∧ Row W 3 1 v (icells l) ∧ (∀ k, v.ownBlock = some k → w.heap.size ≤ k) ∧ ∀ k, refOwn r x y k → k < w.heap.size
theorem LooS.start (h : IsRef w r R x y) : LooS w r R x y (.slice none 0 0) [] w := ⟨h, Kept.refl _ _, Row.nil _ _ _, fun k q => by simp [Value.ownBlock] at q, fun k q => h.lt q⟩
theorem LooS.app (h : LooS w r R x y v l W) (hl : l.length ≤ 100000000) (n : Int) :
    ∃ sa m cap w3, (Builtin.append_ #[80, 80] 80 #[v, .slice (some ⟨W.heap.size, 0, none⟩) 1 1]).run Tryz.prog (W.alloc (.cells #[.int .i64 n] 3)) = .ok (.slice sa m cap) w3 ∧ m = l.length + 1 ∧ Hid (LooS w r R x y (.slice sa m cap) (l ++ [n]) w3) := by
  obtain ⟨h1, h2, h3, h4, h5⟩ := h
  obtain ⟨sa, m, cap, w3, hr, g1, g2, g3⟩ := int_append n hl h3
  exact ⟨sa, m, cap, w3, hr, by rw [int_len g1]; simp, Lib.hid ⟨h1.kept g2 (fun k q e => by have := h4 k e; have := h5 k q; omega), h2.then_ g2 (fun k hk e => by have := h4 k e; omega), g1, fun k e => (g3 k e).elim (h4 k) (fun q => by have := h2.size; omega), h5⟩⟩
theorem LooS.all (h : LooS w r R x y v l W) {m : List Int} {u : Value} (hl : l.length + m.length ≤ 100000000) (hu : View W 1 u (icells m)) :
    ∃ sa k cap w3, (Builtin.append_ #[80, 80] 80 #[v, u]).run Tryz.prog W = .ok (.slice sa k cap) w3 ∧ k = l.length + m.length ∧ Hid (LooS w r R x y (.slice sa k cap) (l ++ m) w3) := by
  obtain ⟨h1, h2, h3, h4, h5⟩ := h
  obtain ⟨sa, m', cap, w3, hr, g1, g2, g3⟩ := ints_append hl h3 hu
  exact ⟨sa, m', cap, w3, hr, by rw [int_len g1]; simp, Lib.hid ⟨h1.kept g2 (fun k q e => by have := h4 k e; have := h5 k q; omega), h2.then_ g2 (fun k hk e => by have := h4 k e; omega), g1, fun k e => (g3 k e).elim (h4 k) (fun q => by have := h2.size; omega), h5⟩⟩
theorem LooS.done (h : LooS w r R x y v l W) : W.cell? ⟨r, 2, none⟩ = some y ∧ W.frozen? ⟨r, 2, none⟩ = false ∧ ∀ W', W.setCell ⟨r, 2, none⟩ v = W' → IsRef W' r { R with loose := l } x v ∧ Kept (· = r) w W' ∧ ∀ k, v.ownBlock = some k → w.heap.size ≤ k := by
  obtain ⟨h1, h2, h3, h4, h5⟩ := h
  refine ⟨h1.blk.cell rfl, h1.blk.free 2, fun W' hW => ?_⟩
  have hk := kept_cell W r 2 v
  have hb := h1.blk.set 2 v
  rw [hW] at hk hb
  have hr := h5 r (Or.inl rfl)
  exact ⟨⟨hb, h1.files.kept hk (fun k q => h1.ne.1 k q), h3.kept hk (fun k q e => by have := h4 k q; have : k = r := e; omega)⟩, h2.then_ hk (fun _ _ q => q), h4⟩
def RefM.append (R : RefM) (n : Int) (s : By) : Int × RefM :=
  if R.down = true then (61, R) else if findV R.L n < 0 then (4, R) else if R.free < (s.length : Int) then (60, R)
  else (0, { R with L := setL R.L (findV R.L n).toNat (datL R.L (findV R.L n).toNat ++ s), loose := R.loose ++ List.replicate s.length n }.tick)
theorem IsRef.relay (h : IsRef w r R x y) (hR : R.L.length ≤ 100) {i : Nat} {p : Int × By} (hp : R.L[i]? = some p) (b : By) :
    ∃ g n c w1, (Builtin.append_ #[79, 79] 79 #[.slice none 0 0, x]).run Tryz.prog w = .ok (.slice (some ⟨g, 0, none⟩) n c) w1 ∧ n = R.L.length ∧ i < n ∧
      w1.cell? ⟨g, i * 2 + 1, none⟩ = some (.string (strB p.2)) ∧ w1.frozen? ⟨g, i * 2 + 1, none⟩ = false ∧ (w1.setCell ⟨g, i * 2 + 1, none⟩ (.string (strB b))).cell? ⟨r, 1, none⟩ = some x ∧ (w1.setCell ⟨g, i * 2 + 1, none⟩ (.string (strB b))).frozen? ⟨r, 1, none⟩ = false ∧
      Hid (∀ W', (w1.setCell ⟨g, i * 2 + 1, none⟩ (.string (strB b))).setCell ⟨r, 1, none⟩ (.slice (some ⟨g, 0, none⟩) n c) = W' → IsRef W' r { R with L := R.L.set i (p.1, b) } (.slice (some ⟨g, 0, none⟩) n c) y ∧ Kept (· = r) w W' ∧ ∀ k, (Value.slice (some ⟨g, 0, none⟩) n c).ownBlock = some k → w.heap.size ≤ k) := by
  have hi := (List.getElem?_eq_some_iff.1 hp).1
  obtain ⟨sa, n, c, w1, hr, g1, g2, g3⟩ := files_append (L := []) (by simp; omega) (Row.nil w _ _) h.files.view
  rw [List.nil_append] at g1
  have hn := file_len g1
  have hK : Kept (fun _ => False) w w1 := g2.mono (fun k _ e => by simp [Value.ownBlock] at e)
  have h1 := h.same hK
  obtain ⟨a', n', c', hv, hn', hml, hcc⟩ := g1.form (by omega)
  cases hv
  obtain ⟨g, rfl, hg, hcell⟩ := hcc (by omega)
  have hgw : ∀ k, (Value.slice (some ⟨g, 0, none⟩) n c).ownBlock = some k → w.heap.size ≤ k := fun k e => (g3 k e).elim (fun q => by simp [Value.ownBlock] at q) id
  have hgg := hgw g hg
  obtain ⟨f1, f2⟩ := file_set g1 hp b
  have hrw := h.blk.lt
  have k1 := kept_cell w1 g (i * 2 + 1) (.string (strB b))
  have h2 : IsRef (w1.setCell ⟨g, i * 2 + 1, none⟩ (.string (strB b))) r R x y := h1.kept k1 (fun k q e => by have := h.lt q; have : k = g := e; omega)
  refine ⟨g, n, c, w1, hr, hn, by omega, hcell _ _ (fcells_get _ _ _ hp).2, f1, h2.blk.cell rfl, h2.blk.free 1, Lib.hid (fun W' hW => ?_)⟩
  have k2 := kept_cell (w1.setCell ⟨g, i * 2 + 1, none⟩ (.string (strB b))) r 1 (.slice (some ⟨g, 0, none⟩) n c)
  have hb := h2.blk.set 1 (.slice (some ⟨g, 0, none⟩) n c)
  rw [hW] at k2 hb
  refine ⟨⟨hb, f2.kept k2 (fun k q e => by have := hgw k q; have : k = r := e; omega), h2.loose.kept k2 (fun k q => h2.ne.2 k q)⟩, ?_, hgw⟩
  exact ((hK.mono (S' := (· = r)) (fun _ _ => False.elim)).then_ k1 (fun k hk e => by have : k = g := e; omega)).then_ k2 (fun _ _ q => q)
end
end Go.Proofs.YtdmedbhbefdnkaaGreatDoor

namespace Go.Proofs.YtdmedbhbefdnkaaGreatDoor
open Go.RowKit
section
variable {w w' W : World} {r : Nat} {R R' : RefM} {x y x' y' v : Value} {l : List Int}
theorem at_up (hd : R.down = false) (n : Int) : R.at_ n = if findV R.L n < 0 then (-1, 4) else (findV R.L n, 0) := by
  unfold RefM.at_
  rw [if_neg (by rw [hd]; simp)]
theorem replicate_snoc (k : Nat) (n : Int) : List.replicate k n ++ [n] = List.replicate (k + 1) n := by rw [List.replicate_succ']
theorem append_okr {R R1 : RefM} (hR : R.Ok) (hR1 : R1 = { R with L := R1.L }) {l : List Int} {R2 : RefM} (h2 : R2 = { R1 with loose := l }) : 0 ≤ R2.fails ∧ R2.fails ≤ 2000000000000 := by
  rw [h2]
  show 0 ≤ R1.fails ∧ _
  rw [hR1]
  exact hR.fail0
set_option maxRecDepth 100000 in
set_option maxHeartbeats 4000000 in
theorem append_ref (h : IsRef w r R x y) (hR : R.Ok) (hs : R.sinks = false) (n : Int) (s : By) (hsl : s.length ≤ 2000000) {e0 : Int} (he : R.append n s = (e0, R')) :
    Calls Tryz.prog 13 #[.pointer (some ⟨r, 0, none⟩), .int .i64 n, .string (strB s)] w fun e w' => e = .returned (.int .i64 e0) ∧ RefTo w r x y R' w' := by
  have HT := Lib.hid (RefTo.self h)
  unfold RefM.append at he
  cases hd : R.down with
  | true =>
    rw [if_pos hd] at he
    cases he
    have HAT := Lib.hid (at_ref h hR.few n (i := -1) (e0 := 61) (by unfold RefM.at_; rw [if_pos hd]))
    clear h hR hs hd hsl
    go_enter Tryz.func13, Tryz.ntmps13
    go_wp2_with (go_at_call 32; refine HAT.out.mono ?_; rintro e w' ⟨rfl, rfl⟩)
    go_ret
    exact ⟨rfl, HT.out⟩
  | false =>
    rw [if_neg (by rw [hd]; simp)] at he
    have hat := at_up hd n
    rcases findV_cases R.L n with ⟨hf, _⟩ | ⟨i, p, hf, hp, hpn⟩
    · rw [if_pos (by omega)] at he hat
      cases he
      have HAT := Lib.hid (at_ref h hR.few n hat)
      clear h hR hs hd hsl hat hf
      go_enter Tryz.func13, Tryz.ntmps13
      go_wp2_with (go_at_call 32; refine HAT.out.mono ?_; rintro e w' ⟨rfl, rfl⟩)
      go_ret
      exact ⟨rfl, HT.out⟩
    · rw [if_neg (by omega), hf] at he hat
      have HAT := Lib.hid (at_ref h hR.few n hat)
      have HFR := Lib.hid (free_ref h hR)
      obtain ⟨bs, hbs⟩ : ∃ bs, strB s = bs := ⟨_, rfl⟩
      have hbl : bs.size = s.length := by rw [← hbs]; exact strB_size s
      by_cases hfr : R.free < (s.length : Int)
      · rw [if_pos hfr] at he
        cases he
        have z1 : decide (R.free < (bs.size : Int)) = true := decide_eq_true (by rw [hbl]; exact hfr)
        rw [hbs]
        clear h hR hs hd hsl hat hf hp hpn hfr hbs hbl
        generalize R.free = F at *
        go_enter Tryz.func13, Tryz.ntmps13
        go_wp2_with (first
          | (go_at_call 32; refine HAT.out.mono ?_; rintro e w' ⟨rfl, rfl⟩)
          | (go_at_call 36; refine HFR.out.mono ?_; rintro e w' ⟨rfl, rfl⟩))
        go_ret
        exact ⟨rfl, HT.out⟩
      · rw [if_neg hfr] at he
        cases he
        have z1 : decide (R.free < (bs.size : Int)) = false := decide_eq_false (by rw [hbl]; exact hfr)
        have z2 : (9223372036854775807 < p.2.length + s.length) = False := eq_false (by have := hR.size p (List.mem_of_getElem? hp); omega)
        obtain ⟨e1, e2⟩ := setL_at hp (p.2 ++ s)
        rw [show ((i : Int)).toNat = i by omega] at *
        obtain ⟨g, m, c, w1, hr, hm, him, c1, f1, c2, f2, HE⟩ := h.relay hR.few hp (p.2 ++ s)
        have e3 : strB (p.2 ++ s) = strB p.2 ++ bs := by rw [← hbs]; exact (bstr_cat _ _).symm
        rw [e3] at HE c2 f2
        have hbp : (strB p.2).size = p.2.length := strB_size p.2
        obtain ⟨bp, hbpe⟩ : ∃ bp, strB p.2 = bp := ⟨_, rfl⟩
        rw [hbpe] at c1 c2 f2 HE hbp
        rw [← hbp, ← hbl] at z2
        have c0 := h.blk.cell (i := 1) rfl
        have him2 : ((i : Int) < (m : Int)) = True := eq_true (by omega)
        have HD := Lib.hid (And.intro hs (And.intro hR (And.intro hp (And.intro hsl (And.intro hbl (And.intro hpn (And.intro e1 e2)))))))
        rw [hbs]
        clear h hR hs hd hsl hat hf hfr hbs hbl e1 e2 e3 hbp hbpe hm hp hpn
        go_enter Tryz.func13, Tryz.ntmps13
        go_upto_region 9 with (first
          | (go_at_call 32; refine HAT.out.mono ?_; rintro e w' ⟨rfl, rfl⟩)
          | (go_at_call 36; refine HFR.out.mono ?_; rintro e w' ⟨rfl, rfl⟩)
          | (at_builtin; refine Lib.wpList_append_run _ rfl _ _ 79 79 rfl _ _ rfl rfl _ _ hr ?_))
        generalize hW3 : World.setCell _ _ _ = W3
        obtain ⟨g1, g2, g3⟩ := HE.out W3 hW3
        obtain ⟨R1, hR1⟩ : ∃ R1 : RefM, R1 = { R with L := R.L.set i (p.1, p.2 ++ s) } := ⟨_, rfl⟩
        have hlo : R1.loose = R.loose := by rw [hR1]
        rw [← hR1] at g1
        obtain ⟨ya, yc, rfl, -⟩ := g1.lform
        have d2 := g1.blk.cell (i := 2) rfl
        obtain ⟨sa, k9, cap, w4, ha, hk9, HL⟩ := (LooS.start g1).all (by have := HD.out.2.1.loo; rw [hlo]; simp; omega) g1.loose.view
        rw [List.nil_append] at HL
        rw [List.length_nil, Nat.zero_add] at hk9
        subst hk9
        have HG := Lib.hid (And.intro g2 (And.intro g3 (And.intro hR1 hlo)))
        clear g1 g2 g3 hR1 hlo hW3 c0 c1 c2 f1 f2 z1 z2 him2 HE HAT HFR hr
        go_upto_region 10 with (at_builtin; refine Lib.wpList_append_run _ rfl _ _ 80 80 rfl _ _ rfl rfl _ _ ha ?_)
        clear ha d2
        have hbs2 : bs.size ≤ 2000000 := by have := HD.out.2.2.2.1; have := HD.out.2.2.2.2.1; omega
        go_wp2_with fail
        go_loopw [10, 11] (fun z10 z11 wr => ∃ (k : Nat) (sa : Option Addr) (m9 sc : Nat), k ≤ bs.size ∧ z10 = .slice sa m9 sc ∧ z11 = .int .i64 (k : Int) ∧ Hid (LooS W3 r R1 (.slice (some ⟨g, 0, none⟩) m c) (.slice ya R1.loose.length yc) (.slice sa m9 sc) (R1.loose ++ List.replicate k n) wr)) (fun _ z11 _ => bs.size - (intOf z11).toNat)
        case atStart => exact ⟨0, sa, _, cap, Nat.zero_le _, rfl, rfl, by rw [List.replicate_zero, List.append_nil]; exact HL⟩
        case round =>
          obtain ⟨k, sb, m9, sc, hk, rfl, rfl, HS⟩ := hrel
          by_cases hlt : k < bs.size
          · obtain ⟨y1, y2⟩ := dec_gtr hlt
            obtain ⟨sd, m8, sc8, w5, hap, -, HS5⟩ := HS.out.app (by have := HD.out.2.1.loo; have := HG.out.2.2.2; rw [List.length_append, List.length_replicate, this]; omega) n
            rw [List.append_assoc, replicate_snoc] at HS5
            have HLT := Lib.hid hlt
            clear hk
            go_wp2_with (at_builtin; refine Lib.wpList_append_run _ rfl _ _ 80 80 rfl _ _ rfl rfl _ _ hap ?_)
            go_roundw
            case rel => exact ⟨k + 1, sd, m8, sc8, HLT.out, rfl, by go_num, HS5⟩
            case measure => have := HLT.out; simp [intOf]; omega
          · obtain rfl : k = bs.size := by omega
            obtain ⟨y1, y2⟩ := dec_ler hlt
            obtain ⟨d2, f2, hdone⟩ := HS.out.done
            have HDN := Lib.hid hdone
            clear hlt hk hdone
            go_upto_region 15 with fail
            generalize hW6 : World.setCell _ _ _ = W6
            obtain ⟨g1, g2, g3⟩ := HDN.out W6 hW6
            have hf := fails_ref g1 (append_okr HD.out.2.1 (by rw [HG.out.2.2.1]) rfl)
            have e9 : RefM.sinks { R1 with loose := R1.loose ++ List.replicate bs.size n } = R.sinks := by rw [HG.out.2.2.1]; rfl
            rw [e9, HD.out.1] at hf
            have HF := Lib.hid hf
            have HK := Lib.hid (And.intro g2 g3)
            clear g1 g2 g3 hf e9 hW6 d2 f2 y1 y2
            go_wp2_with (go_at_call 33; refine HF.out.mono ?_; rintro e w7 ⟨rfl, g1, g2⟩; have H7 := Lib.hid (And.intro g1 g2); clear g1 g2)
            go_ret
            refine ⟨rfl, _, _, ?_, HG.out.1.then_ (HK.out.1.then_ H7.out.2 (fun _ _ q => q)) (fun _ _ q => q), fun k q => Or.inr (HG.out.2.1 k q), fun k q => Or.inr (by have := HK.out.2 k q; have := HG.out.1.size; omega)⟩
            have h9 := H7.out.1
            rw [HD.out.2.2.2.2.2.2.2, HD.out.2.2.2.2.2.2.1]
            rw [HD.out.2.2.2.2.1, HG.out.2.2.1] at h9
            exact h9
end
end Go.Proofs.YtdmedbhbefdnkaaGreatDoor

namespace Go.Proofs.YtdmedbhbefdnkaaGreatDoor
open Go.RowKit
def cutStep (n : Int) (st : Int × List Int) (a : Int) : Int × List Int := if a = n ∧ 0 < st.1 then (st.1 - 1, st.2) else (st.1, st.2 ++ [a])
def cutF11 (n less : Int) (l : List Int) : Int × List Int := l.foldl (cutStep n) (less, [])
def cutR (n less : Int) (l : List Int) : List Int := (cutF11 n less l.reverse).2.reverse
theorem cutF11_snoc (n less : Int) (l : List Int) (a : Int) : cutF11 n less (l ++ [a]) = cutStep n (cutF11 n less l) a := by simp [cutF11]
theorem drop_rev {l : List Int} {j : Nat} {a : Int} (h : l[j]? = some a) : (l.drop j).reverse = (l.drop (j + 1)).reverse ++ [a] := by
  obtain ⟨hj, e⟩ := List.getElem?_eq_some_iff.1 h
  rw [List.drop_eq_getElem_cons hj, e, List.reverse_cons]
theorem cutStep_len (n : Int) (st : Int × List Int) (a : Int) : (cutStep n st a).2.length ≤ st.2.length + 1 := by
  unfold cutStep
  split
  · simp only; omega
  · simp only [List.length_append, List.length_singleton]; omega
theorem cutStep_less (n : Int) (st : Int × List Int) (a : Int) (h : 0 ≤ st.1) : 0 ≤ (cutStep n st a).1 ∧ (cutStep n st a).1 ≤ st.1 := by
  unfold cutStep
  split
  · rename_i q; simp only; omega
  · simp only; omega
theorem cutF11_len (n less : Int) (l : List Int) : (cutF11 n less l).2.length ≤ l.length := by
  have h : ∀ (l : List Int) (st : Int × List Int), (l.foldl (cutStep n) st).2.length ≤ st.2.length + l.length := by
    intro l
    induction l with
    | nil => intro st; simp
    | cons a l ih =>
      intro st
      have h1 := ih (cutStep n st a)
      have h2 := cutStep_len n st a
      rw [List.foldl_cons, List.length_cons]
      omega
  have := h l (less, [])
  simpa [cutF11] using this
theorem cutF11_less (n less : Int) (l : List Int) (h0 : 0 ≤ less) : 0 ≤ (cutF11 n less l).1 ∧ (cutF11 n less l).1 ≤ less := by
  have h : ∀ (l : List Int) (st : Int × List Int), 0 ≤ st.1 → 0 ≤ (l.foldl (cutStep n) st).1 ∧ (l.foldl (cutStep n) st).1 ≤ st.1 := by
    intro l
    induction l with
    | nil => intro st h; simp; exact h
    | cons a l ih =>
      intro st h
      have h1 := cutStep_less n st a h
      have h2 := ih (cutStep n st a) h1.1
      rw [List.foldl_cons]
      omega
  exact h l (less, []) h0
section
variable {w w' W : World} {r : Nat} {R R' : RefM} {x y x' y' v : Value} {l : List Int}
theorem LooS.cell (h : LooS w r R x y v l W) : ∃ a c, v = .slice a l.length c ∧ ∀ (i : Nat) (n : Int), l[i]? = some n → ∃ g, a = some ⟨g, 0, none⟩ ∧ W.cell? ⟨g, i, none⟩ = some (.int .i64 n) := by
  obtain ⟨a, n, c, rfl, hn, _, hc⟩ := h.2.2.1.form (by omega)
  rw [icells_len] at hn
  obtain rfl : n = l.length := by omega
  refine ⟨a, c, rfl, fun i p hp => ?_⟩
  have hi := (List.getElem?_eq_some_iff.1 hp).1
  obtain ⟨g, rfl, _, hg⟩ := hc (by omega)
  exact ⟨g, rfl, hg i _ (by unfold icells; rw [List.getElem?_map, hp]; rfl)⟩
set_option maxRecDepth 100000 in
set_option maxHeartbeats 4000000 in
theorem cut_ref (h : IsRef w r R x y) (hl : R.loose.length ≤ 10000000) (n less : Int) (h0 : 0 ≤ less ∧ less ≤ 100000000) :
    Calls Tryz.prog 86 #[.pointer (some ⟨r, 0, none⟩), .int .i64 n, .int .i64 less] w fun e w' => e = .returned (.tuple #[]) ∧ ∃ y', IsRef w' r { R with loose := cutR n less R.loose } x y' ∧ Kept (· = r) w w' ∧ ∀ k, y'.ownBlock = some k → w.heap.size ≤ k := by
  obtain ⟨a, c, rfl, hc⟩ := h.lform
  have c2 := h.blk.cell (i := 2) rfl
  have HS0 := Lib.hid (LooS.start h)
  have HC := Lib.hid hc
  clear h hc
  go_enter Tryz.func86, Tryz.ntmps86
  go_wp2_with fail
  go_loopw [2, 6, 7] (fun z2 z6 z7 wr => ∃ (j : Nat) (sa : Option Addr) (sc : Nat), j ≤ R.loose.length ∧ z2 = .int .i64 (cutF11 n less (R.loose.drop j).reverse).1 ∧ z6 = .slice sa (cutF11 n less (R.loose.drop j).reverse).2.length sc ∧ z7 = .int .i64 ((j : Int) - 1) ∧ Hid (LooS w r R x (.slice a R.loose.length c) (.slice sa (cutF11 n less (R.loose.drop j).reverse).2.length sc) (cutF11 n less (R.loose.drop j).reverse).2 wr)) (fun _ _ z7 _ => ((intOf z7) + 1).toNat)
  case atStart => exact ⟨R.loose.length, none, 0, Nat.le_refl _, by simp [cutF11], by simp [cutF11], by first | rfl | (congr 1; exact IntWalk.wrap64_in _ (by omega)) | (rw [IntWalk.wrap64_in _ (by omega)]), by simp only [List.drop_length, List.reverse_nil]; exact HS0⟩
  case round =>
    obtain ⟨j, sa, sc, hj, rfl, rfl, rfl, HS⟩ := hrel
    have hlen := cutF11_len n less (R.loose.drop j).reverse
    have hless := cutF11_less n less (R.loose.drop j).reverse h0.1
    rw [List.length_reverse, List.length_drop] at hlen
    obtain ⟨st, hst⟩ : ∃ st, cutF11 n less (R.loose.drop j).reverse = st := ⟨_, rfl⟩
    rw [hst] at HS hlen hless ⊢
    have HJ := Lib.hid (And.intro hj (And.intro hlen (And.intro hless hst)))
    rcases j with _ | j
    · obtain ⟨l2, hl2⟩ : ∃ l2, l2 = st.2 := ⟨_, rfl⟩
      have hcut : cutR n less R.loose = l2.reverse := by
        unfold cutR
        rw [hl2, ← hst, List.drop_zero]
      have hl2b : l2.length ≤ 10000000 := by rw [hl2]; omega
      rw [← hl2] at HS
      have HCU := Lib.hid hcut
      obtain ⟨_, _, hq, hcells⟩ := HS.out.cell
      simp only [Value.slice.injEq] at hq
      obtain ⟨rfl, -, rfl⟩ := hq
      obtain ⟨s1, hs1⟩ : ∃ s1 : Int, s1 = st.1 := ⟨_, rfl⟩
      rw [← hs1, ← hl2]
      have HCB := Lib.hid hcells
      have HS2 := Lib.hid (LooS.start HS.out.1)
      clear hj hlen hless hst HJ hcells hcut hl2 hs1 HS0
      rw [show ((0 : Nat) : Int) - 1 = -1 from rfl]
      go_wp2_with fail
      go_loopw [8, 9] (fun z8 z9 wq => ∃ (j : Nat) (sb : Option Addr) (m sd : Nat), j ≤ l2.length ∧ z8 = .slice sb m sd ∧ z9 = .int .i64 ((j : Int) - 1) ∧ Hid (LooS wr r R x (.slice a R.loose.length c) (.slice sb m sd) (l2.drop j).reverse wq)) (fun _ z9 _ => ((intOf z9) + 1).toNat)
      case atStart => exact ⟨l2.length, none, 0, 0, Nat.le_refl _, rfl, by first | rfl | (rw [IntWalk.wrap64_in _ (by omega)]), by simp only [List.drop_length, List.reverse_nil]; exact HS2⟩
      case round =>
        obtain ⟨j, sb, m, sd, hj, rfl, rfl, HT⟩ := hrel
        rcases j with _ | j
        · have z1 : decide ((0 : Int) ≤ ((0 : Nat) : Int) - 1) = false := by decide
          obtain ⟨d2, f2, hdone⟩ := HT.out.done
          have HDN := Lib.hid hdone
          clear hdone hj
          go_wp2_with fail
          generalize hW : World.setCell _ _ _ = W9
          obtain ⟨g1, g2, g3⟩ := HDN.out W9 hW
          go_end0
          refine ⟨rfl, _, ?_, HS.out.2.1.then_ g2 (fun _ _ q => q), fun k q => by have := g3 k q; have := HS.out.2.1.size; omega⟩
          rw [HCU.out]
          exact g1
        · have z1 : decide ((0 : Int) ≤ ((j + 1 : Nat) : Int) - 1) = true := decide_eq_true (by omega)
          obtain ⟨v, hv⟩ : ∃ v, l2[j]? = some v := ⟨_, List.getElem?_eq_getElem (by omega)⟩
          obtain ⟨g, rfl, hg⟩ := HCB.out j v hv
          have hgr : g ≠ r := HS.out.2.2.1.ne_blk (k := g) rfl HS.out.1.blk (by decide)
          have hgq := HT.out.2.1.cell hg (fun e => hgr e)
          have hjl : ((j : Int) < (l2.length : Int)) = True := eq_true (by omega)
          have hjb : j ≤ 10000000 := by omega
          rw [show ((j + 1 : Nat) : Int) - 1 = (j : Int) by omega] at z1 ⊢
          obtain ⟨sc9, m9, cap9, w5, hap, -, HT5⟩ := HT.out.app (by rw [List.length_reverse, List.length_drop]; omega) v
          rw [← drop_rev hv] at HT5
          have HJ2 := Lib.hid (show j ≤ l2.length by omega)
          clear hg hgr hj hv
          go_wp2_with (at_builtin; refine Lib.wpList_append_run _ rfl _ _ 80 80 rfl _ _ rfl rfl _ _ hap ?_)
          go_roundw
          case rel => exact ⟨j, sc9, m9, cap9, HJ2.out, rfl, by go_num, HT5⟩
          case measure => first | (simp [intOf]; done) | (simp [intOf]; omega)
    · have z1 : decide ((0 : Int) ≤ ((j + 1 : Nat) : Int) - 1) = true := decide_eq_true (by omega)
      obtain ⟨v, hv⟩ : ∃ v, R.loose[j]? = some v := ⟨_, List.getElem?_eq_getElem (by omega)⟩
      obtain ⟨a', c', hq, hcells⟩ := HS.out.1.lform
      simp only [Value.slice.injEq] at hq
      obtain ⟨rfl, -, rfl⟩ := hq
      obtain ⟨g, rfl, hg⟩ := hcells j v hv
      have d2 := HS.out.1.blk.cell (i := 2) rfl
      have hjl : ((j : Int) < (R.loose.length : Int)) = True := eq_true (by omega)
      have hjb : j ≤ 10000000 := by omega
      rw [show ((j + 1 : Nat) : Int) - 1 = (j : Int) by omega] at z1 ⊢
      have hst2 : cutF11 n less (R.loose.drop j).reverse = cutStep n st v := by rw [drop_rev hv, cutF11_snoc, hst]
      have HST := Lib.hid hst2
      obtain ⟨s1, l1⟩ := st
      dsimp only at HS hlen hless ⊢
      have HJ2 := Lib.hid (show j ≤ R.loose.length by omega)
      by_cases hb : v = n ∧ 0 < s1
      · have z2 : (v == n) = true := by simpa using hb.1
        have z3 : decide (0 < s1) = true := decide_eq_true hb.2
        have hs1 : 0 ≤ s1 ∧ s1 ≤ 100000000 := by omega
        have hE : cutStep n (s1, l1) v = (s1 - 1, l1) := by unfold cutStep; rw [if_pos hb]
        rw [hE] at HST
        clear hb hE hst hst2 HJ hlen hless hcells hv hj
        go_wp2_with fail
        go_roundw
        case rel => exact ⟨j, sa, sc, HJ2.out, by rw [HST.out], by rw [HST.out], by go_num, by rw [HST.out]; exact HS⟩
        case measure => first | (simp [intOf]; done) | (simp [intOf]; omega)
      · have hE : cutStep n (s1, l1) v = (s1, l1 ++ [v]) := by unfold cutStep; rw [if_neg hb]
        rw [hE] at HST
        obtain ⟨sc9, m9, cap9, w5, hap, hm9, HT5⟩ := HS.out.app (by omega) v
        have HM := Lib.hid hm9
        have hs1 : 0 ≤ s1 ∧ s1 ≤ 100000000 := by omega
        by_cases hvn : v = n
        · have z2 : (v == n) = true := by simpa using hvn
          have z3 : decide (0 < s1) = false := decide_eq_false (fun q => hb ⟨hvn, q⟩)
          clear hb hE hst hst2 HJ hlen hless hcells hv hj hvn hm9
          go_wp2_with (at_builtin; refine Lib.wpList_append_run _ rfl _ _ 80 80 rfl _ _ rfl rfl _ _ hap ?_)
          go_roundw
          case rel => exact ⟨j, sc9, cap9, HJ2.out, by rw [HST.out], by rw [HST.out, HM.out]; simp, by go_num, by rw [HST.out]; have := HT5; rw [HM.out] at this; simpa using this⟩
          case measure => first | (simp [intOf]; done) | (simp [intOf]; omega)
        · have z2 : (v == n) = false := by simpa using hvn
          clear hb hE hst hst2 HJ hlen hless hcells hv hj hvn hm9
          go_wp2_with (at_builtin; refine Lib.wpList_append_run _ rfl _ _ 80 80 rfl _ _ rfl rfl _ _ hap ?_)
          go_roundw
          case rel => exact ⟨j, sc9, cap9, HJ2.out, by rw [HST.out], by rw [HST.out, HM.out]; simp, by go_num, by rw [HST.out]; have := HT5; rw [HM.out] at this; simpa using this⟩
          case measure => first | (simp [intOf]; done) | (simp [intOf]; omega)
end
end Go.Proofs.YtdmedbhbefdnkaaGreatDoor

namespace Go.Proofs.YtdmedbhbefdnkaaGreatDoor
open Go.RowKit
theorem take_strB (l : By) (k : Nat) : (strB l).extract 0 k = strB (l.take k) := bstr_eq (by rw [ByteArray.data_extract, Array.toList_extract]; simp [List.extract_eq_take_drop])
def RefM.truncate (R : RefM) (n size : Int) : Int × RefM :=
  if R.down = true then (61, R) else if findV R.L n < 0 then (4, R) else if size < 0 ∨ ((datL R.L (findV R.L n).toNat).length : Int) < size then (2, R)
  else (0, { R.tick with loose := cutR n ((datL R.L (findV R.L n).toNat).length - size) R.loose, L := setL R.L (findV R.L n).toNat ((datL R.L (findV R.L n).toNat).take size.toNat) })
section
variable {w w' W : World} {r : Nat} {R R' : RefM} {x y x' y' v : Value} {l : List Int}
set_option maxRecDepth 100000 in
set_option maxHeartbeats 4000000 in
theorem truncate_ref (h : IsRef w r R x y) (hR : R.Ok) (hs : R.sinks = false) (n size : Int) (hsz : -9223372036854775808 ≤ size ∧ size ≤ 9223372036854775807) {e0 : Int} (he : R.truncate n size = (e0, R')) :
    Calls Tryz.prog 45 #[.pointer (some ⟨r, 0, none⟩), .int .i64 n, .int .i64 size] w fun e w' => e = .returned (.int .i64 e0) ∧ RefTo w r x y R' w' := by
  have HT := Lib.hid (RefTo.self h)
  unfold RefM.truncate at he
  cases hd : R.down with
  | true =>
    rw [if_pos hd] at he
    cases he
    have HAT := Lib.hid (at_ref h hR.few n (i := -1) (e0 := 61) (by unfold RefM.at_; rw [if_pos hd]))
    clear h hR hs hd
    go_enter Tryz.func45, Tryz.ntmps45
    go_wp2_with (go_at_call 32; refine HAT.out.mono ?_; rintro e w' ⟨rfl, rfl⟩)
    go_ret
    exact ⟨rfl, HT.out⟩
  | false =>
    rw [if_neg (by rw [hd]; simp)] at he
    have hat := at_up hd n
    rcases findV_cases R.L n with ⟨hf, _⟩ | ⟨i, p, hf, hp, hpn⟩
    · rw [if_pos (by omega)] at he hat
      cases he
      have HAT := Lib.hid (at_ref h hR.few n hat)
      clear h hR hs hd hat hf
      go_enter Tryz.func45, Tryz.ntmps45
      go_wp2_with (go_at_call 32; refine HAT.out.mono ?_; rintro e w' ⟨rfl, rfl⟩)
      go_ret
      exact ⟨rfl, HT.out⟩
    · rw [if_neg (by omega), hf] at he hat
      rw [show ((i : Int)).toNat = i by omega] at he
      obtain ⟨es, ed⟩ := setL_at hp (p.2.take size.toNat)
      rw [ed, es] at he
      have HAT := Lib.hid (at_ref h hR.few n hat)
      obtain ⟨a, c, rfl, hc⟩ := h.form
      have c1 := h.blk.cell (i := 1) rfl
      obtain ⟨g, rfl, -, q1⟩ := hc i p hp
      have hil : ((i : Int) < (R.L.length : Int)) = True := eq_true (by have := (List.getElem?_eq_some_iff.1 hp).1; omega)
      obtain ⟨bp, hbp⟩ : ∃ bp, strB p.2 = bp := ⟨_, rfl⟩
      have hbl : bp.size = p.2.length := by rw [← hbp]; exact strB_size _
      rw [hbp] at q1
      by_cases hneg : size < 0
      · rw [if_pos (Or.inl hneg)] at he
        cases he
        have z1 : decide (size < 0) = true := decide_eq_true hneg
        clear h hR hs hd hat hf hp hpn hbp hbl hc es ed hneg
        go_enter Tryz.func45, Tryz.ntmps45
        go_wp2_with (go_at_call 32; refine HAT.out.mono ?_; rintro e w' ⟨rfl, rfl⟩)
        go_ret
        exact ⟨rfl, HT.out⟩
      · have z1 : decide (size < 0) = false := decide_eq_false hneg
        by_cases hbig : (p.2.length : Int) < size
        · rw [if_pos (Or.inr hbig)] at he
          cases he
          have z2 : decide ((bp.size : Int) < size) = true := decide_eq_true (by rw [hbl]; exact hbig)
          clear h hR hs hd hat hf hp hpn hbp hbl hc es ed hneg hbig
          go_enter Tryz.func45, Tryz.ntmps45
          go_wp2_with (go_at_call 32; refine HAT.out.mono ?_; rintro e w' ⟨rfl, rfl⟩)
          go_ret
          exact ⟨rfl, HT.out⟩
        · rw [if_neg (by omega)] at he
          cases he
          obtain ⟨k, rfl⟩ : ∃ k : Nat, size = (k : Int) := ⟨size.toNat, by omega⟩
          have hk : k ≤ p.2.length := by omega
          have z2 : decide ((bp.size : Int) < (k : Int)) = false := decide_eq_false (by rw [hbl]; omega)
          have z3 : decide (bp.size < k) = false := decide_eq_false (by rw [hbl]; omega)
          rw [Int.toNat_natCast]
          obtain ⟨t1, t2, t3, t4, t5, t6⟩ := R.tick_eq
          have hf1 := fails_ref h hR.fail0
          rw [hs] at hf1
          have HF := Lib.hid hf1
          obtain ⟨R1, hR1⟩ : ∃ R1, R.tick = R1 := ⟨_, rfl⟩
          rw [hR1] at HF t1 t2
          have hbz : bp.size ≤ 2000000 := by have := hR.size p (List.mem_of_getElem? hp); omega
          have HD := Lib.hid (And.intro hR (And.intro hp (And.intro hpn (And.intro hbp (And.intro hbl (And.intro hk (And.intro t1 (And.intro t2 hR1))))))))
          have hkb : k ≤ 2000000 := by omega
          clear h hR hs hd hat hf hp hpn hbp hbl hc es ed hneg hbig hR1 t1 t2 t3 t4 t5 t6 hf1 HT hk hsz
          go_enter Tryz.func45, Tryz.ntmps45
          go_upto_region 8 with (first
            | (go_at_call 32; refine HAT.out.mono ?_; rintro e w' ⟨rfl, rfl⟩)
            | (go_at_call 33; refine HF.out.mono ?_; rintro e w1 ⟨rfl, g1, g2⟩; have H1 := Lib.hid (And.intro g1 g2); clear g1 g2))
          clear c1 q1 z1 HF HAT
          have d1 := H1.out.1.blk.cell (i := 1) rfl
          obtain ⟨a', c', hq, hcells⟩ := H1.out.1.form
          rw [HD.out.2.2.2.2.2.2.1] at hq hcells
          simp only [Value.slice.injEq] at hq
          obtain ⟨rfl, -, rfl⟩ := hq
          obtain ⟨g', hg, -, q1⟩ := hcells i p HD.out.2.1
          simp only [Option.some.injEq, Addr.mk.injEq, and_true] at hg
          subst hg
          rw [HD.out.2.2.2.1] at q1
          have hct := Lib.hid (cut_ref H1.out.1 (by rw [HD.out.2.2.2.2.2.2.2.1]; exact HD.out.1.loo) n ((p.2.length : Int) - (k : Int)) (by have := HD.out.2.2.2.2.1; have := HD.out.2.2.2.2.2.1; omega))
          clear hcells
          rw [← HD.out.2.2.2.2.1] at hct
          go_upto_region 9 with (go_at_call 86; refine hct.out.mono ?_; rintro e w2 ⟨rfl, y2, g1, g2, g3⟩; have H2 := Lib.hid (And.intro g1 (And.intro g2 g3)); clear g1 g2 g3)
          clear d1 q1 hct z2
          have e2 : (strB (p.2.take k)) = bp.extract 0 k := by rw [← HD.out.2.2.2.1]; exact (take_strB _ _).symm
          obtain ⟨g5, m, c5, w3, hr, hm, him, c1, f1, c2, f2, HE⟩ := H2.out.1.relay (by show R1.L.length ≤ 100; rw [HD.out.2.2.2.2.2.2.1]; exact HD.out.1.few) (i := i) (p := p) (by show R1.L[i]? = some p; rw [HD.out.2.2.2.2.2.2.1]; exact HD.out.2.1) (p.2.take k)
          rw [e2] at c2 f2 HE
          rw [HD.out.2.2.2.1] at c1
          have him2 : ((i : Int) < (m : Int)) = True := eq_true (by omega)
          have d1 := H2.out.1.blk.cell (i := 1) rfl
          have HM := Lib.hid hm
          have hk1 : k ≤ bp.size := by rw [HD.out.2.2.2.2.1]; exact HD.out.2.2.2.2.2.1
          have hk2 : ((k : Int) ≤ (bp.size : Int)) = True := eq_true (by omega)
          clear e2 hm hil
          go_upto_region 12 with (at_builtin; refine Lib.wpList_append_run _ rfl _ _ 79 79 rfl _ _ rfl rfl _ _ hr ?_)
          generalize hW3 : World.setCell _ _ _ = W3
          obtain ⟨g1, g2, g3⟩ := HE.out W3 hW3
          have HG := Lib.hid (And.intro g1 (And.intro g2 g3))
          clear g1 g2 g3 hW3 HE c1 c2 f1 f2 hr d1
          go_wp2_with fail
          go_ret
          refine ⟨rfl, _, _, ?_, (H1.out.2.trans H2.out.2.1).trans HG.out.2.1, fun q e => Or.inr (by have := HG.out.2.2 q e; have := H1.out.2.size; have := H2.out.2.1.size; omega), fun q e => Or.inr (by have := H2.out.2.2 q e; have := H1.out.2.size; omega)⟩
          have h9 := HG.out.1
          rw [HD.out.2.2.2.2.2.2.2.2]
          rw [HD.out.2.2.2.2.1, HD.out.2.2.2.2.2.2.1, HD.out.2.2.2.2.2.2.2.1] at h9
          exact h9
end
end Go.Proofs.YtdmedbhbefdnkaaGreatDoor

namespace Go.Proofs.YtdmedbhbefdnkaaGreatDoor
open Go.RowKit
def expandL (l : List (Int × Nat)) : List Int := l.flatMap fun p => List.replicate p.2 p.1
theorem expandL_append (l m : List (Int × Nat)) : expandL (l ++ m) = expandL l ++ expandL m := by simp [expandL]
theorem expandL_count (l : List (Int × Nat)) (n : Int) : (expandL l).count n = DiskM.looseOf l n := by
  induction l with
  | nil => rfl
  | cons p r ih =>
    have e : expandL (p :: r) = List.replicate p.2 p.1 ++ expandL r := by simp [expandL]
    rw [e, List.count_append, ih, looseOf_cons, List.count_replicate]
    by_cases h : p.1 = n
    · simp [h]
    · have h2 : ¬ n = p.1 := fun q => h q.symm
      simp [h]
def keepF (n : Int) : Nat → List Int → List Int
  | _, [] => []
  | s, a :: r => if a = n then (match s with | 0 => keepF n 0 r | s + 1 => a :: keepF n s r) else a :: keepF n s r
theorem keepF_ne {n a : Int} (h : ¬ a = n) (s : Nat) (r : List Int) : keepF n s (a :: r) = a :: keepF n s r := by simp [keepF, h]
theorem keepF_zero (n : Int) (r : List Int) : keepF n 0 (n :: r) = keepF n 0 r := by simp [keepF]
theorem keepF_succ (n : Int) (s : Nat) (r : List Int) : keepF n (s + 1) (n :: r) = n :: keepF n s r := by simp [keepF]
theorem cutF11_cons (n less : Int) (a : Int) (X : List Int) : cutF11 n less (a :: X).reverse = cutStep n (cutF11 n less X.reverse) a := by rw [List.reverse_cons, cutF11_snoc]
theorem cut_left (n : Int) (less : Nat) (X : List Int) : (cutF11 n less X.reverse).1 = ((less - X.count n : Nat) : Int) := by
  induction X with
  | nil => simp [cutF11]
  | cons a r ih =>
    rw [cutF11_cons]
    unfold cutStep
    by_cases h : a = n
    · subst h
      rw [List.count_cons_self]
      by_cases h2 : 0 < (cutF11 a less r.reverse).1
      · rw [if_pos ⟨rfl, h2⟩]; dsimp only; omega
      · rw [if_neg (fun q => h2 q.2)]; dsimp only; omega
    · rw [if_neg (fun q => h q.1), List.count_cons_of_ne h]; exact ih
theorem cut_keep (n : Int) (less : Nat) (X : List Int) : cutR n less X = keepF n (X.count n - less) X := by
  unfold cutR
  induction X with
  | nil => simp [cutF11, keepF]
  | cons a r ih =>
    have hl := cut_left n less r
    rw [cutF11_cons]
    unfold cutStep
    by_cases h : a = n
    · subst h
      rw [List.count_cons_self]
      by_cases h2 : 0 < (cutF11 a less r.reverse).1
      · rw [if_pos ⟨rfl, h2⟩]
        dsimp only
        rw [ih, show r.count a + 1 - less = 0 by omega, keepF_zero, show r.count a - less = 0 by omega]
      · rw [if_neg (fun q => h2 q.2)]
        dsimp only
        rw [List.reverse_append, List.reverse_singleton, List.singleton_append, ih, show r.count a + 1 - less = (r.count a - less) + 1 by omega, keepF_succ]
    · rw [if_neg (fun q => h q.1), List.count_cons_of_ne h]
      dsimp only
      rw [List.reverse_append, List.reverse_singleton, List.singleton_append, ih, keepF_ne h]
theorem keepF_rep (n : Int) (k s : Nat) (r : List Int) : keepF n s (List.replicate k n ++ r) = List.replicate (min k s) n ++ keepF n (s - min k s) r := by
  induction k generalizing s with
  | zero => simp
  | succ k ih =>
    rw [List.replicate_succ, List.cons_append]
    cases s with
    | zero => rw [keepF_zero, ih]; simp
    | succ s =>
      rw [keepF_succ, ih, show min (k + 1) (s + 1) = min k s + 1 by omega, List.replicate_succ, List.cons_append, show s + 1 - (min k s + 1) = s - min k s by omega]
theorem keepF_other {n a : Int} (h : ¬ a = n) (k s : Nat) (r : List Int) : keepF n s (List.replicate k a ++ r) = List.replicate k a ++ keepF n s r := by
  induction k with
  | zero => simp
  | succ k ih => rw [List.replicate_succ, List.cons_append, keepF_ne h, ih, List.cons_append]
theorem drop_keep (n : Int) (l : List (Int × Nat)) (s : Nat) : expandL (DiskM.dropL n l s) = keepF n s (expandL l) := by
  induction l generalizing s with
  | nil => rfl
  | cons p r ih =>
    have e : ∀ (q : Int × Nat) (m : List (Int × Nat)), expandL (q :: m) = List.replicate q.2 q.1 ++ expandL m := fun q m => by simp [expandL]
    unfold DiskM.dropL
    by_cases h : p.1 = n
    · rw [if_pos h, e, e, ih]
      dsimp only
      rw [h, keepF_rep]
    · rw [if_neg h, e, e, ih, keepF_other h]
theorem count_room : ∀ (L : List (Int × By)) (X : List Int), AM.Rise L → (∀ n, X.count n ≤ ((AM.get L n).getD []).length) → X.length ≤ AM.sum List.length L
  | [], X, _, h => by
    have : X = [] := by
      cases X with
      | nil => rfl
      | cons a r =>
        have := h a
        rw [List.count_cons_self] at this
        simp [AM.get] at this
    subst this
    simp
  | p :: L, X, hr, h => by
    obtain ⟨r1, r2⟩ := List.pairwise_cons.1 hr
    have h1 := count_room L (X.filter (fun a => !decide (a = p.1))) r2 (fun n => by
      by_cases hn : n = p.1
      · subst hn
        rw [List.count_eq_zero.2 (by simp)]
        omega
      · rw [List.count_filter (by simpa using hn)]
        have := h n
        rw [AM.get, List.find?_cons] at this
        have e : decide (p.1 = n) = false := decide_eq_false (fun q => hn q.symm)
        rw [e] at this
        exact this)
    have h2 := h p.1
    have e2 : AM.get (p :: L) p.1 = some p.2 := by simp [AM.get]
    rw [e2] at h2
    have h3 : X.length = (X.filter (fun a => !decide (a = p.1))).length + X.count p.1 := by
      rw [List.count_eq_countP, ← List.countP_eq_length_filter, Nat.add_comm]
      rw [List.length_eq_countP_add_countP (fun a => a == p.1)]
      congr 1
      exact List.countP_congr (fun a _ => by simp)
    rw [AM.sum_cons, h3]
    simp only [Option.getD_some] at h2
    omega
theorem find_get {L : List (Int × By)} (hr : AM.Rise L) (n : Int) : (AM.get L n = none ∧ findV L n = -1) ∨ ∃ (i : Nat) (b : By), AM.get L n = some b ∧ findV L n = (i : Int) ∧ L[i]? = some (n, b) := by
  rcases findV_cases L n with ⟨h1, h2⟩ | ⟨i, p, h1, h2, h3⟩
  · exact Or.inl ⟨AM.get_none.2 h2, h1⟩
  · refine Or.inr ⟨i, p.2, (AM.get_some hr).2 ?_, h1, ?_⟩
    · rw [← h3]; exact List.mem_of_getElem? h2
    · rw [h2, ← h3]
theorem rise_at {p : Int × By} {L : List (Int × By)} (hr : AM.Rise (p :: L)) {n : Int} {b : By} {i : Nat} (h : L[i]? = some (n, b)) : p.1 < n := (List.pairwise_cons.1 hr).1 (n, b) (List.mem_of_getElem? h)
theorem del_above {L : List (Int × By)} {n : Int} (h : ∀ q ∈ L, n < q.1) : AM.del L n = L := by
  unfold AM.del
  rw [List.filter_eq_self]
  intro q hq
  have := h q hq
  have : ¬ q.1 = n := by omega
  simpa using this
theorem ins_above {L : List (Int × By)} {n : Int} (v : By) (h : ∀ q ∈ L, n < q.1) : AM.ins n v L = (n, v) :: L := by
  cases L with
  | nil => rfl
  | cons a r => unfold AM.ins; rw [if_pos (h a (by simp))]
theorem set_at : ∀ {L : List (Int × By)} {n : Int} {b : By} {i : Nat}, AM.Rise L → L[i]? = some (n, b) → ∀ v : By, L.set i (n, v) = AM.set L n v
  | [], _, _, _, _, h, _ => by simp at h
  | p :: L, n, b, 0, hr, h, v => by
    simp at h
    subst h
    have ha := (List.pairwise_cons.1 hr).1
    unfold AM.set AM.del
    rw [List.filter_cons_of_neg (by simp)]
    have e := del_above (L := L) (n := n) ha
    unfold AM.del at e
    rw [e, ins_above v ha]
    rfl
  | p :: L, n, b, i + 1, hr, h, v => by
    have h2 : L[i]? = some (n, b) := by simpa using h
    have hlt := rise_at hr h2
    have ih := set_at (List.pairwise_cons.1 hr).2 h2 v
    unfold AM.set AM.del at ih ⊢
    have hpn : ¬ p.1 = n := by omega
    rw [List.filter_cons_of_pos (by simpa using hpn), List.set_cons_succ]
    unfold AM.ins
    rw [if_neg (by omega), ih]
theorem made_at : ∀ {L : List (Int × By)} {n : Int}, AM.get L n = none → madeL L n = AM.set L n []
  | [], n, _ => rfl
  | p :: L, n, h => by
    have hne : ∀ q ∈ p :: L, q.1 ≠ n := AM.get_none.1 h
    have hpn : ¬ p.1 = n := hne p (by simp)
    have h2 : AM.get L n = none := AM.get_none.2 (fun q hq => hne q (by simp [hq]))
    have ih := made_at h2
    have e1 := AM.del_none h
    have e2 := AM.del_none h2
    unfold madeL AM.set at ih ⊢
    rw [e2] at ih
    rw [e1]
    unfold AM.ins
    by_cases hlt : p.1 < n
    · rw [List.takeWhile_cons_of_pos (by simpa using hlt), List.dropWhile_cons_of_pos (by simpa using hlt), if_neg (by omega), List.cons_append, ih]
    · rw [List.takeWhile_cons_of_neg (by simpa using hlt), List.dropWhile_cons_of_neg (by simpa using hlt), if_pos (by omega)]
      rfl
end Go.Proofs.YtdmedbhbefdnkaaGreatDoor

namespace Go.Proofs.YtdmedbhbefdnkaaGreatDoor
open Go.RowKit
structure Rel (M : DiskM) (R : RefM) : Prop where
  ok : M.Ok
  few : M.files.length ≤ 100
  nf : M.fails = false
  L : R.L = M.files
  loose : R.loose = expandL M.loose
  cap : R.cap = M.cap
  down : R.down = M.down
  starts : R.starts = M.starts
  fails : R.fails = 0
section
variable {M M' : DiskM} {R R' : RefM} {e : Int}
theorem Rel.sinks (h : Rel M R) : R.sinks = false := by unfold RefM.sinks; rw [h.fails]; rfl
theorem Rel.tick (h : Rel M R) : R.tick = R := by unfold RefM.tick; rw [if_pos h.fails]
theorem Rel.mtick (h : Rel M R) : M.tick = M ∧ M.sinks = false := by
  refine ⟨by unfold DiskM.tick; rw [if_neg (by rw [h.nf]; simp)], by unfold DiskM.sinks; rw [h.nf]; rfl⟩
theorem Rel.get (h : Rel M R) (n : Int) : (AM.get M.files n = none ∧ findV R.L n = -1) ∨ ∃ (i : Nat) (b : By), AM.get M.files n = some b ∧ findV R.L n = (i : Int) ∧ R.L[i]? = some (n, b) ∧ b.length ≤ 1048576 := by
  rw [h.L]
  rcases find_get h.ok.rise n with q | ⟨i, b, q1, q2, q3⟩
  · exact Or.inl q
  · refine Or.inr ⟨i, b, q1, q2, q3, ?_⟩
    have h1 := DiskM.len_le_total h.ok q1
    have h2 := h.ok.room
    have h3 := h.ok.cap1
    omega
theorem Rel.rok (h : Rel M R) : R.Ok := by
  refine ⟨by rw [h.L]; exact h.few, fun p hp => ?_, ?_, by rw [h.cap]; exact ⟨h.ok.cap0, h.ok.cap1⟩, by rw [h.fails]; omega⟩
  · rw [h.L] at hp
    have h1 := DiskM.len_le_total h.ok ((AM.get_some h.ok.rise).2 hp)
    have h2 := h.ok.room
    have h3 := h.ok.cap1
    omega
  · rw [h.loose]
    have h1 := count_room M.files (expandL M.loose) h.ok.rise (fun n => by rw [expandL_count]; exact h.ok.lo n)
    have h2 := h.ok.room
    have h3 := h.ok.cap1
    unfold DiskM.total at h2
    omega
theorem Rel.free (h : Rel M R) : R.free = M.cap - M.total := by unfold RefM.free DiskM.total; rw [h.cap, h.L]
theorem Rel.has (h : Rel M R) (hd : M.down = false) {n : Int} {b : By} (hg : AM.get M.files n = some b) : M.has n = 0 := by
  unfold DiskM.has; rw [if_neg (by rw [hd]; simp), hg]; rfl
theorem Rel.sync (h : Rel M R) (he : M.sync = (e, M')) : ∃ R', R.sync = (e, R') ∧ Rel M' R' := by
  obtain ⟨t1, t2⟩ := h.mtick
  unfold DiskM.sync at he
  unfold RefM.sync
  rw [h.down]
  by_cases hd : M.down = true
  · rw [if_pos hd] at he ⊢
    cases he
    exact ⟨_, rfl, h⟩
  · rw [if_neg hd] at he ⊢
    rw [if_neg (by rw [t2]; simp), t1] at he
    cases he
    rw [h.tick]
    exact ⟨_, rfl, h.ok.noLoose, h.few, h.nf, h.L, rfl, h.cap, h.down, h.starts, h.fails⟩
theorem Rel.create (h : Rel M R) {n : Int} (n1 : n ≤ 9223372036854775807) (hc : M.files.length + M.loose.length < 300000000) (he : M.create n = (e, M')) : ∃ R', R.create n = (e, R') ∧ Rel M' R' := by
  obtain ⟨t1, t2⟩ := h.mtick
  unfold DiskM.create at he
  unfold RefM.create
  rw [h.down]
  by_cases hd : M.down = true
  · rw [if_pos hd] at he ⊢
    cases he
    exact ⟨_, rfl, h⟩
  · rw [if_neg hd] at he ⊢
    by_cases hn : n < 0
    · rw [if_pos hn] at he ⊢
      cases he
      exact ⟨_, rfl, h⟩
    · rw [if_neg hn] at he ⊢
      rcases h.get n with ⟨g1, g2⟩ | ⟨i, b, g1, g2, g3, _⟩
      · rw [if_neg (by rw [g1]; simp)] at he
        rw [if_neg (by omega), h.L]
        by_cases hf : 100 ≤ M.files.length
        · rw [if_pos hf] at he
          rw [if_pos (by omega)]
          cases he
          exact ⟨_, rfl, h⟩
        · rw [if_neg hf, if_neg (by rw [t2]; simp), t1] at he
          rw [if_neg (by omega)]
          cases he
          rw [h.tick]
          refine ⟨_, rfl, h.ok.create n ⟨by omega, n1⟩ g1 (by omega), ?_, h.nf, made_at g1, h.loose, h.cap, h.down, h.starts, h.fails⟩
          show (AM.set M.files n []).length ≤ 100
          rw [AM.length_set, AM.del_none g1]
          omega
      · rw [if_pos (by rw [g1]; rfl)] at he
        rw [if_pos (by omega)]
        cases he
        exact ⟨_, rfl, h⟩
theorem set_few {L : List (Int × By)} (hr : AM.Rise L) {n : Int} {b v : By} (hg : AM.get L n = some b) : (AM.set L n v).length = L.length := by
  rcases find_get hr n with ⟨g1, _⟩ | ⟨i, c, g1, _, g3⟩
  · rw [g1] at hg; cases hg
  · rw [← set_at hr g3 v, List.length_set]
theorem del_few (L : List (Int × By)) (n : Int) : (AM.del L n).length ≤ L.length := List.length_filter_le _ _
theorem Rel.append (h : Rel M R) {n : Int} {s : By} (hc : M.files.length + M.loose.length < 300000000) (he : M.append n s = (e, M')) : ∃ R', R.append n s = (e, R') ∧ Rel M' R' := by
  obtain ⟨t1, t2⟩ := h.mtick
  unfold DiskM.append at he
  unfold RefM.append
  rw [h.down, h.free]
  by_cases hd : M.down = true
  · have hh : M.has n = 61 := by unfold DiskM.has; rw [if_pos hd]
    rw [hh, if_pos (by decide)] at he
    rw [if_pos hd]
    cases he
    exact ⟨_, rfl, h⟩
  · rw [if_neg hd]
    rcases h.get n with ⟨g1, g2⟩ | ⟨i, b, g1, g2, g3, _⟩
    · have hh : M.has n = 4 := by unfold DiskM.has; rw [if_neg hd, g1]; rfl
      rw [hh, if_pos (by decide)] at he
      rw [if_pos (by omega)]
      cases he
      exact ⟨_, rfl, h⟩
    · rw [h.has (by simpa using hd) g1, if_neg (by simp)] at he
      rw [if_neg (by omega), g2, Int.toNat_natCast]
      by_cases hf : M.cap - M.total < s.length
      · rw [if_pos hf] at he ⊢
        cases he
        exact ⟨_, rfl, h⟩
      · rw [if_neg hf, if_neg (by rw [t2]; simp)] at he
        rw [if_neg hf]
        have ht : (M.appended n s).tick = M.appended n s := by unfold DiskM.tick; rw [if_neg (by show ¬ M.fails = true; rw [h.nf]; simp)]
        rw [ht] at he
        cases he
        obtain ⟨s1, s2⟩ := setL_at g3 (b ++ s)
        rw [s2, s1]
        have hok := h.ok.appended g1 (s := s) (by omega) (by omega)
        refine ⟨_, rfl, hok, ?_, h.nf, ?_, ?_, ?_, ?_, ?_, ?_⟩
        · show (AM.set M.files n _).length ≤ 100
          rw [set_few h.ok.rise g1]; exact h.few
        all_goals unfold RefM.tick; rw [if_pos (by exact h.fails)]
        · show R.L.set i (n, b ++ s) = AM.set M.files n (((AM.get M.files n).getD []) ++ s)
          rw [g1, h.L]
          rw [h.L] at g3
          exact set_at h.ok.rise g3 _
        · show R.loose ++ _ = expandL (M.loose ++ [(n, s.length)])
          rw [expandL_append, h.loose]
          simp [expandL]
        · exact h.cap
        · rfl
        · exact h.starts
        · exact h.fails
theorem Rel.truncate (h : Rel M R) {n size : Int} (he : M.truncate n size = (e, M')) : ∃ R', R.truncate n size = (e, R') ∧ Rel M' R' := by
  obtain ⟨t1, t2⟩ := h.mtick
  unfold DiskM.truncate at he
  unfold RefM.truncate
  rw [h.down]
  by_cases hd : M.down = true
  · have hh : M.has n = 61 := by unfold DiskM.has; rw [if_pos hd]
    rw [hh, if_pos (by decide)] at he
    rw [if_pos hd]
    cases he
    exact ⟨_, rfl, h⟩
  · rw [if_neg hd]
    rcases h.get n with ⟨g1, g2⟩ | ⟨i, b, g1, g2, g3, _⟩
    · have hh : M.has n = 4 := by unfold DiskM.has; rw [if_neg hd, g1]; rfl
      rw [hh, if_pos (by decide)] at he
      rw [if_pos (by omega)]
      cases he
      exact ⟨_, rfl, h⟩
    · rw [h.has (by simpa using hd) g1, if_neg (by simp), g1] at he
      obtain ⟨s1, s2⟩ := setL_at g3 (b.take size.toNat)
      rw [if_neg (by omega), g2, Int.toNat_natCast, s2, s1]
      dsimp only [Option.getD_some] at he ⊢
      by_cases hf : size < 0 ∨ (b.length : Int) < size
      · rw [if_pos hf] at he ⊢
        cases he
        exact ⟨_, rfl, h⟩
      · rw [if_neg hf, if_neg (by rw [t2]; simp), t1] at he
        rw [if_neg hf]
        cases he
        rw [h.tick]
        obtain ⟨k, rfl⟩ : ∃ k : Nat, size = (k : Int) := ⟨size.toNat, by omega⟩
        rw [Int.toNat_natCast]
        have hok := h.ok.truncated g1 k (by omega)
        refine ⟨_, rfl, hok, ?_, h.nf, ?_, ?_, h.cap, h.down, h.starts, h.fails⟩
        · show (AM.set M.files n _).length ≤ 100
          rw [set_few h.ok.rise g1]; exact h.few
        · show R.L.set i (n, b.take k) = AM.set M.files n (((AM.get M.files n).getD []).take k)
          rw [g1, h.L]
          rw [h.L] at g3
          exact set_at h.ok.rise g3 _
        · show cutR n ((b.length : Int) - (k : Int)) R.loose = expandL (DiskM.dropL n M.loose (k - (((AM.get M.files n).getD []).length - DiskM.looseOf M.loose n)))
          have hlo := h.ok.lo n
          rw [g1] at hlo ⊢
          dsimp only [Option.getD_some] at hlo ⊢
          rw [show (b.length : Int) - (k : Int) = ((b.length - k : Nat) : Int) by omega, cut_keep, drop_keep, h.loose, expandL_count]
          congr 1
          omega
def RefAt (w : World) (r : Nat) (M : DiskM) (x y : Value) : Prop := ∃ R, IsRef w r R x y ∧ Rel M R
theorem RefAt.keep {w w' : World} {r : Nat} {x y : Value} {S : Nat → Prop} (h : RefAt w r M x y) (hk : Kept S w w') (hS : ∀ k, refOwn r x y k → ¬ S k) : RefAt w' r M x y := by
  obtain ⟨R, h1, h2⟩ := h
  exact ⟨R, h1.kept hk hS, h2⟩
theorem RefAt.lt {w : World} {r : Nat} {x y : Value} (h : RefAt w r M x y) {k : Nat} (hk : refOwn r x y k) : k < w.heap.size := by
  obtain ⟨R, h1, h2⟩ := h
  exact h1.lt hk
def RefGo (w : World) (r : Nat) (x y : Value) (M' : DiskM) (w' : World) : Prop :=
  ∃ x' y', RefAt w' r M' x' y' ∧ Kept (· = r) w w' ∧ (∀ k, x'.ownBlock = some k → x.ownBlock = some k ∨ w.heap.size ≤ k) ∧ (∀ k, y'.ownBlock = some k → y.ownBlock = some k ∨ w.heap.size ≤ k)
theorem RefTo.go {w w' : World} {r : Nat} {x y : Value} (h : RefTo w r x y R' w') (hr : Rel M' R') : RefGo w r x y M' w' := by
  obtain ⟨x', y', h1, h2, h3, h4⟩ := h
  exact ⟨x', y', ⟨R', h1, hr⟩, h2, h3, h4⟩
variable {w : World} {r : Nat} {x y : Value}
theorem create_at (h : RefAt w r M x y) (n : Int) (n0 : -9223372036854775808 ≤ n ∧ n ≤ 9223372036854775807) (hc : M.files.length + M.loose.length < 300000000) (he : M.create n = (e, M')) :
    Calls Tryz.prog 11 #[.pointer (some ⟨r, 0, none⟩), .int .i64 n] w fun e' w' => e' = .returned (.int .i64 e) ∧ RefGo w r x y M' w' := by
  obtain ⟨R, h1, h2⟩ := h
  obtain ⟨R', h3, h4⟩ := h2.create n0.2 hc he
  exact (create_ref h1 h2.rok h2.sinks n n0 h3).mono fun _ _ q => ⟨q.1, q.2.go h4⟩
theorem append_at (h : RefAt w r M x y) (n : Int) (s : By) (hs : s.length ≤ 2000000) (hc : M.files.length + M.loose.length < 300000000) (he : M.append n s = (e, M')) :
    Calls Tryz.prog 13 #[.pointer (some ⟨r, 0, none⟩), .int .i64 n, .string (strB s)] w fun e' w' => e' = .returned (.int .i64 e) ∧ RefGo w r x y M' w' := by
  obtain ⟨R, h1, h2⟩ := h
  obtain ⟨R', h3, h4⟩ := h2.append hc he
  exact (append_ref h1 h2.rok h2.sinks n s hs h3).mono fun _ _ q => ⟨q.1, q.2.go h4⟩
theorem sync_at (h : RefAt w r M x y) (he : M.sync = (e, M')) :
    Calls Tryz.prog 46 #[.pointer (some ⟨r, 0, none⟩)] w fun e' w' => e' = .returned (.int .i64 e) ∧ RefGo w r x y M' w' := by
  obtain ⟨R, h1, h2⟩ := h
  obtain ⟨R', h3, h4⟩ := h2.sync he
  exact (sync_ref h1 h2.rok h2.sinks h3).mono fun _ _ q => ⟨q.1, q.2.go h4⟩
theorem truncate_at (h : RefAt w r M x y) (n size : Int) (hsz : -9223372036854775808 ≤ size ∧ size ≤ 9223372036854775807) (he : M.truncate n size = (e, M')) :
    Calls Tryz.prog 45 #[.pointer (some ⟨r, 0, none⟩), .int .i64 n, .int .i64 size] w fun e' w' => e' = .returned (.int .i64 e) ∧ RefGo w r x y M' w' := by
  obtain ⟨R, h1, h2⟩ := h
  obtain ⟨R', h3, h4⟩ := h2.truncate he
  exact (truncate_ref h1 h2.rok h2.sinks n size hsz h3).mono fun _ _ q => ⟨q.1, q.2.go h4⟩
theorem find_at (h : RefAt w r M x y) (n : Int) :
    Calls Tryz.prog 42 #[.pointer (some ⟨r, 0, none⟩), .int .i64 n] w fun e' w' => e' = .returned (.int .i64 (findV M.files n)) ∧ w = w' := by
  obtain ⟨R, h1, h2⟩ := h
  have := find_ref h1 h2.rok.few n
  rwa [h2.L] at this
theorem free_at (h : RefAt w r M x y) :
    Calls Tryz.prog 36 #[.pointer (some ⟨r, 0, none⟩)] w fun e' w' => e' = .returned (.int .i64 (M.cap - M.total)) ∧ w = w' := by
  obtain ⟨R, h1, h2⟩ := h
  have := free_ref h1 h2.rok
  rwa [h2.free] at this
theorem RefAt.cells (h : RefAt w r M x y) : ∃ a c, x = .slice a M.files.length c ∧ w.cell? ⟨r, 1, none⟩ = some x ∧ w.cell? ⟨r, 3, none⟩ = some (.bool M.down) ∧ w.cell? ⟨r, 4, none⟩ = some (.int .i64 M.starts) ∧ w.cell? ⟨r, 2, none⟩ = some y ∧ (∃ b c2, y = .slice b (expandL M.loose).length c2) ∧
    ∀ (i : Nat) (p : Int × By), M.files[i]? = some p → ∃ g, a = some ⟨g, 0, none⟩ ∧ w.cell? ⟨g, i * 2, none⟩ = some (.int .i64 p.1) ∧ w.cell? ⟨g, i * 2 + 1, none⟩ = some (.string (strB p.2)) := by
  obtain ⟨R, h1, h2⟩ := h
  obtain ⟨a, c, rfl, hc⟩ := h1.form
  obtain ⟨b, c2, rfl, -⟩ := h1.lform
  have c1 := h1.blk.cell (i := 1) rfl
  have c2 := h1.blk.cell (i := 2) rfl
  have c3 := h1.blk.cell (i := 3) rfl
  have c4 := h1.blk.cell (i := 4) rfl
  rw [h2.L] at c1 hc ⊢
  rw [h2.down] at c3
  rw [h2.starts] at c4
  rw [h2.loose] at c2 ⊢
  exact ⟨a, c, rfl, c1, c3, c4, c2, ⟨b, _, rfl⟩, hc⟩
def Og.ref (r : Nat) (M : DiskM) (x y : Value) : Og := ⟨refOwn r x y, fun w _ => RefAt w r M x y, fun h hk hZ => h.keep hk hZ, fun h hk => h.lt hk⟩
theorem Owg.refd {w0 w w' : World} {d r : Nat} {N : DiskM} {Os : List Og} {x y : Value} (h : Owg w0 w d N (Og.ref r M x y :: Os)) (hq : RefGo w r x y M' w') : ∃ x' y', Owg w0 w' d N (Og.ref r M' x' y' :: Os) := by
  obtain ⟨B, h⟩ := h
  obtain ⟨x', y', h1, h2, h3, h4⟩ := hq
  have hB := fun k (q : refOwn r x y k) => ((h.obs _ (List.mem_cons_self ..)).2 k q).1
  have ho : ∀ k, refOwn r x' y' k → refOwn r x y k ∨ w.heap.size ≤ k := by
    rintro k (q | q | q)
    · exact Or.inl (Or.inl q)
    · exact (h3 k q).imp (fun q => Or.inr (Or.inl q)) id
    · exact (h4 k q).imp (fun q => Or.inr (Or.inr q)) id
  refine ⟨x', y', _, h.swap (x := Og.ref r M' x' y') (h2.mono (fun k _ e => Or.inr (Or.inl e))) (h.ap.grow h2 (fun k _ e => hB k (Or.inl e)) (fun k q => ?_)) h1 ho⟩
  rcases q with q | q
  · exact Or.inl q
  · rcases ho k q with q2 | q2
    · exact Or.inl (hB k q2)
    · exact Or.inr ⟨q2, h1.lt q⟩
end
end Go.Proofs.YtdmedbhbefdnkaaGreatDoor

namespace Go.Proofs.YtdmedbhbefdnkaaGreatDoor
open Go.RowKit
section
variable {w w1 w2 : World} {r : Nat} {M M1 M2 : DiskM} {x y x1 y1 : Value} {e : Int}
theorem RefGo.next (h : RefGo w r x y M1 w1) (hq : ∀ x1 y1, RefAt w1 r M1 x1 y1 → RefGo w1 r x1 y1 M2 w2) : RefGo w r x y M2 w2 := by
  obtain ⟨x1, y1, h1, h2, h3, h4⟩ := h
  obtain ⟨x2, y2, g1, g2, g3, g4⟩ := hq x1 y1 h1
  refine ⟨x2, y2, g1, h2.trans g2, fun k q => ?_, fun k q => ?_⟩
  · rcases g3 k q with q | q
    · exact h3 k q
    · have := h2.size; exact Or.inr (by omega)
  · rcases g4 k q with q | q
    · exact h4 k q
    · have := h2.size; exact Or.inr (by omega)
theorem RefGo.thru {z1 z2 : Value} (h2 : Kept (· = r) w w1) (h3 : ∀ k, z1.ownBlock = some k → x.ownBlock = some k ∨ w.heap.size ≤ k) (h4 : ∀ k, z2.ownBlock = some k → y.ownBlock = some k ∨ w.heap.size ≤ k) (hq : RefGo w1 r z1 z2 M2 w2) : RefGo w r x y M2 w2 := by
  obtain ⟨x2, y2, g1, g2, g3, g4⟩ := hq
  refine ⟨x2, y2, g1, h2.trans g2, fun k q => ?_, fun k q => ?_⟩
  · rcases g3 k q with q | q
    · exact h3 k q
    · have := h2.size; exact Or.inr (by omega)
  · rcases g4 k q with q | q
    · exact h4 k q
    · have := h2.size; exact Or.inr (by omega)
theorem rel_new (cap : Int) (h : (DiskM.new cap).Ok) : Rel (DiskM.new cap) ⟨cap, [], [], false, 0, 0, 0⟩ := ⟨h, by show 0 ≤ 100; omega, rfl, rfl, rfl, rfl, rfl, rfl, rfl⟩
def Pieces (M : DiskM) (n : Nat) : Prop := M.files.length + M.loose.length ≤ n
theorem create_pieces {n : Int} {k : Nat} {R : RefM} (h : Rel M R) (hk : Pieces M k) (he : M.create n = (e, M1)) : Pieces M1 (k + 1) := by
  obtain ⟨t1, t2⟩ := h.mtick
  unfold Pieces at *
  unfold DiskM.create at he
  split at he
  · cases he; omega
  · split at he
    · cases he; omega
    · split at he
      · cases he; omega
      · split at he
        · cases he; omega
        · rw [if_neg (by rw [t2]; simp), t1] at he
          cases he
          show (AM.set M.files n []).length + M.loose.length ≤ k + 1
          rw [AM.length_set]
          have := del_few M.files n
          omega
theorem append_pieces {n : Int} {s : By} {k : Nat} {R : RefM} (h : Rel M R) (hk : Pieces M k) (he : M.append n s = (e, M1)) : Pieces M1 (k + 2) := by
  obtain ⟨t1, t2⟩ := h.mtick
  unfold Pieces at *
  unfold DiskM.append at he
  split at he
  · cases he; omega
  · split at he
    · cases he; omega
    · rw [if_neg (by rw [t2]; simp)] at he
      have ht : (M.appended n s).tick = M.appended n s := by unfold DiskM.tick; rw [if_neg (by show ¬ M.fails = true; rw [h.nf]; simp)]
      rw [ht] at he
      cases he
      show (AM.set M.files n _).length + (M.loose ++ [(n, s.length)]).length ≤ k + 2
      rw [AM.length_set, List.length_append, List.length_singleton]
      have := del_few M.files n
      omega
end
end Go.Proofs.YtdmedbhbefdnkaaGreatDoor
