/- RD1 RD2 -/
import Derived.Deep.Upon
import Derived.Test.YtlgeijbgkipliaaGreatDoorUSegmentsOpen29
import Derived.Test.YtlgeijbgkipliaaGreatDoorUSegmentsOpen18
import Derived.Test.YtlgeijbgkipliaaGreatDoorUSegmentsOpen11
import Derived.Test.YtlgeijbgkipliaaGreatDoorUSegmentsOpen32
set_option linter.unusedVariables false
set_option linter.unusedSimpArgs false
namespace Go.Proofs.YtlgeijbgkipliaaGreatDoor
open Go.RowKit
structure RefM where
  cap : Int
  L : List (Int × By)
  loose : List Int
  down : Bool
  starts : Int
  fails : Int
  keep : Int
structure RefM.Ok (R : RefM) : Prop where
  few : R.L.length ≤ 100
  size : ∀ p ∈ R.L, p.2.length ≤ 2000000
  loo : R.loose.length ≤ 10000000
  cap0 : 0 ≤ R.cap ∧ R.cap ≤ 1048576
  fail0 : 0 ≤ R.fails ∧ R.fails ≤ 2000000000000
def fcells (L : List (Int × By)) : List Value := L.flatMap fun p => [.int .i64 p.1, .string (strB p.2)]
theorem fcells_len (L : List (Int × By)) : (fcells L).length = L.length * 2 := by
  induction L with
  | nil => rfl
  | cons a r ih => simp only [fcells, List.flatMap_cons, List.length_append, List.length_cons, List.length_nil] at *; omega
theorem fcells_append (L M : List (Int × By)) : fcells (L ++ M) = fcells L ++ fcells M := by simp [fcells]
theorem fcells_cons (a : Int × By) (L : List (Int × By)) : fcells (a :: L) = [.int .i64 a.1, .string (strB a.2)] ++ fcells L := by simp [fcells]
theorem fcells_get (L : List (Int × By)) (i : Nat) (p : Int × By) (h : L[i]? = some p) : (fcells L)[i * 2]? = some (.int .i64 p.1) ∧ (fcells L)[i * 2 + 1]? = some (.string (strB p.2)) := by
  induction L generalizing i with
  | nil => simp at h
  | cons a r ih =>
    rw [fcells_cons]
    cases i with
    | zero => simp at h; subst h; simp
    | succ i =>
      have := ih i (by simpa using h)
      rw [List.getElem?_append_right (by simp; omega), List.getElem?_append_right (by simp; omega)]
      have e0 : [Value.int .i64 a.1, Value.string (strB a.2)].length = 2 := rfl
      rw [e0, show (i + 1) * 2 - 2 = i * 2 by omega, show (i + 1) * 2 + 1 - 2 = i * 2 + 1 by omega]
      exact this
theorem fcells_one (L : List (Int × By)) : ∀ u ∈ fcells L, u.oneCell' = true := by
  intro u hu
  unfold fcells at hu
  simp only [List.mem_flatMap, List.mem_cons, List.not_mem_nil, or_false] at hu
  obtain ⟨p, _, rfl | rfl⟩ := hu <;> rfl
theorem fcells_take (L : List (Int × By)) (i : Nat) : (fcells L).take (i * 2) = fcells (L.take i) := by
  induction L generalizing i with
  | nil => simp [fcells]
  | cons a r ih =>
    cases i with
    | zero => simp [fcells]
    | succ i =>
      rw [List.take_succ_cons, fcells_cons, fcells_cons, ← ih i, show (i + 1) * 2 = i * 2 + 1 + 1 by omega]
      rfl
theorem fcells_drop (L : List (Int × By)) (i : Nat) : (fcells L).drop (i * 2) = fcells (L.drop i) := by
  induction L generalizing i with
  | nil => simp [fcells]
  | cons a r ih =>
    cases i with
    | zero => simp
    | succ i =>
      rw [List.drop_succ_cons, fcells_cons, ← ih i, show (i + 1) * 2 = i * 2 + 1 + 1 by omega]
      rfl
abbrev refC (R : RefM) (x y : Value) : List Value := [.int .i64 R.cap, x, y, .bool R.down, .int .i64 R.starts, .int .i64 R.fails, .int .i64 R.keep]
structure IsRef (w : World) (r : Nat) (R : RefM) (x y : Value) : Prop where
  blk : Blk w r (refC R x y) 103
  files : Row w 107 2 x (fcells R.L)
  loose : Row w 3 1 y (icells R.loose)
def refOwn (r : Nat) (x y : Value) (k : Nat) : Prop := k = r ∨ x.ownBlock = some k ∨ y.ownBlock = some k
section
variable {w w' W : World} {r : Nat} {R R' : RefM} {x y x' y' : Value} {S : Nat → Prop}
theorem icells_len (l : List Int) : (icells l).length = l.length := by simp [icells]
theorem IsRef.kept (h : IsRef w r R x y) (hk : Kept S w w') (hS : ∀ k, refOwn r x y k → ¬ S k) : IsRef w' r R x y :=
  ⟨h.blk.kept hk (hS r (Or.inl rfl)), h.files.kept hk (fun k q => hS k (Or.inr (Or.inl q))), h.loose.kept hk (fun k q => hS k (Or.inr (Or.inr q)))⟩
theorem IsRef.same (h : IsRef w r R x y) (hk : Kept (fun _ => False) w w') : IsRef w' r R x y := h.kept hk (fun _ _ => id)
theorem IsRef.lt (h : IsRef w r R x y) {k : Nat} (hk : refOwn r x y k) : k < w.heap.size := by
  rcases hk with rfl | q | q
  · exact h.blk.lt
  · exact h.files.lt q
  · exact h.loose.lt q
theorem IsRef.ne (h : IsRef w r R x y) : (∀ k, x.ownBlock = some k → k ≠ r) ∧ (∀ k, y.ownBlock = some k → k ≠ r) :=
  ⟨fun _ q => h.files.ne_blk q h.blk (by decide), fun _ q => h.loose.ne_blk q h.blk (by decide)⟩
theorem IsRef.form (h : IsRef w r R x y) : ∃ a c, x = .slice a R.L.length c ∧ ∀ (i : Nat) (p : Int × By), R.L[i]? = some p → ∃ g, a = some ⟨g, 0, none⟩ ∧ w.cell? ⟨g, i * 2, none⟩ = some (.int .i64 p.1) ∧ w.cell? ⟨g, i * 2 + 1, none⟩ = some (.string (strB p.2)) := by
  obtain ⟨a, n, c, rfl, hn, _, hc⟩ := h.files.form (by omega)
  rw [fcells_len] at hn
  obtain rfl : n = R.L.length := by omega
  refine ⟨a, c, rfl, fun i p hp => ?_⟩
  have hi := (List.getElem?_eq_some_iff.1 hp).1
  obtain ⟨g, rfl, _, hg⟩ := hc (by omega)
  obtain ⟨g0, g1⟩ := fcells_get _ i p hp
  exact ⟨g, rfl, hg _ _ g0, hg _ _ g1⟩
theorem IsRef.lform (h : IsRef w r R x y) : ∃ a c, y = .slice a R.loose.length c ∧ ∀ (i : Nat) (n : Int), R.loose[i]? = some n → ∃ g, a = some ⟨g, 0, none⟩ ∧ w.cell? ⟨g, i, none⟩ = some (.int .i64 n) := by
  obtain ⟨a, n, c, rfl, hn, _, hc⟩ := h.loose.form (by omega)
  rw [icells_len] at hn
  obtain rfl : n = R.loose.length := by omega
  refine ⟨a, c, rfl, fun i p hp => ?_⟩
  have hi := (List.getElem?_eq_some_iff.1 hp).1
  obtain ⟨g, rfl, _, hg⟩ := hc (by omega)
  exact ⟨g, rfl, hg i _ (by unfold icells; rw [List.getElem?_map, hp]; rfl)⟩
def RefTo (w : World) (r : Nat) (x y : Value) (R' : RefM) (w' : World) : Prop :=
  ∃ x' y', IsRef w' r R' x' y' ∧ Kept (· = r) w w' ∧ (∀ k, x'.ownBlock = some k → x.ownBlock = some k ∨ w.heap.size ≤ k) ∧ (∀ k, y'.ownBlock = some k → y.ownBlock = some k ∨ w.heap.size ≤ k)
theorem RefTo.self (h : IsRef w r R x y) : RefTo w r x y R w := ⟨x, y, h, Kept.refl _ _, fun _ => Or.inl, fun _ => Or.inl⟩
def findV (L : List (Int × By)) (n : Int) : Int := match L.findIdx? (fun p => decide (p.1 = n)) with
  | some i => (i : Int)
  | none => -1
theorem findV_at {L : List (Int × By)} {n : Int} {i : Nat} {p : Int × By} (hp : L[i]? = some p) (hn : p.1 = n) (hb : ∀ j q, L[j]? = some q → j < i → q.1 ≠ n) : findV L n = (i : Int) := by
  obtain ⟨hi, e⟩ := List.getElem?_eq_some_iff.1 hp
  have : L.findIdx? (fun p => decide (p.1 = n)) = some i := by
    rw [List.findIdx?_eq_some_iff_getElem]
    refine ⟨hi, by rw [e]; exact decide_eq_true hn, fun j hj => ?_⟩
    have := hb j _ (List.getElem?_eq_getElem (by omega)) hj
    simpa using this
  unfold findV
  rw [this]
theorem findV_none {L : List (Int × By)} {n : Int} (hb : ∀ j q, L[j]? = some q → j < L.length → q.1 ≠ n) : findV L n = -1 := by
  have : L.findIdx? (fun p => decide (p.1 = n)) = none := by
    rw [List.findIdx?_eq_none_iff]
    intro q hq
    obtain ⟨j, hj, e⟩ := List.getElem_of_mem hq
    have := hb j q (by rw [List.getElem?_eq_getElem hj, e]) hj
    simpa using this
  unfold findV
  rw [this]
theorem findV_cases (L : List (Int × By)) (n : Int) : (findV L n = -1 ∧ ∀ p ∈ L, p.1 ≠ n) ∨ ∃ (i : Nat) (p : Int × By), findV L n = (i : Int) ∧ L[i]? = some p ∧ p.1 = n := by
  unfold findV
  cases h : L.findIdx? (fun p => decide (p.1 = n)) with
  | none =>
    left
    rw [List.findIdx?_eq_none_iff] at h
    exact ⟨rfl, fun p hp => by simpa using h p hp⟩
  | some i =>
    right
    rw [List.findIdx?_eq_some_iff_getElem] at h
    obtain ⟨hi, h1, _⟩ := h
    exact ⟨i, L[i], rfl, List.getElem?_eq_getElem hi, by simpa using h1⟩
theorem dec_gtr {a b : Nat} (h : a < b) : decide ((a : Int) < (b : Int)) = true ∧ decide (a < b) = true := ⟨decide_eq_true (by omega), decide_eq_true h⟩
theorem dec_ler {a b : Nat} (h : ¬ a < b) : decide ((a : Int) < (b : Int)) = false ∧ decide (a < b) = false := ⟨decide_eq_false (by omega), decide_eq_false h⟩
set_option maxRecDepth 100000 in
set_option maxHeartbeats 2000000 in
theorem find_ref (h : IsRef w r R x y) (hl : R.L.length ≤ 100) (n : Int) :
    Calls Tryz.prog 56 #[.pointer (some ⟨r, 0, none⟩), .int .i64 n] w fun e w' => e = .returned (.int .i64 (findV R.L n)) ∧ w = w' := by
  obtain ⟨a, c, rfl, hc⟩ := h.form
  have c1 := h.blk.cell (i := 1) rfl
  have HC := Lib.hid hc
  have HV := Lib.hid (And.intro (fun i p hp hn hb => findV_at (L := R.L) (n := n) (i := i) (p := p) hp hn hb) (fun hb => findV_none (L := R.L) (n := n) hb))
  clear h hc
  generalize findV R.L n = V at *
  go_enter Tryz.func56, Tryz.ntmps56
  go_wp2_with fail
  go_loop [5] (fun z => ∃ i : Nat, i ≤ R.L.length ∧ z = .int .i64 (i : Int) ∧ Hid (∀ j q, R.L[j]? = some q → j < i → q.1 ≠ n)) (fun z => R.L.length - (intOf z).toNat)
  case atStart => exact ⟨0, Nat.zero_le _, rfl, Lib.hid (fun j q _ hj => absurd hj (Nat.not_lt_zero _))⟩
  case round =>
    obtain ⟨i, hi, rfl, HS⟩ := hrel
    by_cases hlt : i < R.L.length
    · obtain ⟨y1, y2⟩ := dec_gtr hlt
      obtain ⟨p, hp⟩ : ∃ p, R.L[i]? = some p := ⟨_, List.getElem?_eq_getElem hlt⟩
      obtain ⟨g, rfl, q0, -⟩ := HC.out i p hp
      by_cases hn : p.1 = n
      · have z1 : (p.1 == n) = true := by simpa using hn
        have hv := HV.out.1 i p hp hn HS.out
        have HR := Lib.hid hv
        clear hi hp hn hv
        go_wp2_with fail
        go_ret
        exact ⟨by rw [HR.out]; rfl, rfl⟩
      · have z1 : (p.1 == n) = false := by simpa using hn
        have HS3 : Hid (∀ j q, R.L[j]? = some q → j < i + 1 → q.1 ≠ n) := by
          refine Lib.hid ?_
          intro j q hq hj
          rcases Nat.lt_or_ge j i with z | z
          · exact HS.out j q hq z
          · obtain rfl : j = i := by omega
            rw [hp] at hq
            cases hq
            exact hn
        have HLT := Lib.hid hlt
        clear hi hp hn
        go_wp2_with fail
        go_round
        case rel => exact ⟨i + 1, HLT.out, by go_num, HS3⟩
        case measure => have := HLT.out; simp [intOf]; omega
    · obtain rfl : i = R.L.length := by omega
      obtain ⟨y1, y2⟩ := dec_ler hlt
      have HR := Lib.hid (HV.out.2 HS.out)
      clear hi hlt
      go_wp2_with fail
      go_ret
      exact ⟨by rw [HR.out]; rfl, rfl⟩
def RefM.at_ (R : RefM) (n : Int) : Int × Int := if R.down = true then (-1, 61) else if findV R.L n < 0 then (-1, 4) else (findV R.L n, 0)
set_option maxRecDepth 100000 in
theorem at_ref (h : IsRef w r R x y) (hl : R.L.length ≤ 100) (n : Int) {i e0 : Int} (he : R.at_ n = (i, e0)) :
    Calls Tryz.prog 43 #[.pointer (some ⟨r, 0, none⟩), .int .i64 n] w fun e w' => e = .returned (.tuple #[.int .i64 i, .int .i64 e0]) ∧ w = w' := by
  have c3 := h.blk.cell (i := 3) rfl
  have HF := Lib.hid (find_ref h hl n)
  clear h
  unfold RefM.at_ at he
  generalize findV R.L n = V at *
  cases hd : R.down with
  | true =>
    rw [if_pos hd] at he
    rw [hd] at c3
    cases he
    go_enter Tryz.func43, Tryz.ntmps43
    go_wp2_with fail
    refine bodyPost_ret (v := .tuple #[.int .i64 (-1), .int .i64 61]) (by simp [results, Tryz.results43, go_sem]) rfl ⟨rfl, rfl⟩
  | false =>
    rw [if_neg (by rw [hd]; simp)] at he
    rw [hd] at c3
    by_cases h0 : V < 0
    · rw [if_pos h0] at he
      cases he
      have z1 : decide (V < 0) = true := decide_eq_true h0
      clear h0
      go_enter Tryz.func43, Tryz.ntmps43
      go_wp2_with (go_at_call 56; refine HF.out.mono ?_; rintro e w' ⟨rfl, rfl⟩)
      refine bodyPost_ret (v := .tuple #[.int .i64 (-1), .int .i64 4]) (by simp [results, Tryz.results43, go_sem]) rfl ⟨rfl, rfl⟩
    · rw [if_neg h0] at he
      cases he
      have z1 : decide (i < 0) = false := decide_eq_false h0
      clear h0
      go_enter Tryz.func43, Tryz.ntmps43
      go_wp2_with (go_at_call 56; refine HF.out.mono ?_; rintro e w' ⟨rfl, rfl⟩)
      refine bodyPost_ret (v := .tuple #[.int .i64 i, .int .i64 0]) (by simp [results, Tryz.results43, go_sem]) rfl ⟨rfl, rfl⟩
def RefM.sinks (R : RefM) : Bool := decide (R.fails = 1)
def RefM.tick (R : RefM) : RefM := if R.fails = 0 then R else { R with fails := R.fails - 1 }
set_option maxRecDepth 100000 in
theorem fails_ref (h : IsRef w r R x y) (hf : 0 ≤ R.fails ∧ R.fails ≤ 2000000000000) :
    Calls Tryz.prog 44 #[.pointer (some ⟨r, 0, none⟩)] w fun e w' => e = .returned (.bool R.sinks) ∧ IsRef w' r R.tick x y ∧ Kept (· = r) w w' := by
  have c5 := h.blk.cell (i := 5) rfl
  have z5 := h.blk.free 5
  by_cases h0 : R.fails = 0
  · have e1 : R.sinks = false := decide_eq_false (by omega)
    have e2 : R.tick = R := by unfold RefM.tick; rw [if_pos h0]
    have z1 : (R.fails == 0) = true := by simpa using h0
    have HI := Lib.hid h
    rw [e1, e2]
    clear e1 e2 h h0 hf
    go_enter Tryz.func44, Tryz.ntmps44
    go_wp2_with fail
    go_ret
    exact ⟨rfl, HI.out, Kept.refl _ _⟩
  · have e2 : R.tick = { R with fails := R.fails - 1 } := by unfold RefM.tick; rw [if_neg h0]
    have z1 : (R.fails == 0) = false := by simpa using h0
    have z2 : (R.fails - 1 == 0) = R.sinks := by unfold RefM.sinks; by_cases q : R.fails = 1 <;> simp [q]; omega
    have hw : wrap64 (R.fails - 1) = R.fails - 1 := IntWalk.wrap64_in _ (by omega)
    have hE : ∀ W', w.setCell ⟨r, 5, none⟩ (.int .i64 (R.fails - 1)) = W' → IsRef W' r R.tick x y ∧ Kept (· = r) w W' := by
      intro W' hW
      have hk := kept_cell w r 5 (.int .i64 (R.fails - 1))
      have hb := h.blk.set 5 (.int .i64 (R.fails - 1))
      rw [hW] at hk hb
      rw [e2]
      exact ⟨⟨hb, h.files.kept hk (fun k q => h.ne.1 k q), h.loose.kept hk (fun k q => h.ne.2 k q)⟩, hk⟩
    have HE := Lib.hid hE
    clear hE e2 h h0 hf
    go_enter Tryz.func44, Tryz.ntmps44
    go_wp2_with fail
    generalize hW : World.setCell _ _ _ = W'
    obtain ⟨g1, g2⟩ := HE.out W' hW
    refine bodyPost_ret (v := .bool R.sinks) (by simp [results, Tryz.results44, go_sem]) rfl ⟨rfl, g1, g2⟩
end
end Go.Proofs.YtlgeijbgkipliaaGreatDoor

namespace Go.Proofs.YtlgeijbgkipliaaGreatDoor
open Go.RowKit
theorem info_file : (Tryz.prog.info? 107).map (fun i => (i.zero, i.size, i.bytes)) = some (some (.agg #[.int .i64 0, .string ⟨#[]⟩]), 2, 24) := by kernel_rfl
theorem file_append {w : World} {v : Value} {L : List (Int × By)} (p : Int × By) (hL : L.length ≤ 1000000) (hrow : Row w 107 2 v (fcells L)) :
    ∃ sa n cap w3, (Builtin.append_ #[101, 101] 101 #[v, .slice (some ⟨w.heap.size, 0, none⟩) 1 1]).run Tryz.prog (w.alloc (.cells #[.int .i64 p.1, .string (strB p.2)] 107)) = .ok (.slice sa n cap) w3 ∧
      Row w3 107 2 (.slice sa n cap) (fcells (L ++ [p])) ∧ Kept (fun x => v.ownBlock = some x) w w3 ∧ ∀ k, (Value.slice sa n cap).ownBlock = some k → v.ownBlock = some k ∨ w.heap.size ≤ k := by
  obtain ⟨i0, hi, hz0, hz1, hz2⟩ := info_parts info_file
  have hnew := Blk.new w [.int .i64 p.1, .string (strB p.2)] 107
  have hal : Kept (fun _ => False) w (w.alloc (.cells #[.int .i64 p.1, .string (strB p.2)] 107)) := (Kept.refl _ _).alloc _
  have hkl : (fcells L).length = L.length * 2 := fcells_len L
  obtain ⟨v', w3, hrun, hrow3, hk3, hf3⟩ := Row.append_cells (P := Tryz.prog) (t := 101) (hrow.kept hal (fun _ _ => id)) Tryz.underlying101 hi hz0 hz1 rfl (by decide) (by rw [hz2]; decide) ⟨w.heap.size, 0, none⟩ 1 1 [.int .i64 p.1, .string (strB p.2)] rfl
    (fun j u hu => by rw [addr0_add]; exact hnew.cell hu) (fun u hu => by simp at hu; rcases hu with rfl | rfl <;> rfl) (by decide) (by simp; omega) 101
  obtain ⟨sa, n, cap, rfl, _⟩ := hrow3.form (by omega)
  refine ⟨sa, n, cap, w3, hrun, ?_, (hal.mono (fun _ _ => False.elim)).trans hk3, fun k hk => (hf3 k hk).imp id (fun q => by have := hal.size; omega)⟩
  rw [fcells_append]
  exact hrow3
theorem files_append {w : World} {v u : Value} {L M : List (Int × By)} (hL : L.length + M.length ≤ 1000000) (hrow : Row w 107 2 v (fcells L)) (hview : View w 2 u (fcells M)) :
    ∃ sa n cap w3, (Builtin.append_ #[101, 101] 101 #[v, u]).run Tryz.prog w = .ok (.slice sa n cap) w3 ∧
      Row w3 107 2 (.slice sa n cap) (fcells (L ++ M)) ∧ Kept (fun x => v.ownBlock = some x) w w3 ∧ ∀ k, (Value.slice sa n cap).ownBlock = some k → v.ownBlock = some k ∨ w.heap.size ≤ k := by
  obtain ⟨i0, hi, hz0, hz1, hz2⟩ := info_parts info_file
  have hkl : (fcells L).length = L.length * 2 := fcells_len L
  have hkm : (fcells M).length = M.length * 2 := fcells_len M
  obtain ⟨v', w3, hrun, hrow3, hk3, hf3⟩ := Row.append_view (P := Tryz.prog) (t := 101) hrow hview Tryz.underlying101 hi hz0 hz1 rfl (by decide) (by rw [hz2]; decide) (fcells_one M) (by omega) 101
  obtain ⟨sa, n, cap, rfl, _⟩ := hrow3.form (by omega)
  exact ⟨sa, n, cap, w3, hrun, by rw [fcells_append]; exact hrow3, hk3, hf3⟩
section
variable {w w' W : World} {r : Nat} {R R' : RefM} {x y x' y' : Value} {S : Nat → Prop}
theorem sum_take {L : List (Int × By)} {i : Nat} {p : Int × By} (hp : L[i]? = some p) : AM.sum List.length (L.take (i + 1)) = AM.sum List.length (L.take i) + p.2.length := by
  rw [List.take_add_one, hp]
  simp [AM.sum]
theorem sum_take_le (L : List (Int × By)) (i : Nat) : AM.sum List.length (L.take i) ≤ AM.sum List.length L := by
  conv => rhs; rw [← List.take_append_drop i L]
  unfold AM.sum
  rw [List.map_append, List.sum_append]
  omega
theorem RefM.Ok.sum (h : R.Ok) : AM.sum List.length R.L ≤ 200000000 := by
  have h1 : ∀ (L : List (Int × By)), (∀ p ∈ L, p.2.length ≤ 2000000) → AM.sum List.length L ≤ L.length * 2000000 := by
    intro L
    induction L with
    | nil => intro _; simp [AM.sum]
    | cons a r ih =>
      intro hq
      have := ih (fun p hp => hq p (by simp [hp]))
      have := hq a (by simp)
      rw [AM.sum_cons, List.length_cons]
      omega
  have := h1 R.L h.size
  have := h.few
  omega
def RefM.free (R : RefM) : Int := R.cap - (AM.sum List.length R.L : Nat)
set_option maxRecDepth 100000 in
set_option maxHeartbeats 2000000 in
theorem free_ref (h : IsRef w r R x y) (hR : R.Ok) :
    Calls Tryz.prog 47 #[.pointer (some ⟨r, 0, none⟩)] w fun e w' => e = .returned (.int .i64 R.free) ∧ w = w' := by
  obtain ⟨a, c, rfl, hc⟩ := h.form
  have c0 := h.blk.cell (i := 0) rfl
  have c1 := h.blk.cell (i := 1) rfl
  have HC := Lib.hid hc
  have HS := Lib.hid (And.intro hR.sum hR.cap0)
  have hl := hR.few
  clear h hc hR
  unfold RefM.free
  go_enter Tryz.func47, Tryz.ntmps47
  go_wp2_with fail
  go_loop [3, 4] (fun u z => ∃ i : Nat, i ≤ R.L.length ∧ u = .int .i64 (R.cap - (AM.sum List.length (R.L.take i) : Nat)) ∧ z = .int .i64 (i : Int)) (fun _ z => R.L.length - (intOf z).toNat)
  case atStart => exact ⟨0, Nat.zero_le _, by simp [AM.sum], rfl⟩
  case round =>
    obtain ⟨i, hi, rfl, rfl⟩ := hrel
    by_cases hlt : i < R.L.length
    · obtain ⟨y1, y2⟩ := dec_gtr hlt
      obtain ⟨p, hp⟩ : ∃ p, R.L[i]? = some p := ⟨_, List.getElem?_eq_getElem hlt⟩
      obtain ⟨g, rfl, -, q1⟩ := HC.out i p hp
      have hs := sum_take hp
      have hs2 := sum_take_le R.L (i + 1)
      obtain ⟨T, hT⟩ : ∃ T, AM.sum List.length (R.L.take i) = T := ⟨_, rfl⟩
      rw [hT] at hs ⊢
      have hsz : (strB p.2).size = p.2.length := strB_size p.2
      obtain ⟨bs, hbs⟩ : ∃ bs, strB p.2 = bs := ⟨_, rfl⟩
      rw [hbs] at hsz q1
      have HG := Lib.hid (show R.cap - (T : Int) - (bs.size : Int) = R.cap - (AM.sum List.length (R.L.take (i + 1)) : Nat) by rw [hs, hsz]; omega)
      have HW := Lib.hid (show wrap64 (R.cap - (AM.sum List.length (R.L.take (i + 1)) : Nat)) = R.cap - (AM.sum List.length (R.L.take (i + 1)) : Nat) from IntWalk.wrap64_in _ (by have := HS.out; omega))
      have HLT := Lib.hid hlt
      clear hi hp hs hs2 hT hsz hbs
      go_wp2_with fail
      go_round
      case rel => exact ⟨i + 1, HLT.out, by rw [HG.out, HW.out], by go_num⟩
      case measure => have := HLT.out; simp [intOf]; omega
    · obtain rfl : i = R.L.length := by omega
      obtain ⟨y1, y2⟩ := dec_ler hlt
      clear hi hlt
      rw [List.take_length]
      go_wp2_with fail
      go_ret
      exact ⟨rfl, rfl⟩
set_option maxRecDepth 100000 in
theorem new_ref (w : World) (cap : Int) (h0 : 0 ≤ cap) (h1 : cap ≤ 1048576) :
    Calls Tryz.prog 10 #[.int .i64 cap] w fun e w' => ∃ r, e = .returned (.tuple #[.pointer (some ⟨r, 0, none⟩), .int .i64 0]) ∧ w.heap.size ≤ r ∧ IsRef w' r ⟨cap, [], [], false, 0, 0, 0⟩ (.slice none 0 0) (.slice none 0 0) ∧ Kept (fun _ => False) w w' := by
  have z1 : decide (cap < 0) = false := decide_eq_false (by omega)
  have z2 : decide (1048576 < cap) = false := decide_eq_false (by omega)
  have HN := Lib.hid (show IsRef (w.alloc (.cells (refC ⟨cap, [], [], false, 0, 0, 0⟩ (.slice none 0 0) (.slice none 0 0)).toArray 103)) w.heap.size ⟨cap, [], [], false, 0, 0, 0⟩ (.slice none 0 0) (.slice none 0 0) from ⟨Blk.new _ _ _, Row.nil _ _ _, Row.nil _ _ _⟩)
  clear h0 h1
  go_enter Tryz.func10, Tryz.ntmps10
  go_wp2_with fail
  refine bodyPost_ret (v := .tuple #[.pointer (some ⟨w.heap.size, 0, none⟩), .int .i64 0]) (by simp [results, Tryz.results10, go_sem]) rfl ⟨w.heap.size, rfl, Nat.le_refl _, HN.out, (Kept.refl _ _).alloc _⟩
def RefM.sync (R : RefM) : Int × RefM := if R.down = true then (61, R) else (0, { R.tick with loose := [] })
set_option maxRecDepth 100000 in
theorem sync_ref (h : IsRef w r R x y) (hR : R.Ok) (hs : R.sinks = false) {e0 : Int} (he : R.sync = (e0, R')) :
    Calls Tryz.prog 61 #[.pointer (some ⟨r, 0, none⟩)] w fun e w' => e = .returned (.int .i64 e0) ∧ RefTo w r x y R' w' := by
  have c3 := h.blk.cell (i := 3) rfl
  unfold RefM.sync at he
  cases hd : R.down with
  | true =>
    rw [if_pos hd] at he
    rw [hd] at c3
    cases he
    have HT := Lib.hid (RefTo.self h)
    clear h hR hs hd
    go_enter Tryz.func61, Tryz.ntmps61
    go_wp2_with fail
    go_ret
    exact ⟨rfl, HT.out⟩
  | false =>
    rw [if_neg (by rw [hd]; simp)] at he
    rw [hd] at c3
    cases he
    have HF := fails_ref h hR.fail0
    rw [hs] at HF
    have HF := Lib.hid HF
    have HE := Lib.hid (fun w1 (g1 : IsRef w1 r R.tick x y) (g2 : Kept (· = r) w w1) => (show w1.frozen? ⟨r, 2, none⟩ = false ∧ (w1.cell? ⟨r, 2, none⟩).isSome ∧ RefTo w r x y { R.tick with loose := [] } (w1.setCell ⟨r, 2, none⟩ (.slice none 0 0)) from by
      have hk := kept_cell w1 r 2 (.slice none 0 0)
      have hb := g1.blk.set 2 (.slice none 0 0)
      exact ⟨g1.blk.free 2, by rw [g1.blk.cell (i := 2) rfl]; rfl, x, .slice none 0 0, ⟨hb, g1.files.kept hk (fun k q => g1.ne.1 k q), Row.nil _ _ _⟩, g2.then_ hk (fun _ _ q => q), fun _ => Or.inl, fun k q => by simp [Value.ownBlock] at q⟩))
    clear h hR hs hd
    go_enter Tryz.func61, Tryz.ntmps61
    go_wp2_with (go_at_call 44; refine HF.out.mono ?_; rintro e w1 ⟨rfl, g1, g2⟩; have z2 := g1.blk.free 2; have d2 := g1.blk.cell (i := 2) rfl; have H1 := Lib.hid (HE.out w1 g1 g2).2.2; clear g1 g2)
    go_ret
    exact ⟨rfl, H1.out⟩
end
end Go.Proofs.YtlgeijbgkipliaaGreatDoor
