/- Timers: the order in which they are told; what the sort leaves in memory. -/
import Derived.Test.YtahiimcdmojngaaTim2
namespace Go.Proofs.Ytahiimcdmojngaa
open Go.RowKit Go.Sort Go.Shelf

/-- x is told ahead of y. -/
def kless (T : Tim) (x y : Int × Int) : Prop :=
  (PM.get T x).getD 0 < (PM.get T y).getD 0 ∨ ((PM.get T x).getD 0 = (PM.get T y).getD 0 ∧ (x.1 < y.1 ∨ (x.1 = y.1 ∧ x.2 < y.2)))
/-- These keys are told by Due. -/
def DueIs (T : Tim) (now : Int) (ks : List (Int × Int)) : Prop := ks.Perm ((T.filter fun p => decide (p.2 ≤ now)).map (·.1)) ∧ ks.Pairwise (kless T)
def restOf (T : Tim) (now : Int) : Tim := T.filter fun p => decide (now < p.2)

theorem kless_iff (T : Tim) (x y : Key) : ltOf (kcf T) x y = true ↔ kless T x.1 y.1 := by
  unfold ltOf kcf kless or3 Lib.compareInt
  generalize (PM.get T x.1).getD 0 = a
  generalize (PM.get T y.1).getD 0 = b
  generalize x.1.1 = c
  generalize y.1.1 = d
  generalize x.1.2 = e
  generalize y.1.2 = f
  rw [decide_eq_true_eq]
  repeat' split
  all_goals (first | omega | (simp_all; omega))
theorem kless_irrefl (T : Tim) (x : Int × Int) : ¬ kless T x x := by unfold kless; omega
theorem kless_asymm (T : Tim) {x y : Int × Int} (h : kless T x y) : ¬ kless T y x := by unfold kless at *; omega
theorem kless_trans (T : Tim) {x y z : Int × Int} (h : kless T x y) (k : kless T y z) : kless T x z := by unfold kless at *; omega
theorem kless_total (T : Tim) {x y : Int × Int} (h : ¬ kless T x y) : kless T y x ∨ x = y := by
  by_cases e : x.1 = y.1 ∧ x.2 = y.2
  · exact Or.inr (Prod.ext e.1 e.2)
  · left
    unfold kless at *
    generalize (PM.get T x).getD 0 = a at *
    generalize (PM.get T y).getD 0 = b at *
    omega
theorem ltOf_false (T : Tim) (x y : Key) : ltOf (kcf T) x y = false ↔ ¬ kless T x.1 y.1 := by
  rw [← kless_iff]; simp
theorem kcf_swo (T : Tim) : SWO (ltOf (kcf T)) where
  irrefl x := by rw [ltOf_false]; exact kless_irrefl T _
  trans x y z h1 h2 := by rw [kless_iff] at *; exact kless_trans T h1 h2
  ntrans x y z h1 h2 := by
    rw [ltOf_false] at *
    intro h
    rcases kless_total T h1 with q | q
    · exact h2 (by
        rcases kless_total T h2 with r | r
        · exact absurd (kless_trans T (kless_trans T h r) q) (kless_irrefl T _)
        · rw [← r] at h; exact absurd h h1)
    · rw [q] at h; exact h2 h
theorem kcf_total (T : Tim) (x y : Key) (h1 : ltOf (kcf T) x y = false) (h2 : ltOf (kcf T) y x = false) : x = y := by
  rw [ltOf_false] at h1 h2
  rcases kless_total T h1 with q | q
  · exact absurd q h2
  · exact Subtype.ext q
/-- Two lists that are ordered alike, and have the same members, are one. -/
theorem kless_unique (T : Tim) : ∀ {l m : List (Int × Int)}, l.Perm m → l.Pairwise (kless T) → m.Pairwise (kless T) → l = m
  | [], m, h, _, _ => by rw [List.nil_perm.1 h]
  | a :: l, [], h, _, _ => by simp at h
  | a :: l, b :: m, h, h1, h2 => by
    obtain ⟨a1, a2⟩ := List.pairwise_cons.1 h1
    obtain ⟨b1, b2⟩ := List.pairwise_cons.1 h2
    have e : a = b := by
      rcases List.mem_cons.1 (h.mem_iff.1 (List.mem_cons_self)) with e | e
      · exact e
      · rcases List.mem_cons.1 (h.mem_iff.2 (List.mem_cons_self (a := b))) with q | q
        · exact q.symm
        · exact absurd (b1 a e) (kless_asymm T (a1 b q))
    subst e
    rw [kless_unique T (List.perm_cons a |>.1 h) a2 b2]
theorem DueIs.unique {T : Tim} {now : Int} {l m : List (Int × Int)} (h : DueIs T now l) (k : DueIs T now m) : l = m := kless_unique T (h.1.trans k.1.symm) h.2 k.2

def kcells (l : List (Int × Int)) : List Value := l.flatMap fun p => [.int .i64 p.1, .int .i64 p.2]
theorem kcells_len (l : List (Int × Int)) : (kcells l).length = l.length * 2 := by
  induction l with
  | nil => rfl
  | cons a r ih => simp only [kcells, List.flatMap_cons, List.length_append, List.length_cons, List.length_nil] at *; omega
theorem kcells_append (l m : List (Int × Int)) : kcells (l ++ m) = kcells l ++ kcells m := by simp [kcells]
theorem kcells_get (l : List (Int × Int)) (i : Nat) (p : Int × Int) (h : l[i]? = some p) : (kcells l)[i * 2]? = some (.int .i64 p.1) ∧ (kcells l)[i * 2 + 1]? = some (.int .i64 p.2) := by
  induction l generalizing i with
  | nil => simp at h
  | cons a r ih =>
    have e : kcells (a :: r) = [.int .i64 a.1, .int .i64 a.2] ++ kcells r := by simp [kcells]
    rw [e]
    cases i with
    | zero => simp at h; subst h; simp
    | succ i =>
      have := ih i (by simpa using h)
      rw [List.getElem?_append_right (by simp; omega), List.getElem?_append_right (by simp; omega)]
      rw [show (i + 1) * 2 - [Value.int .i64 a.1, Value.int .i64 a.2].length = i * 2 by simp; omega, show (i + 1) * 2 + 1 - [Value.int .i64 a.1, Value.int .i64 a.2].length = i * 2 + 1 by simp; omega]
      exact this
def kvals (l : List Key) : List (Int × Int) := l.map (·.1)
theorem flat_eq (l : List Key) : (flatK kcell 2 l.toArray).toList = kcells (kvals l) := by
  apply List.ext_getElem?
  intro i
  have hl : (flatK kcell 2 l.toArray).toList.length = l.length * 2 := by simp
  have hl2 : (kcells (kvals l)).length = l.length * 2 := by rw [kcells_len]; simp [kvals]
  by_cases hi : i < l.length * 2
  · have hq : i / 2 < l.length := by omega
    obtain ⟨p, hp⟩ : ∃ p, l[i / 2]? = some p := ⟨l[i / 2], List.getElem?_eq_getElem hq⟩
    have hp2 : l.toArray[i / 2]! = p := by
      rw [getElem!_pos _ _ (by simpa using hq)]
      simp [List.getElem?_eq_getElem hq] at hp
      simpa using hp
    have hv : (kvals l)[i / 2]? = some p.1 := by simp [kvals, hp]
    obtain ⟨g0, g1⟩ := kcells_get (kvals l) (i / 2) p.1 hv
    have hf := get_flatK kcell 2 l.toArray i (by simpa using hi)
    have hf2 : (flatK kcell 2 l.toArray).toList[i]? = some (kcell p)[i % 2]! := by
      rw [← hp2, ← hf]
      rw [getElem!_pos _ _ (by simpa using hi)]
      simp [List.getElem?_eq_getElem, hi]
    rw [hf2]
    rcases Nat.mod_two_eq_zero_or_one i with h | h
    · rw [h, show i = i / 2 * 2 by omega, g0]; simp [kcell]
    · rw [h, show i = i / 2 * 2 + 1 by omega, g1]; simp [kcell]
  · rw [List.getElem?_eq_none (by omega), List.getElem?_eq_none (by omega)]

section
variable {w : World} {g n cap : Nat}
theorem kept_sort (w : World) (blk m : Nat) (dk : Array Key) (os : Array Obj) : Kept (· = blk) w (sortWorldK kcell 2 w blk 0 m dk os) := by
  have hsz : (putRowK kcell 2 (Sort.ahead w m) blk 0 dk).heap.size = w.heap.size := by
    rw [size_putRowK]; rfl
  refine ⟨rfl, rfl, rfl, ?_, fun k hk hn => ?_⟩
  · unfold sortWorldK; rw [size_grow, hsz]; omega
  · unfold sortWorldK
    rw [heap_grow_old _ _ (by rw [hsz]; exact hk)]
    show ((Sort.ahead w m).heap.modify blk _)[k]? = _
    rw [Array.getElem?_modify, if_neg (fun e => hn e.symm)]
    rfl
theorem putCells_row (xs ys rest : List Value) (h : xs.length = ys.length) : putCells id 0 ys.toArray (xs ++ rest).toArray = (ys ++ rest).toArray := by
  apply Array.ext'
  apply List.ext_getElem?
  intro i
  unfold putCells
  simp only [Array.toList_mapIdx, List.getElem?_mapIdx]
  by_cases hi : i < ys.length
  · rw [List.getElem?_append_left (by omega)]
    simp only [List.getElem?_append_left (show i < ys.length from hi)]
    have : i < xs.length := by omega
    simp [List.getElem?_eq_getElem, hi, this]
  · rw [List.getElem?_append_right (by omega)]
    simp only [List.getElem?_append_right (show ys.length ≤ i by omega)]
    rw [h]
    cases hr : rest[i - ys.length]? with
    | none => simp [hr]
    | some v => simp [hr, hi]
theorem blk_sort {c : List Value} {rest : List Value} (h : Blk w g (c ++ rest) 85) (m : Nat) (l : List Key) (os : Array Obj) (hl : c.length = l.length * 2) : Blk (sortWorldK kcell 2 w g 0 m l.toArray os) g (kcells (kvals l) ++ rest) 85 := by
  have hlt := h.lt
  have hsz : (putRowK kcell 2 (Sort.ahead w m) g 0 l.toArray).heap.size = w.heap.size := by
    rw [size_putRowK]; rfl
  unfold Blk at *
  unfold sortWorldK
  rw [heap_grow_old _ _ (by rw [hsz]; exact hlt)]
  show ((Sort.ahead w m).heap.modify g (onCells (putCells id 0 (flatK kcell 2 l.toArray))))[g]? = _
  rw [Array.getElem?_modify, if_pos rfl]
  show Option.map _ w.heap[g]? = _
  rw [h]
  have e := putCells_row c (kcells (kvals l)) rest (by rw [hl, kcells_len]; simp [kvals])
  have e2 : (kcells (kvals l)).toArray = flatK kcell 2 l.toArray := by rw [← flat_eq]
  rw [e2] at e
  simp [onCells, e]
theorem holds_row {l : List Key} {rest : List Value} (h : Blk w g (kcells (kvals l) ++ rest) 85) : HoldsK kcell 2 w g 0 l.toArray := by
  intro j hj
  have hj' : j < l.length * 2 := by simpa using hj
  refine ⟨?_, h.free _⟩
  have hlen : (kcells (kvals l)).length = l.length * 2 := by rw [kcells_len]; simp [kvals]
  rw [Nat.zero_add]
  refine h.cell ?_
  rw [List.getElem?_append_left (by omega), ← flat_eq]
  have e : (flatK kcell 2 l.toArray)[j]! = (flatK kcell 2 l.toArray)[j] := getElem!_pos (flatK kcell 2 l.toArray) j hj
  rw [e]
  simp [List.getElem?_eq_getElem, hj']
end
end Go.Proofs.Ytahiimcdmojngaa
