/- Plain: the timers of the law TimersOnce. -/
import Derived.Test.YtahiimcdmojngaaTim4
namespace Go.Proofs.Ytahiimcdmojngaa
open Go.RowKit

def KeysIn (N : Nat) (T : Tim) : Prop := ∀ q ∈ T, ∃ j : Nat, j < N ∧ q.1 = ((j : Int), 0)
def Pre1 (N i : Nat) (T : Tim) : Prop := KeysIn N T ∧ T.length ≤ i
def Pre2 (N i : Nat) (s : Nat → Int) (T : Tim) : Prop := KeysIn N T ∧ T.length ≤ N + i ∧ ∀ j : Nat, j < i → PM.get T ((j : Int), 0) = some (s j)
/-- All that goes off behind p is there. -/
def Tab (N : Nat) (s : Nat → Int) (p : Int) (T : Tim) : Prop := KeysIn N T ∧ T.length ≤ 100 ∧ ∀ j : Nat, j < N → PM.get T ((j : Int), 0) = if s j ≤ p then none else some (s j)
section
variable {N i : Nat} {s : Nat → Int} {T : Tim} {p now : Int} {ks : List (Int × Int)}
theorem KeysIn.set (h : KeysIn N T) (hi : i < N) (v : Int) : KeysIn N (PM.set T ((i : Int), 0) v) := by
  intro q hq
  unfold PM.set at hq
  rcases List.mem_cons.1 hq with rfl | hq
  · exact ⟨i, hi, rfl⟩
  · exact h q (PM.mem_del.1 hq).1
theorem PM.length_set_le {α : Type} (T : List ((Int × Int) × α)) (k : Int × Int) (v : α) : (PM.set T k v).length ≤ T.length + 1 := by
  unfold PM.set PM.del
  have := List.length_filter_le (fun p : (Int × Int) × α => !decide (p.1 = k)) T
  simp only [List.length_cons]
  omega
theorem Pre1.set (h : Pre1 N i T) (hi : i < N) (v : Int) : Pre1 N (i + 1) (PM.set T ((i : Int), 0) v) := by
  have := PM.length_set_le T ((i : Int), 0) v
  exact ⟨h.1.set hi v, by have := h.2; omega⟩
theorem Pre1.done (h : Pre1 N N T) : Pre2 N 0 s T := ⟨h.1, by have := h.2; omega, fun j hj => by omega⟩
theorem Pre2.set (h : Pre2 N i s T) (hi : i < N) : Pre2 N (i + 1) s (PM.set T ((i : Int), 0) (s i)) := by
  have := PM.length_set_le T ((i : Int), 0) (s i)
  refine ⟨h.1.set hi _, by have := h.2.1; omega, fun j hj => ?_⟩
  by_cases e : j = i
  · subst e; exact PM.get_set_same _ _ _
  · rw [PM.get_set_other _ _ (by intro q; simp only [Prod.mk.injEq] at q; omega)]
    exact h.2.2 j (by omega)
theorem Pre2.done (h : Pre2 N N s T) (hN : N ≤ 50) (hs : ∀ j, j < N → 0 ≤ s j) : Tab N s (-1) T :=
  ⟨h.1, by have := h.2.1; omega, fun j hj => by rw [h.2.2 j hj, if_neg (by have := hs j hj; omega)]⟩
theorem get_restOf (hnd : PM.Nd T) (now : Int) (k : Int × Int) : PM.get (restOf T now) k = (PM.get T k).filter (fun v => decide (now < v)) := by
  have hnd' : PM.Nd (restOf T now) := hnd.filter _
  apply Option.ext
  intro v
  rw [PM.get_some hnd', Option.mem_def.symm, Option.mem_def]
  unfold restOf
  rw [List.mem_filter, Option.filter_eq_some_iff, PM.get_some hnd]
theorem Tab.rest (h : Tab N s p T) (hnd : PM.Nd T) (hp : p ≤ now) : Tab N s now (restOf T now) := by
  refine ⟨fun q hq => h.1 q (List.mem_filter.1 hq).1, Nat.le_trans (List.length_filter_le _ _) h.2.1, fun j hj => ?_⟩
  rw [get_restOf hnd, h.2.2 j hj]
  by_cases h1 : s j ≤ p
  · rw [if_pos h1, if_pos (by omega)]; rfl
  · rw [if_neg h1]
    by_cases h2 : s j ≤ now
    · rw [if_pos h2]; simp [Option.filter, h2]
    · rw [if_neg h2]; simp [Option.filter]; omega
theorem Tab.mem (h : Tab N s p T) (hnd : PM.Nd T) (hd : DueIs T now ks) {x : Int × Int} (hx : x ∈ ks) : ∃ n : Nat, n < N ∧ x = ((n : Int), 0) ∧ p < s n ∧ s n ≤ now := by
  rw [hd.1.mem_iff, List.mem_map] at hx
  obtain ⟨q, hq, rfl⟩ := hx
  obtain ⟨hq, hle⟩ := List.mem_filter.1 hq
  obtain ⟨n, hn, e⟩ := h.1 q hq
  have hg := (PM.get_some hnd).2 (show (q.1, q.2) ∈ T from hq)
  rw [e, h.2.2 n hn] at hg
  by_cases h1 : s n ≤ p
  · rw [if_pos h1] at hg; cases hg
  · rw [if_neg h1] at hg
    have : s n = q.2 := Option.some.inj hg
    exact ⟨n, hn, e, by omega, by rw [this]; simpa using hle⟩
theorem Tab.told (h : Tab N s p T) (hnd : PM.Nd T) (hd : DueIs T now ks) {n : Nat} (hn : n < N) (h1 : p < s n) (h2 : s n ≤ now) : ((n : Int), 0) ∈ ks := by
  rw [hd.1.mem_iff, List.mem_map]
  have hg := h.2.2 n hn
  rw [if_neg (by omega), PM.get_some hnd] at hg
  exact ⟨_, List.mem_filter.2 ⟨hg, by simpa using h2⟩, rfl⟩
theorem DueIs.nodup (hd : DueIs T now ks) : ks.Nodup := hd.2.imp (fun {a b} q e => by subst e; exact kless_irrefl T _ q)

/-- Who has been told: up to p, and the first j of the keys. -/
def toldL (N : Nat) (s : Nat → Int) (p : Int) (ks : List (Int × Int)) (j : Nat) : List Value := (List.range N).map fun n => .bool (decide (s n ≤ p) || decide (((n : Int), (0 : Int)) ∈ ks.take j))
theorem toldL_len (N : Nat) (s : Nat → Int) (p : Int) (ks : List (Int × Int)) (j : Nat) : (toldL N s p ks j).length = N := by simp [toldL]
theorem toldL_get (N : Nat) (s : Nat → Int) (p : Int) (ks : List (Int × Int)) (j : Nat) {n : Nat} (hn : n < N) : (toldL N s p ks j)[n]? = some (.bool (decide (s n ≤ p) || decide (((n : Int), (0 : Int)) ∈ ks.take j))) := by
  simp [toldL, hn]
theorem toldL_start (hs : ∀ j, j < N → 0 ≤ s j) : toldL N s (-1) [] 0 = List.replicate N (.bool false) := by
  apply List.ext_getElem?
  intro n
  by_cases hn : n < N
  · rw [toldL_get _ _ _ _ _ hn]
    have := hs n hn
    have h1 : ¬ s n ≤ -1 := by omega
    simp [hn, h1]
  · rw [List.getElem?_eq_none (by rw [toldL_len]; omega), List.getElem?_eq_none (by simp; omega)]
theorem toldL_zero (ks : List (Int × Int)) : toldL N s p ks 0 = toldL N s p [] 0 := by simp [toldL]
theorem toldL_fresh (hks : ks.Nodup) {n j : Nat} (hj : ks[j]? = some ((n : Int), 0)) (h1 : p < s n) : (decide (s n ≤ p) || decide (((n : Int), (0 : Int)) ∈ ks.take j)) = false := by
  have h2 : ((n : Int), (0 : Int)) ∉ ks.take j := by
    intro hm
    obtain ⟨i, hi⟩ := List.mem_iff_getElem?.1 hm
    have hij : i < j := by
      have := (List.getElem?_eq_some_iff.1 hi).1
      rw [List.length_take] at this
      omega
    rw [List.getElem?_take_of_lt hij] at hi
    obtain ⟨l1, e1⟩ := List.getElem?_eq_some_iff.1 hi
    obtain ⟨l2, e2⟩ := List.getElem?_eq_some_iff.1 hj
    exact List.pairwise_iff_getElem.1 hks i j l1 l2 hij (e1.trans e2.symm)
  have h3 : ¬ s n ≤ p := by omega
  simp [h2, h3]
theorem toldL_set {n j : Nat} (hj : ks[j]? = some ((n : Int), 0)) : (toldL N s p ks j).set n (.bool true) = toldL N s p ks (j + 1) := by
  apply List.ext_getElem?
  intro m
  rw [List.getElem?_set]
  by_cases hm : m < N
  · rw [toldL_get _ _ _ _ _ hm, toldL_get _ _ _ _ _ hm, List.take_add_one, hj]
    by_cases e : n = m
    · subst e
      rw [if_pos rfl, if_pos (by rw [toldL_len]; exact hm)]
      simp
    · rw [if_neg e]
      have : ((m : Int), (0 : Int)) ≠ ((n : Int), 0) := by intro q; simp only [Prod.mk.injEq] at q; omega
      simp [this]
  · rw [List.getElem?_eq_none (by rw [toldL_len]; omega), List.getElem?_eq_none (by rw [toldL_len]; omega)]
    by_cases e : n = m
    · rw [if_pos e, if_neg (by rw [toldL_len]; omega)]
    · rw [if_neg e]
theorem toldL_end (h : Tab N s p T) (hnd : PM.Nd T) (hd : DueIs T now ks) (hp : p ≤ now) {j : Nat} (hj : ks.length ≤ j) : toldL N s p ks j = toldL N s now [] 0 := by
  unfold toldL
  apply List.map_congr_left
  intro n hn
  rw [List.mem_range] at hn
  rw [List.take_of_length_le hj]
  congr 1
  simp only [List.take_nil, List.not_mem_nil, decide_false, Bool.or_false]
  rw [Bool.eq_iff_iff]
  simp only [Bool.or_eq_true, decide_eq_true_eq]
  constructor
  · rintro (q | q)
    · omega
    · obtain ⟨m, _, e, _, h2⟩ := h.mem hnd hd q
      simp only [Prod.mk.injEq, Int.natCast_inj, and_true] at e
      subst e
      exact h2
  · intro q
    by_cases h1 : s n ≤ p
    · exact Or.inl h1
    · exact Or.inr (h.told hnd hd hn (by omega) q)
end
end Go.Proofs.Ytahiimcdmojngaa
