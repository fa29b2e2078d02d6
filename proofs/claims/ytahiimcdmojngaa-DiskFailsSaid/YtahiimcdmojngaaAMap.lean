/- Plain: tables by whole numbers, as lists that rise by their keys. No program. -/
import Derived.Lib.Hide
namespace Go.Proofs.Ytahiimcdmojngaa
namespace AM
variable {α β : Type}

def ins (k : Int) (v : α) : List (Int × α) → List (Int × α)
  | [] => [(k, v)]
  | y :: r => if k < y.1 then (k, v) :: y :: r else y :: ins k v r
def del (m : List (Int × α)) (k : Int) : List (Int × α) := m.filter fun p => !decide (p.1 = k)
def set (m : List (Int × α)) (k : Int) (v : α) : List (Int × α) := ins k v (del m k)
def get (m : List (Int × α)) (k : Int) : Option α := (m.find? fun p => decide (p.1 = k)).map (·.2)
def Rise (m : List (Int × α)) : Prop := m.Pairwise fun p q => p.1 < q.1
def sum (f : α → Nat) (m : List (Int × α)) : Nat := (m.map fun p => f p.2).sum
/-- Each value made another. -/
def vmap (f : α → β) (m : List (Int × α)) : List (Int × β) := m.map fun p => (p.1, f p.2)

theorem mem_ins {k : Int} {v : α} {m : List (Int × α)} {p : Int × α} : p ∈ ins k v m ↔ p = (k, v) ∨ p ∈ m := by
  induction m with
  | nil => simp [ins]
  | cons y r ih => unfold ins; split <;> simp [ih]; constructor <;> (rintro (h | h | h) <;> simp [h])
theorem mem_del {k : Int} {m : List (Int × α)} {p : Int × α} : p ∈ del m k ↔ p ∈ m ∧ p.1 ≠ k := by simp [del]
theorem mem_set {k : Int} {v : α} {m : List (Int × α)} {p : Int × α} : p ∈ set m k v ↔ p = (k, v) ∨ (p ∈ m ∧ p.1 ≠ k) := by rw [set, mem_ins, mem_del]

theorem rise_ins {k : Int} {v : α} {m : List (Int × α)} (h : Rise m) (hk : ∀ p ∈ m, p.1 ≠ k) : Rise (ins k v m) := by
  induction m with
  | nil => simp [ins, Rise]
  | cons y r ih =>
    obtain ⟨h1, h2⟩ := List.pairwise_cons.1 h
    unfold ins
    split
    · rename_i hlt
      refine List.pairwise_cons.2 ⟨fun p hp => ?_, h⟩
      rcases List.mem_cons.1 hp with rfl | hp
      · exact hlt
      · have := h1 p hp; show k < p.1; omega
    · rename_i hge
      have hy := hk y (by simp)
      refine List.pairwise_cons.2 ⟨fun p hp => ?_, ih h2 (fun p hp => hk p (by simp [hp]))⟩
      rcases mem_ins.1 hp with rfl | hp
      · show y.1 < k; omega
      · exact h1 p hp
theorem rise_del {m : List (Int × α)} (h : Rise m) (k : Int) : Rise (del m k) := h.filter _
theorem rise_set {m : List (Int × α)} (h : Rise m) (k : Int) (v : α) : Rise (set m k v) := rise_ins (rise_del h k) (fun _ hp => (mem_del.1 hp).2)
theorem rise_nil : Rise ([] : List (Int × α)) := List.Pairwise.nil

theorem get_some {m : List (Int × α)} (h : Rise m) {k : Int} {v : α} : get m k = some v ↔ (k, v) ∈ m := by
  induction m with
  | nil => simp [get]
  | cons y r ih =>
    obtain ⟨h1, h2⟩ := List.pairwise_cons.1 h
    by_cases e : y.1 = k
    · have hx : get (y :: r) k = some y.2 := by simp [get, List.find?_cons, e]
      rw [hx]
      constructor
      · intro hv
        have : y.2 = v := Option.some.inj hv
        subst e; subst this; simp
      · intro hm
        rcases List.mem_cons.1 hm with rfl | hm
        · rfl
        · have := h1 _ hm; simp only at this; omega
    · have hx : get (y :: r) k = get r k := by simp [get, List.find?_cons, e]
      rw [hx, ih h2]
      constructor
      · intro hm; simp [hm]
      · intro hm
        rcases List.mem_cons.1 hm with rfl | hm
        · simp at e
        · exact hm
theorem get_none {m : List (Int × α)} {k : Int} : get m k = none ↔ ∀ p ∈ m, p.1 ≠ k := by
  unfold get
  rw [Option.map_eq_none_iff, List.find?_eq_none]
  simp
theorem get_set_same {m : List (Int × α)} (h : Rise m) (k : Int) (v : α) : get (set m k v) k = some v := by rw [get_some (rise_set h k v), mem_set]; simp
theorem get_set_other {m : List (Int × α)} (h : Rise m) {k k' : Int} (v : α) (hk : k' ≠ k) : get (set m k v) k' = get m k' := by
  cases hg : get m k' with
  | some x =>
    rw [get_some (rise_set h k v), mem_set]
    exact Or.inr ⟨(get_some h).1 hg, hk⟩
  | none =>
    rw [get_none] at hg ⊢
    intro p hp
    rcases mem_set.1 hp with rfl | ⟨hp, _⟩
    · exact fun e => hk e.symm
    · exact hg p hp
theorem get_del_same {m : List (Int × α)} (k : Int) : get (del m k) k = none := by rw [get_none]; intro p hp; exact (mem_del.1 hp).2
theorem get_del_other {m : List (Int × α)} (h : Rise m) {k k' : Int} (hk : k' ≠ k) : get (del m k) k' = get m k' := by
  cases hg : get m k' with
  | some x => rw [get_some (rise_del h k), mem_del]; exact ⟨(get_some h).1 hg, hk⟩
  | none => rw [get_none] at hg ⊢; intro p hp; exact hg p (mem_del.1 hp).1
theorem ext {m m' : List (Int × α)} (h : Rise m) (h' : Rise m') (hg : ∀ k, get m k = get m' k) : m = m' := by
  have hm : ∀ p, p ∈ m ↔ p ∈ m' := by
    rintro ⟨k, v⟩
    rw [← get_some h, ← get_some h', hg]
  clear hg
  induction m generalizing m' with
  | nil =>
    cases m' with
    | nil => rfl
    | cons y r => have := (hm y).2 (by simp); simp at this
  | cons x r ih =>
    cases m' with
    | nil => have := (hm x).1 (by simp); simp at this
    | cons y r' =>
      obtain ⟨a1, a2⟩ := List.pairwise_cons.1 h
      obtain ⟨b1, b2⟩ := List.pairwise_cons.1 h'
      have e : x = y := by
        have hx := (hm x).1 (by simp)
        have hy := (hm y).2 (by simp)
        rcases List.mem_cons.1 hx with hx | hx
        · exact hx
        · rcases List.mem_cons.1 hy with hy | hy
          · exact hy.symm
          · have q1 := b1 x hx; have q2 := a1 y hy; omega
      subst e
      congr 1
      refine ih a2 b2 (fun p => ?_)
      have := hm p
      simp only [List.mem_cons] at this
      constructor
      · intro hp
        rcases this.1 (Or.inr hp) with rfl | hq
        · have := a1 _ hp; omega
        · exact hq
      · intro hp
        rcases this.2 (Or.inr hp) with rfl | hq
        · have := b1 _ hp; omega
        · exact hq

theorem ins_perm (k : Int) (v : α) (m : List (Int × α)) : (ins k v m).Perm ((k, v) :: m) := by
  induction m with
  | nil => exact List.Perm.refl _
  | cons y r ih =>
    unfold ins
    split
    · exact List.Perm.refl _
    · exact (List.Perm.cons y ih).trans (List.Perm.swap _ _ _)
theorem sum_perm (f : α → Nat) {m m' : List (Int × α)} (h : m.Perm m') : sum f m = sum f m' := (h.map _).sum_nat
theorem sum_cons (f : α → Nat) (p : Int × α) (m : List (Int × α)) : sum f (p :: m) = f p.2 + sum f m := by simp [sum]
theorem sum_set (f : α → Nat) (m : List (Int × α)) (k : Int) (v : α) : sum f (set m k v) = f v + sum f (del m k) := by rw [set, sum_perm f (ins_perm k v _), sum_cons]
theorem del_none {m : List (Int × α)} {k : Int} (h : get m k = none) : del m k = m := by
  rw [get_none] at h
  unfold del
  rw [List.filter_eq_self]
  intro p hp
  simpa using h p hp
theorem sum_del (f : α → Nat) {m : List (Int × α)} (h : Rise m) {k : Int} {v : α} (hg : get m k = some v) : sum f m = f v + sum f (del m k) := by
  have e : m = set (del m k) k v := by
    refine ext h (rise_set (rise_del h k) k v) (fun k' => ?_)
    by_cases hk : k' = k
    · subst hk; rw [hg, get_set_same (rise_del h k')]
    · rw [get_set_other (rise_del h k) v hk, get_del_other h hk]
  have e2 : del (del m k) k = del m k := del_none (get_del_same k)
  calc sum f m = sum f (set (del m k) k v) := by rw [← e]
    _ = f v + sum f (del m k) := by rw [sum_set, e2]

theorem length_set (m : List (Int × α)) (k : Int) (v : α) : (set m k v).length = (del m k).length + 1 := by rw [set, (ins_perm k v _).length_eq]; rfl

theorem vmap_ins (f : α → β) (k : Int) (v : α) (m : List (Int × α)) : vmap f (ins k v m) = ins k (f v) (vmap f m) := by
  induction m with
  | nil => rfl
  | cons y r ih =>
    unfold ins
    simp only [vmap, List.map_cons] at *
    split
    · rfl
    · simp only [List.map_cons, ih]
theorem vmap_del (f : α → β) (m : List (Int × α)) (k : Int) : vmap f (del m k) = del (vmap f m) k := by
  unfold vmap del
  rw [List.filter_map]
  rfl
theorem vmap_set (f : α → β) (m : List (Int × α)) (k : Int) (v : α) : vmap f (set m k v) = set (vmap f m) k (f v) := by rw [set, vmap_ins, vmap_del]; rfl
theorem get_vmap (f : α → β) (m : List (Int × α)) (k : Int) : get (vmap f m) k = (get m k).map f := by
  induction m with
  | nil => rfl
  | cons y r ih =>
    by_cases e : y.1 = k
    · simp [get, vmap, List.find?_cons, e]
    · have h1 : get (y :: r) k = get r k := by simp [get, List.find?_cons, e]
      have h2 : get (vmap f (y :: r)) k = get (vmap f r) k := by simp [get, vmap, List.find?_cons, e]
      rw [h1, h2, ih]
theorem rise_vmap {m : List (Int × α)} (h : Rise m) (f : α → β) : Rise (vmap f m) := by
  unfold Rise vmap
  rw [List.pairwise_map]
  exact h
theorem set_set {m : List (Int × α)} (h : Rise m) (k : Int) (v v' : α) : set (set m k v) k v' = set m k v' := by
  refine ext (rise_set (rise_set h k v) k v') (rise_set h k v') (fun k' => ?_)
  by_cases hk : k' = k
  · subst hk; rw [get_set_same (rise_set h k' v), get_set_same h]
  · rw [get_set_other (rise_set h k v) v' hk, get_set_other h v hk, get_set_other h v' hk]
end AM
end Go.Proofs.Ytahiimcdmojngaa
