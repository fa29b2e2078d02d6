/- Plain: what Truncate and Delete make of a disk. No program. -/
import Derived.Test.YtahiimcdmojngaaDiskOwn
namespace Go.Proofs.Ytahiimcdmojngaa

/-- The loose pieces, when of a file's just so many bytes stay. -/
def DiskM.dropL (n : Int) : List (Int × Nat) → Nat → List (Int × Nat)
  | [], _ => []
  | p :: r, stay => if p.1 = n then (p.1, min p.2 stay) :: DiskM.dropL n r (stay - min p.2 stay) else p :: DiskM.dropL n r stay

theorem looseOf_cons (p : Int × Nat) (r : List (Int × Nat)) (n : Int) : DiskM.looseOf (p :: r) n = (if p.1 = n then p.2 else 0) + DiskM.looseOf r n := rfl
theorem dropL_append (n : Int) (l r : List (Int × Nat)) (stay : Nat) : DiskM.dropL n (l ++ r) stay = DiskM.dropL n l stay ++ DiskM.dropL n r (stay - DiskM.looseOf l n) := by
  induction l generalizing stay with
  | nil => simp [DiskM.dropL, DiskM.looseOf]
  | cons p l ih =>
    simp only [List.cons_append, DiskM.dropL, looseOf_cons]
    by_cases h : p.1 = n
    · simp only [h, if_true, ih, List.cons_append, List.cons.injEq, true_and]
      congr 2
      omega
    · simp only [h, if_false, ih, List.cons_append, List.cons.injEq, true_and]
      congr 2
      omega
theorem dropL_len (n : Int) (l : List (Int × Nat)) (stay : Nat) : (DiskM.dropL n l stay).length = l.length := by
  induction l generalizing stay with
  | nil => rfl
  | cons p l ih => unfold DiskM.dropL; split <;> simp [ih]
theorem dropL_keys (n : Int) (l : List (Int × Nat)) (stay : Nat) : (DiskM.dropL n l stay).map (·.1) = l.map (·.1) := by
  induction l generalizing stay with
  | nil => rfl
  | cons p l ih => unfold DiskM.dropL; split <;> simp [ih]
theorem looseOf_dropL (n : Int) (l : List (Int × Nat)) (stay : Nat) : DiskM.looseOf (DiskM.dropL n l stay) n = min (DiskM.looseOf l n) stay := by
  induction l generalizing stay with
  | nil => simp [DiskM.dropL, DiskM.looseOf]
  | cons p l ih =>
    unfold DiskM.dropL
    by_cases h : p.1 = n
    · simp only [h, if_true, looseOf_cons, ih]; omega
    · simp only [h, if_false, looseOf_cons, ih]; omega
theorem looseOf_dropL_other {n k : Int} (hk : k ≠ n) (l : List (Int × Nat)) (stay : Nat) : DiskM.looseOf (DiskM.dropL n l stay) k = DiskM.looseOf l k := by
  induction l generalizing stay with
  | nil => simp [DiskM.dropL]
  | cons p l ih =>
    unfold DiskM.dropL
    by_cases h : p.1 = n
    · simp only [h, if_true, looseOf_cons, ih]; rw [if_neg (fun e => hk e.symm), if_neg (fun e => hk e.symm)]
    · simp only [h, if_false, looseOf_cons, ih]
theorem dropL_mem {n : Int} {l : List (Int × Nat)} {stay : Nat} {p : Int × Nat} (h : p ∈ DiskM.dropL n l stay) : ∃ q ∈ l, q.1 = p.1 := by
  have : p.1 ∈ (DiskM.dropL n l stay).map (·.1) := List.mem_map_of_mem h
  rw [dropL_keys] at this
  obtain ⟨q, h1, h2⟩ := List.mem_map.1 this
  exact ⟨q, h1, h2⟩
/-- Behind i pieces. -/
def dropTo (n : Int) (l : List (Int × Nat)) (stay i : Nat) : List (Int × Nat) := DiskM.dropL n (l.take i) stay ++ l.drop i
theorem dropTo_zero (n : Int) (l : List (Int × Nat)) (stay : Nat) : dropTo n l stay 0 = l := by simp [dropTo, DiskM.dropL]
theorem dropTo_all (n : Int) (l : List (Int × Nat)) (stay i : Nat) (h : l.length ≤ i) : dropTo n l stay i = DiskM.dropL n l stay := by
  unfold dropTo; rw [List.take_of_length_le h, List.drop_of_length_le h, List.append_nil]
theorem dropTo_get (n : Int) (l : List (Int × Nat)) (stay i : Nat) (p : Int × Nat) (h : l[i]? = some p) : (dropTo n l stay i)[i]? = some p := by
  have hi := (List.getElem?_eq_some_iff.1 h).1
  unfold dropTo
  rw [List.getElem?_append_right (by rw [dropL_len, List.length_take]; omega), dropL_len, List.length_take, List.getElem?_drop]
  rw [show i + (i - min i l.length) = i by omega]
  exact h
theorem dropTo_succ_same (n : Int) (l : List (Int × Nat)) (stay i : Nat) (p : Int × Nat) (h : l[i]? = some p) (hp : p.1 = n) :
    dropTo n l stay (i + 1) = (dropTo n l stay i).set i (p.1, min p.2 (stay - DiskM.looseOf (l.take i) n)) := by
  have hi := (List.getElem?_eq_some_iff.1 h).1
  have hg : l[i] = p := (List.getElem?_eq_some_iff.1 h).2
  unfold dropTo
  rw [List.take_add_one, h, dropL_append]
  rw [List.drop_eq_getElem_cons hi, hg]
  rw [List.set_append_right _ _ (by rw [dropL_len, List.length_take]; omega), dropL_len, List.length_take]
  rw [show i - min i l.length = 0 by omega]
  simp [DiskM.dropL, hp]
theorem dropTo_succ_other (n : Int) (l : List (Int × Nat)) (stay i : Nat) (p : Int × Nat) (h : l[i]? = some p) (hp : p.1 ≠ n) : dropTo n l stay (i + 1) = dropTo n l stay i := by
  have hi := (List.getElem?_eq_some_iff.1 h).1
  have hg : l[i] = p := (List.getElem?_eq_some_iff.1 h).2
  unfold dropTo
  rw [List.take_add_one, h, dropL_append, List.drop_eq_getElem_cons hi, hg]
  simp [DiskM.dropL, hp]
theorem looseOf_take (l : List (Int × Nat)) (n : Int) (i : Nat) (p : Int × Nat) (h : l[i]? = some p) : DiskM.looseOf (l.take (i + 1)) n = DiskM.looseOf (l.take i) n + if p.1 = n then p.2 else 0 := by
  rw [List.take_add_one, h, looseOf_append]
  simp [DiskM.looseOf]
theorem looseOf_take_le (l : List (Int × Nat)) (n : Int) (i : Nat) : DiskM.looseOf (l.take i) n ≤ DiskM.looseOf l n := by
  conv => rhs; rw [← List.take_append_drop i l]
  rw [looseOf_append]; omega

/-- A file has other bytes, as many or fewer; of the loose ones just so many. -/
def DiskM.truncated (M : DiskM) (n : Int) (size : Nat) : DiskM :=
  { M with files := AM.set M.files n (((AM.get M.files n).getD []).take size), loose := DiskM.dropL n M.loose (size - (((AM.get M.files n).getD []).length - DiskM.looseOf M.loose n)) }
def DiskM.truncate (M : DiskM) (n size : Int) : Int × DiskM :=
  if M.has n ≠ 0 then (M.has n, M) else if size < 0 ∨ ((AM.get M.files n).getD []).length < size then (2, M) else if M.sinks = true then (61, M.sunk) else (0, M.tick.truncated n size.toNat)
def DiskM.deleted (M : DiskM) (n : Int) : DiskM := { M with files := AM.del M.files n, loose := DiskM.dropL n M.loose 0 }
def DiskM.delete (M : DiskM) (n : Int) : Int × DiskM :=
  if M.has n ≠ 0 then (M.has n, M) else if M.sinks = true then (61, M.sunk) else (0, M.tick.deleted n)

theorem DiskM.Ok.truncated {M : DiskM} (h : M.Ok) {n : Int} {b : List UInt8} (hg : AM.get M.files n = some b) (size : Nat) (hs : size ≤ b.length) : (M.truncated n size).Ok := by
  have hn := h.keys (n, b) ((AM.get_some h.rise).1 hg)
  have e : (AM.get M.files n).getD [] = b := by rw [hg]; rfl
  have hlo := h.lo n
  rw [e] at hlo
  unfold DiskM.truncated
  rw [e]
  refine ⟨AM.rise_set h.rise _ _, fun p hp => ?_, h.cap0, h.cap1, ?_, fun k => ?_, fun p hp => ?_, h.left1, h.left2, ?_, h.keepk⟩
  · rcases AM.mem_set.1 hp with rfl | ⟨hp, _⟩
    · exact hn
    · exact h.keys p hp
  · have hr := h.room
    unfold DiskM.total at hr ⊢
    rw [AM.sum_del List.length h.rise hg] at hr
    show ((AM.sum List.length (AM.set M.files n (b.take size)) : Nat) : Int) ≤ M.cap
    rw [AM.sum_set, List.length_take]
    omega
  · show DiskM.looseOf (DiskM.dropL n M.loose _) k ≤ ((AM.get (AM.set M.files n (b.take size)) k).getD []).length
    by_cases e : k = n
    · subst e
      rw [AM.get_set_same h.rise, looseOf_dropL]
      simp only [Option.getD_some, List.length_take]
      omega
    · rw [AM.get_set_other h.rise _ e, looseOf_dropL_other e]
      exact h.lo k
  · obtain ⟨q, h1, h2⟩ := dropL_mem hp
    rw [← h2]
    exact h.loks q h1
  · have h1 : (AM.set M.files n (b.take size)).length = M.files.length := by
      rw [AM.length_set]
      exact AM.length_del_some h.rise hg
    show (AM.set M.files n (b.take size)).length + (DiskM.dropL n M.loose _).length ≤ _
    rw [h1, dropL_len]
    exact h.count
theorem DiskM.Ok.deleted {M : DiskM} (h : M.Ok) {n : Int} {b : List UInt8} (hg : AM.get M.files n = some b) : (M.deleted n).Ok := by
  unfold DiskM.deleted
  refine ⟨AM.rise_del h.rise _, fun p hp => h.keys p (AM.mem_del.1 hp).1, h.cap0, h.cap1, ?_, fun k => ?_, fun p hp => ?_, h.left1, h.left2, ?_, h.keepk⟩
  · have hr := h.room
    unfold DiskM.total at hr ⊢
    rw [AM.sum_del List.length h.rise hg] at hr
    show ((AM.sum List.length (AM.del M.files n) : Nat) : Int) ≤ M.cap
    omega
  · show DiskM.looseOf (DiskM.dropL n M.loose 0) k ≤ ((AM.get (AM.del M.files n) k).getD []).length
    by_cases e : k = n
    · subst e
      rw [looseOf_dropL]
      omega
    · rw [AM.get_del_other h.rise e, looseOf_dropL_other e]
      exact h.lo k
  · obtain ⟨q, h1, h2⟩ := dropL_mem hp
    rw [← h2]
    exact h.loks q h1
  · show (AM.del M.files n).length + (DiskM.dropL n M.loose 0).length ≤ _
    have h1 : (AM.del M.files n).length ≤ M.files.length := List.length_filter_le _ _
    rw [dropL_len]
    have := h.count
    omega
end Go.Proofs.Ytahiimcdmojngaa
