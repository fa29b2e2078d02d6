/- Plain: a disk of one file, on which a change fails. No program. -/
import Derived.Test.YtahiimcdmojngaaDisk12
namespace Go.Proofs.Ytahiimcdmojngaa

theorem AM.set_one {α : Type} (k : Int) (v v' : α) : AM.set [(k, v)] k v' = [(k, v')] := by simp [AM.set, AM.del, AM.ins]
theorem AM.get_one {α : Type} (k : Int) (v : α) : AM.get [(k, v)] k = some v := by simp [AM.get]
theorem fold_one (l : List (Int × Nat)) (hl : ∀ p ∈ l, p.1 = 1) (kp g : Nat) (G : List (Int × Nat)) (hG : G = [(1, g)]) :
    (l.foldl DiskM.gstep ((kp : Int), G)).2 = [(1, g + (DiskM.looseAll l - min kp (DiskM.looseAll l)))] := by
  induction l generalizing kp g G with
  | nil => simp [DiskM.looseAll, hG]
  | cons p r ih =>
    have hp := hl p (by simp)
    have e : DiskM.looseAll (p :: r) = p.2 + DiskM.looseAll r := by simp [DiskM.looseAll]
    have hs : DiskM.stay (kp : Int) p.2 = min kp p.2 := by unfold DiskM.stay; omega
    have h1 : DiskM.gstep ((kp : Int), G) p = (((kp - min kp p.2 : Nat) : Int), [(1, g + (p.2 - min kp p.2))]) := by
      unfold DiskM.gstep
      simp only [hs, hp, hG, AM.get_one, AM.set_one, Option.getD_some]
      congr 1
      omega
    rw [List.foldl_cons, h1, ih (fun q hq => hl q (by simp [hq])) _ _ _ rfl, e]
    congr 2
    omega
theorem gone_one (l : List (Int × Nat)) (hl : ∀ p ∈ l, p.1 = 1) (keep : Nat) : DiskM.gone l keep = [] ∧ l = [] ∨ DiskM.gone l keep = [(1, DiskM.looseAll l - min keep (DiskM.looseAll l))] := by
  cases l with
  | nil => exact Or.inl ⟨rfl, rfl⟩
  | cons p r =>
    right
    have hp := hl p (by simp)
    have e : DiskM.looseAll (p :: r) = p.2 + DiskM.looseAll r := by simp [DiskM.looseAll]
    have hs : DiskM.stay (keep : Int) p.2 = min keep p.2 := by unfold DiskM.stay; omega
    have h1 : DiskM.gstep ((keep : Int), []) p = (((keep - min keep p.2 : Nat) : Int), [(1, p.2 - min keep p.2)]) := by
      unfold DiskM.gstep
      simp only [hs, hp]
      simp [AM.get, AM.set, AM.del, AM.ins]
      omega
    unfold DiskM.gone
    rw [List.foldl_cons, h1, fold_one r (fun q hq => hl q (by simp [hq])) _ _ _ rfl, e]
    congr 2
    omega
theorem crash_one (M : DiskM) (b : List UInt8) (hf : M.files = [(1, b)]) (hl : ∀ p ∈ M.loose, p.1 = 1) (keep : Nat) (hb : DiskM.looseAll M.loose ≤ b.length) :
    M.crash keep = { M with files := [(1, b.take ((b.length - DiskM.looseAll M.loose) + min keep (DiskM.looseAll M.loose)))], loose := [], down := true, fails := false } := by
  unfold DiskM.crash
  rw [hf]
  rcases gone_one M.loose hl keep with ⟨h1, h2⟩ | h1
  · rw [h1, h2]
    simp [DiskM.crashed, DiskM.looseAll]
  · rw [h1]
    have : DiskM.crashed [(1, b)] [((1 : Int), DiskM.looseAll M.loose - min keep (DiskM.looseAll M.loose))] = [(1, b.take ((b.length - DiskM.looseAll M.loose) + min keep (DiskM.looseAll M.loose)))] := by
      simp only [DiskM.crashed, List.foldl_cons, List.foldl_nil, AM.set_one, DiskM.cut, AM.get_one, Option.getD_some]
      congr 3
      omega
    rw [this]

/-- The file's bytes behind i changes, and how many of them are sure. -/
def fdata : Nat → List UInt8
  | 0 => [97, 98, 99]
  | i + 1 => if i % 3 < 2 then fdata i ++ [120, 121] else fdata i
def fsure : Nat → Nat
  | 0 => 3
  | i + 1 => if i % 3 < 2 then fsure i else (fdata i).length
theorem fdata_app {i : Nat} (h : i % 3 < 2) : fdata (i + 1) = fdata i ++ [120, 121] := by
  show (if i % 3 < 2 then fdata i ++ [120, 121] else fdata i) = _
  rw [if_pos h]
theorem fdata_same {i : Nat} (h : ¬ i % 3 < 2) : fdata (i + 1) = fdata i := by
  show (if i % 3 < 2 then fdata i ++ [120, 121] else fdata i) = _
  rw [if_neg h]
theorem fsure_same {i : Nat} (h : i % 3 < 2) : fsure (i + 1) = fsure i := by
  show (if i % 3 < 2 then fsure i else (fdata i).length) = _
  rw [if_pos h]
theorem fsure_all {i : Nat} (h : ¬ i % 3 < 2) : fsure (i + 1) = (fdata i).length := by
  show (if i % 3 < 2 then fsure i else (fdata i).length) = _
  rw [if_neg h]
theorem fdata_len (i : Nat) : (fdata i).length = fsure i + 2 * (i % 3) ∧ (fdata i).length ≤ 3 + 2 * i := by
  induction i with
  | zero => exact ⟨rfl, by decide⟩
  | succ i ih =>
    unfold fdata fsure
    by_cases h : i % 3 < 2
    · rw [if_pos h, if_pos h, List.length_append]
      simp only [List.length_cons, List.length_nil]
      omega
    · rw [if_neg h, if_neg h]
      omega
def fdisk (k : Nat) (keep : Nat) (i : Nat) : DiskM := ⟨[(1, fdata i)], List.replicate (i % 3) (1, 2), 3000, false, 0, true, (k : Int) - i, keep⟩
theorem replicate_loose (n : Nat) : DiskM.looseAll (List.replicate n ((1 : Int), 2)) = 2 * n := by
  induction n with
  | zero => rfl
  | succ n ih => rw [List.replicate_succ]; have e : ∀ p r, DiskM.looseAll (p :: r) = p.2 + DiskM.looseAll r := fun p r => by simp [DiskM.looseAll]
                 rw [e, ih]; show 2 + 2 * n = _; omega
theorem fdisk_live (k keep i : Nat) (h : i ≤ k) : (fdisk k keep i).Live := fun _ => by show 0 ≤ (k : Int) - i; omega
theorem fdisk_count (k keep i : Nat) (_h : i ≤ 20) : (fdisk k keep i).files.length + (fdisk k keep i).loose.length < 300000000 := by
  show 1 + (List.replicate (i % 3) ((1 : Int), 2)).length < _
  rw [List.length_replicate]; omega
theorem fdisk_append (k keep i : Nat) (hk : i < k) (h20 : k ≤ 20) (h : i % 3 < 2) : (fdisk k keep i).append 1 [120, 121] = (0, fdisk k keep (i + 1)) := by
  have hl := fdata_len i
  have h0 : (fdisk k keep i).has 1 = 0 := by simp [DiskM.has, fdisk, AM.get_one]
  have ht : (fdisk k keep i).total = (fdata i).length := by simp [DiskM.total, fdisk, AM.sum]
  have hs : (fdisk k keep i).sinks = false := by
    show (true && decide ((k : Int) - i < 1)) = false
    rw [decide_eq_false (by omega)]; rfl
  unfold DiskM.append
  rw [if_neg (by simp [h0]), if_neg (by rw [ht]; show ¬ (3000 : Int) - _ < _; simp only [List.length_cons, List.length_nil]; omega), if_neg (by simp [hs])]
  unfold DiskM.appended DiskM.tick fdisk
  simp only [AM.get_one, AM.set_one, Option.getD_some, if_true, Prod.mk.injEq, true_and, DiskM.mk.injEq, and_true]
  refine ⟨by rw [fdata_app h], ?_, by omega⟩
  rw [show (i + 1) % 3 = i % 3 + 1 by omega, List.replicate_succ']
  rfl
theorem fdisk_sync (k keep i : Nat) (hk : i < k) (h : ¬ i % 3 < 2) : (fdisk k keep i).sync = (0, fdisk k keep (i + 1)) := by
  have hs : (fdisk k keep i).sinks = false := by
    show (true && decide ((k : Int) - i < 1)) = false
    rw [decide_eq_false (by omega)]; rfl
  unfold DiskM.sync
  rw [if_neg (by simp [fdisk]), if_neg (by simp [hs])]
  unfold DiskM.tick fdisk
  simp only [if_true, Prod.mk.injEq, true_and, DiskM.mk.injEq, and_true]
  refine ⟨by rw [fdata_same h], ?_, by omega⟩
  rw [show (i + 1) % 3 = 0 by omega]
  rfl
/-- The disk that went down. -/
def fdown (keep : Nat) (b : List UInt8) : DiskM := ⟨[(1, b)], [], 3000, true, 0, false, -1, keep⟩
def fwant (k keep : Nat) : List UInt8 := (fdata k).take (fsure k + min keep ((fdata k).length - fsure k))
def fwantz (k keep : Nat) : List UInt8 := (fdata k ++ [122]).take (fsure k + min keep ((fdata k ++ [122]).length - fsure k))
theorem fdisk_sinks (k keep : Nat) : (fdisk k keep k).sinks = true := by simp [DiskM.sinks, fdisk]
theorem fdisk_sunk (k keep : Nat) : (fdisk k keep k).sunk = fdown keep (fwant k keep) := by
  have hl := fdata_len k
  have hr := replicate_loose (k % 3)
  unfold DiskM.sunk
  have e : (fdisk k keep k).tick = { fdisk k keep k with left := -1 } := by
    unfold DiskM.tick fdisk; simp
  rw [e]
  show DiskM.crash { fdisk k keep k with left := -1 } ((keep : Nat) : Int) = _
  rw [crash_one { fdisk k keep k with left := -1 } (fdata k) rfl (fun p hp => by
    have := (List.mem_replicate.1 (show p ∈ List.replicate (k % 3) ((1 : Int), 2) from hp)).2
    rw [this]) keep (by show DiskM.looseAll (List.replicate (k % 3) ((1 : Int), 2)) ≤ _; rw [hr]; omega)]
  unfold fdown fwant
  simp only [fdisk, DiskM.mk.injEq, and_true, hr]
  congr 3
  omega
theorem fdisk_create (k keep : Nat) : (fdisk k keep k).create 2 = (61, fdown keep (fwant k keep)) := by
  rw [← fdisk_sunk]
  unfold DiskM.create
  rw [if_neg (by simp [fdisk]), if_neg (by decide), if_neg (by simp [fdisk, AM.get]), if_neg (by simp [fdisk]), if_pos (fdisk_sinks k keep)]
theorem fdisk_delete (k keep : Nat) : (fdisk k keep k).delete 1 = (61, fdown keep (fwant k keep)) := by
  rw [← fdisk_sunk]
  have h0 : (fdisk k keep k).has 1 = 0 := by simp [DiskM.has, fdisk, AM.get_one]
  unfold DiskM.delete
  rw [if_neg (by simp [h0]), if_pos (fdisk_sinks k keep)]
theorem fdata_one (i : Nat) : 1 ≤ (fdata i).length := by
  induction i with
  | zero => decide
  | succ i ih =>
    by_cases h : i % 3 < 2
    · rw [fdata_app h, List.length_append]; omega
    · rw [fdata_same h]; exact ih
theorem fdisk_truncate (k keep : Nat) : (fdisk k keep k).truncate 1 1 = (61, fdown keep (fwant k keep)) := by
  rw [← fdisk_sunk]
  have h0 : (fdisk k keep k).has 1 = 0 := by simp [DiskM.has, fdisk, AM.get_one]
  have h1 := fdata_one k
  have hg : (AM.get (fdisk k keep k).files 1).getD [] = fdata k := by show (AM.get [(1, fdata k)] 1).getD [] = _; rw [AM.get_one]; rfl
  unfold DiskM.truncate
  rw [if_neg (by simp [h0]), if_neg (by rw [hg]; omega), if_pos (fdisk_sinks k keep)]
theorem fdisk_syncs (k keep : Nat) : (fdisk k keep k).sync = (61, fdown keep (fwant k keep)) := by
  rw [← fdisk_sunk]
  unfold DiskM.sync
  rw [if_neg (by simp [fdisk]), if_pos (fdisk_sinks k keep)]
theorem fdisk_z (k keep : Nat) (h20 : k ≤ 20) : (fdisk k keep k).append 1 [122] = (61, fdown keep (fwantz k keep)) := by
  have hl := fdata_len k
  have hr := replicate_loose (k % 3)
  have h0 : (fdisk k keep k).has 1 = 0 := by simp [DiskM.has, fdisk, AM.get_one]
  have ht : (fdisk k keep k).total = (fdata k).length := by simp [DiskM.total, fdisk, AM.sum]
  have hr2 : DiskM.looseAll (List.replicate (k % 3) ((1 : Int), 2) ++ [(1, 1)]) = 2 * (k % 3) + 1 := by
    rw [← hr]; simp [DiskM.looseAll]
  unfold DiskM.append
  rw [if_neg (by simp [h0]), if_neg (by rw [ht]; show ¬ (3000 : Int) - _ < _; simp only [List.length_cons, List.length_nil]; omega), if_pos (fdisk_sinks k keep)]
  congr 1
  unfold DiskM.sunk
  have e : ((fdisk k keep k).appended 1 [122]).tick = ⟨[(1, fdata k ++ [122])], List.replicate (k % 3) (1, 2) ++ [(1, 1)], 3000, false, 0, true, -1, keep⟩ := by
    unfold DiskM.appended DiskM.tick fdisk; simp [AM.get_one, AM.set_one]
  rw [e]
  show DiskM.crash ⟨[(1, fdata k ++ [122])], List.replicate (k % 3) (1, 2) ++ [(1, 1)], 3000, false, 0, true, -1, keep⟩ ((keep : Nat) : Int) = _
  rw [crash_one _ (fdata k ++ [122]) rfl (fun p hp => by
    rcases List.mem_append.1 (show p ∈ List.replicate (k % 3) ((1 : Int), 2) ++ [(1, 1)] from hp) with hp | hp
    · have := (List.mem_replicate.1 hp).2
      rw [this]
    · simp at hp; rw [hp]) keep (by show DiskM.looseAll (List.replicate (k % 3) ((1 : Int), 2) ++ [(1, 1)]) ≤ _; rw [hr2, List.length_append]; simp only [List.length_cons, List.length_nil]; omega)]
  unfold fdown fwantz
  simp only [DiskM.mk.injEq, and_true, hr2, List.length_append, List.length_cons, List.length_nil]
  congr 3
  omega
theorem fdown_start (keep : Nat) (b : List UInt8) : (fdown keep b).startR = (0, { fdown keep b with down := false, starts := 1 }) := by
  unfold DiskM.startR
  rw [if_pos (show (fdown keep b).down = true from rfl)]
  rfl
end Go.Proofs.Ytahiimcdmojngaa
