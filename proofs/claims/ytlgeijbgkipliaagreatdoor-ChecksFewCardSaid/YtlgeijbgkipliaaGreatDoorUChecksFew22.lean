/- Plain: entries in files of a disk: what is read of them, and the changes that are done. No program. -/
import Derived.Test.YtlgeijbgkipliaaGreatDoorUChecksFew21
import Derived.Test.YtlgeijbgkipliaaGreatDoorUChecksFew08
set_option linter.unusedVariables false
set_option linter.unusedSimpArgs false
namespace Go.Proofs.YtlgeijbgkipliaaGreatDoor

theorem framesF_nil : framesF [] = [] := rfl
theorem framesF_cons (p : By) (r : List By) : framesF (p :: r) = frameF p ++ framesF r := by simp [framesF]
theorem framesF_append (a b : List By) : framesF (a ++ b) = framesF a ++ framesF b := by simp [framesF]
theorem cutF_eq {l p r : By} (h : cutF l = some (p, r)) : l = frameF p ++ r ∧ p.length ≤ 65536 := by
  unfold cutF at h
  split at h
  · cases h
  · split at h
    · cases h
    · split at h
      · rename_i h1 h2 h3
        cases h
        refine ⟨?_, by simp; omega⟩
        unfold frameF
        rw [h3, List.append_assoc, ← List.drop_drop, List.take_append_drop, List.take_append_drop]
      · cases h
/-- The entries ahead in a text: at most so many. -/
def loadGo : Nat → By → List By
  | 0, _ => []
  | k + 1, t => match cutF t with
    | none => []
    | some x => if x.1.length ≤ 200 then x.1 :: loadGo k x.2 else []
theorem loadGo_none {k : Nat} {t : By} (h : cutF t = none) : loadGo k t = [] := by
  cases k with
  | zero => rfl
  | succ k => unfold loadGo; rw [h]
theorem loadGo_long {k : Nat} {t : By} {x : By × By} (h : cutF t = some x) (hx : ¬ x.1.length ≤ 200) : loadGo k t = [] := by
  cases k with
  | zero => rfl
  | succ k => unfold loadGo; rw [h]; simp only; rw [if_neg hx]
theorem loadGo_some {k : Nat} {t : By} {x : By × By} (h : cutF t = some x) (hx : x.1.length ≤ 200) : loadGo (k + 1) t = x.1 :: loadGo k x.2 := by
  conv => lhs; unfold loadGo
  rw [h]; simp only; rw [if_pos hx]
/-- A file's entries. -/
def fileE (b : By) : List By := loadGo 64 b
theorem loadGo_len (k : Nat) (t : By) : (loadGo k t).length ≤ k := by
  induction k generalizing t with
  | zero => simp [loadGo]
  | succ k ih =>
    unfold loadGo
    split
    · simp
    · split
      · have := ih ‹By × By›.2; simp; omega
      · simp
theorem loadGo_short (k : Nat) (t : By) : ∀ p ∈ loadGo k t, p.length ≤ 200 := by
  induction k generalizing t with
  | zero => simp [loadGo]
  | succ k ih =>
    unfold loadGo
    split
    · simp
    · split
      · rename_i x _ hx
        intro p hp
        rcases List.mem_cons.1 hp with rfl | hp
        · exact hx
        · exact ih _ p hp
      · simp
theorem fileE_len (b : By) : (fileE b).length ≤ 64 := loadGo_len 64 b
theorem fileE_short (b : By) : ∀ p ∈ fileE b, p.length ≤ 200 := loadGo_short 64 b
/-- What is read of a text stands ahead in it. -/
theorem loadGo_ahead (k : Nat) (t : By) : ∃ r, t = framesF (loadGo k t) ++ r := by
  induction k generalizing t with
  | zero => exact ⟨t, rfl⟩
  | succ k ih =>
    match hc : cutF t with
    | none => exact ⟨t, by rw [loadGo_none hc]; rfl⟩
    | some x =>
      by_cases hx : x.1.length ≤ 200
      · obtain ⟨r, hr⟩ := ih x.2
        refine ⟨r, ?_⟩
        rw [loadGo_some hc hx, framesF_cons, List.append_assoc, ← hr]
        exact (cutF_eq hc).1
      · exact ⟨t, by rw [loadGo_long hc hx]; rfl⟩
theorem fileE_ahead (b : By) : ∃ r, b = framesF (fileE b) ++ r := loadGo_ahead 64 b
theorem fileE_le (b : By) : (framesF (fileE b)).length ≤ b.length := by
  obtain ⟨r, hr⟩ := fileE_ahead b
  conv => rhs; rw [hr]
  rw [List.length_append]
  omega
/-- Whole frames, and what is none behind them. -/
theorem loadGo_frames (k : Nat) (ps : List By) (hp : ∀ p ∈ ps, p.length ≤ 200) (t : By) (ht : cutF t = none) : loadGo k (framesF ps ++ t) = ps.take k := by
  induction k generalizing ps with
  | zero => simp [loadGo]
  | succ k ih =>
    cases ps with
    | nil => rw [framesF_nil, List.nil_append, loadGo_none ht]; simp
    | cons p r =>
      have h200 := hp p (by simp)
      have e : framesF (p :: r) ++ t = frameF p ++ (framesF r ++ t) := by simp [framesF]
      rw [e, loadGo_some (cutF_frame p _ (by omega)) h200, ih r (fun q hq => hp q (by simp [hq]))]
      simp
theorem fileE_frames (ps : List By) (hp : ∀ p ∈ ps, p.length ≤ 200) (h64 : ps.length ≤ 64) (t : By) (ht : cutF t = none) : fileE (framesF ps ++ t) = ps := by
  unfold fileE
  rw [loadGo_frames 64 ps hp t ht, List.take_of_length_le h64]
theorem fileE_whole (ps : List By) (hp : ∀ p ∈ ps, p.length ≤ 200) (h64 : ps.length ≤ 64) : fileE (framesF ps) = ps := by
  have := fileE_frames ps hp h64 [] cutF_nil
  rwa [List.append_nil] at this
/-- Where each entry ends in its file: so many stand in files so far, and the last one ends there. -/
def endsG : Nat → Nat → List By → List Nat
  | _, _, [] => []
  | c, a, p :: r => ((if c % 64 = 0 then 0 else a) + 12 + p.length) :: endsG (c + 1) ((if c % 64 = 0 then 0 else a) + 12 + p.length) r
theorem endsG_len (c a : Nat) (l : List By) : (endsG c a l).length = l.length := by
  induction l generalizing c a with
  | nil => rfl
  | cons p r ih => simp [endsG, ih]
/-- Where the file ends behind them. -/
def endG : Nat → Nat → List By → Nat
  | _, a, [] => a
  | c, a, p :: r => endG (c + 1) ((if c % 64 = 0 then 0 else a) + 12 + p.length) r
theorem endsG_append (c a : Nat) (l m : List By) : endsG c a (l ++ m) = endsG c a l ++ endsG (c + l.length) (endG c a l) m := by
  induction l generalizing c a with
  | nil => simp [endsG, endG]
  | cons p r ih =>
    simp only [List.cons_append, endsG, endG, ih, List.length_cons]
    rw [show c + 1 + r.length = c + (r.length + 1) by omega]
theorem endG_append (c a : Nat) (l m : List By) : endG c a (l ++ m) = endG (c + l.length) (endG c a l) m := by
  induction l generalizing c a with
  | nil => simp [endG]
  | cons p r ih =>
    simp only [List.cons_append, endG, ih, List.length_cons]
    rw [show c + 1 + r.length = c + (r.length + 1) by omega]
theorem endsG_last (c a : Nat) (l : List By) : ∀ i, i + 1 = l.length → (endsG c a l)[i]? = some (endG c a l) := by
  induction l generalizing c a with
  | nil => intro i hi; simp at hi
  | cons p r ih =>
    intro i hi
    cases r with
    | nil =>
      simp at hi
      subst hi
      rfl
    | cons q r =>
      obtain ⟨j, rfl⟩ : ∃ j, i = j + 1 := ⟨i - 1, by simp at hi; omega⟩
      have := ih (c + 1) ((if c % 64 = 0 then 0 else a) + 12 + p.length) j (by simpa using hi)
      simpa [endsG, endG] using this
theorem frames_len_cons (p : By) (r : List By) : (framesF (p :: r)).length = 12 + p.length + (framesF r).length := by
  rw [framesF_cons, List.length_append, frameF_len]
/-- In one file: the frames' lengths, one behind the other. -/
theorem endG_file (c a : Nat) (l : List By) (h : c % 64 + l.length ≤ 64) : endG c a l = (if c % 64 = 0 ∧ l ≠ [] then 0 else a) + (framesF l).length := by
  induction l generalizing c a with
  | nil => simp [endG, framesF]
  | cons p r ih =>
    simp only [endG, frames_len_cons]
    cases r with
    | nil =>
      simp only [endG, framesF_nil, List.length_nil]
      by_cases hc : c % 64 = 0 <;> simp [hc] <;> omega
    | cons q r =>
      rw [ih (c + 1) _ (by simp at h ⊢; omega)]
      have h2 : ¬ ((c + 1) % 64 = 0) := by simp at h; omega
      rw [if_neg (fun e => h2 e.1)]
      by_cases hc : c % 64 = 0 <;> simp [hc] <;> omega
/-- Where each entry ends in its file. -/
def endsE (l : List By) : List Nat := endsG 0 0 l
theorem endsE_len (l : List By) : (endsE l).length = l.length := endsG_len 0 0 l
/-- How many bytes the last file of the first n has. -/
def tailF (E : List By) (n : Nat) : By := framesF ((E.take n).drop (64 * (n / 64)))
theorem endG_all (l : List By) (h : l.length % 64 ≠ 0) : endG 0 0 l = (framesF (l.drop (64 * (l.length / 64)))).length := by
  have e : l = l.take (64 * (l.length / 64)) ++ l.drop (64 * (l.length / 64)) := (List.take_append_drop _ _).symm
  have hl : (l.take (64 * (l.length / 64))).length = 64 * (l.length / 64) := by rw [List.length_take]; omega
  have hd : (l.drop (64 * (l.length / 64))).length = l.length % 64 := by rw [List.length_drop]; omega
  have hne : l.drop (64 * (l.length / 64)) ≠ [] := by
    intro q
    rw [q] at hd
    simp at hd
    omega
  conv => lhs; rw [e]
  rw [endG_append, hl, endG_file _ _ _ (by rw [hd]; omega), if_pos ⟨by omega, hne⟩, Nat.zero_add]
theorem endsE_at (E : List By) (n : Nat) (h : n ≤ E.length) (h0 : n % 64 ≠ 0) : (endsE E)[n - 1]? = some (tailF E n).length := by
  have hn : (E.take n).length = n := by rw [List.length_take]; omega
  have e : E = E.take n ++ E.drop n := (List.take_append_drop _ _).symm
  have h1 : (endsE E)[n - 1]? = (endsE (E.take n))[n - 1]? := by
    conv => lhs; rw [e]
    unfold endsE
    rw [endsG_append, List.getElem?_append_left (by rw [endsG_len, hn]; omega)]
  rw [h1]
  unfold endsE tailF
  rw [endsG_last 0 0 _ (n - 1) (by omega), endG_all _ (by rw [hn]; exact h0), hn]
theorem endsE_take (E : List By) (n : Nat) : (endsE E).take n = endsE (E.take n) := by
  rcases Nat.lt_or_ge E.length n with h | h
  · rw [List.take_of_length_le (by rw [endsE_len]; omega), List.take_of_length_le (by omega)]
  · have e : E = E.take n ++ E.drop n := (List.take_append_drop _ _).symm
    conv => lhs; rw [e]
    unfold endsE
    rw [endsG_append, List.take_append_of_le_length (by rw [endsG_len, List.length_take]; omega), List.take_of_length_le (by rw [endsG_len, List.length_take]; omega)]
theorem endsE_file (E l : List By) (h : E.length % 64 = 0) : endsE (E ++ l) = endsE E ++ endsE l := by
  unfold endsE
  rw [endsG_append]
  congr 1
  rw [Nat.zero_add]
  generalize endG 0 0 E = a
  have key : ∀ (l : List By) (c d a : Nat), c % 64 = d % 64 → endsG c a l = endsG d a l := by
    intro l
    induction l with
    | nil => intros; rfl
    | cons p r ih =>
      intro c d a hcd
      simp only [endsG, hcd]
      rw [ih (c + 1) (d + 1) _ (by omega)]
  rw [key l E.length 0 a (by omega)]
  cases l with
  | nil => rfl
  | cons p r => simp [endsG]

/-- A change of a disk. -/
inductive Chg where
  | del (n : Int)
  | cut (n : Int) (size : Int)
  | make (n : Int)
  | app (n : Int) (b : By)
  | sync
def Chg.run (c : Chg) (M : DiskM) : Int × DiskM := match c with
  | .del n => M.delete n
  | .cut n size => M.truncate n size
  | .make n => M.create n
  | .app n b => M.append n b
  | .sync => M.sync
/-- Changes, up to the first one that fails. -/
def runAll : List Chg → DiskM → Int × DiskM
  | [], M => (0, M)
  | c :: r, M => if (c.run M).1 = 0 then runAll r (c.run M).2 else c.run M
theorem runAll_cons_ok {c : Chg} {r : List Chg} {M : DiskM} (h : (c.run M).1 = 0) : runAll (c :: r) M = runAll r (c.run M).2 := by simp [runAll, h]
theorem runAll_cons_no {c : Chg} {r : List Chg} {M : DiskM} (h : (c.run M).1 ≠ 0) : runAll (c :: r) M = c.run M := by simp [runAll, h]
theorem runAll_append (a b : List Chg) (M : DiskM) : runAll (a ++ b) M = if (runAll a M).1 = 0 then runAll b (runAll a M).2 else runAll a M := by
  induction a generalizing M with
  | nil => simp [runAll]
  | cons c r ih =>
    by_cases h : (c.run M).1 = 0
    · rw [List.cons_append, runAll_cons_ok h, runAll_cons_ok h, ih]
    · rw [List.cons_append, runAll_cons_no h, runAll_cons_no h, if_neg h]
/-- The deletion of all files from a number on, the greatest one first. -/
def dropC (M : DiskM) (from_ : Int) : List Chg := ((M.files.map (·.1)).reverse.filter fun n => decide (from_ ≤ n)).map .del
/-- The files of entries, from the i-th on: at most so many. -/
def segFiles (M : DiskM) : Nat → Nat → List By
  | 0, _ => []
  | f + 1, i => match AM.get M.files (1000 + (i : Int)) with
    | none => []
    | some b => b :: if (fileE b).length = 64 then segFiles M f (i + 1) else []
/-- The entries of files. -/
def segE (l : List By) : List By := l.flatMap fileE
/-- What is behind the entries is taken away. -/
def tornC : Nat → List By → List Chg
  | _, [] => []
  | i, b :: r => (if (framesF (fileE b)).length < b.length then [.cut (1000 + (i : Int)) ((framesF (fileE b)).length : Nat)] else []) ++ tornC (i + 1) r
theorem tornC_append (i : Nat) (l m : List By) : tornC i (l ++ m) = tornC i l ++ tornC (i + l.length) m := by
  induction l generalizing i with
  | nil => simp [tornC]
  | cons b r ih => simp only [List.cons_append, tornC, ih, List.length_cons, List.append_assoc]; rw [show i + 1 + r.length = i + (r.length + 1) by omega]
def DiskM.openC (M : DiskM) : List Chg := dropC M (1000 + ((segFiles M 64 0).length : Nat)) ++ tornC 0 (segFiles M 64 0) ++ [.sync]
/-- What Open makes of a disk: the answer, the entries, the disk. -/
def DiskM.openS (M : DiskM) : Int × List By × DiskM := if M.down = true then (61, [], M) else ((runAll M.openC M).1, if (runAll M.openC M).1 = 0 then segE (segFiles M 64 0) else [], (runAll M.openC M).2)
/-- The changes that append entries behind so many. -/
def planC (has : Int → Bool) (at_ : Nat) (l : List By) : List Chg :=
  if h : l = [] then [] else
    (if has (1000 + (at_ / 64 : Nat)) = true then [] else [.make (1000 + (at_ / 64 : Nat))]) ++ .app (1000 + (at_ / 64 : Nat)) (framesF (l.take (min (64 - at_ % 64) l.length))) :: planC has (at_ + min (64 - at_ % 64) l.length) (l.drop (min (64 - at_ % 64) l.length))
termination_by l.length
decreasing_by
  have : 0 < l.length := List.length_pos_iff.2 h
  rw [List.length_drop]
  omega
theorem planC_nil (has : Int → Bool) (at_ : Nat) : planC has at_ [] = [] := by unfold planC; simp
theorem planC_step (has : Int → Bool) (at_ : Nat) {l : List By} (h : l ≠ []) : planC has at_ l =
    (if has (1000 + (at_ / 64 : Nat)) = true then [] else [.make (1000 + (at_ / 64 : Nat))]) ++ .app (1000 + (at_ / 64 : Nat)) (framesF (l.take (min (64 - at_ % 64) l.length))) :: planC has (at_ + min (64 - at_ % 64) l.length) (l.drop (min (64 - at_ % 64) l.length)) := by
  conv => lhs; unfold planC
  rw [dif_neg h]
/-- How many files are made. -/
def makes : List Chg → Nat
  | [] => 0
  | .make _ :: r => makes r + 1
  | _ :: r => makes r
theorem makes_append (a b : List Chg) : makes (a ++ b) = makes a + makes b := by
  induction a with
  | nil => simp [makes]
  | cons c r ih => cases c <;> simp only [List.cons_append, makes, ih] <;> omega
/-- Segments: their entries, the disk's starts when they were opened; are they dead? -/
structure SegM where
  entries : List By
  starts : Int
  dead : Bool
def SegM.over (S : SegM) (M : DiskM) : Bool := S.dead || M.down || decide (M.starts ≠ S.starts)
def SegM.append (S : SegM) (M : DiskM) (l : List By) : Int × SegM × DiskM :=
  if S.over M = true then (61, { S with dead := true }, M)
  else if l = [] then (0, S, M)
  else if (l.any fun p => decide (200 < p.length)) = true then (3, S, M)
  else if 4096 - S.entries.length < l.length then (60, S, M)
  else if M.cap - M.total < ((framesF l).length : Nat) ∨ 100 < M.files.length + makes (planC (fun n => (AM.get M.files n).isSome) S.entries.length l) then (60, S, M)
  else ((runAll (planC (fun n => (AM.get M.files n).isSome) S.entries.length l ++ [.sync]) M).1,
    { S with entries := if (runAll (planC (fun n => (AM.get M.files n).isSome) S.entries.length l ++ [.sync]) M).1 = 0 then S.entries ++ l else S.entries, dead := decide ((runAll (planC (fun n => (AM.get M.files n).isSome) S.entries.length l ++ [.sync]) M).1 = 61) },
    (runAll (planC (fun n => (AM.get M.files n).isSome) S.entries.length l ++ [.sync]) M).2)
def SegM.cutC (S : SegM) (M : DiskM) (n : Nat) : List Chg := dropC M (1000 + ((n + 63) / 64 : Nat)) ++ (if n % 64 = 0 then [] else [.cut (1000 + (n / 64 : Nat)) ((tailF S.entries n).length : Nat)]) ++ [.sync]
def SegM.cut (S : SegM) (M : DiskM) (n : Int) : Int × SegM × DiskM :=
  if S.over M = true then (61, { S with dead := true }, M)
  else if n < 0 ∨ (S.entries.length : Int) < n then (2, S, M)
  else ((runAll (S.cutC M n.toNat) M).1,
    { S with entries := if (runAll (S.cutC M n.toNat) M).1 = 0 then S.entries.take n.toNat else S.entries, dead := decide ((runAll (S.cutC M n.toNat) M).1 = 61) },
    (runAll (S.cutC M n.toNat) M).2)
end Go.Proofs.YtlgeijbgkipliaaGreatDoor
