/- Plain: what keyring's functions make of a ring and its disk. No program. Plain: a disk whose one file is a ring's: what is written down, what a start leaves. No program. -/
import Derived.Test.YtaimokclhcfohaaDoorUKeyringOnce16
import Derived.Test.YtaimokclhcfohaaDoorUKeyringOnce29
set_option linter.unusedVariables false
set_option linter.unusedSimpArgs false
namespace Go.Proofs.YtaimokclhcfohaaDoor

/-- What becomes of the file when a ring is opened on a disk that is up: the error, the heads, the disk. -/
def DiskM.mend (M : DiskM) : Int × List Hd × DiskM :=
  match AM.get M.files 990 with
  | none => if (M.create 990).1 ≠ 0 then ((M.create 990).1, [], (M.create 990).2) else ((M.create 990).2.sync.1, [], (M.create 990).2.sync.2)
  | some b => match readH (wholeF b).1 with
    | none => (63, [], M)
    | some l =>
      if (wholeF b).2.length = 0 then (M.sync.1, l, M.sync.2)
      else if (M.truncate 990 ((b.length - (wholeF b).2.length : Nat) : Int)).1 ≠ 0 then ((M.truncate 990 ((b.length - (wholeF b).2.length : Nat) : Int)).1, [], (M.truncate 990 ((b.length - (wholeF b).2.length : Nat) : Int)).2)
      else ((M.truncate 990 ((b.length - (wholeF b).2.length : Nat) : Int)).2.sync.1, l, (M.truncate 990 ((b.length - (wholeF b).2.length : Nat) : Int)).2.sync.2)
/-- A ring: its seed, the heads that were signed, the disk's starts when it was opened, whether it is dead. -/
structure RingM where
  seed : ByteArray
  signed : List Hd
  starts : Int
  dead : Bool
/-- Which key is to sign a head, whether that is a new one, what is wrong. -/
def nextF (l : List Hd) (size : Int) (root : By) : Int × Bool × Int :=
  if size < 1 ∨ 4096 < size then (0, false, 2)
  else match l.getLast? with
    | none => (0, true, 0)
    | some h => if (h.1 : Int) = size ∧ h.2 = root then (((l.length - 1 : Nat) : Int), false, 0) else if size ≤ (h.1 : Int) then (0, false, 83) else if 8 ≤ l.length then (0, false, 85) else ((l.length : Int), true, 0)
/-- A head is written down. -/
def DiskM.keepR (M : DiskM) (h : Hd) : Int × DiskM := if (M.append 990 (frameF (recordF h))).1 = 0 then (M.append 990 (frameF (recordF h))).2.sync else M.append 990 (frameF (recordF h))
/-- Is it down, or was it? -/
def RingM.over (R : RingM) (M : DiskM) : Bool := R.dead || M.down || decide (M.starts ≠ R.starts)
/-- What Sign answers, by which key, and what becomes of the ring and of the disk. -/
def RingM.sign (R : RingM) (M : DiskM) (size : Int) (root : By) : Int × Nat × RingM × DiskM :=
  if R.over M = true then (61, 0, { R with dead := true }, M)
  else if (nextF R.signed size root).2.2 ≠ 0 then ((nextF R.signed size root).2.2, 0, R, M)
  else if (nextF R.signed size root).2.1 = false then (0, (nextF R.signed size root).1.toNat, R, M)
  else if (M.keepR (size.toNat, root)).1 ≠ 0 then ((M.keepR (size.toNat, root)).1, 0, { R with dead := decide ((M.keepR (size.toNat, root)).1 = 61) }, (M.keepR (size.toNat, root)).2)
  else (0, (nextF R.signed size root).1.toNat, { R with signed := R.signed ++ [(size.toNat, root)] }, (M.keepR (size.toNat, root)).2)
end Go.Proofs.YtaimokclhcfohaaDoor

namespace Go.Proofs.YtaimokclhcfohaaDoor

theorem AM.set_990 {α : Type} (v v' : α) : AM.set [((990 : Int), v)] 990 v' = [((990 : Int), v')] := by simp [AM.set, AM.del, AM.ins]
theorem AM.get_990 {α : Type} (v : α) : AM.get [((990 : Int), v)] 990 = some v := by simp [AM.get]
def oneD (f : By) (loose : List (Int × Nat)) (cap : Int) (down : Bool) (starts : Int) (fails : Bool) (left keep : Int) : DiskM := ⟨[(990, f)], loose, cap, down, starts, fails, left, keep⟩
section
variable {f s : By} {cap starts left keep : Int} {fails : Bool}
theorem oneD_crash (k : Int) : (oneD f [] cap false starts fails left keep).crash k = oneD f [] cap true starts false left keep := by
  simp [DiskM.crash, oneD, DiskM.gone, DiskM.crashed]
theorem oneD_crash_piece (k : Int) (down : Bool) : (oneD (f ++ s) [(990, s.length)] cap down starts fails left keep).crash k = oneD (f ++ s.take (DiskM.stay k s.length)) [] cap true starts false left keep := by
  have hs := DiskM.stay_le k s.length
  have hg : DiskM.gone [((990 : Int), s.length)] k = [((990 : Int), s.length - DiskM.stay k s.length)] := by
    simp [DiskM.gone, DiskM.gstep, AM.get, AM.set, AM.del, AM.ins]
  unfold DiskM.crash oneD
  simp only [hg, DiskM.crashed, List.foldl_cons, List.foldl_nil, AM.set_990, DiskM.cut, AM.get_990, Option.getD_some, DiskM.mk.injEq, and_true, true_and, List.cons.injEq, Prod.mk.injEq]
  rw [List.length_append, List.take_append, List.take_of_length_le (by omega)]
  congr 2
  omega
theorem oneD_has (n : Int) (h : n = 990) (loose : List (Int × Nat)) : (oneD f loose cap false starts fails left keep).has n = 0 := by
  subst h; simp [DiskM.has, oneD, AM.get_990]
theorem oneD_total (loose : List (Int × Nat)) (down : Bool) : (oneD f loose cap down starts fails left keep).total = f.length := by simp [DiskM.total, oneD, AM.sum]
theorem oneD_sync (loose : List (Int × Nat)) (hl : fails = true → 0 ≤ left) :
    (fails = false ∨ 1 ≤ left) → ∃ left', (oneD f loose cap false starts fails left keep).sync = (0, oneD f [] cap false starts fails left' keep) ∧ (fails = true → 0 ≤ left') := by
  intro h
  cases fails
  · exact ⟨left, by simp [DiskM.sync, oneD, DiskM.sinks, DiskM.tick], fun h => by cases h⟩
  · have h1 : 1 ≤ left := by simpa using h
    have hs : ¬ left < 1 := by omega
    exact ⟨left - 1, by simp [DiskM.sync, oneD, DiskM.sinks, DiskM.tick, hs], fun _ => by omega⟩
/-- Sync, when nothing is loose. -/
theorem oneD_sync0 (hl : fails = true → 0 ≤ left) :
    (∃ left', (oneD f [] cap false starts fails left keep).sync = (0, oneD f [] cap false starts fails left' keep) ∧ (fails = true → 0 ≤ left')) ∨
    (fails = true ∧ ∃ left', (oneD f [] cap false starts fails left keep).sync = (61, oneD f [] cap true starts false left' keep)) := by
  by_cases h : fails = false ∨ 1 ≤ left
  · exact Or.inl (oneD_sync [] hl h)
  · have h1 : fails = true := by cases fails <;> simp_all
    have h2 : left < 1 := by omega
    subst h1
    refine Or.inr ⟨rfl, left - 1, ?_⟩
    have e : (oneD f [] cap false starts true left keep).sunk = oneD f [] cap true starts false (left - 1) keep := by
      unfold DiskM.sunk
      have : (oneD f [] cap false starts true left keep).tick = oneD f [] cap false starts true (left - 1) keep := by simp [DiskM.tick, oneD]
      rw [this, oneD_crash]
    simp only [DiskM.sync]
    rw [if_neg (by simp [oneD]), if_pos (by simp [DiskM.sinks, oneD, h2]), e]
/-- What keep makes of the disk: all is written and sure, or it goes down, and of what was to be written a beginning is there. -/
theorem oneD_keep (hr : ((f.length + s.length : Nat) : Int) ≤ cap) (hl : fails = true → 0 ≤ left) :
    (∃ left', (if ((oneD f [] cap false starts fails left keep).append 990 s).1 = 0 then ((oneD f [] cap false starts fails left keep).append 990 s).2.sync else (oneD f [] cap false starts fails left keep).append 990 s) = (0, oneD (f ++ s) [] cap false starts fails left' keep) ∧ (fails = true → 0 ≤ left')) ∨
    (fails = true ∧ ∃ j left', j ≤ s.length ∧ (if ((oneD f [] cap false starts fails left keep).append 990 s).1 = 0 then ((oneD f [] cap false starts fails left keep).append 990 s).2.sync else (oneD f [] cap false starts fails left keep).append 990 s) = (61, oneD (f ++ s.take j) [] cap true starts false left' keep)) := by
  have h0 := oneD_has (f := f) (cap := cap) (starts := starts) (fails := fails) (left := left) (keep := keep) 990 rfl []
  have ht := oneD_total (f := f) (cap := cap) (starts := starts) (fails := fails) (left := left) (keep := keep) [] false
  have ha : (oneD f [] cap false starts fails left keep).appended 990 s = oneD (f ++ s) [(990, s.length)] cap false starts fails left keep := by
    unfold DiskM.appended oneD
    simp [AM.get_990, AM.set_990]
  have hfull : ¬ (oneD f [] cap false starts fails left keep).cap - ((oneD f [] cap false starts fails left keep).total : Int) < (s.length : Int) := by
    rw [ht]; show ¬ cap - _ < _; omega
  have hA : (oneD f [] cap false starts fails left keep).append 990 s = if (oneD f [] cap false starts fails left keep).sinks = true then (61, (oneD (f ++ s) [(990, s.length)] cap false starts fails left keep).sunk) else (0, (oneD (f ++ s) [(990, s.length)] cap false starts fails left keep).tick) := by
    unfold DiskM.append
    rw [if_neg (by simp [h0]), if_neg hfull, ha]
  cases fails
  · left
    have hs : (oneD f [] cap false starts false left keep).sinks = false := by simp [DiskM.sinks, oneD]
    have hk : (oneD (f ++ s) [(990, s.length)] cap false starts false left keep).tick = oneD (f ++ s) [(990, s.length)] cap false starts false left keep := by simp [DiskM.tick, oneD]
    rw [if_neg (by simp [hs]), hk] at hA
    rw [hA, if_pos rfl]
    exact oneD_sync _ hl (Or.inl rfl)
  · have hl := hl rfl
    by_cases h1 : left < 1
    · right
      have hs : (oneD f [] cap false starts true left keep).sinks = true := by simp [DiskM.sinks, oneD, h1]
      have e : (oneD (f ++ s) [(990, s.length)] cap false starts true left keep).sunk = oneD (f ++ s.take (DiskM.stay keep s.length)) [] cap true starts false (left - 1) keep := by
        unfold DiskM.sunk
        have : (oneD (f ++ s) [(990, s.length)] cap false starts true left keep).tick = oneD (f ++ s) [(990, s.length)] cap false starts true (left - 1) keep := by simp [DiskM.tick, oneD]
        rw [this, oneD_crash_piece]
        rfl
      rw [if_pos hs, e] at hA
      rw [hA, if_neg (show ¬ (61 : Int) = 0 by decide)]
      exact ⟨rfl, _, _, DiskM.stay_le _ _, rfl⟩
    · have hs : (oneD f [] cap false starts true left keep).sinks = false := by simp [DiskM.sinks, oneD, h1]
      have hk : (oneD (f ++ s) [(990, s.length)] cap false starts true left keep).tick = oneD (f ++ s) [(990, s.length)] cap false starts true (left - 1) keep := by simp [DiskM.tick, oneD]
      rw [if_neg (by simp [hs]), hk] at hA
      rw [hA, if_pos rfl]
      by_cases h2 : 1 ≤ left - 1
      · left
        exact oneD_sync _ (fun _ => by omega) (Or.inr h2)
      · right
        refine ⟨rfl, DiskM.stay keep s.length, left - 1 - 1, DiskM.stay_le _ _, ?_⟩
        have e : (oneD (f ++ s) [(990, s.length)] cap false starts true (left - 1) keep).sunk = oneD (f ++ s.take (DiskM.stay keep s.length)) [] cap true starts false (left - 1 - 1) keep := by
          unfold DiskM.sunk
          have : (oneD (f ++ s) [(990, s.length)] cap false starts true (left - 1) keep).tick = oneD (f ++ s) [(990, s.length)] cap false starts true (left - 1 - 1) keep := by simp [DiskM.tick, oneD]
          rw [this, oneD_crash_piece]
          rfl
        simp only [DiskM.sync]
        rw [if_neg (by simp [oneD]), if_pos (show (oneD (f ++ s) [(990, s.length)] cap false starts true (left - 1) keep).sinks = true from (show (true && decide (left - 1 < 1)) = true by simp; omega)), e]
/-- The same, with no failure set. -/
theorem oneD_keepR (h : Hd) (hr : ((f.length + (frameF (recordF h)).length : Nat) : Int) ≤ cap) : (oneD f [] cap false starts false left keep).keepR h = (0, oneD (f ++ frameF (recordF h)) [] cap false starts false left keep) := by
  have h0 := oneD_has (f := f) (cap := cap) (starts := starts) (fails := false) (left := left) (keep := keep) 990 rfl []
  have ht := oneD_total (f := f) (cap := cap) (starts := starts) (fails := false) (left := left) (keep := keep) [] false
  have ha : (oneD f [] cap false starts false left keep).appended 990 (frameF (recordF h)) = oneD (f ++ frameF (recordF h)) [(990, (frameF (recordF h)).length)] cap false starts false left keep := by
    unfold DiskM.appended oneD
    simp [AM.get_990, AM.set_990]
  have hfull : ¬ (oneD f [] cap false starts false left keep).cap - ((oneD f [] cap false starts false left keep).total : Int) < ((frameF (recordF h)).length : Int) := by
    rw [ht]; show ¬ cap - _ < _; omega
  have hs : (oneD f [] cap false starts false left keep).sinks = false := by simp [DiskM.sinks, oneD]
  have hk : (oneD (f ++ frameF (recordF h)) [(990, (frameF (recordF h)).length)] cap false starts false left keep).tick = oneD (f ++ frameF (recordF h)) [(990, (frameF (recordF h)).length)] cap false starts false left keep := by simp [DiskM.tick, oneD]
  have hA : (oneD f [] cap false starts false left keep).append 990 (frameF (recordF h)) = (0, oneD (f ++ frameF (recordF h)) [(990, (frameF (recordF h)).length)] cap false starts false left keep) := by
    unfold DiskM.append
    rw [if_neg (by simp [h0]), if_neg hfull, ha, if_neg (by simp [hs]), hk]
  unfold DiskM.keepR
  rw [hA, if_pos rfl]
  simp [DiskM.sync, oneD, DiskM.sinks, DiskM.tick]
/-- Truncate of the file down to a beginning, when nothing is loose. -/
theorem oneD_truncate {t : By} (hl : fails = true → 0 ≤ left) :
    (∃ left', (oneD (f ++ t) [] cap false starts fails left keep).truncate 990 ((f.length : Nat) : Int) = (0, oneD f [] cap false starts fails left' keep) ∧ (fails = true → 0 ≤ left')) ∨
    (fails = true ∧ ∃ left', (oneD (f ++ t) [] cap false starts fails left keep).truncate 990 ((f.length : Nat) : Int) = (61, oneD (f ++ t) [] cap true starts false left' keep)) := by
  have h0 := oneD_has (f := f ++ t) (cap := cap) (starts := starts) (fails := fails) (left := left) (keep := keep) 990 rfl []
  have hg : (AM.get (oneD (f ++ t) [] cap false starts fails left keep).files 990).getD [] = f ++ t := by show (AM.get [((990 : Int), f ++ t)] 990).getD [] = _; rw [AM.get_990]; rfl
  have hT : (oneD (f ++ t) [] cap false starts fails left keep).truncate 990 ((f.length : Nat) : Int) = if (oneD (f ++ t) [] cap false starts fails left keep).sinks = true then (61, (oneD (f ++ t) [] cap false starts fails left keep).sunk) else (0, (oneD (f ++ t) [] cap false starts fails left keep).tick.truncated 990 f.length) := by
    unfold DiskM.truncate
    rw [if_neg (by simp [h0]), if_neg (by rw [hg, List.length_append]; omega)]
    rfl
  rw [hT]
  have htr : ∀ left', (oneD (f ++ t) [] cap false starts fails left' keep).truncated 990 f.length = oneD f [] cap false starts fails left' keep := by
    intro left'
    unfold DiskM.truncated oneD
    simp [AM.get_990, AM.set_990, DiskM.dropL]
  cases fails
  · left
    have hs : (oneD (f ++ t) [] cap false starts false left keep).sinks = false := by simp [DiskM.sinks, oneD]
    have hk : (oneD (f ++ t) [] cap false starts false left keep).tick = oneD (f ++ t) [] cap false starts false left keep := by simp [DiskM.tick, oneD]
    rw [if_neg (by simp [hs]), hk]
    exact ⟨left, by rw [htr], fun h => by cases h⟩
  · have hl := hl rfl
    by_cases h1 : left < 1
    · right
      have hs : (oneD (f ++ t) [] cap false starts true left keep).sinks = true := by simp [DiskM.sinks, oneD, h1]
      have e : (oneD (f ++ t) [] cap false starts true left keep).sunk = oneD (f ++ t) [] cap true starts false (left - 1) keep := by
        unfold DiskM.sunk
        have : (oneD (f ++ t) [] cap false starts true left keep).tick = oneD (f ++ t) [] cap false starts true (left - 1) keep := by simp [DiskM.tick, oneD]
        rw [this, oneD_crash]
      rw [if_pos hs, e]
      exact ⟨rfl, _, rfl⟩
    · left
      have hs : (oneD (f ++ t) [] cap false starts true left keep).sinks = false := by simp [DiskM.sinks, oneD, h1]
      have hk : (oneD (f ++ t) [] cap false starts true left keep).tick = oneD (f ++ t) [] cap false starts true (left - 1) keep := by simp [DiskM.tick, oneD]
      rw [if_neg (by simp [hs]), hk]
      exact ⟨left - 1, by rw [htr], fun _ => by omega⟩
/-- Opening, of a file that has whole records and bytes behind them that are none. -/
theorem oneD_mend {l : List Hd} {t : By} (hw : wholeF (f ++ t) = (l.map recordF, t)) (hr : readH (l.map recordF) = some l) (hl : fails = true → 0 ≤ left) :
    (∃ left', (oneD (f ++ t) [] cap false starts fails left keep).mend = (0, l, oneD f [] cap false starts fails left' keep) ∧ (fails = true → 0 ≤ left')) ∨
    (fails = true ∧ ∃ t' left' l', (t' = t ∨ t' = []) ∧ (oneD (f ++ t) [] cap false starts fails left keep).mend = (61, l', oneD (f ++ t') [] cap true starts false left' keep)) := by
  have hg : AM.get (oneD (f ++ t) [] cap false starts fails left keep).files 990 = some (f ++ t) := AM.get_990 _
  unfold DiskM.mend
  rw [hg]
  simp only [hw, hr]
  by_cases h0 : t.length = 0
  · have ht : t = [] := List.eq_nil_of_length_eq_zero h0
    subst ht
    rw [if_pos h0, List.append_nil]
    rcases oneD_sync0 (f := f) (cap := cap) (starts := starts) (keep := keep) hl with ⟨left', h1, h2⟩ | ⟨h1, left', h2⟩
    · exact Or.inl ⟨left', by rw [h1], h2⟩
    · exact Or.inr ⟨h1, [], left', l, Or.inl rfl, by rw [h2, List.append_nil]⟩
  · rw [if_neg h0, List.length_append, Nat.add_sub_cancel]
    rcases oneD_truncate (f := f) (t := t) (cap := cap) (starts := starts) (keep := keep) hl with ⟨left', h1, h2⟩ | ⟨h1, left', h2⟩
    · rw [h1, if_neg (by simp)]
      rcases oneD_sync0 (f := f) (cap := cap) (starts := starts) (keep := keep) h2 with ⟨left2, h3, h4⟩ | ⟨h3, left2, h4⟩
      · exact Or.inl ⟨left2, by rw [h3], h4⟩
      · exact Or.inr ⟨h3, [], left2, l, Or.inr rfl, by rw [h4, List.append_nil]⟩
    · rw [h2, if_pos (show ¬ (61 : Int) = 0 by decide)]
      exact Or.inr ⟨h1, t, left', [], Or.inl rfl, rfl⟩
end
end Go.Proofs.YtaimokclhcfohaaDoor
