/- SegM SegP1 SegP2 SegP3 SegP4 SegP5 SegP6 SegLawM -/
import Derived.Test.YtlgeijbgkipliaaGreatDoorUSegmentsOpen29
import Derived.Test.YtlgeijbgkipliaaGreatDoorUSegmentsOpen16
set_option linter.unusedVariables false
set_option linter.unusedSimpArgs false
namespace Go.Proofs.YtlgeijbgkipliaaGreatDoor
theorem framesF_nil : framesF [] = [] := rfl
theorem framesF_cons (p : By) (r : List By) : framesF (p :: r) = frameF p ++ framesF r := by simp [framesF]
theorem framesF_append (a b : List By) : framesF (a ++ b) = framesF a ++ framesF b := by simp [framesF]
theorem cutF_eq {l p r : By} (h : cutF l = some (p, r)) : l = frameF p ++ r ∧ p.length ≤ 65536 := by
  unfold cutF at h
  split at h
  · cases h
  · split at h
    · cases h
    · split at h
      · rename_i h1 h2 h3
        cases h
        refine ⟨?_, by simp; omega⟩
        unfold frameF
        rw [h3, List.append_assoc, ← List.drop_drop, List.take_append_drop, List.take_append_drop]
      · cases h
def loadGo : Nat → By → List By
  | 0, _ => []
  | k + 1, t => match cutF t with
    | none => []
    | some x => if x.1.length ≤ 200 then x.1 :: loadGo k x.2 else []
theorem loadGo_none {k : Nat} {t : By} (h : cutF t = none) : loadGo k t = [] := by
  cases k with
  | zero => rfl
  | succ k => unfold loadGo; rw [h]
theorem loadGo_long {k : Nat} {t : By} {x : By × By} (h : cutF t = some x) (hx : ¬ x.1.length ≤ 200) : loadGo k t = [] := by
  cases k with
  | zero => rfl
  | succ k => unfold loadGo; rw [h]; simp only; rw [if_neg hx]
theorem loadGo_some {k : Nat} {t : By} {x : By × By} (h : cutF t = some x) (hx : x.1.length ≤ 200) : loadGo (k + 1) t = x.1 :: loadGo k x.2 := by
  conv => lhs; unfold loadGo
  rw [h]; simp only; rw [if_pos hx]
def fileE (b : By) : List By := loadGo 64 b
theorem loadGo_len (k : Nat) (t : By) : (loadGo k t).length ≤ k := by
  induction k generalizing t with
  | zero => simp [loadGo]
  | succ k ih =>
    unfold loadGo
    split
    · simp
    · split
      · have := ih ‹By × By›.2; simp; omega
      · simp
theorem loadGo_short (k : Nat) (t : By) : ∀ p ∈ loadGo k t, p.length ≤ 200 := by
  induction k generalizing t with
  | zero => simp [loadGo]
  | succ k ih =>
    unfold loadGo
    split
    · simp
    · split
      · rename_i x _ hx
        intro p hp
        rcases List.mem_cons.1 hp with rfl | hp
        · exact hx
        · exact ih _ p hp
      · simp
theorem fileE_len (b : By) : (fileE b).length ≤ 64 := loadGo_len 64 b
theorem fileE_short (b : By) : ∀ p ∈ fileE b, p.length ≤ 200 := loadGo_short 64 b
theorem loadGo_ahead (k : Nat) (t : By) : ∃ r, t = framesF (loadGo k t) ++ r := by
  induction k generalizing t with
  | zero => exact ⟨t, rfl⟩
  | succ k ih =>
    match hc : cutF t with
    | none => exact ⟨t, by rw [loadGo_none hc]; rfl⟩
    | some x =>
      by_cases hx : x.1.length ≤ 200
      · obtain ⟨r, hr⟩ := ih x.2
        refine ⟨r, ?_⟩
        rw [loadGo_some hc hx, framesF_cons, List.append_assoc, ← hr]
        exact (cutF_eq hc).1
      · exact ⟨t, by rw [loadGo_long hc hx]; rfl⟩
theorem fileE_ahead (b : By) : ∃ r, b = framesF (fileE b) ++ r := loadGo_ahead 64 b
theorem fileE_le (b : By) : (framesF (fileE b)).length ≤ b.length := by
  obtain ⟨r, hr⟩ := fileE_ahead b
  conv => rhs; rw [hr]
  rw [List.length_append]
  omega
theorem loadGo_frames (k : Nat) (ps : List By) (hp : ∀ p ∈ ps, p.length ≤ 200) (t : By) (ht : cutF t = none) : loadGo k (framesF ps ++ t) = ps.take k := by
  induction k generalizing ps with
  | zero => simp [loadGo]
  | succ k ih =>
    cases ps with
    | nil => rw [framesF_nil, List.nil_append, loadGo_none ht]; simp
    | cons p r =>
      have h200 := hp p (by simp)
      have e : framesF (p :: r) ++ t = frameF p ++ (framesF r ++ t) := by simp [framesF]
      rw [e, loadGo_some (cutF_frame p _ (by omega)) h200, ih r (fun q hq => hp q (by simp [hq]))]
      simp
theorem fileE_frames (ps : List By) (hp : ∀ p ∈ ps, p.length ≤ 200) (h64 : ps.length ≤ 64) (t : By) (ht : cutF t = none) : fileE (framesF ps ++ t) = ps := by
  unfold fileE
  rw [loadGo_frames 64 ps hp t ht, List.take_of_length_le h64]
theorem fileE_whole (ps : List By) (hp : ∀ p ∈ ps, p.length ≤ 200) (h64 : ps.length ≤ 64) : fileE (framesF ps) = ps := by
  have := fileE_frames ps hp h64 [] cutF_nil
  rwa [List.append_nil] at this
def endsG : Nat → Nat → List By → List Nat
  | _, _, [] => []
  | c, a, p :: r => ((if c % 64 = 0 then 0 else a) + 12 + p.length) :: endsG (c + 1) ((if c % 64 = 0 then 0 else a) + 12 + p.length) r
theorem endsG_len (c a : Nat) (l : List By) : (endsG c a l).length = l.length := by
  induction l generalizing c a with
  | nil => rfl
  | cons p r ih => simp [endsG, ih]
def endG : Nat → Nat → List By → Nat
  | _, a, [] => a
  | c, a, p :: r => endG (c + 1) ((if c % 64 = 0 then 0 else a) + 12 + p.length) r
theorem endsG_append (c a : Nat) (l m : List By) : endsG c a (l ++ m) = endsG c a l ++ endsG (c + l.length) (endG c a l) m := by
  induction l generalizing c a with
  | nil => simp [endsG, endG]
  | cons p r ih =>
    simp only [List.cons_append, endsG, endG, ih, List.length_cons]
    rw [show c + 1 + r.length = c + (r.length + 1) by omega]
theorem endG_append (c a : Nat) (l m : List By) : endG c a (l ++ m) = endG (c + l.length) (endG c a l) m := by
  induction l generalizing c a with
  | nil => simp [endG]
  | cons p r ih =>
    simp only [List.cons_append, endG, ih, List.length_cons]
    rw [show c + 1 + r.length = c + (r.length + 1) by omega]
theorem endsG_last (c a : Nat) (l : List By) : ∀ i, i + 1 = l.length → (endsG c a l)[i]? = some (endG c a l) := by
  induction l generalizing c a with
  | nil => intro i hi; simp at hi
  | cons p r ih =>
    intro i hi
    cases r with
    | nil =>
      simp at hi
      subst hi
      rfl
    | cons q r =>
      obtain ⟨j, rfl⟩ : ∃ j, i = j + 1 := ⟨i - 1, by simp at hi; omega⟩
      have := ih (c + 1) ((if c % 64 = 0 then 0 else a) + 12 + p.length) j (by simpa using hi)
      simpa [endsG, endG] using this
theorem frames_len_cons (p : By) (r : List By) : (framesF (p :: r)).length = 12 + p.length + (framesF r).length := by
  rw [framesF_cons, List.length_append, frameF_len]
theorem endG_file (c a : Nat) (l : List By) (h : c % 64 + l.length ≤ 64) : endG c a l = (if c % 64 = 0 ∧ l ≠ [] then 0 else a) + (framesF l).length := by
  induction l generalizing c a with
  | nil => simp [endG, framesF]
  | cons p r ih =>
    simp only [endG, frames_len_cons]
    cases r with
    | nil =>
      simp only [endG, framesF_nil, List.length_nil]
      by_cases hc : c % 64 = 0 <;> simp [hc] <;> omega
    | cons q r =>
      rw [ih (c + 1) _ (by simp at h ⊢; omega)]
      have h2 : ¬ ((c + 1) % 64 = 0) := by simp at h; omega
      rw [if_neg (fun e => h2 e.1)]
      by_cases hc : c % 64 = 0 <;> simp [hc] <;> omega
def endsE (l : List By) : List Nat := endsG 0 0 l
theorem endsE_len (l : List By) : (endsE l).length = l.length := endsG_len 0 0 l
def tailF (E : List By) (n : Nat) : By := framesF ((E.take n).drop (64 * (n / 64)))
theorem endG_all (l : List By) (h : l.length % 64 ≠ 0) : endG 0 0 l = (framesF (l.drop (64 * (l.length / 64)))).length := by
  have e : l = l.take (64 * (l.length / 64)) ++ l.drop (64 * (l.length / 64)) := (List.take_append_drop _ _).symm
  have hl : (l.take (64 * (l.length / 64))).length = 64 * (l.length / 64) := by rw [List.length_take]; omega
  have hd : (l.drop (64 * (l.length / 64))).length = l.length % 64 := by rw [List.length_drop]; omega
  have hne : l.drop (64 * (l.length / 64)) ≠ [] := by
    intro q
    rw [q] at hd
    simp at hd
    omega
  conv => lhs; rw [e]
  rw [endG_append, hl, endG_file _ _ _ (by rw [hd]; omega), if_pos ⟨by omega, hne⟩, Nat.zero_add]
theorem endsE_at (E : List By) (n : Nat) (h : n ≤ E.length) (h0 : n % 64 ≠ 0) : (endsE E)[n - 1]? = some (tailF E n).length := by
  have hn : (E.take n).length = n := by rw [List.length_take]; omega
  have e : E = E.take n ++ E.drop n := (List.take_append_drop _ _).symm
  have h1 : (endsE E)[n - 1]? = (endsE (E.take n))[n - 1]? := by
    conv => lhs; rw [e]
    unfold endsE
    rw [endsG_append, List.getElem?_append_left (by rw [endsG_len, hn]; omega)]
  rw [h1]
  unfold endsE tailF
  rw [endsG_last 0 0 _ (n - 1) (by omega), endG_all _ (by rw [hn]; exact h0), hn]
theorem endsE_take (E : List By) (n : Nat) : (endsE E).take n = endsE (E.take n) := by
  rcases Nat.lt_or_ge E.length n with h | h
  · rw [List.take_of_length_le (by rw [endsE_len]; omega), List.take_of_length_le (by omega)]
  · have e : E = E.take n ++ E.drop n := (List.take_append_drop _ _).symm
    conv => lhs; rw [e]
    unfold endsE
    rw [endsG_append, List.take_append_of_le_length (by rw [endsG_len, List.length_take]; omega), List.take_of_length_le (by rw [endsG_len, List.length_take]; omega)]
theorem endsE_file (E l : List By) (h : E.length % 64 = 0) : endsE (E ++ l) = endsE E ++ endsE l := by
  unfold endsE
  rw [endsG_append]
  congr 1
  rw [Nat.zero_add]
  generalize endG 0 0 E = a
  have key : ∀ (l : List By) (c d a : Nat), c % 64 = d % 64 → endsG c a l = endsG d a l := by
    intro l
    induction l with
    | nil => intros; rfl
    | cons p r ih =>
      intro c d a hcd
      simp only [endsG, hcd]
      rw [ih (c + 1) (d + 1) _ (by omega)]
  rw [key l E.length 0 a (by omega)]
  cases l with
  | nil => rfl
  | cons p r => simp [endsG]
inductive Chg where
  | del (n : Int)
  | cut (n : Int) (size : Int)
  | make (n : Int)
  | app (n : Int) (b : By)
  | sync
def Chg.run (c : Chg) (M : DiskM) : Int × DiskM := match c with
  | .del n => M.delete n
  | .cut n size => M.truncate n size
  | .make n => M.create n
  | .app n b => M.append n b
  | .sync => M.sync
def runAll : List Chg → DiskM → Int × DiskM
  | [], M => (0, M)
  | c :: r, M => if (c.run M).1 = 0 then runAll r (c.run M).2 else c.run M
theorem runAll_cons_ok {c : Chg} {r : List Chg} {M : DiskM} (h : (c.run M).1 = 0) : runAll (c :: r) M = runAll r (c.run M).2 := by simp [runAll, h]
theorem runAll_cons_no {c : Chg} {r : List Chg} {M : DiskM} (h : (c.run M).1 ≠ 0) : runAll (c :: r) M = c.run M := by simp [runAll, h]
theorem runAll_append (a b : List Chg) (M : DiskM) : runAll (a ++ b) M = if (runAll a M).1 = 0 then runAll b (runAll a M).2 else runAll a M := by
  induction a generalizing M with
  | nil => simp [runAll]
  | cons c r ih =>
    by_cases h : (c.run M).1 = 0
    · rw [List.cons_append, runAll_cons_ok h, runAll_cons_ok h, ih]
    · rw [List.cons_append, runAll_cons_no h, runAll_cons_no h, if_neg h]
def dropC (M : DiskM) (from_ : Int) : List Chg := ((M.files.map (·.1)).reverse.filter fun n => decide (from_ ≤ n)).map .del
def segFiles (M : DiskM) : Nat → Nat → List By
  | 0, _ => []
  | f + 1, i => match AM.get M.files (1000 + (i : Int)) with
    | none => []
    | some b => b :: if (fileE b).length = 64 then segFiles M f (i + 1) else []
def segE (l : List By) : List By := l.flatMap fileE
def tornC : Nat → List By → List Chg
  | _, [] => []
  | i, b :: r => (if (framesF (fileE b)).length < b.length then [.cut (1000 + (i : Int)) ((framesF (fileE b)).length : Nat)] else []) ++ tornC (i + 1) r
theorem tornC_append (i : Nat) (l m : List By) : tornC i (l ++ m) = tornC i l ++ tornC (i + l.length) m := by
  induction l generalizing i with
  | nil => simp [tornC]
  | cons b r ih => simp only [List.cons_append, tornC, ih, List.length_cons, List.append_assoc]; rw [show i + 1 + r.length = i + (r.length + 1) by omega]
def DiskM.openC (M : DiskM) : List Chg := dropC M (1000 + ((segFiles M 64 0).length : Nat)) ++ tornC 0 (segFiles M 64 0) ++ [.sync]
def DiskM.openS (M : DiskM) : Int × List By × DiskM := if M.down = true then (61, [], M) else ((runAll M.openC M).1, if (runAll M.openC M).1 = 0 then segE (segFiles M 64 0) else [], (runAll M.openC M).2)
def planC (has : Int → Bool) (at_ : Nat) (l : List By) : List Chg :=
  if h : l = [] then [] else
    (if has (1000 + (at_ / 64 : Nat)) = true then [] else [.make (1000 + (at_ / 64 : Nat))]) ++ .app (1000 + (at_ / 64 : Nat)) (framesF (l.take (min (64 - at_ % 64) l.length))) :: planC has (at_ + min (64 - at_ % 64) l.length) (l.drop (min (64 - at_ % 64) l.length))
termination_by l.length
decreasing_by
  have : 0 < l.length := List.length_pos_iff.2 h
  rw [List.length_drop]
  omega
theorem planC_nil (has : Int → Bool) (at_ : Nat) : planC has at_ [] = [] := by unfold planC; simp
theorem planC_step (has : Int → Bool) (at_ : Nat) {l : List By} (h : l ≠ []) : planC has at_ l =
    (if has (1000 + (at_ / 64 : Nat)) = true then [] else [.make (1000 + (at_ / 64 : Nat))]) ++ .app (1000 + (at_ / 64 : Nat)) (framesF (l.take (min (64 - at_ % 64) l.length))) :: planC has (at_ + min (64 - at_ % 64) l.length) (l.drop (min (64 - at_ % 64) l.length)) := by
  conv => lhs; unfold planC
  rw [dif_neg h]
def makes : List Chg → Nat
  | [] => 0
  | .make _ :: r => makes r + 1
  | _ :: r => makes r
theorem makes_append (a b : List Chg) : makes (a ++ b) = makes a + makes b := by
  induction a with
  | nil => simp [makes]
  | cons c r ih => cases c <;> simp only [List.cons_append, makes, ih] <;> omega
structure SegM where
  entries : List By
  starts : Int
  dead : Bool
def SegM.over (S : SegM) (M : DiskM) : Bool := S.dead || M.down || decide (M.starts ≠ S.starts)
def SegM.append (S : SegM) (M : DiskM) (l : List By) : Int × SegM × DiskM :=
  if S.over M = true then (61, { S with dead := true }, M)
  else if l = [] then (0, S, M)
  else if (l.any fun p => decide (200 < p.length)) = true then (3, S, M)
  else if 4096 - S.entries.length < l.length then (60, S, M)
  else if M.cap - M.total < ((framesF l).length : Nat) ∨ 100 < M.files.length + makes (planC (fun n => (AM.get M.files n).isSome) S.entries.length l) then (60, S, M)
  else ((runAll (planC (fun n => (AM.get M.files n).isSome) S.entries.length l ++ [.sync]) M).1,
    { S with entries := if (runAll (planC (fun n => (AM.get M.files n).isSome) S.entries.length l ++ [.sync]) M).1 = 0 then S.entries ++ l else S.entries, dead := decide ((runAll (planC (fun n => (AM.get M.files n).isSome) S.entries.length l ++ [.sync]) M).1 = 61) },
    (runAll (planC (fun n => (AM.get M.files n).isSome) S.entries.length l ++ [.sync]) M).2)
def SegM.cutC (S : SegM) (M : DiskM) (n : Nat) : List Chg := dropC M (1000 + ((n + 63) / 64 : Nat)) ++ (if n % 64 = 0 then [] else [.cut (1000 + (n / 64 : Nat)) ((tailF S.entries n).length : Nat)]) ++ [.sync]
def SegM.cut (S : SegM) (M : DiskM) (n : Int) : Int × SegM × DiskM :=
  if S.over M = true then (61, { S with dead := true }, M)
  else if n < 0 ∨ (S.entries.length : Int) < n then (2, S, M)
  else ((runAll (S.cutC M n.toNat) M).1,
    { S with entries := if (runAll (S.cutC M n.toNat) M).1 = 0 then S.entries.take n.toNat else S.entries, dead := decide ((runAll (S.cutC M n.toNat) M).1 = 61) },
    (runAll (S.cutC M n.toNat) M).2)
end Go.Proofs.YtlgeijbgkipliaaGreatDoor

namespace Go.Proofs.YtlgeijbgkipliaaGreatDoor
def chunkF (E : List By) (i : Nat) : By := framesF ((E.drop (64 * i)).take 64)
def restE (E : List By) : List By := E.drop (64 * (E.length / 64))
structure Laid (F : List (Int × By)) (E : List By) (t : Option By) : Prop where
  rise : AM.Rise F
  keys : ∀ n, (AM.get F n).isSome = true → 1000 ≤ n ∧ n < 1100
  full : ∀ i : Nat, 64 * i + 64 ≤ E.length → AM.get F (1000 + (i : Int)) = some (chunkF E i)
  last : AM.get F (1000 + ((E.length / 64 : Nat) : Int)) = t.map (framesF (restE E) ++ ·)
  none_ : t = none → E.length % 64 = 0
  bad : ∀ u, t = some u → cutF u = none
  short : ∀ p ∈ E, p.length ≤ 200
  few : E.length ≤ 4096
def Mess (F : List (Int × By)) (E : List By) : Prop := ∃ t, Laid F E t
def High (F : List (Int × By)) (E : List By) : Prop := ∀ i : Nat, E.length / 64 < i → AM.get F (1000 + (i : Int)) = none
def Tidy (F : List (Int × By)) (E : List By) : Prop := ∃ t, Laid F E t ∧ (t = none ∨ t = some []) ∧ High F E
def Exact (F : List (Int × By)) (E : List By) : Prop := Tidy F E ∧ (E.length % 64 = 0 → AM.get F (1000 + ((E.length / 64 : Nat) : Int)) = none)
theorem Tidy.mess {F : List (Int × By)} {E : List By} (h : Tidy F E) : Mess F E := by obtain ⟨t, h, _⟩ := h; exact ⟨t, h⟩
section
variable {F : List (Int × By)} {E : List By} {t : Option By}
theorem restE_len (E : List By) : (restE E).length = E.length % 64 := by unfold restE; rw [List.length_drop]; omega
theorem restE_mem {p : By} (h : p ∈ restE E) : p ∈ E := List.mem_of_mem_drop h
theorem take64_mem {p : By} {i : Nat} (h : p ∈ (E.drop (64 * i)).take 64) : p ∈ E := List.mem_of_mem_drop (List.mem_of_mem_take h)
theorem chunk_len {i : Nat} (h : 64 * i + 64 ≤ E.length) : ((E.drop (64 * i)).take 64).length = 64 := by rw [List.length_take, List.length_drop]; omega
theorem fileE_chunk (hs : ∀ p ∈ E, p.length ≤ 200) (i : Nat) : fileE (chunkF E i) = (E.drop (64 * i)).take 64 :=
  fileE_whole _ (fun p hp => hs p (take64_mem hp)) (by rw [List.length_take]; omega)
theorem Laid.fileLast (h : Laid F E t) {u : By} (hu : t = some u) : fileE (framesF (restE E) ++ u) = restE E :=
  fileE_frames _ (fun p hp => h.short p (restE_mem hp)) (by rw [restE_len]; omega) u (h.bad u hu)
theorem Laid.read (h : Laid F E t) {M : DiskM} (hM : M.files = F) : ∀ f i, i + f = 64 → i ≤ E.length / 64 →
    segFiles M f i = (List.range' i (E.length / 64 - i)).map (chunkF E) ++ (if E.length / 64 < 64 then (t.map (framesF (restE E) ++ ·)).toList else []) := by
  intro f
  induction f with
  | zero =>
    intro i hi hk
    have hf := h.few
    have : E.length / 64 = 64 := by omega
    obtain rfl : i = 64 := by omega
    simp [segFiles, this]
  | succ f ih =>
    intro i hi hk
    have hf := h.few
    unfold segFiles
    rw [hM]
    by_cases hlt : i < E.length / 64
    · have hfull := h.full i (by omega)
      rw [hfull]
      simp only
      rw [if_pos (by rw [fileE_chunk h.short, chunk_len (by omega)]), ih (i + 1) (by omega) (by omega)]
      rw [show E.length / 64 - i = (E.length / 64 - (i + 1)) + 1 by omega, List.range'_succ, List.map_cons, List.cons_append]
    · obtain rfl : i = E.length / 64 := by omega
      rw [h.last]
      have h64 : E.length / 64 < 64 := by omega
      rw [if_pos h64, Nat.sub_self]
      cases t with
      | none => simp
      | some u =>
        simp only [Option.map_some, List.range'_zero, List.map_nil, List.nil_append, Option.toList_some]
        rw [if_neg (by rw [h.fileLast rfl, restE_len]; omega)]
theorem range_chunks (E : List By) (k : Nat) : ∀ i, i ≤ k → 64 * k ≤ E.length → ((List.range' i (k - i)).flatMap fun j => (E.drop (64 * j)).take 64) = (E.drop (64 * i)).take (64 * (k - i)) := by
  intro i hi hk
  obtain ⟨n, rfl⟩ : ∃ n, k = i + n := ⟨k - i, by omega⟩
  clear hi
  rw [Nat.add_sub_cancel_left]
  induction n generalizing i with
  | zero => simp
  | succ n ih =>
    rw [List.range'_succ, List.flatMap_cons, ih (i + 1) (by omega)]
    have e : E.drop (64 * (i + 1)) = (E.drop (64 * i)).drop 64 := by rw [List.drop_drop]; congr 1
    rw [e, show 64 * (n + 1) = 64 + 64 * n by omega, List.take_add]
theorem Laid.entries (h : Laid F E t) {M : DiskM} (hM : M.files = F) : segE (segFiles M 64 0) = E := by
  rw [h.read hM 64 0 rfl (Nat.zero_le _), segE, List.flatMap_append, Nat.sub_zero, List.flatMap_map]
  have e1 : (List.range' 0 (E.length / 64)).flatMap (fun j => fileE (chunkF E j)) = (List.range' 0 (E.length / 64)).flatMap fun j => (E.drop (64 * j)).take 64 := by
    congr 1
    funext j
    exact fileE_chunk h.short j
  have e2 := range_chunks E (E.length / 64) 0 (Nat.zero_le _) (by omega)
  rw [Nat.sub_zero, Nat.mul_zero, List.drop_zero] at e2
  rw [e1, e2]
  have hf := h.few
  have hrest : (if E.length / 64 < 64 then (t.map (framesF (restE E) ++ ·)).toList else []).flatMap fileE = E.drop (64 * (E.length / 64)) := by
    split
    · cases t with
      | none =>
        have := h.none_ rfl
        simp
        omega
      | some u =>
        simp only [Option.map_some, Option.toList_some, List.flatMap_cons, List.flatMap_nil, List.append_nil]
        exact h.fileLast rfl
    · have : 64 * (E.length / 64) ≥ E.length := by omega
      simp [List.drop_eq_nil_of_le this]
  rw [hrest, List.take_append_drop]
theorem Laid.count (h : Laid F E t) {M : DiskM} (hM : M.files = F) : (segFiles M 64 0).length = E.length / 64 + if t.isSome = true ∧ E.length / 64 < 64 then 1 else 0 := by
  rw [h.read hM 64 0 rfl (Nat.zero_le _), List.length_append, List.length_map, List.length_range', Nat.sub_zero]
  congr 1
  by_cases h64 : E.length / 64 < 64
  · rw [if_pos h64]
    cases t <;> simp [h64]
  · rw [if_neg h64, if_neg (by simp [h64])]
    rfl
theorem tornC_full (hs : ∀ p ∈ E, p.length ≤ 200) : ∀ (n i : Nat), tornC i ((List.range' i n).map (chunkF E)) = [] := by
  intro n
  induction n with
  | zero => intro i; rfl
  | succ n ih =>
    intro i
    rw [List.range'_succ, List.map_cons]
    unfold tornC
    rw [fileE_chunk hs, if_neg (by unfold chunkF; omega), ih (i + 1)]
    rfl
theorem Laid.torn (h : Laid F E t) {M : DiskM} (hM : M.files = F) : tornC 0 (segFiles M 64 0) = match t with
    | none => []
    | some u => if E.length / 64 < 64 ∧ u ≠ [] then [.cut (1000 + ((E.length / 64 : Nat) : Int)) ((framesF (restE E)).length : Nat)] else [] := by
  rw [h.read hM 64 0 rfl (Nat.zero_le _), tornC_append, Nat.sub_zero, tornC_full h.short, List.nil_append, List.length_map, List.length_range', Nat.zero_add]
  cases t with
  | none => simp [tornC]
  | some u =>
    by_cases h64 : E.length / 64 < 64
    · simp only [h64, if_true, Option.map_some, Option.toList_some, tornC, true_and, List.append_nil]
      rw [h.fileLast rfl, List.length_append]
      by_cases hu : u = []
      · subst hu
        simp
      · have : 0 < u.length := List.length_pos_iff.2 hu
        rw [if_pos (by omega), if_pos hu]
    · simp [h64, tornC]
end
end Go.Proofs.YtlgeijbgkipliaaGreatDoor

namespace Go.Proofs.YtlgeijbgkipliaaGreatDoor
structure UpF (M : DiskM) (F : List (Int × By)) (cap st : Int) (fl : Bool) : Prop where
  ok : M.Ok
  live : M.Live
  up : M.down = false
  files : M.files = F
  loose : M.loose = []
  cap : M.cap = cap
  starts : M.starts = st
  fails : M.fails = fl
structure DnF (M : DiskM) (F : List (Int × By)) (cap st : Int) : Prop where
  ok : M.Ok
  down : M.down = true
  files : M.files = F
  loose : M.loose = []
  cap : M.cap = cap
  starts : M.starts = st
  fails : M.fails = false
section
variable {M : DiskM} {F F' : List (Int × By)} {cap st : Int} {fl : Bool}
theorem crash_none (M : DiskM) (keep : Int) (hl : M.loose = []) : (M.crash keep).files = M.files := by
  show DiskM.crashed M.files (DiskM.gone M.loose keep) = M.files
  rw [hl]
  rfl
theorem tick_cap (M : DiskM) : M.tick.cap = M.cap := by unfold DiskM.tick; split <;> rfl
theorem tick_starts (M : DiskM) : M.tick.starts = M.starts := by unfold DiskM.tick; split <;> rfl
theorem tick_fails (M : DiskM) : M.tick.fails = M.fails := by unfold DiskM.tick; split <;> rfl
theorem UpF.sunk (h : UpF M F cap st fl) : DnF M.sunk F cap st :=
  ⟨(h.ok.tick h.live).crash _, rfl, by show (M.tick.crash M.keep).files = F; rw [crash_none _ _ (by rw [DiskM.tick_loose]; exact h.loose), DiskM.tick_files]; exact h.files, rfl, by show M.tick.cap = cap; rw [tick_cap]; exact h.cap, by show M.tick.starts = st; rw [tick_starts]; exact h.starts, rfl⟩
theorem UpF.tick (h : UpF M F cap st fl) (hs : M.sinks = false) : UpF M.tick F cap st fl :=
  ⟨h.ok.tick h.live, DiskM.Live.tick h.live hs, by rw [DiskM.tick_down]; exact h.up, by rw [DiskM.tick_files]; exact h.files, by rw [DiskM.tick_loose]; exact h.loose, by rw [tick_cap]; exact h.cap, by rw [tick_starts]; exact h.starts, by rw [tick_fails]; exact h.fails⟩
theorem UpF.sinks_fails (h : UpF M F cap st fl) (hs : M.sinks = true) : fl = true := by
  rw [← h.fails]
  unfold DiskM.sinks at hs
  simp at hs
  exact hs.1
def StepTo (r : Int × DiskM) (F F' : List (Int × By)) (cap st : Int) (fl : Bool) : Prop :=
  (r.1 = 0 ∧ UpF r.2 F' cap st fl) ∨ (r.1 = 61 ∧ fl = true ∧ DnF r.2 F cap st)
theorem UpF.has (h : UpF M F cap st fl) {n : Int} {b : By} (hb : AM.get F n = some b) : M.has n = 0 := by
  unfold DiskM.has
  rw [h.up, h.files, hb]
  rfl
theorem UpF.delete (h : UpF M F cap st fl) {n : Int} {b : By} (hb : AM.get F n = some b) : StepTo (M.delete n) F (AM.del F n) cap st fl := by
  unfold DiskM.delete
  rw [if_neg (by rw [h.has hb]; simp)]
  cases hs : M.sinks
  · rw [if_neg (by simp)]
    have ht := h.tick hs
    refine Or.inl ⟨rfl, ?_⟩
    have hb2 : AM.get M.tick.files n = some b := by rw [ht.files]; exact hb
    exact ⟨ht.ok.deleted hb2, ht.live, ht.up, by show AM.del M.tick.files n = _; rw [ht.files], by show DiskM.dropL n M.tick.loose 0 = []; rw [ht.loose]; rfl, ht.cap, ht.starts, ht.fails⟩
  · rw [if_pos rfl]
    exact Or.inr ⟨rfl, h.sinks_fails hs, h.sunk⟩
theorem UpF.truncate (h : UpF M F cap st fl) {n : Int} {b : By} (hb : AM.get F n = some b) (size : Nat) (hz : size ≤ b.length) : StepTo (M.truncate n (size : Int)) F (AM.set F n (b.take size)) cap st fl := by
  unfold DiskM.truncate
  have e : (AM.get M.files n).getD [] = b := by rw [h.files, hb]; rfl
  rw [if_neg (by rw [h.has hb]; simp), e, if_neg (by omega)]
  cases hs : M.sinks
  · rw [if_neg (by simp)]
    have ht := h.tick hs
    refine Or.inl ⟨rfl, ?_⟩
    have hb2 : AM.get M.tick.files n = some b := by rw [ht.files]; exact hb
    have e2 : (AM.get M.tick.files n).getD [] = b := by rw [hb2]; rfl
    refine ⟨ht.ok.truncated hb2 _ (by rw [Int.toNat_natCast]; exact hz), ht.live, ht.up, ?_, ?_, ht.cap, ht.starts, ht.fails⟩
    · show AM.set M.tick.files n (((AM.get M.tick.files n).getD []).take _) = _
      rw [e2, ht.files, Int.toNat_natCast]
    · show DiskM.dropL n M.tick.loose _ = []
      rw [ht.loose]; rfl
  · rw [if_pos rfl]
    exact Or.inr ⟨rfl, h.sinks_fails hs, h.sunk⟩
theorem UpF.sync (h : UpF M F cap st fl) : StepTo M.sync F F cap st fl := by
  unfold DiskM.sync
  rw [if_neg (by rw [h.up]; simp)]
  cases hs : M.sinks
  · rw [if_neg (by simp)]
    have ht := h.tick hs
    exact Or.inl ⟨rfl, ht.ok.noLoose, ht.live, ht.up, ht.files, rfl, ht.cap, ht.starts, ht.fails⟩
  · rw [if_pos rfl]
    exact Or.inr ⟨rfl, h.sinks_fails hs, h.sunk⟩
theorem fold_del_rise (ks : List Int) (h : AM.Rise F) : AM.Rise (ks.foldl AM.del F) := by
  induction ks generalizing F with
  | nil => exact h
  | cons k r ih => exact ih (AM.rise_del h k)
theorem fold_del_get (ks : List Int) (h : AM.Rise F) (n : Int) : AM.get (ks.foldl AM.del F) n = if n ∈ ks then none else AM.get F n := by
  induction ks generalizing F with
  | nil => simp
  | cons k r ih =>
    rw [List.foldl_cons, ih (AM.rise_del h k)]
    by_cases hk : n = k
    · subst hk
      rw [AM.get_del_same]
      simp
    · rw [AM.get_del_other h hk]
      simp [hk]
theorem del_total (h : AM.Rise F) (n : Int) : AM.sum List.length (AM.del F n) ≤ AM.sum List.length F := by
  cases hg : AM.get F n with
  | none => rw [AM.del_none hg]; omega
  | some b => have := AM.sum_del List.length h hg; omega
theorem fold_del_total (ks : List Int) (h : AM.Rise F) : AM.sum List.length (ks.foldl AM.del F) ≤ AM.sum List.length F := by
  induction ks generalizing F with
  | nil => exact Nat.le_refl _
  | cons k r ih => exact Nat.le_trans (ih (AM.rise_del h k)) (del_total h k)
theorem run_dels (ks : List Int) (h : UpF M F cap st fl) (hn : ks.Nodup) (hk : ∀ n ∈ ks, (AM.get F n).isSome = true) :
    ((runAll (ks.map .del) M).1 = 0 ∧ UpF (runAll (ks.map .del) M).2 (ks.foldl AM.del F) cap st fl) ∨
    ((runAll (ks.map .del) M).1 = 61 ∧ fl = true ∧ ∃ js : List Int, (∀ n ∈ js, n ∈ ks) ∧ DnF (runAll (ks.map .del) M).2 (js.foldl AM.del F) cap st) := by
  induction ks generalizing M F with
  | nil => exact Or.inl ⟨rfl, h⟩
  | cons k r ih =>
    obtain ⟨b, hb⟩ := Option.isSome_iff_exists.1 (hk k (by simp))
    have hF : AM.Rise F := by rw [← h.files]; exact h.ok.rise
    rw [List.map_cons]
    rcases h.delete hb with ⟨h0, hu⟩ | ⟨h0, hf, hd⟩
    · rw [runAll_cons_ok (c := .del k) h0]
      rcases ih hu (List.nodup_cons.1 hn).2 (fun n hn' => by rw [AM.get_del_other hF (fun e => (List.nodup_cons.1 hn).1 (by rw [← e]; exact hn'))]; exact hk n (by simp [hn'])) with q | ⟨q1, q2, js, q3, q4⟩
      · exact Or.inl q
      · refine Or.inr ⟨q1, q2, k :: js, fun n hn' => ?_, q4⟩
        rcases List.mem_cons.1 hn' with rfl | q
        · simp
        · simp [q3 n q]
    · rw [runAll_cons_no (c := .del k) (by show (M.delete k).1 ≠ 0; rw [h0]; decide)]
      exact Or.inr ⟨h0, hf, [], fun n hn' => (by cases hn'), hd⟩
def dropKs (F : List (Int × By)) (from_ : Int) : List Int := (F.map (·.1)).reverse.filter fun n => decide (from_ ≤ n)
theorem dropC_eq (M : DiskM) (from_ : Int) : dropC M from_ = (dropKs M.files from_).map .del := rfl
theorem dropKs_mem (h : AM.Rise F) {from_ n : Int} : n ∈ dropKs F from_ ↔ from_ ≤ n ∧ (AM.get F n).isSome = true := by
  unfold dropKs
  rw [List.mem_filter, List.mem_reverse, List.mem_map, decide_eq_true_eq, and_comm]
  constructor
  · rintro ⟨h1, p, hp, rfl⟩
    exact ⟨h1, by rw [(AM.get_some h (k := p.1) (v := p.2)).2 hp]; rfl⟩
  · rintro ⟨h1, h2⟩
    obtain ⟨b, hb⟩ := Option.isSome_iff_exists.1 h2
    exact ⟨h1, (n, b), (AM.get_some h).1 hb, rfl⟩
theorem dropKs_nodup (h : AM.Rise F) (from_ : Int) : (dropKs F from_).Nodup := by
  unfold dropKs
  have h2 : (F.map (·.1)).Nodup := by
    unfold AM.Rise at h
    exact List.Pairwise.imp (fun q => by omega) (List.pairwise_map.2 h)
  exact List.Pairwise.filter _ (List.pairwise_reverse.2 (h2.imp (fun q => fun e => q e.symm)))
theorem drop_get (h : AM.Rise F) (from_ n : Int) : AM.get ((dropKs F from_).foldl AM.del F) n = if from_ ≤ n then none else AM.get F n := by
  rw [fold_del_get _ h]
  by_cases hn : from_ ≤ n
  · rw [if_pos hn]
    split
    · rfl
    · rename_i q
      rw [dropKs_mem h] at q
      simpa [hn] using q
  · rw [if_neg hn, if_neg (fun q => hn (dropKs_mem h |>.1 q).1)]
end
section
variable {M : DiskM} {F F' : List (Int × By)} {cap st : Int} {fl : Bool} {E : List By} {t : Option By}
theorem set_total_le (h : AM.Rise F) {n : Int} {b : By} (hb : AM.get F n = some b) (s : Nat) : AM.sum List.length (AM.set F n (b.take s)) ≤ AM.sum List.length F :=
  AM.sum_set_le List.length h n _ (by rw [hb]; simp; omega)
end
end Go.Proofs.YtlgeijbgkipliaaGreatDoor

namespace Go.Proofs.YtlgeijbgkipliaaGreatDoor
theorem parse_take (ps : List By) (hp : ∀ p ∈ ps, p.length ≤ 200) : ∀ s, ∃ j u, j ≤ ps.length ∧ (framesF ps).take s = framesF (ps.take j) ++ u ∧ cutF u = none ∧ (j = ps.length → u = []) ∧ ((framesF ps).length ≤ s → j = ps.length) := by
  induction ps with
  | nil => intro s; exact ⟨0, [], by simp, by simp [framesF], cutF_nil, fun _ => rfl, fun _ => rfl⟩
  | cons p r ih =>
    intro s
    have hp0 := hp p (by simp)
    rw [framesF_cons]
    by_cases hs : s < (frameF p).length
    · refine ⟨0, (frameF p).take s, by simp, ?_, cutF_part p (by omega) s hs, fun q => by simp at q, fun q => ?_⟩
      · rw [List.take_append_of_le_length (by omega)]; simp [framesF]
      · rw [List.length_append] at q; omega
    · obtain ⟨j, u, h1, h2, h3, h4, h5⟩ := ih (fun q hq => hp q (by simp [hq])) (s - (frameF p).length)
      refine ⟨j + 1, u, by simp; omega, ?_, h3, fun q => h4 (by simpa using q), fun q => ?_⟩
      · rw [List.take_append, List.take_of_length_le (by omega), h2, List.take_succ_cons, framesF_cons, List.append_assoc]
      · rw [List.length_append] at q
        simp only [List.length_cons]
        rw [h5 (by omega)]
section
variable {F : List (Int × By)} {E ps : List By}
theorem restE_append (h : E.length % 64 + ps.length < 64) : restE (E ++ ps) = restE E ++ ps := by
  unfold restE
  have e : (E ++ ps).length / 64 = E.length / 64 := by rw [List.length_append]; omega
  rw [e, List.drop_append_of_le_length (by omega)]
theorem chunk_append {i : Nat} (h : 64 * i + 64 ≤ E.length) (ps : List By) : chunkF (E ++ ps) i = chunkF E i := by
  unfold chunkF
  rw [List.drop_append_of_le_length (by omega), List.take_append_of_le_length (by rw [List.length_drop]; omega)]
theorem chunk_last (h : E.length % 64 + ps.length = 64) : chunkF (E ++ ps) (E.length / 64) = framesF (restE E) ++ framesF ps := by
  unfold chunkF
  rw [List.drop_append_of_le_length (by omega), List.take_of_length_le (by rw [List.length_append, List.length_drop]; omega), framesF_append]
  rfl
theorem app_files (hT : Tidy F E) {b : By} (hb : AM.get F (1000 + ((E.length / 64 : Nat) : Int)) = some b) (hp : ∀ p ∈ ps, p.length ≤ 200) (h64 : E.length % 64 + ps.length ≤ 64) (hf : E.length + ps.length ≤ 4096) (hk : E.length / 64 < 64) (s : Nat) :
    ∃ j t, j ≤ ps.length ∧ Laid (AM.set F (1000 + ((E.length / 64 : Nat) : Int)) (b ++ (framesF ps).take s)) (E ++ ps.take j) t ∧ High (AM.set F (1000 + ((E.length / 64 : Nat) : Int)) (b ++ (framesF ps).take s)) (E ++ ps.take j) ∧
      ((framesF ps).length ≤ s → j = ps.length ∧ (t = none ∨ t = some []) ∧ ((E ++ ps).length % 64 = 0 → ps ≠ [] → t = none)) := by
  obtain ⟨t0, hL, ht0, hH⟩ := hT
  have hbe : b = framesF (restE E) := by
    have := hL.last
    rw [hb] at this
    rcases ht0 with rfl | rfl
    · cases this
    · simpa using this
  subst hbe
  obtain ⟨j, u, h1, h2, h3, h4, h5⟩ := parse_take ps hp s
  rw [h2]
  have hr := restE_len E
  have hlt : (ps.take j).length = j := by rw [List.length_take]; omega
  have hsh : ∀ p ∈ E ++ ps.take j, p.length ≤ 200 := by
    intro p q
    rcases List.mem_append.1 q with q | q
    · exact hL.short p q
    · exact hp p (List.mem_of_mem_take q)
  have hkeys : ∀ n, (AM.get (AM.set F (1000 + ((E.length / 64 : Nat) : Int)) (framesF (restE E) ++ (framesF (ps.take j) ++ u))) n).isSome = true → 1000 ≤ n ∧ n < 1100 := by
    intro n hn
    by_cases e : n = 1000 + ((E.length / 64 : Nat) : Int)
    · omega
    · rw [AM.get_set_other hL.rise _ e] at hn
      exact hL.keys n hn
  by_cases hj : E.length % 64 + j < 64
  · have hk2 : (E ++ ps.take j).length / 64 = E.length / 64 := by rw [List.length_append, hlt]; omega
    refine ⟨j, some u, h1, ⟨AM.rise_set hL.rise _ _, hkeys, fun i hi => ?_, ?_, fun q => (by cases q), fun v hv => ?_, hsh, by rw [List.length_append]; omega⟩, fun i hi => ?_, fun q => ⟨h5 q, Or.inr (by rw [h4 (h5 q)]), fun q2 q3 => ?_⟩⟩
    · rw [List.length_append, hlt] at hi
      rw [AM.get_set_other hL.rise _ (by omega), chunk_append (by omega)]
      exact hL.full i (by omega)
    · rw [hk2, AM.get_set_same hL.rise, restE_append (by rw [hlt]; exact hj), framesF_append]
      simp
    · cases hv; exact h3
    · rw [hk2] at hi
      rw [AM.get_set_other hL.rise _ (by omega)]
      exact hH i hi
    · rw [List.length_append] at q2
      have := h5 q
      have : 0 < ps.length := List.length_pos_iff.2 q3
      omega
  · have hj2 : j = ps.length := by omega
    have hu := h4 hj2
    subst hu
    have h64' : E.length % 64 + ps.length = 64 := by omega
    have hpj : ps.take j = ps := by rw [hj2, List.take_length]
    rw [hpj] at hkeys hsh ⊢
    have hk2 : (E ++ ps).length / 64 = E.length / 64 + 1 := by rw [List.length_append]; omega
    refine ⟨j, none, h1, ?_, fun i hi => ?_, fun q => ⟨hj2, Or.inl rfl, fun _ _ => rfl⟩⟩
    · rw [hpj]
      refine ⟨AM.rise_set hL.rise _ _, hkeys, fun i hi => ?_, ?_, fun _ => ?_, fun v hv => (by cases hv), hsh, by rw [List.length_append]; omega⟩
      · by_cases e : i = E.length / 64
        · subst e
          rw [AM.get_set_same hL.rise, chunk_last h64', List.append_nil]
        · rw [List.length_append] at hi
          rw [AM.get_set_other hL.rise _ (by omega), chunk_append (by omega)]
          exact hL.full i (by omega)
      · rw [hk2, AM.get_set_other hL.rise _ (by omega)]
        exact hH _ (by omega)
      · rw [List.length_append]; omega
    · rw [hpj, hk2] at hi
      rw [AM.get_set_other hL.rise _ (by omega)]
      exact hH i (by omega)
theorem make_tidy (hT : Tidy F E) (h0 : E.length % 64 = 0) (hk : E.length / 64 < 64) : Tidy (AM.set F (1000 + ((E.length / 64 : Nat) : Int)) []) E := by
  obtain ⟨t0, hL, ht0, hH⟩ := hT
  refine ⟨some [], ⟨AM.rise_set hL.rise _ _, fun n hn => ?_, fun i hi => ?_, ?_, fun q => (by cases q), fun v hv => ?_, hL.short, hL.few⟩, Or.inr rfl, fun i hi => ?_⟩
  · by_cases e : n = 1000 + ((E.length / 64 : Nat) : Int)
    · omega
    · rw [AM.get_set_other hL.rise _ e] at hn
      exact hL.keys n hn
  · rw [AM.get_set_other hL.rise _ (by omega)]
    exact hL.full i hi
  · rw [AM.get_set_same hL.rise]
    have : restE E = [] := List.eq_nil_of_length_eq_zero (by rw [restE_len]; exact h0)
    rw [this]
    rfl
  · cases hv; exact cutF_nil
  · rw [AM.get_set_other hL.rise _ (by omega)]
    exact hH i hi
theorem make_mess {E2 : List By} (hM : Mess F E2) (hle : E2.length ≤ E.length) (h0 : E.length % 64 = 0) (hk : E.length / 64 < 64) : Mess (AM.set F (1000 + ((E.length / 64 : Nat) : Int)) []) E2 := by
  obtain ⟨t0, hL⟩ := hM
  have hkeys : ∀ n, (AM.get (AM.set F (1000 + ((E.length / 64 : Nat) : Int)) []) n).isSome = true → 1000 ≤ n ∧ n < 1100 := by
    intro n hn
    by_cases e : n = 1000 + ((E.length / 64 : Nat) : Int)
    · omega
    · rw [AM.get_set_other hL.rise _ e] at hn
      exact hL.keys n hn
  by_cases e : E2.length / 64 = E.length / 64
  · refine ⟨some [], AM.rise_set hL.rise _ _, hkeys, fun i hi => ?_, ?_, fun q => (by cases q), fun v hv => ?_, hL.short, hL.few⟩
    · rw [AM.get_set_other hL.rise _ (by omega)]
      exact hL.full i hi
    · rw [e, AM.get_set_same hL.rise]
      have : restE E2 = [] := List.eq_nil_of_length_eq_zero (by rw [restE_len]; omega)
      rw [this]
      rfl
    · cases hv; exact cutF_nil
  · refine ⟨t0, AM.rise_set hL.rise _ _, hkeys, fun i hi => ?_, ?_, hL.none_, hL.bad, hL.short, hL.few⟩
    · rw [AM.get_set_other hL.rise _ (by omega)]
      exact hL.full i hi
    · rw [AM.get_set_other hL.rise _ (by omega)]
      exact hL.last
end
def restK (l : List (Int × Nat)) (keep : Int) : Int := (l.foldl DiskM.gstep (keep, [])).1
theorem gone_snoc (l : List (Int × Nat)) (n : Int) (s : Nat) (keep : Int) : DiskM.gone (l ++ [(n, s)]) keep = AM.set (DiskM.gone l keep) n ((AM.get (DiskM.gone l keep) n).getD 0 + (s - DiskM.stay (restK l keep) s)) := by
  unfold DiskM.gone restK
  rw [List.foldl_append]
  rfl
theorem fold_all (l : List (Int × Nat)) (st : Int × List (Int × Nat)) (hr : AM.Rise st.2) (h0 : (DiskM.looseAll l : Int) ≤ st.1) (hz : ∀ n, (AM.get st.2 n).getD 0 = 0) :
    (l.foldl DiskM.gstep st).1 = st.1 - (DiskM.looseAll l : Nat) ∧ ∀ n, (AM.get (l.foldl DiskM.gstep st).2 n).getD 0 = 0 := by
  induction l generalizing st with
  | nil => exact ⟨by simp [DiskM.looseAll], hz⟩
  | cons p r ih =>
    have e : DiskM.looseAll (p :: r) = p.2 + DiskM.looseAll r := by simp [DiskM.looseAll]
    rw [e] at h0 ⊢
    have hs : DiskM.stay st.1 p.2 = p.2 := by unfold DiskM.stay; omega
    have hg : DiskM.gstep st p = (st.1 - (p.2 : Nat), AM.set st.2 p.1 0) := by
      unfold DiskM.gstep
      rw [hs, hz]
      simp
    rw [List.foldl_cons, hg]
    obtain ⟨h1, h2⟩ := ih (st.1 - (p.2 : Nat), AM.set st.2 p.1 0) (AM.rise_set hr _ _) (by simp only; omega) (fun n => by
      by_cases q : n = p.1
      · subst q; rw [AM.get_set_same hr]; rfl
      · rw [AM.get_set_other hr _ q]; exact hz n)
    exact ⟨by rw [h1]; simp only; omega, h2⟩
theorem fold_part (l : List (Int × Nat)) (st : Int × List (Int × Nat)) (h : st.1 < (DiskM.looseAll l : Int) ∨ st.1 < 0) : (l.foldl DiskM.gstep st).1 ≤ 0 := by
  induction l generalizing st with
  | nil => simp [DiskM.looseAll] at h; show st.1 ≤ 0; omega
  | cons p r ih =>
    have e : DiskM.looseAll (p :: r) = p.2 + DiskM.looseAll r := by simp [DiskM.looseAll]
    rw [e] at h
    have e1 : (DiskM.gstep st p).1 = st.1 - (DiskM.stay st.1 p.2 : Nat) := rfl
    rw [List.foldl_cons]
    by_cases hn : st.1 < 0
    · exact ih _ (Or.inr (by rw [e1, DiskM.stay_neg hn]; simpa using hn))
    · by_cases hp : (p.2 : Int) ≤ st.1
      · exact ih _ (Or.inl (by rw [e1]; unfold DiskM.stay; omega))
      · have h0 : (DiskM.gstep st p).1 = 0 := by rw [e1]; unfold DiskM.stay; omega
        have := (DiskM.fold_keep r (DiskM.gstep st p)).2 (by omega)
        omega
section
variable {M : DiskM} {cap st : Int} {fl : Bool} {E l : List By}
theorem crash_get (M : DiskM) (h : AM.Rise M.files) (keep : Int) (k : Int) : AM.get (M.crash keep).files k = match AM.get (DiskM.gone M.loose keep) k with
    | some m => some (DiskM.cut M.files k m)
    | none => AM.get M.files k := DiskM.crashed_get h (DiskM.gone_rise _ _) k
theorem crash_rise (M : DiskM) (h : AM.Rise M.files) (keep : Int) : AM.Rise (M.crash keep).files := DiskM.crashed_rise h _
theorem crash_total (M : DiskM) (h : AM.Rise M.files) (keep : Int) : AM.sum List.length (M.crash keep).files ≤ AM.sum List.length M.files := by
  refine AM.sum_le_of_get List.length h (crash_rise M h keep) (fun k => ?_)
  rw [crash_get M h keep k]
  cases AM.get (DiskM.gone M.loose keep) k with
  | none => exact Nat.le_refl _
  | some m =>
    have := DiskM.cut_le M.files k m
    cases hg : AM.get M.files k with
    | none => rw [hg] at this; simpa using this
    | some b => rw [hg] at this; simpa using this
theorem crash_all (h : M.Ok) (hk : ∀ p ∈ M.loose, (AM.get M.files p.1).isSome = true) {n : Int} {b : By} (hb : AM.get M.files n = some b) (s : By) {keep : Int} (h0 : (DiskM.looseAll M.loose : Int) ≤ keep) :
    ((M.appended n s).crash keep).files = AM.set M.files n (b ++ s.take (DiskM.stay (keep - (DiskM.looseAll M.loose : Nat)) s.length)) := by
  have hr' : AM.Rise (M.appended n s).files := AM.rise_set h.rise _ _
  have hf := fold_all M.loose (keep, []) AM.rise_nil h0 (fun n => rfl)
  have hgr := DiskM.gone_rise M.loose keep
  have hgz : ∀ k, (AM.get (DiskM.gone M.loose keep) k).getD 0 = 0 := hf.2
  have hst := DiskM.stay_le (keep - (DiskM.looseAll M.loose : Nat)) s.length
  refine AM.ext (crash_rise _ hr' _) (AM.rise_set h.rise _ _) (fun k => ?_)
  rw [crash_get _ hr']
  have eg : DiskM.gone (M.appended n s).loose keep = AM.set (DiskM.gone M.loose keep) n (s.length - DiskM.stay (keep - (DiskM.looseAll M.loose : Nat)) s.length) := by
    show DiskM.gone (M.loose ++ [(n, s.length)]) keep = _
    rw [gone_snoc, hgz, Nat.zero_add]
    unfold restK
    rw [hf.1]
  rw [eg]
  have ef : (M.appended n s).files = AM.set M.files n (b ++ s) := by show AM.set M.files n (((AM.get M.files n).getD []) ++ s) = _; rw [hb]; rfl
  rw [ef]
  by_cases e : k = n
  · subst e
    rw [AM.get_set_same hgr, AM.get_set_same h.rise]
    simp only
    unfold DiskM.cut
    rw [AM.get_set_same h.rise]
    simp only [Option.getD_some, List.length_append]
    have e2 : b.length + s.length - (s.length - DiskM.stay (keep - (DiskM.looseAll M.loose : Nat)) s.length) = b.length + DiskM.stay (keep - (DiskM.looseAll M.loose : Nat)) s.length := by omega
    rw [e2, List.take_append, List.take_of_length_le (by omega), Nat.add_sub_cancel_left, AM.get_set_same h.rise]
  · rw [AM.get_set_other hgr _ e, AM.get_set_other h.rise _ e]
    cases hg : AM.get (DiskM.gone M.loose keep) k with
    | none => rw [AM.get_set_other h.rise _ e]
    | some m =>
      have hz := hgz k
      rw [hg] at hz
      have hsome : (AM.get (DiskM.gone M.loose keep) k).isSome = true := by rw [hg]; rfl
      rw [DiskM.gone_some, List.any_eq_true] at hsome
      obtain ⟨p, hp, hpk⟩ := hsome
      have hpk : p.1 = k := by simpa using hpk
      have := hk p hp
      rw [hpk] at this
      obtain ⟨c, hc⟩ := Option.isSome_iff_exists.1 this
      simp only [Option.getD_some] at hz
      subst hz
      simp only
      unfold DiskM.cut
      rw [AM.get_set_other h.rise _ e, AM.get_set_other h.rise _ e, hc]
      simp
theorem crash_part (h : M.Ok) {n : Int} {b : By} (hb : AM.get M.files n = some b) (s : By) {keep : Int} (h0 : ¬ (DiskM.looseAll M.loose : Int) ≤ keep) :
    ((M.appended n s).crash keep).files = (M.crash keep).files := by
  have hr' : AM.Rise (M.appended n s).files := AM.rise_set h.rise _ _
  have hgr := DiskM.gone_rise M.loose keep
  have hle := DiskM.gone_le M.loose keep n
  have hlo := h.lo n
  rw [hb] at hlo
  simp only [Option.getD_some] at hlo
  have hrest : restK M.loose keep ≤ 0 := fold_part M.loose (keep, []) (Or.inl (by simp only; omega))
  have hst : DiskM.stay (restK M.loose keep) s.length = 0 := by unfold DiskM.stay; omega
  refine AM.ext (crash_rise _ hr' _) (crash_rise _ h.rise _) (fun k => ?_)
  rw [crash_get _ hr', crash_get _ h.rise]
  have eg : DiskM.gone (M.appended n s).loose keep = AM.set (DiskM.gone M.loose keep) n ((AM.get (DiskM.gone M.loose keep) n).getD 0 + s.length) := by
    show DiskM.gone (M.loose ++ [(n, s.length)]) keep = _
    rw [gone_snoc, hst, Nat.sub_zero]
  rw [eg]
  have ef : (M.appended n s).files = AM.set M.files n (b ++ s) := by show AM.set M.files n (((AM.get M.files n).getD []) ++ s) = _; rw [hb]; rfl
  rw [ef]
  by_cases e : k = n
  · subst e
    rw [AM.get_set_same hgr]
    simp only
    unfold DiskM.cut
    rw [AM.get_set_same h.rise]
    simp only [Option.getD_some, List.length_append]
    have e2 : b.length + s.length - ((AM.get (DiskM.gone M.loose keep) k).getD 0 + s.length) = b.length - (AM.get (DiskM.gone M.loose keep) k).getD 0 := by omega
    rw [e2, List.take_append_of_le_length (by omega)]
    cases hg : AM.get (DiskM.gone M.loose keep) k with
    | none => simp [hb]
    | some m => simp [hb]
  · rw [AM.get_set_other hgr _ e]
    cases hg : AM.get (DiskM.gone M.loose keep) k with
    | none => simp only; rw [AM.get_set_other h.rise _ e]
    | some m => simp only; unfold DiskM.cut; rw [AM.get_set_other h.rise _ e]
theorem crash_made (h : M.Ok) {n : Int} (hn : AM.get M.files n = none) (keep : Int) : (({ M with files := AM.set M.files n [] } : DiskM).crash keep).files = AM.set (M.crash keep).files n [] := by
  have hr' : AM.Rise ({ M with files := AM.set M.files n [] } : DiskM).files := AM.rise_set h.rise _ _
  refine AM.ext (crash_rise _ hr' _) (AM.rise_set (crash_rise _ h.rise _) _ _) (fun k => ?_)
  rw [crash_get _ hr']
  show (match AM.get (DiskM.gone M.loose keep) k with
    | some m => some (DiskM.cut (AM.set M.files n []) k m)
    | none => AM.get (AM.set M.files n []) k) = _
  by_cases e : k = n
  · subst e
    rw [AM.get_set_same (crash_rise _ h.rise _), AM.get_set_same h.rise]
    cases AM.get (DiskM.gone M.loose keep) k with
    | none => rfl
    | some m => simp only; unfold DiskM.cut; rw [AM.get_set_same h.rise]; simp
  · rw [AM.get_set_other (crash_rise _ h.rise _) _ e, crash_get _ h.rise, AM.get_set_other h.rise _ e]
    cases AM.get (DiskM.gone M.loose keep) k with
    | none => rfl
    | some m => simp only; unfold DiskM.cut; rw [AM.get_set_other h.rise _ e]
end
end Go.Proofs.YtlgeijbgkipliaaGreatDoor

namespace Go.Proofs.YtlgeijbgkipliaaGreatDoor
structure MidW (M : DiskM) (E l : List By) (cap st : Int) (fl : Bool) (X : Nat) : Prop where
  ok : M.Ok
  live : M.Live
  up : M.down = false
  cap : M.cap = cap
  starts : M.starts = st
  fails : M.fails = fl
  tidy : Tidy M.files (E ++ l)
  crash : ∀ keep, ∃ j, j ≤ l.length ∧ Mess (M.crash keep).files (E ++ l.take j)
  keys : ∀ p ∈ M.loose, (AM.get M.files p.1).isSome = true
  few : M.loose.length ≤ l.length
  total : AM.sum List.length M.files = X
section
variable {M : DiskM} {F : List (Int × By)} {cap st : Int} {fl : Bool} {E l : List By} {X : Nat}
theorem sunk_files (M : DiskM) : M.sunk.files = (M.crash M.keep).files := by
  show DiskM.crashed M.tick.files (DiskM.gone M.tick.loose M.keep) = DiskM.crashed M.files (DiskM.gone M.loose M.keep)
  rw [DiskM.tick_files, DiskM.tick_loose]
theorem sinks_fails {M : DiskM} (hs : M.sinks = true) : M.fails = true := by unfold DiskM.sinks at hs; simp at hs; exact hs.1
def Lost (M' : DiskM) (E l : List By) (cap st : Int) (X : Nat) : Prop := ∃ j F', j ≤ l.length ∧ Mess F' (E ++ l.take j) ∧ AM.sum List.length F' ≤ X ∧ DnF M' F' cap st
theorem MidW.lost (h : MidW M E l cap st fl X) : Lost M.sunk E l cap st X := by
  obtain ⟨j, hj, hm⟩ := h.crash M.keep
  refine ⟨j, _, hj, hm, ?_, (h.ok.tick h.live).crash _, rfl, sunk_files M, rfl, by show M.tick.cap = cap; rw [tick_cap]; exact h.cap, by show M.tick.starts = st; rw [tick_starts]; exact h.starts, rfl⟩
  have := crash_total M h.ok.rise M.keep
  rw [h.total] at this
  exact this
theorem tick_crash (M : DiskM) (keep : Int) : (M.tick.crash keep).files = (M.crash keep).files := by
  show DiskM.crashed M.tick.files (DiskM.gone M.tick.loose keep) = DiskM.crashed M.files (DiskM.gone M.loose keep)
  rw [DiskM.tick_files, DiskM.tick_loose]
theorem MidW.tick (h : MidW M E l cap st fl X) (hs : M.sinks = false) : MidW M.tick E l cap st fl X :=
  ⟨h.ok.tick h.live, DiskM.Live.tick h.live hs, by rw [DiskM.tick_down]; exact h.up, by rw [tick_cap]; exact h.cap, by rw [tick_starts]; exact h.starts, by rw [tick_fails]; exact h.fails, by rw [DiskM.tick_files]; exact h.tidy,
    fun keep => by rw [tick_crash]; exact h.crash keep, by rw [DiskM.tick_files, DiskM.tick_loose]; exact h.keys, by rw [DiskM.tick_loose]; exact h.few, by rw [DiskM.tick_files]; exact h.total⟩
theorem UpF.mid (h : UpF M F cap st fl) (hT : Tidy F E) : MidW M E [] cap st fl (AM.sum List.length F) :=
  ⟨h.ok, h.live, h.up, h.cap, h.starts, h.fails, by rw [h.files, List.append_nil]; exact hT, fun keep => ⟨0, Nat.le_refl _, by rw [crash_none _ _ h.loose, h.files]; simpa using hT.mess⟩, by rw [h.loose]; simp, by rw [h.loose]; simp, by rw [h.files]⟩
theorem set_none_total {n : Int} (hn : AM.get F n = none) : AM.sum List.length (AM.set F n ([] : By)) = AM.sum List.length F := by
  rw [AM.sum_set, AM.del_none hn]; simp
theorem set_more_total (h : AM.Rise F) {n : Int} {b : By} (hn : AM.get F n = some b) (s : By) : AM.sum List.length (AM.set F n (b ++ s)) = AM.sum List.length F + s.length := by
  rw [AM.sum_set, AM.sum_del List.length h hn, List.length_append]; omega
theorem MidW.create (h : MidW M E l cap st fl X) (h0 : (E ++ l).length % 64 = 0) (hk : (E ++ l).length / 64 < 64) (hg : AM.get M.files (1000 + (((E ++ l).length / 64 : Nat) : Int)) = none) (hc : M.files.length < 100) (hl : l.length ≤ 4096) :
    ((M.create (1000 + (((E ++ l).length / 64 : Nat) : Int))).1 = 0 ∧ MidW (M.create (1000 + (((E ++ l).length / 64 : Nat) : Int))).2 E l cap st fl X ∧ (M.create (1000 + (((E ++ l).length / 64 : Nat) : Int))).2.files = AM.set M.files (1000 + (((E ++ l).length / 64 : Nat) : Int)) []) ∨
    ((M.create (1000 + (((E ++ l).length / 64 : Nat) : Int))).1 = 61 ∧ fl = true ∧ Lost (M.create (1000 + (((E ++ l).length / 64 : Nat) : Int))).2 E l cap st X) := by
  unfold DiskM.create
  have hfew := h.few
  rw [if_neg (by rw [h.up]; simp), if_neg (by omega), if_neg (by rw [hg]; simp), if_neg (by omega)]
  cases hs : M.sinks
  · rw [if_neg (by simp)]
    have ht := h.tick hs
    have hg2 : AM.get M.tick.files (1000 + (((E ++ l).length / 64 : Nat) : Int)) = none := by rw [DiskM.tick_files]; exact hg
    refine Or.inl ⟨rfl, ?_, rfl⟩
    rw [← DiskM.tick_files M]
    refine ⟨ht.ok.create _ (by omega) hg2 (by rw [DiskM.tick_files, DiskM.tick_loose]; omega), ht.live, ht.up, ht.cap, ht.starts, ht.fails, make_tidy ht.tidy h0 hk, fun keep => ?_, fun p hp => ?_, ht.few, ?_⟩
    · obtain ⟨j, hj, hm⟩ := ht.crash keep
      refine ⟨j, hj, ?_⟩
      rw [crash_made ht.ok hg2]
      exact make_mess hm (by rw [List.length_append, List.length_append, List.length_take]; omega) h0 hk
    · have := ht.keys p hp
      by_cases e : p.1 = 1000 + (((E ++ l).length / 64 : Nat) : Int)
      · rw [e] at this; rw [hg2] at this; cases this
      · show (AM.get (AM.set M.tick.files _ []) p.1).isSome = true
        rw [AM.get_set_other ht.ok.rise _ e]
        exact this
    · show AM.sum List.length (AM.set M.tick.files _ []) = X
      rw [set_none_total hg2]
      exact ht.total
  · rw [if_pos rfl]
    exact Or.inr ⟨rfl, by rw [← h.fails]; exact sinks_fails hs, h.lost⟩
theorem MidW.appended (h : MidW M E l cap st fl X) {ps : List By} {b : By} (hb : AM.get M.files (1000 + (((E ++ l).length / 64 : Nat) : Int)) = some b) (hne : ps ≠ []) (hp : ∀ p ∈ ps, p.length ≤ 200) (h64 : (E ++ l).length % 64 + ps.length ≤ 64) (hf : (E ++ l).length + ps.length ≤ 4096)
    (hk : (E ++ l).length / 64 < 64) (hr : ((X + (framesF ps).length : Nat) : Int) ≤ cap) (hc : M.files.length ≤ 100) :
    MidW (M.appended (1000 + (((E ++ l).length / 64 : Nat) : Int)) (framesF ps)) E (l ++ ps) cap st fl (X + (framesF ps).length) ∧
      (M.appended (1000 + (((E ++ l).length / 64 : Nat) : Int)) (framesF ps)).files = AM.set M.files (1000 + (((E ++ l).length / 64 : Nat) : Int)) (b ++ framesF ps) ∧ Exact (AM.set M.files (1000 + (((E ++ l).length / 64 : Nat) : Int)) (b ++ framesF ps)) (E ++ (l ++ ps)) := by
  have hfew := h.few
  have hl : l.length ≤ 4096 := by rw [List.length_append] at hf; omega
  have hpl : 0 < ps.length := List.length_pos_iff.2 hne
  have ef : (M.appended (1000 + (((E ++ l).length / 64 : Nat) : Int)) (framesF ps)).files = AM.set M.files (1000 + (((E ++ l).length / 64 : Nat) : Int)) (b ++ framesF ps) := by
    show AM.set M.files _ (((AM.get M.files _).getD []) ++ framesF ps) = _
    rw [hb]; rfl
  have hT : Exact (AM.set M.files (1000 + (((E ++ l).length / 64 : Nat) : Int)) (b ++ framesF ps)) (E ++ (l ++ ps)) := by
    obtain ⟨j, t, _, hL, hH, hz⟩ := app_files h.tidy hb hp h64 hf hk (framesF ps).length
    obtain ⟨rfl, ht, hx⟩ := hz (Nat.le_refl _)
    rw [List.take_length] at hL hH
    rw [List.take_length] at hL hH
    rw [← List.append_assoc]
    refine ⟨⟨t, hL, ht, hH⟩, fun q => ?_⟩
    rw [hL.last, hx q hne]
    rfl
  refine ⟨⟨h.ok.appended hb (by show ((AM.sum List.length M.files + _ : Nat) : Int) ≤ M.cap; rw [h.total, h.cap]; exact hr) (by omega), h.live, h.up, h.cap, h.starts, h.fails, by rw [ef]; exact hT.1, fun keep => ?_, fun p hp' => ?_, ?_, ?_⟩, ef, hT⟩
  · by_cases hkp : (DiskM.looseAll M.loose : Int) ≤ keep
    · rw [crash_all h.ok h.keys hb _ hkp]
      obtain ⟨j, t, hj, hL, _, _⟩ := app_files h.tidy hb hp h64 hf hk (DiskM.stay (keep - (DiskM.looseAll M.loose : Nat)) (framesF ps).length)
      refine ⟨l.length + j, by rw [List.length_append]; omega, t, ?_⟩
      have e : (l ++ ps).take (l.length + j) = l ++ ps.take j := by rw [List.take_append, List.take_of_length_le (by omega), Nat.add_sub_cancel_left]
      rw [e, ← List.append_assoc]
      exact hL
    · rw [crash_part h.ok hb _ hkp]
      obtain ⟨j, hj, hm⟩ := h.crash keep
      refine ⟨j, by rw [List.length_append]; omega, ?_⟩
      rw [List.take_append_of_le_length hj]
      exact hm
  · rw [ef]
    have hp2 : p ∈ M.loose ++ [(1000 + (((E ++ l).length / 64 : Nat) : Int), (framesF ps).length)] := hp'
    by_cases e : p.1 = 1000 + (((E ++ l).length / 64 : Nat) : Int)
    · rw [e, AM.get_set_same h.ok.rise]; rfl
    · rw [AM.get_set_other h.ok.rise _ e]
      rcases List.mem_append.1 hp2 with q | q
      · exact h.keys p q
      · rw [List.mem_singleton.1 q] at e; exact absurd rfl e
  · have e9 : (M.appended (1000 + (((E ++ l).length / 64 : Nat) : Int)) (framesF ps)).loose.length = M.loose.length + 1 := by show (M.loose ++ [_]).length = _; simp
    rw [e9, List.length_append]
    omega
  · rw [ef, set_more_total h.ok.rise hb, h.total]
theorem MidW.append (h : MidW M E l cap st fl X) {ps : List By} {b : By} (hb : AM.get M.files (1000 + (((E ++ l).length / 64 : Nat) : Int)) = some b) (hne : ps ≠ []) (hp : ∀ p ∈ ps, p.length ≤ 200) (h64 : (E ++ l).length % 64 + ps.length ≤ 64) (hf : (E ++ l).length + ps.length ≤ 4096)
    (hk : (E ++ l).length / 64 < 64) (hr : ((X + (framesF ps).length : Nat) : Int) ≤ cap) (hc : M.files.length ≤ 100) :
    ((M.append (1000 + (((E ++ l).length / 64 : Nat) : Int)) (framesF ps)).1 = 0 ∧ MidW (M.append (1000 + (((E ++ l).length / 64 : Nat) : Int)) (framesF ps)).2 E (l ++ ps) cap st fl (X + (framesF ps).length) ∧
      (M.append (1000 + (((E ++ l).length / 64 : Nat) : Int)) (framesF ps)).2.files = AM.set M.files (1000 + (((E ++ l).length / 64 : Nat) : Int)) (b ++ framesF ps) ∧ Exact (AM.set M.files (1000 + (((E ++ l).length / 64 : Nat) : Int)) (b ++ framesF ps)) (E ++ (l ++ ps))) ∨
    ((M.append (1000 + (((E ++ l).length / 64 : Nat) : Int)) (framesF ps)).1 = 61 ∧ fl = true ∧ Lost (M.append (1000 + (((E ++ l).length / 64 : Nat) : Int)) (framesF ps)).2 E (l ++ ps) cap st (X + (framesF ps).length)) := by
  obtain ⟨h1, h2, h3⟩ := h.appended hb hne hp h64 hf hk hr hc
  have h0 : M.has (1000 + (((E ++ l).length / 64 : Nat) : Int)) = 0 := by unfold DiskM.has; rw [h.up, hb]; rfl
  unfold DiskM.append
  rw [if_neg (by rw [h0]; simp), if_neg (by rw [h.cap]; show ¬ cap - ((AM.sum List.length M.files : Nat) : Int) < _; rw [h.total]; omega)]
  cases hs : M.sinks
  · rw [if_neg (by simp)]
    exact Or.inl ⟨rfl, h1.tick hs, by rw [DiskM.tick_files]; exact h2, h3⟩
  · rw [if_pos rfl]
    exact Or.inr ⟨rfl, by rw [← h.fails]; exact sinks_fails hs, h1.lost⟩
theorem Lost.more {M' : DiskM} {ps : List By} {Y : Nat} (h : Lost M' E l cap st X) (hXY : X ≤ Y) : Lost M' E (l ++ ps) cap st Y := by
  obtain ⟨j, F', hj, hm, ht, hd⟩ := h
  exact ⟨j, F', by rw [List.length_append]; omega, by rw [List.take_append_of_le_length hj]; exact hm, Nat.le_trans ht hXY, hd⟩
theorem runAll_sing (c : Chg) (M : DiskM) : runAll [c] M = c.run M := by
  unfold runAll
  split
  · rename_i h; rw [show runAll [] (c.run M).2 = (0, (c.run M).2) from rfl, ← h]
  · rfl
theorem run_plan (has : Int → Bool) (k : Nat) : ∀ (ps : List By) (M : DiskM) (l : List By) (X : Nat), ps.length ≤ k → MidW M E l cap st fl X → (ps ≠ [] → ∀ n : Int, 1000 + (((E ++ l).length / 64 : Nat) : Int) ≤ n → has n = (AM.get M.files n).isSome) →
    (∀ p ∈ ps, p.length ≤ 200) → (E ++ l).length + ps.length ≤ 4096 → ((X + (framesF ps).length : Nat) : Int) ≤ cap → M.files.length + makes (planC has (E ++ l).length ps) ≤ 100 →
    ((runAll (planC has (E ++ l).length ps) M).1 = 0 ∧ MidW (runAll (planC has (E ++ l).length ps) M).2 E (l ++ ps) cap st fl (X + (framesF ps).length) ∧ (ps ≠ [] → Exact (runAll (planC has (E ++ l).length ps) M).2.files (E ++ (l ++ ps)))) ∨
    ((runAll (planC has (E ++ l).length ps) M).1 = 61 ∧ fl = true ∧ Lost (runAll (planC has (E ++ l).length ps) M).2 E (l ++ ps) cap st (X + (framesF ps).length)) := by
  induction k with
  | zero =>
    intro ps M l X hk h _ _ _ _ _
    obtain rfl : ps = [] := List.eq_nil_of_length_eq_zero (by omega)
    rw [planC_nil]
    exact Or.inl ⟨rfl, by simpa [runAll, framesF] using h, fun q => absurd rfl q⟩
  | succ k ih =>
    intro ps M l X hk h hhas hp hf hr hc
    by_cases hne : ps = []
    · subst hne
      rw [planC_nil]
      exact Or.inl ⟨rfl, by simpa [runAll, framesF] using h, fun q => absurd rfl q⟩
    · have hpl : 0 < ps.length := List.length_pos_iff.2 hne
      have hhas := hhas hne
      have hll : (E ++ l).length = E.length + l.length := List.length_append
      rw [planC_step has _ hne] at hc ⊢
      obtain ⟨q, hq⟩ : ∃ q, q = min (64 - (E ++ l).length % 64) ps.length := ⟨_, rfl⟩
      rw [← hq] at hc ⊢
      have e1 : ps.take q ++ ps.drop q = ps := List.take_append_drop q ps
      have ef : (framesF ps).length = (framesF (ps.take q)).length + (framesF (ps.drop q)).length := by
        conv => lhs; rw [← e1]
        rw [framesF_append, List.length_append]
      have ht : (ps.take q).length = q := by rw [List.length_take]; omega
      have hd : (ps.drop q).length = ps.length - q := List.length_drop
      have hne1 : ps.take q ≠ [] := by intro e; rw [e] at ht; simp at ht; omega
      have hk64 : (E ++ l).length / 64 < 64 := by omega
      have hp1 : ∀ p ∈ ps.take q, p.length ≤ 200 := fun p hp' => hp p (List.mem_of_mem_take hp')
      have hp2 : ∀ p ∈ ps.drop q, p.length ≤ 200 := fun p hp' => hp p (List.mem_of_mem_drop hp')
      have hhn := hhas (1000 + (((E ++ l).length / 64 : Nat) : Int)) (Int.le_refl _)
      generalize hps1 : ps.take q = ps1 at *
      generalize hps2 : ps.drop q = ps2 at *
      have go : ∀ (M1 : DiskM) (b : By), MidW M1 E l cap st fl X → AM.get M1.files (1000 + (((E ++ l).length / 64 : Nat) : Int)) = some b → (∀ n : Int, 1000 + (((E ++ l).length / 64 : Nat) : Int) < n → has n = (AM.get M1.files n).isSome) → M1.files.length + makes (planC has ((E ++ l).length + q) ps2) ≤ 100 →
          ((runAll (.app (1000 + (((E ++ l).length / 64 : Nat) : Int)) (framesF ps1) :: planC has ((E ++ l).length + q) ps2) M1).1 = 0 ∧ MidW (runAll (.app (1000 + (((E ++ l).length / 64 : Nat) : Int)) (framesF ps1) :: planC has ((E ++ l).length + q) ps2) M1).2 E (l ++ ps) cap st fl (X + (framesF ps).length) ∧ (ps ≠ [] → Exact (runAll (.app (1000 + (((E ++ l).length / 64 : Nat) : Int)) (framesF ps1) :: planC has ((E ++ l).length + q) ps2) M1).2.files (E ++ (l ++ ps)))) ∨
          ((runAll (.app (1000 + (((E ++ l).length / 64 : Nat) : Int)) (framesF ps1) :: planC has ((E ++ l).length + q) ps2) M1).1 = 61 ∧ fl = true ∧ Lost (runAll (.app (1000 + (((E ++ l).length / 64 : Nat) : Int)) (framesF ps1) :: planC has ((E ++ l).length + q) ps2) M1).2 E (l ++ ps) cap st (X + (framesF ps).length)) := by
        intro M1 b hM1 hb hh hc1
        rcases hM1.append hb hne1 hp1 (by omega) (by omega) hk64 (by omega) (by omega) with ⟨s0, hm, hfs, hx⟩ | ⟨s0, hfl, hlost⟩
        · rw [runAll_cons_ok (c := .app _ _) s0]
          have hsl : (AM.set M1.files (1000 + (((E ++ l).length / 64 : Nat) : Int)) (b ++ framesF ps1)).length = M1.files.length := by
            rw [AM.length_set]; exact AM.length_del_some hM1.ok.rise hb
          have hel : (E ++ (l ++ ps1)).length = (E ++ l).length + q := by rw [List.length_append, List.length_append]; omega
          have hl2 : l ++ ps1 ++ ps2 = l ++ ps := by rw [List.append_assoc, e1]
          have hrun := ih ps2 _ (l ++ ps1) (X + (framesF ps1).length) (by omega) hm (fun hne2 n hn => by
            have : 0 < ps2.length := List.length_pos_iff.2 hne2
            rw [hel] at hn
            show has n = (AM.get (M1.append _ _).2.files n).isSome
            rw [hfs, AM.get_set_other hM1.ok.rise _ (by omega)]
            exact hh n (by omega)) hp2 (by rw [hel]; omega) (by omega) (by
              show (M1.append _ _).2.files.length + _ ≤ 100
              rw [hfs, hsl, hel]; exact hc1)
          rw [hel, hl2] at hrun
          rw [show X + (framesF ps).length = X + (framesF ps1).length + (framesF ps2).length by omega]
          rcases hrun with ⟨r0, r1, r2⟩ | ⟨r0, r1, r2⟩
          · refine Or.inl ⟨r0, r1, fun _ => ?_⟩
            by_cases hne2 : ps2 = []
            · subst hne2
              rw [planC_nil]
              rw [List.append_nil] at hl2
              show Exact (M1.append _ _).2.files _
              rw [hfs, ← hl2]
              exact hx
            · exact r2 hne2
          · exact Or.inr ⟨r0, r1, r2⟩
        · rw [runAll_cons_no (c := .app _ _) (by show (M1.append _ _).1 ≠ 0; rw [s0]; decide)]
          refine Or.inr ⟨s0, hfl, ?_⟩
          have := hlost.more (ps := ps2) (Y := X + (framesF ps).length) (by omega)
          rw [List.append_assoc, e1] at this
          exact this
      by_cases hn : has (1000 + (((E ++ l).length / 64 : Nat) : Int)) = true
      · rw [if_pos hn, List.nil_append] at hc ⊢
        rw [hn] at hhn
        obtain ⟨b, hb⟩ := Option.isSome_iff_exists.1 hhn.symm
        exact go M b h hb (fun n hn' => hhas n (by omega)) hc
      · rw [if_neg hn] at hc ⊢
        have hg : AM.get M.files (1000 + (((E ++ l).length / 64 : Nat) : Int)) = none := by
          rw [hhn] at hn
          simpa using hn
        have h0 : (E ++ l).length % 64 = 0 := by
          obtain ⟨t, hL, _⟩ := h.tidy
          refine hL.none_ ?_
          have := hL.last
          rw [hg] at this
          cases t with
          | none => rfl
          | some u => cases this
        have hmk : makes ([Chg.make (1000 + (((E ++ l).length / 64 : Nat) : Int))] ++ Chg.app (1000 + (((E ++ l).length / 64 : Nat) : Int)) (framesF ps1) :: planC has ((E ++ l).length + q) ps2) = makes (planC has ((E ++ l).length + q) ps2) + 1 := rfl
        rw [hmk] at hc
        rw [List.singleton_append]
        rcases h.create h0 hk64 hg (by omega) (by omega) with ⟨s0, hm, hfs⟩ | ⟨s0, hfl, hlost⟩
        · rw [runAll_cons_ok (c := .make _) s0]
          refine go _ [] hm ?_ (fun n hn' => ?_) ?_
          · show AM.get (M.create _).2.files _ = _
            rw [hfs, AM.get_set_same h.ok.rise]
          · show has n = (AM.get (M.create _).2.files n).isSome
            rw [hfs, AM.get_set_other h.ok.rise _ (by omega)]
            exact hhas n (by omega)
          · show (M.create _).2.files.length + _ ≤ 100
            rw [hfs, AM.length_set, AM.del_none hg]
            omega
        · rw [runAll_cons_no (c := .make _) (by show (M.create _).1 ≠ 0; rw [s0]; decide)]
          refine Or.inr ⟨s0, hfl, ?_⟩
          exact hlost.more (by omega)
end
theorem rise_len {α : Type} {F : List (Int × α)} (h : AM.Rise F) : ∀ {a : Int} {c : Nat}, (∀ p ∈ F, a ≤ p.1 ∧ p.1 < a + (c : Int)) → F.length ≤ c := by
  induction F with
  | nil => intro a c _; exact Nat.zero_le _
  | cons p r ih =>
    intro a c hk
    unfold AM.Rise at h
    obtain ⟨h1, h2⟩ := List.pairwise_cons.1 h
    have hp := hk p (by simp)
    have := ih h2 (a := p.1 + 1) (c := (a + (c : Int) - p.1 - 1).toNat) (fun q hq => by have := h1 q hq; have := hk q (by simp [hq]); omega)
    rw [List.length_cons]
    omega
theorem makes_le (has : Int → Bool) (k : Nat) : ∀ (at_ : Nat) (l : List By), l.length ≤ k → makes (planC has at_ l) ≤ (at_ % 64 + l.length + 63) / 64 := by
  induction k with
  | zero =>
    intro at_ l hl
    obtain rfl : l = [] := List.eq_nil_of_length_eq_zero (by omega)
    rw [planC_nil]
    exact Nat.zero_le _
  | succ k ih =>
    intro at_ l hl
    by_cases hne : l = []
    · subst hne; rw [planC_nil]; exact Nat.zero_le _
    · have hpl : 0 < l.length := List.length_pos_iff.2 hne
      rw [planC_step has at_ hne, makes_append]
      have h1 : makes (if has (1000 + ((at_ / 64 : Nat) : Int)) = true then [] else [.make (1000 + ((at_ / 64 : Nat) : Int))]) ≤ 1 := by split <;> simp [makes]
      have h2 := ih (at_ + min (64 - at_ % 64) l.length) (l.drop (min (64 - at_ % 64) l.length)) (by rw [List.length_drop]; omega)
      rw [List.length_drop] at h2
      show _ + makes (planC has _ _) ≤ _
      by_cases hle : l.length ≤ 64 - at_ % 64
      · have hd : l.drop (min (64 - at_ % 64) l.length) = [] := List.drop_eq_nil_of_le (by omega)
        rw [hd, planC_nil]
        show _ + 0 ≤ _
        omega
      · omega
section
variable {M : DiskM} {F : List (Int × By)} {cap st : Int} {fl : Bool} {E l : List By}
theorem Tidy.rise (h : Tidy F E) : AM.Rise F := by obtain ⟨t, hL, _⟩ := h; exact hL.rise
theorem Tidy.few (h : Tidy F E) : E.length ≤ 4096 := by obtain ⟨t, hL, _⟩ := h; exact hL.few
theorem Tidy.len (h : Tidy F E) : F.length ≤ E.length / 64 + 1 := by
  obtain ⟨t, hL, _, hH⟩ := h
  refine rise_len hL.rise (a := 1000) (fun p hp => ?_)
  have hg : AM.get F p.1 = some p.2 := (AM.get_some hL.rise).2 hp
  have hk := hL.keys p.1 (by rw [hg]; rfl)
  refine ⟨hk.1, ?_⟩
  by_cases q : p.1 < 1000 + ((E.length / 64 + 1 : Nat) : Int)
  · exact q
  · have := hH (p.1 - 1000).toNat (by omega)
    rw [show 1000 + (((p.1 - 1000).toNat : Nat) : Int) = p.1 by omega, hg] at this
    cases this
theorem append_tidy (h : UpF M F cap st fl) (hT : Tidy F E) (hne : l ≠ []) (hp : ∀ p ∈ l, p.length ≤ 200) (hf : E.length + l.length ≤ 4096) (hr : ((AM.sum List.length F + (framesF l).length : Nat) : Int) ≤ cap) :
    M.files.length + makes (planC (fun n => (AM.get M.files n).isSome) E.length l) ≤ 100 ∧
    (((runAll (planC (fun n => (AM.get M.files n).isSome) E.length l ++ [.sync]) M).1 = 0 ∧ ∃ F', Exact F' (E ++ l) ∧ AM.sum List.length F' = AM.sum List.length F + (framesF l).length ∧ UpF (runAll (planC (fun n => (AM.get M.files n).isSome) E.length l ++ [.sync]) M).2 F' cap st fl) ∨
    ((runAll (planC (fun n => (AM.get M.files n).isSome) E.length l ++ [.sync]) M).1 = 61 ∧ fl = true ∧ Lost (runAll (planC (fun n => (AM.get M.files n).isSome) E.length l ++ [.sync]) M).2 E l cap st (AM.sum List.length F + (framesF l).length))) := by
  have hmk := makes_le (fun n => (AM.get M.files n).isSome) l.length E.length l (Nat.le_refl _)
  have hlen := hT.len
  have hc : M.files.length + makes (planC (fun n => (AM.get M.files n).isSome) E.length l) ≤ 100 := by rw [h.files] at hmk ⊢; omega
  refine ⟨hc, ?_⟩
  have hrun := run_plan (fun n => (AM.get M.files n).isSome) l.length l M [] _ (Nat.le_refl _) (h.mid hT) (fun _ _ _ => rfl) hp (by rw [List.append_nil]; exact hf) hr (by rw [List.append_nil]; exact hc)
  rw [List.append_nil, List.nil_append] at hrun
  rw [runAll_append]
  rcases hrun with ⟨r0, hm, hx⟩ | ⟨r0, hfl, hlost⟩
  · rw [if_pos r0, runAll_sing]
    generalize (runAll (planC (fun n => (AM.get M.files n).isSome) E.length l) M).2 = M2 at *
    show ((M2.sync).1 = 0 ∧ _) ∨ ((M2.sync).1 = 61 ∧ _)
    have es : Chg.sync.run M2 = M2.sync := rfl
    rw [es]
    unfold DiskM.sync
    rw [if_neg (by rw [hm.up]; simp)]
    cases hs : M2.sinks
    · have ht := hm.tick hs
      refine Or.inl ⟨rfl, M2.files, hx hne, hm.total, ?_⟩
      show UpF { M2.tick with loose := [] } _ _ _ _
      exact ⟨ht.ok.noLoose, ht.live, ht.up, DiskM.tick_files M2, rfl, ht.cap, ht.starts, ht.fails⟩
    · exact Or.inr ⟨rfl, by rw [← hm.fails]; exact sinks_fails hs, hm.lost⟩
  · rw [if_neg (by rw [r0]; decide)]
    exact Or.inr ⟨r0, hfl, hlost⟩
end
end Go.Proofs.YtlgeijbgkipliaaGreatDoor

namespace Go.Proofs.YtlgeijbgkipliaaGreatDoor
theorem rise_ge {α : Type} (c : Nat) : ∀ {F : List (Int × α)} {a : Int}, AM.Rise F → (∀ i : Nat, i < c → (AM.get F (a + (i : Int))).isSome = true) → c ≤ F.length := by
  induction c with
  | zero => intro F a _ _; exact Nat.zero_le _
  | succ c ih =>
    intro F a h hk
    obtain ⟨b, hb⟩ := Option.isSome_iff_exists.1 (hk c (by omega))
    have h1 := ih (AM.rise_del h (a + (c : Int))) (a := a) (fun i hi => by rw [AM.get_del_other h (by omega)]; exact hk i (by omega))
    have h2 := AM.length_del_some h hb
    omega
theorem rise_keys {α : Type} {F : List (Int × α)} (h : AM.Rise F) : ∀ {a : Int} {c : Nat}, (∀ p ∈ F, a ≤ p.1 ∧ p.1 < a + (c : Int)) → F.length = c → F.map (·.1) = (List.range c).map (fun i : Nat => a + (i : Int)) := by
  induction F with
  | nil => intro a c _ hc; simp at hc; subst hc; rfl
  | cons p r ih =>
    intro a c hk hc
    rw [List.length_cons] at hc
    subst hc
    unfold AM.Rise at h
    obtain ⟨h1, h2⟩ := List.pairwise_cons.1 h
    have hp := hk p (by simp)
    have hl := rise_len h2 (a := p.1 + 1) (c := (a + ((r.length + 1 : Nat) : Int) - p.1 - 1).toNat) (fun q hq => by have := h1 q hq; have := hk q (by simp [hq]); omega)
    have e : p.1 = a := by omega
    have := ih h2 (a := a + 1) (c := r.length) (fun q hq => by have := h1 q hq; have := hk q (by simp [hq]); omega) rfl
    rw [List.map_cons, this, e, List.range_succ_eq_map, List.map_cons, List.map_map]
    congr 1
    · simp
    · apply List.map_congr_left
      intro i _
      simp only [Function.comp_def]
      omega
section
variable {M : DiskM} {F : List (Int × By)} {cap st : Int} {E : List By}
theorem exact_nil : Exact [] [] := by
  refine ⟨⟨none, ⟨AM.rise_nil, fun n hn => ?_, fun i hi => ?_, rfl, fun _ => rfl, fun u hu => (by cases hu), fun p hp => (by cases hp), by simp⟩, Or.inl rfl, fun i _ => rfl⟩, fun _ => rfl⟩
  · cases hn
  · simp at hi
theorem Exact.len (h : Exact F E) : F.length = (E.length + 63) / 64 := by
  obtain ⟨⟨t, hL, ht, hH⟩, hz⟩ := h
  have hlo : (E.length + 63) / 64 ≤ F.length := by
    refine rise_ge _ hL.rise (a := 1000) (fun i hi => ?_)
    by_cases hf : 64 * i + 64 ≤ E.length
    · rw [hL.full i hf]; rfl
    · obtain rfl : i = E.length / 64 := by omega
      rw [hL.last]
      rcases ht with rfl | rfl
      · have := hL.none_ rfl
        omega
      · rfl
  have hhi : F.length ≤ (E.length + 63) / 64 := by
    refine rise_len hL.rise (a := 1000) (fun p hp => ?_)
    have hg : AM.get F p.1 = some p.2 := (AM.get_some hL.rise).2 hp
    have hk := hL.keys p.1 (by rw [hg]; rfl)
    refine ⟨hk.1, ?_⟩
    by_cases q : p.1 < 1000 + (((E.length + 63) / 64 : Nat) : Int)
    · exact q
    · by_cases q2 : p.1 = 1000 + ((E.length / 64 : Nat) : Int)
      · have := hz (by omega)
        rw [← q2, hg] at this
        cases this
      · have := hH (p.1 - 1000).toNat (by omega)
        rw [show 1000 + (((p.1 - 1000).toNat : Nat) : Int) = p.1 by omega, hg] at this
        cases this
  omega
theorem Exact.keys (h : Exact F E) : F.map (·.1) = (List.range ((E.length + 63) / 64)).map (fun i : Nat => 1000 + (i : Int)) := by
  refine rise_keys h.1.rise (fun p hp => ?_) h.len
  obtain ⟨⟨t, hL, ht, hH⟩, hz⟩ := h
  have hg : AM.get F p.1 = some p.2 := (AM.get_some hL.rise).2 hp
  have hk := hL.keys p.1 (by rw [hg]; rfl)
  refine ⟨hk.1, ?_⟩
  by_cases q : p.1 < 1000 + (((E.length + 63) / 64 : Nat) : Int)
  · exact q
  · by_cases q2 : p.1 = 1000 + ((E.length / 64 : Nat) : Int)
    · have := hz (by omega)
      rw [← q2, hg] at this
      cases this
    · have := hH (p.1 - 1000).toNat (by omega)
      rw [show 1000 + (((p.1 - 1000).toNat : Nat) : Int) = p.1 by omega, hg] at this
      cases this
theorem drop_take_eq (l : List By) (m n : Nat) : (l.take n).drop m = (l.drop m).take (n - m) := by
  rw [List.drop_take]
theorem Tidy.at (h : Tidy F E) {n : Nat} (hn : n ≤ E.length) (h0 : n % 64 ≠ 0) : ∃ u, AM.get F (1000 + ((n / 64 : Nat) : Int)) = some (tailF E n ++ u) := by
  obtain ⟨t, hL, ht, hH⟩ := h
  unfold tailF
  rw [drop_take_eq]
  by_cases hf : 64 * (n / 64) + 64 ≤ E.length
  · rw [hL.full _ hf]
    unfold chunkF
    generalize E.drop (64 * (n / 64)) = X
    have e : X.take 64 = X.take (n - 64 * (n / 64)) ++ (X.take 64).drop (n - 64 * (n / 64)) := by
      conv => lhs; rw [← List.take_append_drop (n - 64 * (n / 64)) (X.take 64)]
      rw [List.take_take]
      congr 2
      omega
    rw [e, framesF_append]
    exact ⟨_, rfl⟩
  · have hk : n / 64 = E.length / 64 := by omega
    rw [hk, hL.last]
    rcases ht with rfl | rfl
    · have := hL.none_ rfl
      omega
    · unfold restE
      generalize E.drop (64 * (E.length / 64)) = X
      have e : X = X.take (n - 64 * (E.length / 64)) ++ X.drop (n - 64 * (E.length / 64)) := (List.take_append_drop _ _).symm
      refine ⟨framesF (X.drop (n - 64 * (E.length / 64))), ?_⟩
      simp only [Option.map_some, List.append_nil]
      rw [← framesF_append, ← e]
theorem chunk_take {i n : Nat} (h : 64 * i + 64 ≤ n) (hn : n ≤ E.length) : chunkF (E.take n) i = chunkF E i := by
  have e : E = E.take n ++ E.drop n := (List.take_append_drop _ _).symm
  conv => rhs; rw [e]
  rw [chunk_append (by rw [List.length_take]; omega)]
theorem cut_tidy (h : UpF M F cap st false) (hT : Tidy F E) {S : SegM} (hS : S.entries = E) {n : Nat} (hn : n ≤ E.length) :
    (runAll (S.cutC M n) M).1 = 0 ∧ ∃ F', Exact F' (E.take n) ∧ AM.sum List.length F' ≤ AM.sum List.length F ∧ UpF (runAll (S.cutC M n) M).2 F' cap st false := by
  subst hS
  have hF := hT.rise
  have hl : (S.entries.take n).length = n := by rw [List.length_take]; omega
  have hat := fun h0 => hT.at hn h0
  obtain ⟨t, hL, ht, hH⟩ := hT
  have hsh : ∀ p ∈ S.entries.take n, p.length ≤ 200 := fun p hp => hL.short p (List.mem_of_mem_take hp)
  have hfw : (S.entries.take n).length ≤ 4096 := by have := hL.few; omega
  unfold SegM.cutC
  rw [dropC_eq, h.files, List.append_assoc, runAll_append]
  have hd := run_dels (dropKs F (1000 + (((n + 63) / 64 : Nat) : Int))) h (dropKs_nodup hF _) (fun k hk => ((dropKs_mem hF).1 hk).2)
  have hF1 := fold_del_rise (dropKs F (1000 + (((n + 63) / 64 : Nat) : Int))) hF
  have hg1 := drop_get hF (1000 + (((n + 63) / 64 : Nat) : Int))
  have ht1 := fold_del_total (dropKs F (1000 + (((n + 63) / 64 : Nat) : Int))) hF
  rcases hd with ⟨r0, hu⟩ | ⟨_, q, _⟩
  · rw [if_pos r0]
    generalize (runAll ((dropKs F (1000 + (((n + 63) / 64 : Nat) : Int))).map .del) M).2 = M1 at *
    generalize (dropKs F (1000 + (((n + 63) / 64 : Nat) : Int))).foldl AM.del F = F1 at *
    have hkeys : ∀ k, (AM.get F1 k).isSome = true → 1000 ≤ k ∧ k < 1100 := by
      intro k hk
      rw [hg1] at hk
      split at hk
      · cases hk
      · exact hL.keys k hk
    have hfull : ∀ i : Nat, 64 * i + 64 ≤ n → AM.get F1 (1000 + (i : Int)) = some (chunkF (S.entries.take n) i) := by
      intro i hi
      rw [hg1, if_neg (by omega), chunk_take hi hn]
      exact hL.full i (by omega)
    have fin : ∀ (M2 : DiskM) (F2 : List (Int × By)), UpF M2 F2 cap st false → Exact F2 (S.entries.take n) → AM.sum List.length F2 ≤ AM.sum List.length F →
        (runAll [.sync] M2).1 = 0 ∧ ∃ F', Exact F' (S.entries.take n) ∧ AM.sum List.length F' ≤ AM.sum List.length F ∧ UpF (runAll [.sync] M2).2 F' cap st false := by
      intro M2 F2 h2 hX hle
      rcases h2.sync with ⟨s0, hs⟩ | ⟨s0, hfl, hs⟩
      · rw [runAll_cons_ok (c := .sync) s0]
        exact ⟨rfl, F2, hX, hle, hs⟩
      · cases hfl
    by_cases h0 : n % 64 = 0
    · rw [if_pos h0, List.nil_append]
      have hz : AM.get F1 (1000 + (((S.entries.take n).length / 64 : Nat) : Int)) = none := by
        rw [hl, hg1, if_pos (by omega)]
      refine fin M1 F1 hu ⟨⟨none, ⟨hF1, hkeys, fun i hi => hfull i (by omega), by rw [hz]; rfl, fun _ => (by rw [hl]; exact h0), fun u hu => (by cases hu), hsh, hfw⟩, Or.inl rfl, fun i hi => ?_⟩, fun _ => hz⟩ ht1
      rw [hl] at hi
      rw [hg1, if_pos (by omega)]
    · rw [if_neg h0, List.singleton_append]
      obtain ⟨u, hb⟩ := hat h0
      have hb1 : AM.get F1 (1000 + ((n / 64 : Nat) : Int)) = some (tailF S.entries n ++ u) := by rw [hg1, if_neg (by omega)]; exact hb
      have hset := set_total_le hF1 hb1 (tailF S.entries n).length
      rw [List.take_left] at hset
      have hTr := hu.truncate hb1 (tailF S.entries n).length (by rw [List.length_append]; omega)
      rw [List.take_left] at hTr
      rcases hTr with ⟨s0, hs⟩ | ⟨s0, hfl, hs⟩
      · rw [runAll_cons_ok (c := .cut (1000 + ((n / 64 : Nat) : Int)) ((tailF S.entries n).length : Nat)) s0]
        refine fin _ _ hs ⟨⟨some [], ⟨AM.rise_set hF1 _ _, fun k hk => ?_, fun i hi => ?_, ?_, fun q => (by cases q), fun v hv => ?_, hsh, hfw⟩, Or.inr rfl, fun i hi => ?_⟩, fun q => absurd (by rw [hl] at q; exact q) h0⟩ (by omega)
        · by_cases e : k = 1000 + ((n / 64 : Nat) : Int)
          · have := hL.few
            subst e; omega
          · rw [AM.get_set_other hF1 _ e] at hk
            exact hkeys k hk
        · rw [AM.get_set_other hF1 _ (by omega)]
          exact hfull i (by omega)
        · rw [hl, AM.get_set_same hF1]
          unfold tailF restE
          rw [hl]
          simp
        · cases hv; exact cutF_nil
        · rw [hl] at hi
          rw [AM.get_set_other hF1 _ (by omega), hg1, if_pos (by omega)]
      · cases hfl
  · cases q
theorem open_exact (h : UpF M F cap st false) (hX : Exact F E) : M.openS.1 = 0 ∧ M.openS.2.1 = E ∧ UpF M.openS.2.2 F cap st false := by
  obtain ⟨⟨t, hL, ht, hH⟩, hz⟩ := hX
  have hF := hL.rise
  have e0 : M.openS = ((runAll M.openC M).1, if (runAll M.openC M).1 = 0 then segE (segFiles M 64 0) else [], (runAll M.openC M).2) := by
    unfold DiskM.openS
    rw [if_neg (by rw [h.up]; simp)]
  rw [e0, hL.entries h.files]
  simp only
  have hfew := hL.few
  have eC : M.openC = [.sync] := by
    unfold DiskM.openC
    rw [dropC_eq, h.files]
    have e2 : tornC 0 (segFiles M 64 0) = [] := by
      rw [hL.torn h.files]
      rcases ht with rfl | rfl
      · rfl
      · simp
    rw [e2]
    have e3 : dropKs F (1000 + ((segFiles M 64 0).length : Nat)) = [] := by
      refine List.eq_nil_iff_forall_not_mem.2 (fun k hk => ?_)
      rw [dropKs_mem hF, hL.count h.files] at hk
      obtain ⟨hk1, hk2⟩ := hk
      have hkk := hL.keys k hk2
      have hnk : AM.get F k = none := by
        by_cases q2 : k = 1000 + ((E.length / 64 : Nat) : Int)
        · rw [q2]
          by_cases q3 : E.length % 64 = 0
          · exact hz q3
          · exfalso
            rcases ht with rfl | rfl
            · exact q3 (hL.none_ rfl)
            · rw [if_pos ⟨rfl, by omega⟩] at hk1
              omega
        · have := hH (k - 1000).toNat (by split at hk1 <;> omega)
          rw [show 1000 + (((k - 1000).toNat : Nat) : Int) = k by omega] at this
          exact this
      rw [hnk] at hk2
      cases hk2
    rw [e3]
    rfl
  rw [eC]
  rcases h.sync with ⟨s0, hs⟩ | ⟨s0, hfl, hs⟩
  · rw [runAll_cons_ok (c := .sync) s0]
    exact ⟨rfl, by simp [runAll], hs⟩
  · cases hfl
end
end Go.Proofs.YtlgeijbgkipliaaGreatDoor

namespace Go.Proofs.YtlgeijbgkipliaaGreatDoor
def fromE (X : List By) : Nat := if X.length % 64 = 0 then 0 else endG 0 0 X
theorem fromE_at (X : List By) (h : X.length % 64 ≠ 0) : (endsE X)[X.length - 1]? = some (fromE X) := by
  unfold fromE endsE
  rw [if_neg h]
  exact endsG_last 0 0 X _ (by omega)
theorem fromE_zero (X : List By) (h : X.length % 64 = 0) : fromE X = 0 := by unfold fromE; rw [if_pos h]
theorem ends_snoc (X part : List By) (p : By) (h : X.length % 64 + part.length < 64) : endsE (X ++ (part ++ [p])) = endsE (X ++ part) ++ [fromE X + (framesF (part ++ [p])).length] := by
  have e1 : X ++ (part ++ [p]) = (X ++ part) ++ [p] := by simp
  have e2 : (framesF (part ++ [p])).length = (framesF part).length + 12 + p.length := by
    rw [framesF_append, List.length_append, frames_len_cons, framesF_nil]
    simp
    omega
  rw [e1, e2]
  unfold endsE
  rw [endsG_append 0 0 (X ++ part) [p]]
  congr 1
  have e3 : endsG (0 + (X ++ part).length) (endG 0 0 (X ++ part)) [p] = [(if (X ++ part).length % 64 = 0 then 0 else endG 0 0 (X ++ part)) + 12 + p.length] := by simp [endsG]
  rw [e3, endG_append, endG_file _ _ part (by omega), List.length_append]
  unfold fromE
  cases part with
  | nil => simp [framesF]; omega
  | cons q r =>
    rw [if_neg (by simp only [List.length_cons] at h ⊢; omega)]
    by_cases h0 : X.length % 64 = 0
    · rw [if_pos ⟨by omega, by simp⟩, if_pos h0]
      congr 1
      omega
    · rw [if_neg (fun e => h0 (by have := e.1; omega)), if_neg h0]
      congr 1
      omega
theorem planC_len (has : Int → Bool) (k : Nat) : ∀ (at_ : Nat) (l : List By), l.length ≤ k → (planC has at_ l).length ≤ 2 * l.length := by
  induction k with
  | zero =>
    intro at_ l hl
    obtain rfl : l = [] := List.eq_nil_of_length_eq_zero (by omega)
    rw [planC_nil]
    exact Nat.le_refl _
  | succ k ih =>
    intro at_ l hl
    by_cases hne : l = []
    · subst hne; rw [planC_nil]; exact Nat.le_refl _
    · have hpl : 0 < l.length := List.length_pos_iff.2 hne
      rw [planC_step has at_ hne, List.length_append, List.length_cons]
      have h2 := ih (at_ + min (64 - at_ % 64) l.length) (l.drop (min (64 - at_ % 64) l.length)) (by rw [List.length_drop]; omega)
      rw [List.length_drop] at h2
      have h1 : (if has (1000 + ((at_ / 64 : Nat) : Int)) = true then ([] : List Chg) else [.make (1000 + ((at_ / 64 : Nat) : Int))]).length ≤ 1 := by split <;> simp
      omega
structure PlanS (has : Int → Bool) (E l done rest : List By) (cs : List Chg) : Prop where
  all : l = done ++ rest
  plan : planC has E.length l = cs ++ planC has (E.length + done.length) rest
section
variable {has : Int → Bool} {E l done rest : List By} {cs : List Chg}
theorem PlanS.start (has : Int → Bool) (E l : List By) : PlanS has E l [] l [] := ⟨by simp, by simp⟩
theorem PlanS.len (h : PlanS has E l done rest cs) : cs.length ≤ 2 * l.length := by
  have h1 := planC_len has l.length E.length l (Nat.le_refl _)
  rw [h.plan, List.length_append] at h1
  omega
theorem PlanS.end_ (h : PlanS has E l done [] cs) : planC has E.length l = cs ∧ l = done := by
  have h1 := h.plan
  have h2 := h.all
  rw [planC_nil, List.append_nil] at h1
  exact ⟨h1, by rw [h2, List.append_nil]⟩
theorem PlanS.step (h : PlanS has E l done rest cs) (hne : rest ≠ []) {q : Nat} (hq : q = min (64 - (E.length + done.length) % 64) rest.length) :
    PlanS has E l (done ++ rest.take q) (rest.drop q) (cs ++ (if has (1000 + (((E.length + done.length) / 64 : Nat) : Int)) = true then [] else [.make (1000 + (((E.length + done.length) / 64 : Nat) : Int))]) ++ [.app (1000 + (((E.length + done.length) / 64 : Nat) : Int)) (framesF (rest.take q))]) := by
  subst hq
  have hpl : 0 < rest.length := List.length_pos_iff.2 hne
  refine ⟨by rw [List.append_assoc, List.take_append_drop]; exact h.all, ?_⟩
  rw [h.plan, planC_step has _ hne, List.length_append, List.length_take, Nat.min_eq_left (Nat.min_le_right _ _)]
  simp [Nat.add_assoc]
end
end Go.Proofs.YtlgeijbgkipliaaGreatDoor

namespace Go.Proofs.YtlgeijbgkipliaaGreatDoor
section
variable {M : DiskM} {F : List (Int × By)} {cap st : Int} {fl : Bool} {E l : List By}
theorem UpF.over (h : UpF M F cap st fl) : (⟨E, st, false⟩ : SegM).over M = false := by
  unfold SegM.over
  rw [h.up, h.starts]
  simp
theorem UpF.append_nil (h : UpF M F cap st fl) : (⟨E, st, false⟩ : SegM).append M [] = (0, ⟨E, st, false⟩, M) := by
  unfold SegM.append
  rw [if_neg (by rw [h.over]; simp), if_pos rfl]
theorem UpF.append_long (h : UpF M F cap st fl) {p : By} (hp : p ∈ l) (hl : 200 < p.length) : (⟨E, st, false⟩ : SegM).append M l = (3, ⟨E, st, false⟩, M) := by
  unfold SegM.append
  rw [if_neg (by rw [h.over]; simp), if_neg (by rintro rfl; cases hp), if_pos (List.any_eq_true.2 ⟨p, hp, decide_eq_true hl⟩)]
theorem UpF.append (h : UpF M F cap st fl) (hT : Tidy F E) (hne : l ≠ []) (hp : ∀ p ∈ l, p.length ≤ 200) (hf : E.length + l.length ≤ 4096) (hr : ((AM.sum List.length F + (framesF l).length : Nat) : Int) ≤ cap) :
    (∃ M' F', (⟨E, st, false⟩ : SegM).append M l = (0, ⟨E ++ l, st, false⟩, M') ∧ Exact F' (E ++ l) ∧ AM.sum List.length F' = AM.sum List.length F + (framesF l).length ∧ UpF M' F' cap st fl) ∨
    (fl = true ∧ ∃ M', (⟨E, st, false⟩ : SegM).append M l = (61, ⟨E, st, true⟩, M') ∧ Lost M' E l cap st (AM.sum List.length F + (framesF l).length)) := by
  obtain ⟨hc, hrun⟩ := append_tidy h hT hne hp hf hr
  have htot : M.total = AM.sum List.length F := by unfold DiskM.total; rw [h.files]
  have e : (⟨E, st, false⟩ : SegM).append M l = ((runAll (planC (fun n => (AM.get M.files n).isSome) E.length l ++ [.sync]) M).1,
      ⟨if (runAll (planC (fun n => (AM.get M.files n).isSome) E.length l ++ [.sync]) M).1 = 0 then E ++ l else E, st, decide ((runAll (planC (fun n => (AM.get M.files n).isSome) E.length l ++ [.sync]) M).1 = 61)⟩,
      (runAll (planC (fun n => (AM.get M.files n).isSome) E.length l ++ [.sync]) M).2) := by
    conv => lhs; unfold SegM.append
    rw [if_neg (by rw [h.over]; simp), if_neg hne, if_neg, if_neg (by show ¬ 4096 - E.length < l.length; omega), if_neg]
    · rintro (q | q)
      · rw [h.cap, htot] at q
        omega
      · have : M.files.length + makes (planC (fun n => (AM.get M.files n).isSome) E.length l) ≤ 100 := hc
        have q' : 100 < M.files.length + makes (planC (fun n => (AM.get M.files n).isSome) E.length l) := q
        omega
    · intro h
      obtain ⟨p, hm, hp'⟩ := List.any_eq_true.1 h
      have := of_decide_eq_true hp'
      have := hp p hm
      omega
  rcases hrun with ⟨r0, F', hX, hs, hu⟩ | ⟨r0, hfl, hl⟩
  · exact Or.inl ⟨_, F', by rw [e, r0, if_pos rfl]; rfl, hX, hs, hu⟩
  · exact Or.inr ⟨hfl, _, by rw [e, r0, if_neg (by decide)]; rfl, hl⟩
theorem UpF.append_ok (h : UpF M F cap st false) (hX : Exact F E) (hp : ∀ p ∈ l, p.length ≤ 200) (hf : E.length + l.length ≤ 4096) (hr : ((AM.sum List.length F + (framesF l).length : Nat) : Int) ≤ cap) :
    ∃ M' F', (⟨E, st, false⟩ : SegM).append M l = (0, ⟨E ++ l, st, false⟩, M') ∧ Exact F' (E ++ l) ∧ AM.sum List.length F' = AM.sum List.length F + (framesF l).length ∧ UpF M' F' cap st false := by
  by_cases hne : l = []
  · subst hne
    exact ⟨M, F, by rw [h.append_nil, List.append_nil], by rw [List.append_nil]; exact hX, by simp [framesF], h⟩
  · rcases h.append hX.1 hne hp hf hr with q | ⟨q, _⟩
    · exact q
    · cases q
theorem UpF.cut_ok (h : UpF M F cap st false) (hT : Tidy F E) {n : Nat} (hn : n ≤ E.length) :
    ∃ M' F', (⟨E, st, false⟩ : SegM).cut M (n : Int) = (0, ⟨E.take n, st, false⟩, M') ∧ Exact F' (E.take n) ∧ AM.sum List.length F' ≤ AM.sum List.length F ∧ UpF M' F' cap st false := by
  obtain ⟨r0, F', hX, hs, hu⟩ := cut_tidy h hT (S := ⟨E, st, false⟩) rfl hn
  refine ⟨_, F', ?_, hX, hs, hu⟩
  unfold SegM.cut
  rw [if_neg (by rw [h.over]; simp), if_neg (by rintro (q | q); omega; exact absurd q (by show ¬ (E.length : Int) < (n : Int); omega)), Int.toNat_natCast, r0, if_pos rfl]
  rfl
theorem UpF.new {cap : Int} (h : (DiskM.new cap).Ok) : UpF (DiskM.new cap) [] cap 0 false := ⟨h, (fun q => by cases q), rfl, rfl, rfl, rfl, rfl, rfl⟩
theorem UpF.few (h : UpF M F cap st fl) (hT : Tidy F E) : M.files.length + M.loose.length < 80000000 := by
  have := hT.len
  have := hT.few
  rw [h.files, h.loose]
  simp
  omega
theorem UpF.keys (h : UpF M F cap st fl) (hX : Exact F E) {n : Nat} (hn : n = (E.length + 63) / 64) : M.files.map (·.1) = (List.range n).map (fun i : Nat => 1000 + (i : Int)) := by
  rw [h.files, hX.keys, hn]
theorem frames_alike (n : Nat) (s : By) : (framesF (List.replicate n s)).length = n * (12 + s.length) := by
  induction n with
  | zero => simp [framesF]
  | succ n ih => rw [List.replicate_succ, frames_len_cons, ih, Nat.succ_mul]; omega
end
end Go.Proofs.YtlgeijbgkipliaaGreatDoor
