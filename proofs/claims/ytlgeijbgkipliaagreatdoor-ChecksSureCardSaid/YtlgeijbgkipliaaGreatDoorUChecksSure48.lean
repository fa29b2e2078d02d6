/- ChkO1 -/
import Derived.Test.YtlgeijbgkipliaaGreatDoorUChecksSure46
import Derived.Test.YtlgeijbgkipliaaGreatDoorUChecksSure47
set_option linter.unusedVariables false
set_option linter.unusedSimpArgs false
namespace Go.Proofs.YtlgeijbgkipliaaGreatDoor
open Go.RowKit Go.Shelf
def firstF (M : DiskM) : List Int → Option (Int × By)
  | [] => none
  | n :: r => if 1000 ≤ n then firstF M r else match AM.get M.files n with
    | some b => if (wholeF b).1 = [] then firstF M r else some (n, b)
    | none => firstF M r
def lastF (M : DiskM) : Option (Int × By) := firstF M (M.files.map (·.1)).reverse
theorem firstF_big {M : DiskM} {n : Int} {r : List Int} (h : 1000 ≤ n) : firstF M (n :: r) = firstF M r := by rw [firstF, if_pos h]
theorem firstF_void {M : DiskM} {n : Int} {r : List Int} {b : By} (h : ¬ 1000 ≤ n) (hb : AM.get M.files n = some b) (hv : (wholeF b).1 = []) : firstF M (n :: r) = firstF M r := by rw [firstF, if_neg h]; simp only [hb, if_pos hv]
theorem firstF_hit {M : DiskM} {n : Int} {r : List Int} {b : By} (h : ¬ 1000 ≤ n) (hb : AM.get M.files n = some b) (hv : ¬ (wholeF b).1 = []) : firstF M (n :: r) = some (n, b) := by rw [firstF, if_neg h]; simp only [hb, if_neg hv]
theorem firstF_mem {M : DiskM} {n : Int} {b : By} : ∀ {l : List Int}, firstF M l = some (n, b) → n ∈ l ∧ n < 1000 ∧ AM.get M.files n = some b ∧ (wholeF b).1 ≠ [] := by
  intro l
  induction l with
  | nil => intro h; cases h
  | cons a r ih =>
    intro h
    rw [firstF] at h
    by_cases ha : 1000 ≤ a
    · rw [if_pos ha] at h
      exact ⟨List.mem_cons_of_mem _ (ih h).1, (ih h).2⟩
    · rw [if_neg ha] at h
      cases hg : AM.get M.files a with
      | none => rw [hg] at h; exact ⟨List.mem_cons_of_mem _ (ih h).1, (ih h).2⟩
      | some x =>
        rw [hg] at h
        simp only at h
        by_cases hx : (wholeF x).1 = []
        · rw [if_pos hx] at h; exact ⟨List.mem_cons_of_mem _ (ih h).1, (ih h).2⟩
        · rw [if_neg hx] at h
          cases h
          exact ⟨List.mem_cons_self .., by omega, hg, hx⟩
section
variable {w0 W0 W : World} {d : Nat} {B fp Z : Nat → Prop} {M : DiskM} {Xs Ys Os : List Og}
theorem LoopD.same {W' : World} (h : LoopD W0 d B fp Z M W) (hk : Kept (fun _ => False) W W') : LoopD W0 d B fp Z M W' := ⟨h.1, h.2.1.kept hk (fun _ _ => id), h.2.2.trans (hk.mono (fun _ _ => False.elim))⟩
theorem FrG.jump (h0 : FrG w0 W0 d M B (Xs ++ Os)) (hJ : LoopD W0 d B fp Z M W) (hfp : ∀ k, fp k → k < W0.heap.size ∧ ¬ B k) (hZ : ∀ k, Z k → ∃ x ∈ Xs, x.own k) (hY : ∀ y ∈ Ys, y.holds W d ∧ ∀ k, y.own k → (∃ x ∈ Xs, x.own k) ∨ W0.heap.size ≤ k) (hA : Ys.Pairwise fun x y => ∀ k, x.own k → ¬ y.own k) :
    FrG w0 W d M (fun k => B k ∨ ∃ y ∈ Ys, y.own k) (Ys ++ Os) := by
  obtain ⟨p1, p2, p3⟩ := List.pairwise_append.1 h0.apart
  have hX : ∀ x ∈ Xs, ∀ k, x.own k → B k ∧ w0.heap.size ≤ k := fun x q => (h0.obs x (List.mem_append_left _ q)).2
  have hs := h0.kept.size
  refine ⟨⟨hJ.1, ?_, fp, hJ.2.1, ?_⟩, fun k q => Or.inl (h0.old k q), h0.tab0, h0.kept.then_ hJ.2.2 (fun i hi z => ?_), fun x q => ?_, List.pairwise_append.2 ⟨hA, p2, fun y q x q2 k e z => ?_⟩⟩
  · rintro k (q | ⟨y, q, e⟩)
    · exact Nat.lt_of_lt_of_le (h0.ap.2.1 k q) hJ.2.2.size
    · exact Og.lt (hY y q).1 e
  · rintro k q (z | ⟨y, q2, e⟩)
    · exact (hfp k q).2 z
    · rcases (hY y q2).2 k e with ⟨x, qx, ex⟩ | z
      · exact (hfp k q).2 (hX x qx k ex).1
      · have := (hfp k q).1; omega
  · rcases z with z | z | z
    · exact z (h0.old i hi)
    · omega
    · obtain ⟨x, qx, ex⟩ := hZ i z
      have := (hX x qx i ex).2
      omega
  · rcases List.mem_append.1 q with q | q
    · refine ⟨(hY x q).1, fun k e => ⟨Or.inr ⟨x, q, e⟩, ?_⟩⟩
      rcases (hY x q).2 k e with ⟨x', qx, ex⟩ | z
      · exact (hX x' qx k ex).2
      · omega
    · have hx := h0.obs x (List.mem_append_right _ q)
      refine ⟨Og.keep hx.1 hJ.2.2 (fun k e z => ?_), fun k e => ⟨Or.inl (hx.2 k e).1, (hx.2 k e).2⟩⟩
      rcases z with z | z | z
      · exact z (hx.2 k e).1
      · have := Og.lt hx.1 e; omega
      · obtain ⟨x', qx, ex⟩ := hZ k z
        exact p3 x' qx x q k ex e
  · rcases (hY y q).2 k e with ⟨x', qx, ex⟩ | n
    · exact p3 x' qx x q2 k ex z
    · have := Og.lt (h0.obs x (List.mem_append_right _ q2)).1 z; omega
structure Found (W0 W : World) (d c eb wb : Nat) (n : Int) (b : By) (p : PtM) (st : Int) (u v : Value) : Prop where
  chk : Blk W c (chkC d n ((wholeF b).1.length : Int) (p.cells u v) st false) 74
  en : Blk W eb [.int .i64 ((b.length - (wholeF b).2.length : Nat) : Int)] 3
  wh : Blk W wb [.bool (decide (b.length - (wholeF b).2.length = b.length))] 4
  r1 : Row W 57 32 u (hcells p.hs)
  r2 : Row W 57 32 v (hcells p.path)
  o1 : ∀ k, u.ownBlock = some k → W0.heap.size ≤ k
  o2 : ∀ k, v.ownBlock = some k → W0.heap.size ≤ k
  o12 : ∀ k, u.ownBlock = some k → ¬ v.ownBlock = some k
theorem Found.grown {c eb wb : Nat} {n : Int} {b : By} {p : PtM} {st : Int} {u v : Value} {W' : World} (h : Found W0 W d c eb wb n b p st u v) {row : Option Nat} (hg : W.grownBy W' row) (hr : ∀ r, row = some r → W0.heap.size ≤ r ∧ ∃ o : Obj, W.heap[r]? = some o ∧ o.isCells = false) : Found W0 W' d c eb wb n b p st u v :=
  have no : ∀ k, row = some k → ¬ IsCells W k := fun k e => by obtain ⟨_, o, ho, hc⟩ := hr k e; exact nonCells ho hc
  ⟨h.chk.kept (grown_kept hg) (fun e => no _ e h.chk.cells), h.en.kept (grown_kept hg) (fun e => no _ e h.en.cells), h.wh.kept (grown_kept hg) (fun e => no _ e h.wh.cells),
    h.r1.kept (grown_kept hg) (fun k q e => no _ e (h.r1.ownCells q)), h.r2.kept (grown_kept hg) (fun k q e => no _ e (h.r2.ownCells q)), h.o1, h.o2, h.o12⟩
end
end Go.Proofs.YtlgeijbgkipliaaGreatDoor
