/- SegDrop FrG2 -/
import Derived.Laws.EntriesVeiled
import Derived.Test.YtlgeijbgkipliaaGreatDoorUChecksSure37
import Derived.Test.YtlgeijbgkipliaaGreatDoorUChecksSure24
set_option linter.unusedVariables false
set_option linter.unusedSimpArgs false
namespace Go.Proofs.YtlgeijbgkipliaaGreatDoor
open Go.RowKit Go.Shelf
attribute [local go_sem] Oper.semAt_some
def IsCells (w : World) (k : Nat) : Prop := ∃ c t f, w.heap[k]? = some (.cells c t f)
theorem Blk.cells {w : World} {b : Nat} {c : List Value} {t : TypeId} (h : Blk w b c t) : IsCells w b := ⟨_, _, _, h⟩
theorem Row.ownCells {w : World} {e : TypeId} {size : Nat} {v : Value} {xs : List Value} (h : Row w e size v xs) {k : Nat} (hk : v.ownBlock = some k) : IsCells w k := by
  rcases h with ⟨rfl, _⟩ | ⟨g, n, cap, rest, rfl, _, hb, _⟩
  · simp [Value.ownBlock] at hk
  · simp [Value.ownBlock] at hk; subst hk; exact hb.cells
def CellsT (w : World) (k : Nat) (t : TypeId) : Prop := ∃ c f, w.heap[k]? = some (.cells c t f)
theorem CellsT.keepsFrom {w w' : World} {Z : Nat → Prop} (hk : Kept Z w w') (hZ : ∀ k, k < w.heap.size → Z k → IsCells w k) (B : Nat) : KeepsFrom B w w' :=
  ⟨hk.size, fun k o _ h ho => (hk.block k (Array.getElem?_eq_some_iff.1 h).1 (fun z => by obtain ⟨c, t, f, q⟩ := hZ k (Array.getElem?_eq_some_iff.1 h).1 z; rw [h] at q; cases q; cases ho)).trans h⟩
theorem grown_kept {X Y : World} {row : Option Nat} (hg : X.grownBy Y row) : Kept (fun k => row = some k) X Y := (Kept.refl _ _).grown hg (fun _ e _ => e)
theorem nonCells {X : World} {k : Nat} {o : Obj} (h : X.heap[k]? = some o) (ho : o.isCells = false) : ¬ IsCells X k := by
  rintro ⟨c, t, f, q⟩
  rw [h] at q
  cases q
  cases ho
theorem Apart.files {B : Nat → Prop} {d : Nat} {M : DiskM} {w : World} (h : Apart B d M w) : Calls Tryz.prog 28 #[.pointer (some ⟨d, 0, none⟩)] w (FilesTo w M) := by
  obtain ⟨_, _, fp, h1, _⟩ := h
  exact files_any w h1
theorem Apart.keys {B : Nat → Prop} {d : Nat} {M : DiskM} {w : World} (h : Apart B d M w) : ∀ x ∈ M.files.map (·.1), -9223372036854775808 ≤ x ∧ x ≤ 9223372036854775807 := by
  intro x hx
  obtain ⟨p, hp, rfl⟩ := List.mem_map.1 hx
  have := h.ok.keys p hp
  omega
theorem icells_intsV (l : List Int) : icells l = intsV l := rfl
end Go.Proofs.YtlgeijbgkipliaaGreatDoor

namespace Go.Proofs.YtlgeijbgkipliaaGreatDoor
open Go.RowKit
def Og.irow (v : Value) (l : List Int) : Og := ⟨fun k => v.ownBlock = some k, fun w _ => Row w 3 1 v (icells l), fun h hk hZ => Row.kept h hk hZ, fun h hk => Row.lt h hk⟩
section
variable {w0 w : World} {d : Nat} {M : DiskM} {Os : List Og}
theorem Owg.dfree (h : Owg w0 w d M Os) : Calls Tryz.prog 46 #[.pointer (some ⟨d, 0, none⟩)] w fun e w' => e = .returned (.int .i64 (M.cap - M.total)) ∧ Owg w0 w' d M Os := by
  obtain ⟨B, hb⟩ := id h
  obtain ⟨_, _, fp, h1, _⟩ := hb.ap
  exact (free_any w h1).mono fun e w' q => ⟨q.1, h.same q.2⟩
theorem Owg.dfiles (h : Owg w0 w d M Os) : Calls Tryz.prog 28 #[.pointer (some ⟨d, 0, none⟩)] w fun e w' => ∃ a n c, e = .returned (.slice a n c) ∧ n = M.files.length ∧ Owg w0 w' d M (.irow (.slice a n c) (M.files.map (·.1)) :: Os) := by
  obtain ⟨B, hb⟩ := id h
  refine hb.ap.files.mono fun e w' q => ?_
  obtain ⟨v, rfl, hrow, hk, ho⟩ := q
  obtain ⟨a, n, c, rfl, hn, _⟩ := hrow.form (by omega)
  have hl : (icells (M.files.map (·.1))).length = M.files.length := by simp [icells]
  exact ⟨a, n, c, rfl, by omega, h.add hk hrow ho⟩
end
end Go.Proofs.YtlgeijbgkipliaaGreatDoor
