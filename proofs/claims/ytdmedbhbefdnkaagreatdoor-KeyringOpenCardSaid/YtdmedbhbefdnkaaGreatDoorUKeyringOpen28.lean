/- Calm -/
import Derived.Test.YtdmedbhbefdnkaaGreatDoorUKeyringOpen21
import Derived.Test.YtdmedbhbefdnkaaGreatDoorUKeyringOpen23
set_option linter.unusedVariables false
set_option linter.unusedSimpArgs false
namespace Go.Proofs.YtdmedbhbefdnkaaGreatDoor
open Go.RowKit
structure Calm (M : DiskM) : Prop where
  nf : M.fails = false
  up : M.down = false
  rise : AM.Rise M.files
section
variable {M M' M1 M2 : DiskM} {e : Int} {L : List By}
theorem Calm.tick (h : Calm M) : M.tick = M := by unfold DiskM.tick; rw [if_neg (by rw [h.nf]; simp)]
theorem Calm.sinks (h : Calm M) : M.sinks = false := by unfold DiskM.sinks; rw [h.nf]; rfl
theorem Calm.create (h : Calm M) (n : Int) : Calm (M.create n).2 ∧ (M.create n).2.starts = M.starts := by
  unfold DiskM.create
  rw [if_neg (by rw [h.up]; simp)]
  split
  · exact ⟨h, rfl⟩
  · split
    · exact ⟨h, rfl⟩
    · split
      · exact ⟨h, rfl⟩
      · rw [if_neg (by rw [h.sinks]; simp), h.tick]
        exact ⟨⟨h.nf, h.up, AM.rise_set h.rise _ _⟩, rfl⟩
theorem Calm.append (h : Calm M) (n : Int) (s : By) : Calm (M.append n s).2 ∧ (M.append n s).2.starts = M.starts := by
  unfold DiskM.append
  split
  · exact ⟨h, rfl⟩
  · split
    · exact ⟨h, rfl⟩
    · have h2 : Calm (M.appended n s) := ⟨h.nf, h.up, AM.rise_set h.rise _ _⟩
      rw [if_neg (by rw [h.sinks]; simp), h2.tick]
      exact ⟨h2, rfl⟩
theorem Calm.truncate (h : Calm M) (n size : Int) : Calm (M.truncate n size).2 ∧ (M.truncate n size).2.starts = M.starts := by
  unfold DiskM.truncate
  split
  · exact ⟨h, rfl⟩
  · split
    · exact ⟨h, rfl⟩
    · rw [if_neg (by rw [h.sinks]; simp), h.tick]
      exact ⟨⟨h.nf, h.up, AM.rise_set h.rise _ _⟩, rfl⟩
theorem Calm.sync (h : Calm M) : M.sync = (0, { M with loose := [] }) := by
  unfold DiskM.sync
  rw [if_neg (by rw [h.up]; simp), if_neg (by rw [h.sinks]; simp), h.tick]
theorem Calm.synced (h : Calm M) : Calm { M with loose := [] } := ⟨h.nf, h.up, h.rise⟩
end
end Go.Proofs.YtdmedbhbefdnkaaGreatDoor
