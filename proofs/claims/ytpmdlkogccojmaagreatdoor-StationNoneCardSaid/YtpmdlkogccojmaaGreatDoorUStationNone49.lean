/- Open -/
import Derived.Deep.Slices
import Derived.Lib.SmallJoins
import Derived.ProofKit
import Derived.OpenShut
import Derived.Test.YtpmdlkogccojmaaGreatDoorUStationNone02
set_option linter.unusedVariables false
set_option linter.unusedSimpArgs false
namespace Go.Proofs.YtpmdlkogccojmaaGreatDoor
open Go.RowKit Go.WideShapes Go.ChangeShapes
def ElemAt (w : World) (a : Option Addr) (n i : Nat) (cs : List Value) : Prop :=
  ∃ b off, a = some ⟨b, off, none⟩ ∧ b < w.heap.size ∧ ∀ j v, cs[j]? = some v → w.cell? ⟨b, off + i * n + j, none⟩ = some v
theorem ElemAt.below {w w' : World} {a : Option Addr} {n i : Nat} {cs : List Value} (h : ElemAt w a n i cs) (hb : Below w.heap.size w w') : ElemAt w' a n i cs := by
  obtain ⟨b, off, rfl, hlt, hc⟩ := h
  exact ⟨b, off, rfl, Nat.lt_of_lt_of_le hlt hb.size, fun j v hv => (hb.cell (p := ⟨b, off + i * n + j, none⟩) hlt).trans (hc j v hv)⟩
end Go.Proofs.YtpmdlkogccojmaaGreatDoor
