/- BackH Rng1 -/
import Derived.Sort.CutIn
import Derived.Test.YtlgeijbgkipliaaGreatDoorUSegmentsOpen10
import Derived.Test.YtlgeijbgkipliaaGreatDoorUSegmentsOpen35
import Derived.Test.YtlgeijbgkipliaaGreatDoorUSegmentsOpen29
import Derived.Test.YtlgeijbgkipliaaGreatDoorUSegmentsOpen24
import Derived.Test.YtlgeijbgkipliaaGreatDoorUSegmentsOpen19
import Derived.Test.YtlgeijbgkipliaaGreatDoorUSegmentsOpen33
import Derived.Test.YtlgeijbgkipliaaGreatDoorUSegmentsOpen14
set_option linter.unusedVariables false
set_option linter.unusedSimpArgs false
namespace Go.Proofs.YtlgeijbgkipliaaGreatDoor
open Go.RowKit Go.Shelf
attribute [local go_sem] Oper.semAt_some
section
variable {α : Type}
end
end Go.Proofs.YtlgeijbgkipliaaGreatDoor

namespace Go.Proofs.YtlgeijbgkipliaaGreatDoor
open Go.RowKit Go.Shelf
attribute [local go_sem] Oper.semAt_some
def rngOk (size : Int) (n : Nat) : Prop := 0 ≤ size ∧ size ≤ 4096 ∧ n = ones size.toNat
instance (size : Int) (n : Nat) : Decidable (rngOk size n) := by unfold rngOk; infer_instance
end Go.Proofs.YtlgeijbgkipliaaGreatDoor
