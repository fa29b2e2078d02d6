/- HeadIn -/
import Derived.OpenShut
import Derived.Test.YtlgeijbgkipliaaGreatDoorUChecksSure09
import Derived.Test.YtlgeijbgkipliaaGreatDoorUChecksSure29
set_option linter.unusedVariables false
set_option linter.unusedSimpArgs false
namespace Go.Proofs.YtlgeijbgkipliaaGreatDoor
open Go.RowKit Go.WideShapes Go.ChangeShapes Go.Joins
theorem c_u8 : Tryz.prog.cellsOf 5 = 1 := by kernel_rfl
end Go.Proofs.YtlgeijbgkipliaaGreatDoor
