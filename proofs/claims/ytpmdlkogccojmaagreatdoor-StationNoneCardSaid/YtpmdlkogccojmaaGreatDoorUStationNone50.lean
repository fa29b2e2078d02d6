/- HeadIn -/
import Derived.OpenShut
import Derived.Test.YtpmdlkogccojmaaGreatDoorUStationNone49
import Derived.Test.YtpmdlkogccojmaaGreatDoorUStationNone22
set_option linter.unusedVariables false
set_option linter.unusedSimpArgs false
namespace Go.Proofs.YtpmdlkogccojmaaGreatDoor
open Go.RowKit Go.WideShapes Go.ChangeShapes Go.Joins
end Go.Proofs.YtpmdlkogccojmaaGreatDoor
