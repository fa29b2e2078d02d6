/- Codec2 -/
import Derived.OwnWalk
import Derived.Test.YtlgeijbgkipliaaGreatDoorUSegmentsOpen25
set_option linter.unusedVariables false
set_option linter.unusedSimpArgs false
namespace Go.Proofs.YtlgeijbgkipliaaGreatDoor
open Go.RowKit
end Go.Proofs.YtlgeijbgkipliaaGreatDoor
