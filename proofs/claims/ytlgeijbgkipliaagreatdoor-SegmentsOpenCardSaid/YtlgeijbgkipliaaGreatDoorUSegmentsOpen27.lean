/- Codec3 -/
import Derived.OwnWalk
import Derived.Lib.EndianBits
import Derived.Test.YtlgeijbgkipliaaGreatDoorUSegmentsOpen26
set_option linter.unusedVariables false
set_option linter.unusedSimpArgs false
namespace Go.Proofs.YtlgeijbgkipliaaGreatDoor
open Go.RowKit
end Go.Proofs.YtlgeijbgkipliaaGreatDoor
