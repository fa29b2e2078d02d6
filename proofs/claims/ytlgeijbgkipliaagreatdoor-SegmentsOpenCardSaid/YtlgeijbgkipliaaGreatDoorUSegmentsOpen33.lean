/- Trees4 -/
import Derived.Laws.EntriesVeiled
import Derived.Test.YtlgeijbgkipliaaGreatDoorUSegmentsOpen29
set_option linter.unusedVariables false
set_option linter.unusedSimpArgs false
namespace Go.Proofs.YtlgeijbgkipliaaGreatDoor
open Go.RowKit
end Go.Proofs.YtlgeijbgkipliaaGreatDoor
