/- FrG2 -/
import Derived.Test.YtdmedbhbefdnkaaGreatDoorUKeyringPlay33
import Derived.Test.YtdmedbhbefdnkaaGreatDoorUKeyringPlay36
set_option linter.unusedVariables false
set_option linter.unusedSimpArgs false
set_option maxRecDepth 100000
set_option maxHeartbeats 16000000
namespace Go.Proofs.YtdmedbhbefdnkaaGreatDoor
open Go.RowKit
section
variable {w0 w : World} {d : Nat} {M : DiskM} {Os : List Og}
end
end Go.Proofs.YtdmedbhbefdnkaaGreatDoor
