/- Calm -/
import Derived.Test.YtdmedbhbefdnkaaGreatDoorUKeyringPlay31
import Derived.Test.YtdmedbhbefdnkaaGreatDoorUKeyringPlay23
set_option linter.unusedVariables false
set_option linter.unusedSimpArgs false
set_option maxRecDepth 100000
set_option maxHeartbeats 16000000
namespace Go.Proofs.YtdmedbhbefdnkaaGreatDoor
open Go.RowKit
section
variable {M M' M1 M2 : DiskM} {e : Int} {L : List By}
end
end Go.Proofs.YtdmedbhbefdnkaaGreatDoor
