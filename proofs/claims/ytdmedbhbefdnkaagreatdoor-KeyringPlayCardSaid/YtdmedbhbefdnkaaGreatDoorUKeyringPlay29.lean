/- FillH -/
import Derived.OrdersHeld
import Derived.Test.YtdmedbhbefdnkaaGreatDoorUKeyringPlay14
import Derived.Test.YtdmedbhbefdnkaaGreatDoorUKeyringPlay26
set_option linter.unusedVariables false
set_option linter.unusedSimpArgs false
set_option maxRecDepth 100000
set_option maxHeartbeats 16000000
namespace Go.Proofs.YtdmedbhbefdnkaaGreatDoor
open Go.RowKit
section
variable {P : Program} {ops : Array Oper} {S : World → Prop} {o : Oper} {a : Act}
end
end Go.Proofs.YtdmedbhbefdnkaaGreatDoor
