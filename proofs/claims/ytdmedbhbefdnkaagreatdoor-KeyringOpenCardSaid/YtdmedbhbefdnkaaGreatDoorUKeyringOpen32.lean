/- FillH -/
import Derived.OrdersHeld
import Derived.Test.YtdmedbhbefdnkaaGreatDoorUKeyringOpen15
import Derived.Test.YtdmedbhbefdnkaaGreatDoorUKeyringOpen30
set_option linter.unusedVariables false
set_option linter.unusedSimpArgs false
namespace Go.Proofs.YtdmedbhbefdnkaaGreatDoor
open Go.RowKit
section
variable {P : Program} {ops : Array Oper} {S : World → Prop} {o : Oper} {a : Act}
end
end Go.Proofs.YtdmedbhbefdnkaaGreatDoor
