/- FrG2 -/
import Derived.Test.YtdmedbhbefdnkaaGreatDoorUKeyringOpen33
import Derived.Test.YtdmedbhbefdnkaaGreatDoorUKeyringOpen24
set_option linter.unusedVariables false
set_option linter.unusedSimpArgs false
namespace Go.Proofs.YtdmedbhbefdnkaaGreatDoor
open Go.RowKit
section
variable {w0 w : World} {d : Nat} {M : DiskM} {Os : List Og}
end
end Go.Proofs.YtdmedbhbefdnkaaGreatDoor
