/- Bld2 -/
import Derived.Lib.AppendZeros
import Derived.Test.YtlgeijbgkipliaaGreatDoorUChecksSure20
import Derived.Test.YtlgeijbgkipliaaGreatDoorUChecksSure10
set_option linter.unusedVariables false
set_option linter.unusedSimpArgs false
namespace Go.Proofs.YtlgeijbgkipliaaGreatDoor
open Go.RowKit
section
variable {w w' : World} {b : Nat} {v : Value} {l : List UInt8}
end
end Go.Proofs.YtlgeijbgkipliaaGreatDoor
