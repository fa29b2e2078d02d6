/- Bld2 -/
import Derived.Lib.AppendZeros
import Derived.Test.YtpmdlkogccojmaaGreatDoorUScrubNone09
import Derived.Test.YtpmdlkogccojmaaGreatDoorUScrubNone04
set_option linter.unusedVariables false
set_option linter.unusedSimpArgs false
set_option maxRecDepth 100000
set_option maxHeartbeats 16000000
namespace Go.Proofs.YtpmdlkogccojmaaGreatDoor
open Go.RowKit
section
variable {w w' : World} {b : Nat} {v : Value} {l : List UInt8}
end
end Go.Proofs.YtpmdlkogccojmaaGreatDoor
