/- Lam4 Lam5 Lam6 Lam7 -/
import Derived.Lib.LazyBuf
import Derived.BigQuiet
import Derived.Test.YtpmdlkogccojmaaGreatDoorUScrubNone19
import Derived.Test.YtpmdlkogccojmaaGreatDoorUScrubNone20
import Derived.Test.YtpmdlkogccojmaaGreatDoorUScrubNone07
set_option linter.unusedVariables false
set_option linter.unusedSimpArgs false
set_option maxRecDepth 100000
set_option maxHeartbeats 16000000
namespace Go.Proofs.YtpmdlkogccojmaaGreatDoor
open Go.RowKit
section
variable {w wr w' : World} {sb ob : Nat} {v sv ov : Value} {P : List By} {A B : By}
end
end Go.Proofs.YtpmdlkogccojmaaGreatDoor
