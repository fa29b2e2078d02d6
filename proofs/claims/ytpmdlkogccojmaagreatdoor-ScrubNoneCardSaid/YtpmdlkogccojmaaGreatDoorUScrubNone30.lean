/- Ring1 -/
import Derived.Deep.RegionHeld3
import Derived.Test.YtpmdlkogccojmaaGreatDoorUScrubNone23
import Derived.Test.YtpmdlkogccojmaaGreatDoorUScrubNone29
set_option linter.unusedVariables false
set_option linter.unusedSimpArgs false
set_option maxRecDepth 100000
set_option maxHeartbeats 16000000
namespace Go.Proofs.YtpmdlkogccojmaaGreatDoor
open Go.RowKit
end Go.Proofs.YtpmdlkogccojmaaGreatDoor
