/- Builder BldByte -/
import Derived.Lib.Builder
import Derived.Laws.AppendOwn
import Derived.Lib.AppendStr
import Derived.Test.YtpmdlkogccojmaaGreatDoorUScrubNone08
import Derived.Test.YtpmdlkogccojmaaGreatDoorUScrubNone07
set_option linter.unusedVariables false
set_option linter.unusedSimpArgs false
set_option maxRecDepth 100000
set_option maxHeartbeats 16000000
namespace Go.Proofs.YtpmdlkogccojmaaGreatDoor
open Go.RowKit
theorem bytes8_append (l r : List UInt8) : bytes8 (l ++ r) = bytes8 l ++ bytes8 r:=by simp [bytes8]
end Go.Proofs.YtpmdlkogccojmaaGreatDoor
