/- ArrEq -/
import Derived.Laws.StructEq
import Derived.ChangeKeysEq
import Derived.Test.YtpmdlkogccojmaaGreatDoorUScrubNone02
set_option linter.unusedVariables false
set_option linter.unusedSimpArgs false
set_option maxRecDepth 100000
set_option maxHeartbeats 16000000
namespace Go.Proofs.YtpmdlkogccojmaaGreatDoor
open Go.RowKit
section
variable {P : Program} {t e : TypeId} {n : Nat} {q : IntKind} {i : TypeInfo}
end
end Go.Proofs.YtpmdlkogccojmaaGreatDoor
