/- SegPlan3 Seg4 Seg4b -/
import Derived.Deep.CutRange
import Derived.Test.YtpmdlkogccojmaaGreatDoorUScrubNone40
set_option linter.unusedVariables false
set_option linter.unusedSimpArgs false
set_option maxRecDepth 100000
set_option maxHeartbeats 16000000
namespace Go.Proofs.YtpmdlkogccojmaaGreatDoor
open Go.RowKit
section
variable {w W W' : World} {s d : Nat} {B S : Nat → Prop} {M : DiskM} {G : SegM} {E l done rest : List By} {cs : List Chg} {sv ev lv hv : Value}
end
section
variable {w w1 w' W W' : World} {s d : Nat} {B S : Nat → Prop} {M : DiskM} {G : SegM} {E l : List By} {cs : List Chg} {zs : List Nat} {sv ev lv : Value}
end
section
variable {w : World} {s d : Nat} {B S : Nat → Prop} {M : DiskM} {G : SegM} {l : List By}
end
end Go.Proofs.YtpmdlkogccojmaaGreatDoor
