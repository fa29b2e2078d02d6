/- Paths1 Paths2 Lam2 Lam3 -/
import Derived.Lib.AppendZeros
import Derived.Test.YtpmdlkogccojmaaGreatDoorUScrubNone17
import Derived.Test.YtpmdlkogccojmaaGreatDoorUScrubNone18
import Derived.Test.YtpmdlkogccojmaaGreatDoorUScrubNone16
import Derived.Test.YtpmdlkogccojmaaGreatDoorUScrubNone14
import Derived.Test.YtpmdlkogccojmaaGreatDoorUScrubNone09
set_option linter.unusedVariables false
set_option linter.unusedSimpArgs false
set_option maxRecDepth 100000
set_option maxHeartbeats 16000000
namespace Go.Proofs.YtpmdlkogccojmaaGreatDoor
open Go.RowKit Go.Sort Go.Shelf
abbrev H32:={l : By // l.length = 32}
instance : Inhabited H32:=⟨⟨List.replicate 32 0, by simp⟩⟩
def hcell (x : H32) : List Value:=bytes8 x.1
section
variable {w : World} {g n cap : Nat}
end
end Go.Proofs.YtpmdlkogccojmaaGreatDoor
namespace Go.Proofs.YtpmdlkogccojmaaGreatDoor
open Go.RowKit
end Go.Proofs.YtpmdlkogccojmaaGreatDoor
