/- Clone Seg1 Seg2 Seg3 Seg4a Seg5 SegPlan1 SegPlan2 SegPlan2b -/
import Derived.Deep.RegionHeld3
import Derived.Test.YtpmdlkogccojmaaGreatDoorUScrubNone39
import Derived.Test.YtpmdlkogccojmaaGreatDoorUScrubNone35
import Derived.Test.YtpmdlkogccojmaaGreatDoorUScrubNone15
import Derived.Test.YtpmdlkogccojmaaGreatDoorUScrubNone36
import Derived.Test.YtpmdlkogccojmaaGreatDoorUScrubNone37
import Derived.Test.YtpmdlkogccojmaaGreatDoorUScrubNone38
import Derived.Test.YtpmdlkogccojmaaGreatDoorUScrubNone03
import Derived.Test.YtpmdlkogccojmaaGreatDoorUScrubNone29
import Derived.Test.YtpmdlkogccojmaaGreatDoorUScrubNone14
import Derived.Test.YtpmdlkogccojmaaGreatDoorUScrubNone02
set_option linter.unusedVariables false
set_option linter.unusedSimpArgs false
set_option maxRecDepth 100000
set_option maxHeartbeats 16000000
namespace Go.Proofs.YtpmdlkogccojmaaGreatDoor
open Go.RowKit Go.Shelf
section
variable {w : World} {size : Nat} {v : Value} {xs : List Value}
end
end Go.Proofs.YtpmdlkogccojmaaGreatDoor
namespace Go.Proofs.YtpmdlkogccojmaaGreatDoor
open Go.RowKit
section
variable {w w' : World} {s d : Nat} {G : SegM} {S B : Nat → Prop} {M : DiskM}
theorem IsSeg.kept {Z : Nat → Prop} (h : IsSeg w s d G S) (hk : Kept Z w w') (hZ : ∀ k, S k → ¬ Z k) : IsSeg w' s d G S:=by
 obtain ⟨⟨x, y, h1, h2, h3, h4, h5⟩, h6, h7, h8⟩:=h
 exact ⟨⟨x, y, h1.kept hk (hZ _ h6), h2.kept hk (fun k q=>hZ k (h4 k q)), h3.kept hk (fun k q=>hZ k (h5 k q)), h4, h5⟩, h6, h7, h8⟩
end
section
variable {w w' : World} {s d : Nat} {G : SegM} {S B : Nat → Prop} {M : DiskM}
end
section
variable {w w' : World} {s d : Nat} {G : SegM} {S B : Nat → Prop} {M : DiskM}
end
section
variable {w : World} {s d : Nat}
end
section
variable {w : World} {s d : Nat}
end
section
variable {w0 wr w1 w2 : World} {X0 part : List By} {tb i : Nat} {ev v ev' v2 : Value} {p : By}
end
section
variable {w W W' : World} {s d : Nat} {sv ev ev2 : Value} {cs : List Chg} {zs : List Nat}
end
section
variable {w W Wc : World} {s d : Nat} {F : List (Int × By)} {E l done rest : List By} {cs : List Chg} {sv ev lv hv vb ev2 : Value} {n : Int} {q : Nat}
end
section
variable {w W Wc : World} {s d : Nat} {F : List (Int × By)} {E l done rest part : List By} {cs : List Chg} {sv ev hv vb ev2 : Value} {ea xa : Option Addr} {em ec xc : Nat} {n : Int}
end
end Go.Proofs.YtpmdlkogccojmaaGreatDoor
