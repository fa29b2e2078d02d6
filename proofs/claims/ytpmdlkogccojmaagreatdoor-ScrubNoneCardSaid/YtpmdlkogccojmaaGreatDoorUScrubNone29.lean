/- RingP OneDisk SegM SegP1 SegP2 SegP3 SegP4 SegP5 SegP6 -/
import Derived.Test.YtpmdlkogccojmaaGreatDoorUScrubNone16
import Derived.Test.YtpmdlkogccojmaaGreatDoorUScrubNone28
set_option linter.unusedVariables false
set_option linter.unusedSimpArgs false
set_option maxRecDepth 100000
set_option maxHeartbeats 16000000
namespace Go.Proofs.YtpmdlkogccojmaaGreatDoor
structure RingM where
 seed : ByteArray
 signed : List Hd
 starts : Int
 dead : Bool
section
variable {f s : By} {cap starts left keep : Int} {fails : Bool}
end
def endsG : Nat → Nat → List By → List Nat
 | _, _, []=>[]
 | c, a, p::r=>((if c % 64 = 0 then 0 else a) + 12 + p.length)::endsG (c + 1) ((if c % 64 = 0 then 0 else a) + 12 + p.length) r
def endsE (l : List By) : List Nat:=endsG 0 0 l
inductive Chg where
 | del (n : Int)
 | cut (n : Int) (size : Int)
 | make (n : Int)
 | app (n : Int) (b : By)
 | sync
structure SegM where
 entries : List By
 starts : Int
 dead : Bool
section
variable {F : List (Int × By)} {E : List By} {t : Option By}
end
section
variable {M : DiskM} {F F' : List (Int × By)} {cap st : Int} {fl : Bool}
end
section
variable {M : DiskM} {F F' : List (Int × By)} {cap st : Int} {fl : Bool} {E : List By} {t : Option By}
end
section
variable {F : List (Int × By)} {E ps : List By}
end
section
variable {M : DiskM} {cap st : Int} {fl : Bool} {E l : List By}
end
section
variable {M : DiskM} {F : List (Int × By)} {cap st : Int} {fl : Bool} {E l : List By} {X : Nat}
end
section
variable {M : DiskM} {F : List (Int × By)} {cap st : Int} {fl : Bool} {E l : List By}
end
section
variable {M : DiskM} {F : List (Int × By)} {cap st : Int} {E : List By}
end
section
variable {has : Int → Bool} {E l done rest : List By} {cs : List Chg}
end
end Go.Proofs.YtpmdlkogccojmaaGreatDoor
