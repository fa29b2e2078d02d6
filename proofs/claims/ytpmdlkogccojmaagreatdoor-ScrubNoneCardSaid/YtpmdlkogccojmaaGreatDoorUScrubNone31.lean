/- Ring2 RingRead Ring3 RingOpen RingNext RingNext2 RingKeep RingSign RingSign2 RingSign3 RingLast Same RingLaw -/
import Derived.Lib.AppendZeros
import Derived.Laws.Tables
import Derived.Deep.RegionHeld3
import Derived.Test.YtpmdlkogccojmaaGreatDoorUScrubNone30
import Derived.Test.YtpmdlkogccojmaaGreatDoorUScrubNone14
import Derived.Test.YtpmdlkogccojmaaGreatDoorUScrubNone03
import Derived.Test.YtpmdlkogccojmaaGreatDoorUScrubNone01
import Derived.Test.YtpmdlkogccojmaaGreatDoorUScrubNone23
import Derived.Test.YtpmdlkogccojmaaGreatDoorUScrubNone28
import Derived.Test.YtpmdlkogccojmaaGreatDoorUScrubNone29
set_option linter.unusedVariables false
set_option linter.unusedSimpArgs false
set_option maxRecDepth 100000
set_option maxHeartbeats 16000000
namespace Go.Proofs.YtpmdlkogccojmaaGreatDoor
open Go.RowKit
def hdC (l : List Hd) : List Value:=l.flatMap fun h=>headC (h.1 : Int) h.2
theorem head_oneCell {size : Int} {root : By} : ∀ v ∈ headC size root, v.oneCell' = true:=by
 intro v hv
 rcases List.mem_cons.1 hv with rfl | hv
 ·rfl
 ·exact u8_oneCell v hv
structure IsRing (w : World) (r d : Nat) (R : RingM) (S : Nat → Prop) : Prop where
 ex : ∃ t v, Blk w r [.pointer (some ⟨d, 0, none⟩), .pointer (some ⟨t, 0, none⟩), v, .int .i64 R.starts, .bool R.dead] 146∧IsTree w t R.seed (leavesF R.seed.data.toList)∧Row w 46 33 v (hdC R.signed)∧S t∧∀ k, v.ownBlock = some k → S k
 own : S r
 oks : ∀ x ∈ R.signed, HdOk x
 few : R.signed.length ≤ 8
 short : R.seed.size ≤ 1000
section
variable {w w' : World} {r d : Nat} {R : RingM} {S B : Nat → Prop} {M : DiskM}
theorem IsRing.kept {Z : Nat → Prop} (h : IsRing w r d R S) (hk : Kept Z w w') (hZ : ∀ k, S k → ¬ Z k) : IsRing w' r d R S:=by
 obtain ⟨⟨t, v, h1, h2, h3, h4, h5⟩, h6, h7, h8, h9⟩:=h
 exact ⟨⟨t, v, h1.kept hk (hZ _ h6), h2.kept hk (hZ _ h4), h3.kept hk (fun k hk'=>hZ k (h5 k hk')), h4, h5⟩, h6, h7, h8, h9⟩
end
section
variable {w : World} {d : Nat} {B : Nat → Prop} {M : DiskM}
end
section
variable {w : World} {r d : Nat} {R : RingM} {S : Nat → Prop}
end
section
variable {w : World} {r d : Nat} {R : RingM} {S : Nat → Prop}
end
section
variable {w : World} {r d : Nat} {R : RingM} {S B : Nat → Prop} {M : DiskM}
end
abbrev zeroRoot : By:=List.replicate 32 0
abbrev signed0C : List Value:=signedC 0 zeroRoot 0 ⟨#[]⟩ (.slice none 0 0)
section
variable {w : World} {r d : Nat} {R : RingM} {S B : Nat → Prop} {M : DiskM}
theorem signed0_len : signed0C.length = 36:=signedC_len (by simp)
theorem info_signed0 : (Tryz.prog.info? 51).map (·.size) = some signed0C.length:=by rw [signed0_len]; exact info_signed
theorem signedC_one {size : Int} {root : By} {i : Int} {sig : ByteArray} {v : Value} (hv : v.oneCell' = true) : ∀ u ∈ signedC size root i sig v, u.oneCell' = true:=by
 intro u hu
 unfold signedC at hu
 rcases List.mem_append.1 hu with hu | hu
 ·exact head_oneCell u hu
 ·simp only [List.mem_cons, List.not_mem_nil, or_false] at hu
  rcases hu with rfl | rfl | rfl
  ·rfl
  ·rfl
  ·exact hv
theorem signed0_one : signed0C.toArray.all (·.oneCell') = true:=all_oneCell_toArray (signedC_one rfl)
end
section
variable {w : World} {r d : Nat} {R : RingM} {S B : Nat → Prop} {M : DiskM}
end
section
variable {w : World} {r d : Nat} {R : RingM} {S B : Nat → Prop} {M : DiskM}
end
section
variable {w : World} {r d : Nat} {R : RingM} {S : Nat → Prop}
end
section
variable {w w' : World} {r d : Nat} {R R' : RingM} {M M' : DiskM} {B S : Nat → Prop}
end
end Go.Proofs.YtpmdlkogccojmaaGreatDoor
