/- Step -/
import Derived.Test.YtpmdlkogccojmaaGreatDoorUScrubNone28
import Derived.Test.YtpmdlkogccojmaaGreatDoorUScrubNone20
import Derived.Test.YtpmdlkogccojmaaGreatDoorUScrubNone29
import Derived.Test.YtpmdlkogccojmaaGreatDoorUScrubNone32
set_option linter.unusedVariables false
set_option linter.unusedSimpArgs false
set_option maxRecDepth 100000
set_option maxHeartbeats 16000000
namespace Go.Proofs.YtpmdlkogccojmaaGreatDoor
open Go.RowKit
section
variable {w w' : World} {B : Nat → Prop} {d : Nat} {M M' : DiskM} {r : Int}
theorem delete_ap (h : Apart B d M w) (n : Int) (n0 : -9223372036854775808 ≤ n∧n ≤ 9223372036854775807) (he : M.delete n = (r, M')) :
  Calls Tryz.prog 32 #[.pointer (some ⟨d, 0, none⟩), .int .i64 n] w fun e w'=>e = .returned (.int .i64 r)∧Apart B d M' w'∧Kept (fun k=>¬ B k) w w':=by
 obtain ⟨hl, hb, fp, h1, h2⟩:=h
 have hl':=DiskM.Live.delete hl n
 refine (delete_to w n n0 h1 hl).mono ?_
 rw [he] at hl' ⊢
 rintro e w' ⟨rfl, hto⟩
 exact ⟨rfl, Apart.next hl' hb h2 hto⟩
end
section
variable {w w' : World} {d : Nat}
end
section
variable {w : World} {d : Nat}
end
section
variable {w : World} {d : Nat} {B : Nat → Prop} {M : DiskM}
end
end Go.Proofs.YtpmdlkogccojmaaGreatDoor
