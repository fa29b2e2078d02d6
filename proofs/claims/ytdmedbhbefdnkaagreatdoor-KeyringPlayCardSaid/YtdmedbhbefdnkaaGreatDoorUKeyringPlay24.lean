/- Codec2 -/
import Derived.OwnWalk
import Derived.Test.YtdmedbhbefdnkaaGreatDoorUKeyringPlay23
set_option linter.unusedVariables false
set_option linter.unusedSimpArgs false
set_option maxRecDepth 100000
set_option maxHeartbeats 16000000
namespace Go.Proofs.YtdmedbhbefdnkaaGreatDoor
open Go.RowKit
theorem take_any (w:World) (s:ByteArray) (n:Nat) (hs:Short s.size) :
  Calls Tryz.prog 132 #[.string s,.int .u64 (n:Int)] w fun e w'=>e = .returned (.tuple (if n<=s.size then #[.string (s.extract 0 n),.string (s.extract n s.size),.bool true]else #[.string "".toUTF8,.string "".toUTF8,.bool false]))/\Kept (fun _=>False) w w':=by
 have x1:=wrap_u64 hs.u64
 by_cases hle:n<=s.size
 ·have y1:decide ((s.size:Int)<(n:Int))=false:=by simp;omega
  rw[if_pos hle]
  go_enter Tryz.func132,Tryz.ntmps132
  go_wp2
  go_quiet (fail)
  go_wp2
  go_ret3
  exact⟨rfl,(Kept.refl _ _).drewN _⟩
 ·have y1:decide ((s.size:Int)<(n:Int))=true:=by simp;omega
  rw[if_neg hle]
  go_enter Tryz.func132,Tryz.ntmps132
  go_wp2
  go_ret3
  exact⟨rfl,Kept.refl _ _⟩
end Go.Proofs.YtdmedbhbefdnkaaGreatDoor
