/- Paths3 KeyT1 KeyT2 KeyT3 KeyT4 Heads1 Heads2 Heads3 Heads4 HeadEq -/
import Derived.WalkMore
import Derived.Deep.RegionHeld3
import Derived.BigQuiet
import Derived.Laws.StructEq
import Derived.ChangeKeysEq
import Derived.Test.YtpmdlkogccojmaaGreatDoorUScrubNone19
import Derived.Test.YtpmdlkogccojmaaGreatDoorUScrubNone22
import Derived.Test.YtpmdlkogccojmaaGreatDoorUScrubNone21
import Derived.Test.YtpmdlkogccojmaaGreatDoorUScrubNone01
set_option linter.unusedVariables false
set_option linter.unusedSimpArgs false
set_option maxRecDepth 100000
set_option maxHeartbeats 16000000
namespace Go.Proofs.YtpmdlkogccojmaaGreatDoor
open Go.RowKit
def IsTree (w : World) (t : Nat) (seed : ByteArray) (L : List By) : Prop:=Blk w t ([.bool true, .string seed] ++ hcells L) 192∧L.length = 8∧∀ x ∈ L, x.length = 32
theorem IsTree.kept {S : Nat → Prop} {w w' : World} {t : Nat} {seed : ByteArray} {L : List By} (h : IsTree w t seed L) (hk : Kept S w w') (hS : ¬ S t) : IsTree w' t seed L:=⟨h.1.kept hk hS, h.2⟩
section
variable {w w' : World} {t : Nat} {seed : ByteArray} {L : List By}
end
section
variable {w w' : World} {t : Nat} {seed : ByteArray} {L : List By}
end
abbrev headC (size : Int) (root : By) : List Value:=.int .i64 size::bytes8 root
section
variable {wa w1 w2 : World} {hb rb : Nat} {size : Int} {root : By}
end
def signedC (size : Int) (root : By) (i : Int) (sig : ByteArray) (v : Value) : List Value:=headC size root ++ [.int .i64 i, .string sig, v]
theorem info_signed : (Tryz.prog.info? 51).map (·.size) = some 36:=by kernel_rfl
theorem signedC_len {size : Int} {root : By} {i : Int} {sig : ByteArray} {v : Value} (hr : root.length = 32) : (signedC size root i sig v).length = 36:=by
 unfold signedC
 rw [List.length_append, List.length_cons, bytes8_len, hr]; rfl
end Go.Proofs.YtpmdlkogccojmaaGreatDoor
