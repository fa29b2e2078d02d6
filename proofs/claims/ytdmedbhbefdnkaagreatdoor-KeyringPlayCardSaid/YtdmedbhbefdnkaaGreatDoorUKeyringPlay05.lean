/- Base CodeAt -/
import Derived.Test.YtdmedbhbefdnkaaGreatDoorRows
import Derived.WalkKit
import Derived.WalkSpells
import Derived.WalkLawsBesides
import Derived.Lib.Hide
import Derived.Deep.OwnRows
import Derived.Deep.QuietTactic
import Derived.BigQuiet
import Derived.Outline
import Derived.Deep.DeepFit
import Derived.Deep.DeepCutAuto
import Derived.Deep.LoopGhost
set_option linter.unusedVariables false
set_option linter.unusedSimpArgs false
set_option maxRecDepth 100000
set_option maxHeartbeats 16000000
namespace Go.Proofs.YtdmedbhbefdnkaaGreatDoor
open Go.RowKit
theorem ret_int {k:IntKind} {a b:Int} (h:a=b):Ending.returned (.int k a) = .returned (.int k b):=by rw[h]
theorem wf_i64 {a:Int} (h:(Lit.int .i64 a).wf=true) : -9223372036854775808<=a/\a<=9223372036854775807:=by
 simp[Lit.wf,IntKind.min,IntKind.max,IntKind.signed,IntKind.bits]at h;omega
theorem wf_u8 {a:Int} (h:(Lit.int .u8 a).wf=true):0<=a/\a<=255:=by
 simp[Lit.wf,IntKind.min,IntKind.max,IntKind.signed,IntKind.bits]at h;omega
theorem wf_u16 {a:Int} (h:(Lit.int .u16 a).wf=true):0<=a/\a<=65535:=by
 simp[Lit.wf,IntKind.min,IntKind.max,IntKind.signed,IntKind.bits]at h;omega
theorem madeCells_one (v:Value) (n:Nat):madeCells #[v] n=Array.replicate n v:=by
 have h:=toList_madeCells_one v n
 apply Array.toList_inj.1
 simpa using h
def codeBlock (n:Nat):Code->Option Code
 | .block m c=>if m=n then some (.block m c)else codeBlock n c
 | .seq a b=>(codeBlock n a).or (codeBlock n b)
 | .cond _ a b=>(codeBlock n a).or (codeBlock n b)
 | .loop c=>codeBlock n c
 | _=>none
def codeSeq (n:Nat):Code->Option Code
 | .seq (.region m o d) b=>if m=n then some (.seq (.region m o d) b)else codeSeq n b
 | .seq a b=>(codeSeq n a).or (codeSeq n b)
 | .cond _ a b=>(codeSeq n a).or (codeSeq n b)
 | .block _ c=>codeSeq n c
 | .loop c=>codeSeq n c
 | _=>none
def codeCond (n:Nat):Code->Option Code
 | .cond (.tmp _) .skip b=>codeCond n b
 | .cond (.tmp m) a b=>if m=n then some (.cond (.tmp m) a b)else(codeCond n a).or (codeCond n b)
 | .seq a b=>(codeCond n a).or (codeCond n b)
 | .block _ c=>codeCond n c
 | .loop c=>codeCond n c
 | _=>none
end Go.Proofs.YtdmedbhbefdnkaaGreatDoor
