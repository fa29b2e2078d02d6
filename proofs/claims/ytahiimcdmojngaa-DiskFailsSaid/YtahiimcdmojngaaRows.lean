/-
  No cell of these rows narrows 'for every input' (looked for: loops, veiled, ifaces, maps, wideKeys, modest, calm, conditions, laid).
  DERIVED. THE GIVEN ROWS OF THIS SEAT. 12 by the template 'for every input the law returns true; each argument reads behind the call as it read before'; 0 by the template 'total and deterministic' (their statements: YtahiimcdmojngaaTotals.lean).
  GIVEN WITH THE SEED: the statements are not yours to turn. If you find one false, say at which input.
  Laid BY PROGRAM, IN A SANDBOX (cutbox-rows.mjs): the forced cells as the released guide's own fill.sh prints them over the translation 863da29cbb3c4188… (all of the seat's roots in one cut). By AI agents, Wed Nov 11 2026. No macro, syntax, notation, axiom, sorry.
-/
import Derived.Test.YtahiimcdmojngaaChecked
import GoSem.Claim
import GoSem.ClaimJoined
import GoSem.ClaimMapViews
import Derived.JoinedTies
import Derived.KernelRfl
namespace Go.Proofs.Ytahiimcdmojngaa
/- THE CELL 'sum', in the pinned program and in every row, IS THE sha256 OF THE DUMP (.gsa) THAT YtahiimcdmojngaaProg.lean LOADS. Nothing in Lean hashes anything: it is a label: what it is worth is what the hold of that sum in a sandbox is worth. -/
noncomputable def Try.pinned : Pinned := { name := "ytahiimcdmojngaa", sum := "863da29cbb3c4188b251158ea8ec7a6ef9bf8f9301cef7688c1c548293ee6896", checked := Try.checked }
namespace Rows
def none {H : Type} : Left H := { results := [], args := [] }

/-- 'speculumlaw19.BackoffTell': WHATEVER THE INPUT: true; the input reads as it did. -/
def backoffTellSpec : ChangeSpec := { name := "backoffTell", fn := fun _ => fun
  | [d1, d2] => { results := [.lit (.bool true)], args := [d1, d2] }
  | _ => none }
def backoffTellRow : OpenClaim := { program := "ytahiimcdmojngaa", sum := "863da29cbb3c4188b251158ea8ec7a6ef9bf8f9301cef7688c1c548293ee6896", func := "speculum/speculumlaw19.BackoffTell", spec := "backoffTell", plainKeys := false, apart := false }
def BackoffTellSaid : Prop := backoffTellRow.holds Try.pinned (OpenSpec.ofChange backoffTellSpec)

/-- ITS FALSE NEIGHBOUR: 'it returns false'. Refute it at one input. -/
def backoffTellWrong : ChangeSpec := { name := "backoffTell", fn := fun _ => fun
  | [d1, d2] => { results := [.lit (.bool false)], args := [d1, d2] }
  | _ => none }
def BackoffTellWrongFalsely : Prop := backoffTellRow.holds Try.pinned (OpenSpec.ofChange backoffTellWrong)

/-- 'speculumlaw19.BackoffBounds': WHATEVER THE INPUT: true; the input reads as it did. -/
def backoffBoundsSpec : ChangeSpec := { name := "backoffBounds", fn := fun _ => fun
  | [d] => { results := [.lit (.bool true)], args := [d] }
  | _ => none }
def backoffBoundsRow : OpenClaim := { program := "ytahiimcdmojngaa", sum := "863da29cbb3c4188b251158ea8ec7a6ef9bf8f9301cef7688c1c548293ee6896", func := "speculum/speculumlaw19.BackoffBounds", spec := "backoffBounds", plainKeys := false, apart := false }
def BackoffBoundsSaid : Prop := backoffBoundsRow.holds Try.pinned (OpenSpec.ofChange backoffBoundsSpec)

/-- ITS FALSE NEIGHBOUR: 'it returns false'. Refute it at one input. -/
def backoffBoundsWrong : ChangeSpec := { name := "backoffBounds", fn := fun _ => fun
  | [d] => { results := [.lit (.bool false)], args := [d] }
  | _ => none }
def BackoffBoundsWrongFalsely : Prop := backoffBoundsRow.holds Try.pinned (OpenSpec.ofChange backoffBoundsWrong)

/-- 'speculumlaw24.PlanTell': WHATEVER THE INPUT: true; the input reads as it did. -/
def planTellSpec : ChangeSpec := { name := "planTell", fn := fun _ => fun
  | [d1, d2, d3] => { results := [.lit (.bool true)], args := [d1, d2, d3] }
  | _ => none }
def planTellRow : OpenClaim := { program := "ytahiimcdmojngaa", sum := "863da29cbb3c4188b251158ea8ec7a6ef9bf8f9301cef7688c1c548293ee6896", func := "speculum/speculumlaw24.PlanTell", spec := "planTell", plainKeys := false, apart := false }
def PlanTellSaid : Prop := planTellRow.holds Try.pinned (OpenSpec.ofChange planTellSpec)

/-- ITS FALSE NEIGHBOUR: 'it returns false'. Refute it at one input. -/
def planTellWrong : ChangeSpec := { name := "planTell", fn := fun _ => fun
  | [d1, d2, d3] => { results := [.lit (.bool false)], args := [d1, d2, d3] }
  | _ => none }
def PlanTellWrongFalsely : Prop := planTellRow.holds Try.pinned (OpenSpec.ofChange planTellWrong)

/-- 'speculumlaw24.PlanAll': WHATEVER THE INPUT: true; the input reads as it did. -/
def planAllSpec : ChangeSpec := { name := "planAll", fn := fun _ => fun
  | [d1, d2] => { results := [.lit (.bool true)], args := [d1, d2] }
  | _ => none }
def planAllRow : OpenClaim := { program := "ytahiimcdmojngaa", sum := "863da29cbb3c4188b251158ea8ec7a6ef9bf8f9301cef7688c1c548293ee6896", func := "speculum/speculumlaw24.PlanAll", spec := "planAll", plainKeys := false, apart := false }
def PlanAllSaid : Prop := planAllRow.holds Try.pinned (OpenSpec.ofChange planAllSpec)

/-- ITS FALSE NEIGHBOUR: 'it returns false'. Refute it at one input. -/
def planAllWrong : ChangeSpec := { name := "planAll", fn := fun _ => fun
  | [d1, d2] => { results := [.lit (.bool false)], args := [d1, d2] }
  | _ => none }
def PlanAllWrongFalsely : Prop := planAllRow.holds Try.pinned (OpenSpec.ofChange planAllWrong)

/-- 'speculumlaw23.PeersAgain': WHATEVER THE INPUT: true; the input reads as it did. -/
def peersAgainSpec : ChangeSpec := { name := "peersAgain", fn := fun _ => fun
  | [d] => { results := [.lit (.bool true)], args := [d] }
  | _ => none }
def peersAgainRow : OpenClaim := { program := "ytahiimcdmojngaa", sum := "863da29cbb3c4188b251158ea8ec7a6ef9bf8f9301cef7688c1c548293ee6896", func := "speculum/speculumlaw23.PeersAgain", spec := "peersAgain", plainKeys := false, apart := false }
def PeersAgainSaid : Prop := peersAgainRow.holds Try.pinned (OpenSpec.ofChange peersAgainSpec)

/-- ITS FALSE NEIGHBOUR: 'it returns false'. Refute it at one input. -/
def peersAgainWrong : ChangeSpec := { name := "peersAgain", fn := fun _ => fun
  | [d] => { results := [.lit (.bool false)], args := [d] }
  | _ => none }
def PeersAgainWrongFalsely : Prop := peersAgainRow.holds Try.pinned (OpenSpec.ofChange peersAgainWrong)

/-- 'speculumlaw23.PeersPlay': WHATEVER THE INPUT: true; the input reads as it did. -/
def peersPlaySpec : ChangeSpec := { name := "peersPlay", fn := fun _ => fun
  | [d1, d2] => { results := [.lit (.bool true)], args := [d1, d2] }
  | _ => none }
def peersPlayRow : OpenClaim := { program := "ytahiimcdmojngaa", sum := "863da29cbb3c4188b251158ea8ec7a6ef9bf8f9301cef7688c1c548293ee6896", func := "speculum/speculumlaw23.PeersPlay", spec := "peersPlay", plainKeys := false, apart := false }
def PeersPlaySaid : Prop := peersPlayRow.holds Try.pinned (OpenSpec.ofChange peersPlaySpec)

/-- ITS FALSE NEIGHBOUR: 'it returns false'. Refute it at one input. -/
def peersPlayWrong : ChangeSpec := { name := "peersPlay", fn := fun _ => fun
  | [d1, d2] => { results := [.lit (.bool false)], args := [d1, d2] }
  | _ => none }
def PeersPlayWrongFalsely : Prop := peersPlayRow.holds Try.pinned (OpenSpec.ofChange peersPlayWrong)

/-- 'speculumlaw23.PeersNone': WHATEVER THE INPUT: true; the input reads as it did. -/
def peersNoneSpec : ChangeSpec := { name := "peersNone", fn := fun _ => fun
  | [d] => { results := [.lit (.bool true)], args := [d] }
  | _ => none }
def peersNoneRow : OpenClaim := { program := "ytahiimcdmojngaa", sum := "863da29cbb3c4188b251158ea8ec7a6ef9bf8f9301cef7688c1c548293ee6896", func := "speculum/speculumlaw23.PeersNone", spec := "peersNone", plainKeys := false, apart := false }
def PeersNoneSaid : Prop := peersNoneRow.holds Try.pinned (OpenSpec.ofChange peersNoneSpec)

/-- ITS FALSE NEIGHBOUR: 'it returns false'. Refute it at one input. -/
def peersNoneWrong : ChangeSpec := { name := "peersNone", fn := fun _ => fun
  | [d] => { results := [.lit (.bool false)], args := [d] }
  | _ => none }
def PeersNoneWrongFalsely : Prop := peersNoneRow.holds Try.pinned (OpenSpec.ofChange peersNoneWrong)

/-- 'speculumlaw11.DiskOrder': WHATEVER THE INPUT: true; the input reads as it did. -/
def diskOrderSpec : ChangeSpec := { name := "diskOrder", fn := fun _ => fun
  | [d1, d2, d3] => { results := [.lit (.bool true)], args := [d1, d2, d3] }
  | _ => none }
def diskOrderRow : OpenClaim := { program := "ytahiimcdmojngaa", sum := "863da29cbb3c4188b251158ea8ec7a6ef9bf8f9301cef7688c1c548293ee6896", func := "speculum/speculumlaw11.DiskOrder", spec := "diskOrder", plainKeys := false, apart := false }
def DiskOrderSaid : Prop := diskOrderRow.holds Try.pinned (OpenSpec.ofChange diskOrderSpec)

/-- ITS FALSE NEIGHBOUR: 'it returns false'. Refute it at one input. -/
def diskOrderWrong : ChangeSpec := { name := "diskOrder", fn := fun _ => fun
  | [d1, d2, d3] => { results := [.lit (.bool false)], args := [d1, d2, d3] }
  | _ => none }
def DiskOrderWrongFalsely : Prop := diskOrderRow.holds Try.pinned (OpenSpec.ofChange diskOrderWrong)

/-- 'speculumlaw18.TimersOnce': WHATEVER THE INPUT: true; the input reads as it did. -/
def timersOnceSpec : ChangeSpec := { name := "timersOnce", fn := fun _ => fun
  | [d1, d2] => { results := [.lit (.bool true)], args := [d1, d2] }
  | _ => none }
def timersOnceRow : OpenClaim := { program := "ytahiimcdmojngaa", sum := "863da29cbb3c4188b251158ea8ec7a6ef9bf8f9301cef7688c1c548293ee6896", func := "speculum/speculumlaw18.TimersOnce", spec := "timersOnce", unfollowed := true, recurses := true, plainKeys := false, apart := false }
def TimersOnceSaid : Prop := timersOnceRow.holds Try.pinned (OpenSpec.ofChange timersOnceSpec)

/-- ITS FALSE NEIGHBOUR: 'it returns false'. Refute it at one input. -/
def timersOnceWrong : ChangeSpec := { name := "timersOnce", fn := fun _ => fun
  | [d1, d2] => { results := [.lit (.bool false)], args := [d1, d2] }
  | _ => none }
def TimersOnceWrongFalsely : Prop := timersOnceRow.holds Try.pinned (OpenSpec.ofChange timersOnceWrong)

/-- 'speculumlaw18.TimersPlay': WHATEVER THE INPUT: true; the input reads as it did. -/
def timersPlaySpec : ChangeSpec := { name := "timersPlay", fn := fun _ => fun
  | [d] => { results := [.lit (.bool true)], args := [d] }
  | _ => none }
def timersPlayRow : OpenClaim := { program := "ytahiimcdmojngaa", sum := "863da29cbb3c4188b251158ea8ec7a6ef9bf8f9301cef7688c1c548293ee6896", func := "speculum/speculumlaw18.TimersPlay", spec := "timersPlay", inPlace := ["maps.clone"], unfollowed := true, recurses := true, plainKeys := false, apart := false }
def TimersPlaySaid : Prop := timersPlayRow.holds Try.pinned (OpenSpec.ofChange timersPlaySpec)

/-- ITS FALSE NEIGHBOUR: 'it returns false'. Refute it at one input. -/
def timersPlayWrong : ChangeSpec := { name := "timersPlay", fn := fun _ => fun
  | [d] => { results := [.lit (.bool false)], args := [d] }
  | _ => none }
def TimersPlayWrongFalsely : Prop := timersPlayRow.holds Try.pinned (OpenSpec.ofChange timersPlayWrong)

/-- 'speculumlaw18.TimersNone': WHATEVER THE INPUT: true; the input reads as it did. -/
def timersNoneSpec : ChangeSpec := { name := "timersNone", fn := fun _ => fun
  | [d] => { results := [.lit (.bool true)], args := [d] }
  | _ => none }
def timersNoneRow : OpenClaim := { program := "ytahiimcdmojngaa", sum := "863da29cbb3c4188b251158ea8ec7a6ef9bf8f9301cef7688c1c548293ee6896", func := "speculum/speculumlaw18.TimersNone", spec := "timersNone", inPlace := ["maps.clone"], unfollowed := true, recurses := true, plainKeys := false, apart := false }
def TimersNoneSaid : Prop := timersNoneRow.holds Try.pinned (OpenSpec.ofChange timersNoneSpec)

/-- ITS FALSE NEIGHBOUR: 'it returns false'. Refute it at one input. -/
def timersNoneWrong : ChangeSpec := { name := "timersNone", fn := fun _ => fun
  | [d] => { results := [.lit (.bool false)], args := [d] }
  | _ => none }
def TimersNoneWrongFalsely : Prop := timersNoneRow.holds Try.pinned (OpenSpec.ofChange timersNoneWrong)

/-- 'speculumlaw11.DiskFails': WHATEVER THE INPUT: true; the input reads as it did. -/
def diskFailsSpec : ChangeSpec := { name := "diskFails", fn := fun _ => fun
  | [d1, d2, d3] => { results := [.lit (.bool true)], args := [d1, d2, d3] }
  | _ => none }
def diskFailsRow : OpenClaim := { program := "ytahiimcdmojngaa", sum := "863da29cbb3c4188b251158ea8ec7a6ef9bf8f9301cef7688c1c548293ee6896", func := "speculum/speculumlaw11.DiskFails", spec := "diskFails", unfollowed := true, recurses := true, plainKeys := false, apart := false }
def DiskFailsSaid : Prop := diskFailsRow.holds Try.pinned (OpenSpec.ofChange diskFailsSpec)

/-- ITS FALSE NEIGHBOUR: 'it returns false'. Refute it at one input. -/
def diskFailsWrong : ChangeSpec := { name := "diskFails", fn := fun _ => fun
  | [d1, d2, d3] => { results := [.lit (.bool false)], args := [d1, d2, d3] }
  | _ => none }
def DiskFailsWrongFalsely : Prop := diskFailsRow.holds Try.pinned (OpenSpec.ofChange diskFailsWrong)

/- THE SECOND FORM. 'bulk': how many values and letters a reading holds, each counted each time it is reached (what is shared counts as often as it is met; a slice's spare places count too). A statement '..UptoSaid' is the law's where the arguments, and the package variables that the reading takes, are together of bulk at most 1048576: NARROWER than '..Said'. Prove '..Said' where nothing that the law and all that it calls make is longer than what came in: it says more and counts as full. Else prove '..UptoSaid'. A law counts once. -/
mutual
def uptoBulk {H : Type} : DataW H → Nat
  | .lit (.string bytes) => bytes.length + 1
  | .lit _ => 1
  | .nil => 1
  | .ptr d => uptoBulk d + 1
  | .slice elems spare => uptoBulkAll elems + uptoBulkAll spare + 1
  | .agg parts => uptoBulkAll parts + 1
  | .iface _ d => uptoBulk d + 1
  | .map entries => uptoBulkEntries entries + 1
  | .held _ => 1
def uptoBulkAll {H : Type} : List (DataW H) → Nat
  | [] => 0
  | d :: r => uptoBulk d + uptoBulkAll r
def uptoBulkEntries {H : Type} : List (Lit × DataW H) → Nat
  | [] => 0
  | x :: r => uptoBulkEntry x + uptoBulkEntries r
def uptoBulkEntry {H : Type} : Lit × DataW H → Nat
  | (.string bytes, d) => bytes.length + uptoBulk d + 1
  | (_, d) => uptoBulk d + 1
 end
def uptoSmall : (H : Type) → List (DataW H) → Bool := fun _ ds => decide (uptoBulkAll ds ≤ 1048576)
def OpenSpec.upto (s : _root_.Go.ChangeSpec) : _root_.Go.OpenSpec := { _root_.Go.OpenSpec.ofChange s with cond := some uptoSmall }

/-- 'speculumlaw19.BackoffTell', WHERE WHAT IT READS IS OF BULK AT MOST 1048576: true; the input reads as it did. -/
def backoffTellUptoRow : OpenClaim := { program := "ytahiimcdmojngaa", sum := "863da29cbb3c4188b251158ea8ec7a6ef9bf8f9301cef7688c1c548293ee6896", func := "speculum/speculumlaw19.BackoffTell", spec := "backoffTell", plainKeys := false, apart := false, narrowed := true }
def BackoffTellUptoSaid : Prop := backoffTellUptoRow.holds Try.pinned (OpenSpec.upto backoffTellSpec)

/-- 'speculumlaw19.BackoffBounds', WHERE WHAT IT READS IS OF BULK AT MOST 1048576: true; the input reads as it did. -/
def backoffBoundsUptoRow : OpenClaim := { program := "ytahiimcdmojngaa", sum := "863da29cbb3c4188b251158ea8ec7a6ef9bf8f9301cef7688c1c548293ee6896", func := "speculum/speculumlaw19.BackoffBounds", spec := "backoffBounds", plainKeys := false, apart := false, narrowed := true }
def BackoffBoundsUptoSaid : Prop := backoffBoundsUptoRow.holds Try.pinned (OpenSpec.upto backoffBoundsSpec)

/-- 'speculumlaw24.PlanTell', WHERE WHAT IT READS IS OF BULK AT MOST 1048576: true; the input reads as it did. -/
def planTellUptoRow : OpenClaim := { program := "ytahiimcdmojngaa", sum := "863da29cbb3c4188b251158ea8ec7a6ef9bf8f9301cef7688c1c548293ee6896", func := "speculum/speculumlaw24.PlanTell", spec := "planTell", plainKeys := false, apart := false, narrowed := true }
def PlanTellUptoSaid : Prop := planTellUptoRow.holds Try.pinned (OpenSpec.upto planTellSpec)

/-- 'speculumlaw24.PlanAll', WHERE WHAT IT READS IS OF BULK AT MOST 1048576: true; the input reads as it did. -/
def planAllUptoRow : OpenClaim := { program := "ytahiimcdmojngaa", sum := "863da29cbb3c4188b251158ea8ec7a6ef9bf8f9301cef7688c1c548293ee6896", func := "speculum/speculumlaw24.PlanAll", spec := "planAll", plainKeys := false, apart := false, narrowed := true }
def PlanAllUptoSaid : Prop := planAllUptoRow.holds Try.pinned (OpenSpec.upto planAllSpec)

/-- 'speculumlaw23.PeersAgain', WHERE WHAT IT READS IS OF BULK AT MOST 1048576: true; the input reads as it did. -/
def peersAgainUptoRow : OpenClaim := { program := "ytahiimcdmojngaa", sum := "863da29cbb3c4188b251158ea8ec7a6ef9bf8f9301cef7688c1c548293ee6896", func := "speculum/speculumlaw23.PeersAgain", spec := "peersAgain", plainKeys := false, apart := false, narrowed := true }
def PeersAgainUptoSaid : Prop := peersAgainUptoRow.holds Try.pinned (OpenSpec.upto peersAgainSpec)

/-- 'speculumlaw23.PeersPlay', WHERE WHAT IT READS IS OF BULK AT MOST 1048576: true; the input reads as it did. -/
def peersPlayUptoRow : OpenClaim := { program := "ytahiimcdmojngaa", sum := "863da29cbb3c4188b251158ea8ec7a6ef9bf8f9301cef7688c1c548293ee6896", func := "speculum/speculumlaw23.PeersPlay", spec := "peersPlay", plainKeys := false, apart := false, narrowed := true }
def PeersPlayUptoSaid : Prop := peersPlayUptoRow.holds Try.pinned (OpenSpec.upto peersPlaySpec)

/-- 'speculumlaw23.PeersNone', WHERE WHAT IT READS IS OF BULK AT MOST 1048576: true; the input reads as it did. -/
def peersNoneUptoRow : OpenClaim := { program := "ytahiimcdmojngaa", sum := "863da29cbb3c4188b251158ea8ec7a6ef9bf8f9301cef7688c1c548293ee6896", func := "speculum/speculumlaw23.PeersNone", spec := "peersNone", plainKeys := false, apart := false, narrowed := true }
def PeersNoneUptoSaid : Prop := peersNoneUptoRow.holds Try.pinned (OpenSpec.upto peersNoneSpec)

/-- 'speculumlaw11.DiskOrder', WHERE WHAT IT READS IS OF BULK AT MOST 1048576: true; the input reads as it did. -/
def diskOrderUptoRow : OpenClaim := { program := "ytahiimcdmojngaa", sum := "863da29cbb3c4188b251158ea8ec7a6ef9bf8f9301cef7688c1c548293ee6896", func := "speculum/speculumlaw11.DiskOrder", spec := "diskOrder", plainKeys := false, apart := false, narrowed := true }
def DiskOrderUptoSaid : Prop := diskOrderUptoRow.holds Try.pinned (OpenSpec.upto diskOrderSpec)

/-- 'speculumlaw18.TimersOnce', WHERE WHAT IT READS IS OF BULK AT MOST 1048576: true; the input reads as it did. -/
def timersOnceUptoRow : OpenClaim := { program := "ytahiimcdmojngaa", sum := "863da29cbb3c4188b251158ea8ec7a6ef9bf8f9301cef7688c1c548293ee6896", func := "speculum/speculumlaw18.TimersOnce", spec := "timersOnce", unfollowed := true, recurses := true, plainKeys := false, apart := false, narrowed := true }
def TimersOnceUptoSaid : Prop := timersOnceUptoRow.holds Try.pinned (OpenSpec.upto timersOnceSpec)

/-- 'speculumlaw18.TimersPlay', WHERE WHAT IT READS IS OF BULK AT MOST 1048576: true; the input reads as it did. -/
def timersPlayUptoRow : OpenClaim := { program := "ytahiimcdmojngaa", sum := "863da29cbb3c4188b251158ea8ec7a6ef9bf8f9301cef7688c1c548293ee6896", func := "speculum/speculumlaw18.TimersPlay", spec := "timersPlay", inPlace := ["maps.clone"], unfollowed := true, recurses := true, plainKeys := false, apart := false, narrowed := true }
def TimersPlayUptoSaid : Prop := timersPlayUptoRow.holds Try.pinned (OpenSpec.upto timersPlaySpec)

/-- 'speculumlaw18.TimersNone', WHERE WHAT IT READS IS OF BULK AT MOST 1048576: true; the input reads as it did. -/
def timersNoneUptoRow : OpenClaim := { program := "ytahiimcdmojngaa", sum := "863da29cbb3c4188b251158ea8ec7a6ef9bf8f9301cef7688c1c548293ee6896", func := "speculum/speculumlaw18.TimersNone", spec := "timersNone", inPlace := ["maps.clone"], unfollowed := true, recurses := true, plainKeys := false, apart := false, narrowed := true }
def TimersNoneUptoSaid : Prop := timersNoneUptoRow.holds Try.pinned (OpenSpec.upto timersNoneSpec)

/-- 'speculumlaw11.DiskFails', WHERE WHAT IT READS IS OF BULK AT MOST 1048576: true; the input reads as it did. -/
def diskFailsUptoRow : OpenClaim := { program := "ytahiimcdmojngaa", sum := "863da29cbb3c4188b251158ea8ec7a6ef9bf8f9301cef7688c1c548293ee6896", func := "speculum/speculumlaw11.DiskFails", spec := "diskFails", unfollowed := true, recurses := true, plainKeys := false, apart := false, narrowed := true }
def DiskFailsUptoSaid : Prop := diskFailsUptoRow.holds Try.pinned (OpenSpec.upto diskFailsSpec)

end Rows
end Go.Proofs.Ytahiimcdmojngaa
