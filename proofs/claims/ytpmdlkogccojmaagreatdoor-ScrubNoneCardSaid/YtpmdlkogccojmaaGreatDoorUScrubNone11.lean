/- Codec KeyM -/
import Derived.Lib.AppendZeros
import Derived.Test.YtpmdlkogccojmaaGreatDoorUScrubNone10
set_option linter.unusedVariables false
set_option linter.unusedSimpArgs false
set_option maxRecDepth 100000
set_option maxHeartbeats 16000000
namespace Go.Proofs.YtpmdlkogccojmaaGreatDoor
open Go.RowKit
def moreL (m : Nat) (acc : List UInt8) : List UInt8:=if h : m = 0 then acc else moreL (m / 128) (UInt8.ofNat (m % 128 + 128)::acc)
termination_by m
decreasing_by omega
def numL (n : Nat) : List UInt8:=moreL (n / 128) [UInt8.ofNat (n % 128)]
def U64n (n : Nat) : Prop:=n < 18446744073709551616
theorem wrap_u64 {n : Nat} (h : U64n n) : IntKind.u64.wrap (n : Int) = (n : Int):=by
 unfold U64n at h
 simp only [IntKind.wrap, IntKind.bits, IntKind.signed]
 simp
 omega
theorem U64n.small {n : Nat} (h : n ≤ 4294967295) : U64n n:=by unfold U64n; omega
abbrev By:=List UInt8
def secretF (seed : By) (index i bit : Nat) : By:=shaF (2::(numL seed.length ++ seed ++ be 4 index ++ be 2 (2 * i + bit)))
def shownF (x : By) : By:=shaF (3::x)
def publicF (seed : By) (index : Nat) : List By:=(List.range 512).map fun k=>shownF (secretF seed index (k / 2) (k % 2))
def leafF (p : List By) : By:=shaF (4::p.flatten)
def nodeF (a b : By) : By:=shaF (1::(a ++ b))
def stripF (i last : Nat) : Nat × Nat:=if h : i % 2 = 0∧0 < i then stripF (i / 2) (last / 2) else (i, last)
termination_by i
decreasing_by omega
structure Climb where
 leaf : By
 i : Nat
 last : Nat
 used : Nat
def climbF : List By → Climb → Climb
 | [], c=>c
 | h::p, c=>if c.last = 0 then c
  else if c.i % 2 = 1 ∨ c.i = c.last then climbF p ⟨nodeF h c.leaf, (stripF c.i c.last).1 / 2, (stripF c.i c.last).2 / 2, c.used + 1⟩
  else climbF p ⟨nodeF c.leaf h, c.i / 2, c.last / 2, c.used + 1⟩
def provesF (leaf : By) (i n : Nat) (path : List By) (root : By) : Prop :=
 (climbF path ⟨leaf, i, n - 1, 0⟩).last = 0∧(climbF path ⟨leaf, i, n - 1, 0⟩).used = path.length∧(climbF path ⟨leaf, i, n - 1, 0⟩).leaf = root
instance (leaf : By) (i n : Nat) (path : List By) (root : By) : Decidable (provesF leaf i n path root):=by unfold provesF; infer_instance
def leavesF (seed : By) : List By:=(List.range 8).map fun i=>leafF (publicF seed i)
end Go.Proofs.YtpmdlkogccojmaaGreatDoor
