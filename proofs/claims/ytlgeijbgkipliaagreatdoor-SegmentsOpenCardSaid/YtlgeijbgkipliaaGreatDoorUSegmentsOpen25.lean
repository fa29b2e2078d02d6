/- Codec KeyM -/
import Derived.Lib.AppendZeros
import Derived.Test.YtlgeijbgkipliaaGreatDoorUSegmentsOpen23
set_option linter.unusedVariables false
set_option linter.unusedSimpArgs false
namespace Go.Proofs.YtlgeijbgkipliaaGreatDoor
open Go.RowKit
def U64n (n : Nat) : Prop := n < 18446744073709551616
theorem wrap_u64 {n : Nat} (h : U64n n) : IntKind.u64.wrap (n : Int) = (n : Int) := by
  unfold U64n at h
  simp only [IntKind.wrap, IntKind.bits, IntKind.signed]
  simp
  omega
theorem U64n.small {n : Nat} (h : n ≤ 4294967295) : U64n n := by unfold U64n; omega
end Go.Proofs.YtlgeijbgkipliaaGreatDoor

namespace Go.Proofs.YtlgeijbgkipliaaGreatDoor
abbrev By := List UInt8
def nodeF (a b : By) : By := shaF (1 :: (a ++ b))
def stripF (i last : Nat) : Nat × Nat := if h : i % 2 = 0 ∧ 0 < i then stripF (i / 2) (last / 2) else (i, last)
termination_by i
decreasing_by omega
structure Climb where
  leaf : By
  i : Nat
  last : Nat
  used : Nat
def climbF : List By → Climb → Climb
  | [], c => c
  | h :: p, c => if c.last = 0 then c
    else if c.i % 2 = 1 ∨ c.i = c.last then climbF p ⟨nodeF h c.leaf, (stripF c.i c.last).1 / 2, (stripF c.i c.last).2 / 2, c.used + 1⟩
    else climbF p ⟨nodeF c.leaf h, c.i / 2, c.last / 2, c.used + 1⟩
def provesF (leaf : By) (i n : Nat) (path : List By) (root : By) : Prop :=
  (climbF path ⟨leaf, i, n - 1, 0⟩).last = 0 ∧ (climbF path ⟨leaf, i, n - 1, 0⟩).used = path.length ∧ (climbF path ⟨leaf, i, n - 1, 0⟩).leaf = root
instance (leaf : By) (i n : Nat) (path : List By) (root : By) : Decidable (provesF leaf i n path root) := by unfold provesF; infer_instance
end Go.Proofs.YtlgeijbgkipliaaGreatDoor
