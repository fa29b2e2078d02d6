/- Base CodeAt -/
import Derived.Test.YtlgeijbgkipliaaGreatDoorRows
import Derived.WalkKit
import Derived.WalkSpells
import Derived.WalkLawsBesides
import Derived.Lib.Hide
import Derived.Deep.OwnRows
import Derived.Deep.QuietTactic
import Derived.BigQuiet
import Derived.Outline
import Derived.Deep.DeepFit
import Derived.Deep.DeepCutAuto
import Derived.Deep.LoopGhost
set_option linter.unusedVariables false
set_option linter.unusedSimpArgs false
namespace Go.Proofs.YtlgeijbgkipliaaGreatDoor
open Go.RowKit
theorem ret_int {k : IntKind} {a b : Int} (h : a = b) : Ending.returned (.int k a) = .returned (.int k b) := by rw [h]
theorem wf_i64 {a : Int} (h : (Lit.int .i64 a).wf = true) : -9223372036854775808 ≤ a ∧ a ≤ 9223372036854775807 := by
  simp [Lit.wf, IntKind.min, IntKind.max, IntKind.signed, IntKind.bits] at h; omega
theorem wf_u8 {a : Int} (h : (Lit.int .u8 a).wf = true) : 0 ≤ a ∧ a ≤ 255 := by
  simp [Lit.wf, IntKind.min, IntKind.max, IntKind.signed, IntKind.bits] at h; omega
theorem wf_u16 {a : Int} (h : (Lit.int .u16 a).wf = true) : 0 ≤ a ∧ a ≤ 65535 := by
  simp [Lit.wf, IntKind.min, IntKind.max, IntKind.signed, IntKind.bits] at h; omega
theorem madeCells_one (v : Value) (n : Nat) : madeCells #[v] n = Array.replicate n v := by
  have h := toList_madeCells_one v n
  apply Array.toList_inj.1
  simpa using h
theorem i64_mask (i : Nat) (hi : i ≤ 62) (x : Int) : bits .and .i64 x (2 ^ i - 1) = x % 2 ^ i := by
  have hp : 0 < 2 ^ i := Nat.two_pow_pos i
  have hle : 2 ^ i ≤ 2 ^ 62 := Nat.pow_le_pow_right (by decide) hi
  have hc : ((2 : Int) ^ i - 1) = ((2 ^ i - 1 : Nat) : Int) := by
    rw [Int.natCast_sub hp]; simp
  have hbits : IntKind.i64.bits = 64 := rfl
  rw [hc]
  simp only [bits, BitVec.toNat_and, BitVec.ofInt_natCast, BitVec.toNat_ofNat, BitVec.toNat_ofInt, hbits]
  rw [Nat.mod_eq_of_lt (show 2 ^ i - 1 < 2 ^ 64 by omega), Nat.and_two_pow_sub_one_eq_mod]
  have hm : ((x % (2 ^ 64 : Nat)).toNat % 2 ^ i : Nat) < 2 ^ 62 := Nat.lt_of_lt_of_le (Nat.mod_lt _ hp) hle
  rw [IntKind.wrap_i64]
  have he : (((x % (2 ^ 64 : Nat)).toNat % 2 ^ i : Nat) : Int) = x % 2 ^ i := by
    rw [Int.natCast_emod, Int.toNat_of_nonneg (Int.emod_nonneg _ (by decide))]
    have hd : ((2 : Int) ^ i) ∣ ((2 ^ 64 : Nat) : Int) := by
      have : (2 ^ i : Nat) ∣ 2 ^ 64 := Nat.pow_dvd_pow 2 (by omega)
      have h := Int.natCast_dvd_natCast.2 this
      simpa using h
    have : ((2 ^ i : Nat) : Int) = (2 : Int) ^ i := by simp
    rw [this]
    exact Int.emod_emod_of_dvd x hd
  omega
end Go.Proofs.YtlgeijbgkipliaaGreatDoor

namespace Go.Proofs.YtlgeijbgkipliaaGreatDoor
def codeBlock (n : Nat) : Code → Option Code
  | .block m c => if m = n then some (.block m c) else codeBlock n c
  | .seq a b => (codeBlock n a).or (codeBlock n b)
  | .cond _ a b => (codeBlock n a).or (codeBlock n b)
  | .loop c => codeBlock n c
  | _ => none
def codeSeq (n : Nat) : Code → Option Code
  | .seq (.region m o d) b => if m = n then some (.seq (.region m o d) b) else codeSeq n b
  | .seq a b => (codeSeq n a).or (codeSeq n b)
  | .cond _ a b => (codeSeq n a).or (codeSeq n b)
  | .block _ c => codeSeq n c
  | .loop c => codeSeq n c
  | _ => none
def codeCond (n : Nat) : Code → Option Code
  | .cond (.tmp _) .skip b => codeCond n b
  | .cond (.tmp m) a b => if m = n then some (.cond (.tmp m) a b) else (codeCond n a).or (codeCond n b)
  | .seq a b => (codeCond n a).or (codeCond n b)
  | .block _ c => codeCond n c
  | .loop c => codeCond n c
  | _ => none
end Go.Proofs.YtlgeijbgkipliaaGreatDoor
