/- HeadIn -/
import Derived.OpenShut
import Derived.Test.YtpmdlkogccojmaaGreatDoorUScrubNone44
import Derived.Test.YtpmdlkogccojmaaGreatDoorUScrubNone23
set_option linter.unusedVariables false
set_option linter.unusedSimpArgs false
set_option maxRecDepth 100000
set_option maxHeartbeats 16000000
namespace Go.Proofs.YtpmdlkogccojmaaGreatDoor
open Go.RowKit Go.WideShapes Go.ChangeShapes Go.Joins
theorem c_u8 : Tryz.prog.cellsOf 5 = 1:=by kernel_rfl
theorem c_hash : Tryz.prog.cellsOf 24 = 32:=by kernel_rfl
theorem trod_bytes {H : Type} {enc : TypeId × Value → H} {W : World} {base : Nat} {spare : Nat → Bool} {hd : Bool} {fuel n : Nat} {t : TypeId} {cs : List Value} {x : DataW H × List MemPlace} (ht : Tryz.prog.underlying t = some (.array n 5)) (hn : Tryz.prog.cellsOf t = n)
  (h : DataW.trod enc Tryz.prog W base spare hd fuel t cs = some x) : ∃ root : By, root.length = n∧cs = bytes8 root:=by
 obtain ⟨xs, m, -, -, hcl, hxl, hel⟩:=DataW.trod_array ht h
 rw [hn] at hcl
 have key : ∀ i, i < n → ∃ b : UInt8, cs[i]? = some (.int .u8 (b.toNat : Int)):=by
  intro i hi
  have h1:=hel i hi
  rw [c_u8, Nat.mul_one, List.getElem?_eq_getElem (by omega)] at h1
  obtain ⟨k, e1, _, hw⟩:=DataW.trod_int Tryz.underlying5 h1
  have hw:=wf_u8 hw
  have e5:=congrArg (·[0]?) e1
  have e6 : cs[i]? = some (.int .u8 k):=by simpa [List.getElem?_take, List.getElem?_drop] using e5
  refine ⟨UInt8.ofNat k.toNat, ?_⟩
  rw [e6]
  have : (UInt8.ofNat k.toNat).toNat = k.toNat:=by simp; omega
  rw [this, Int.toNat_of_nonneg hw.1]
 refine ⟨cs.map fun v=>match v with | .int _ k=>UInt8.ofNat k.toNat | _=>0, by rw [List.length_map, hcl], ?_⟩
 apply List.ext_getElem?
 intro i
 by_cases hi : i < n
 ·obtain ⟨b, hb⟩:=key i hi
  rw [hb]
  simp only [bytes8, List.getElem?_map, hb, Option.map_some]
  simp
 ·rw [List.getElem?_eq_none (by omega), List.getElem?_eq_none (by simp [bytes8]; omega)]
end Go.Proofs.YtpmdlkogccojmaaGreatDoor
