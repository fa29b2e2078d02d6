/- HeadIn -/
import Derived.Test.YtdmedbhbefdnkaaGreatDoorUKeyringPlay09
import Derived.Test.YtdmedbhbefdnkaaGreatDoorUKeyringPlay26
set_option linter.unusedVariables false
set_option linter.unusedSimpArgs false
set_option maxRecDepth 100000
set_option maxHeartbeats 16000000
namespace Go.Proofs.YtdmedbhbefdnkaaGreatDoor
open Go.RowKit Go.WideShapes Go.ChangeShapes Go.Joins
theorem c_u8:Tryz.prog.cellsOf 5=1:=by kernel_rfl
theorem c_int:Tryz.prog.cellsOf 3=1:=by kernel_rfl
theorem c_hash:Tryz.prog.cellsOf 30=32:=by kernel_rfl
theorem c_head:Tryz.prog.cellsOf 32=33:=by kernel_rfl
theorem trod_bytes {H:Type} {enc:TypeId × Value->H} {W:World} {base:Nat} {spare:Nat->Bool} {hd:Bool} {fuel n:Nat} {t:TypeId} {cs:List Value} {x:DataW H × List MemPlace} (ht:Tryz.prog.underlying t=some (.array n 5)) (hn:Tryz.prog.cellsOf t=n)
  (h:DataW.trod enc Tryz.prog W base spare hd fuel t cs=some x):∃ root:By,root.length=n/\cs=bytes8 root:=by
 obtain⟨xs,m,-,-,hcl,hxl,hel⟩:=DataW.trod_array ht h
 rw[hn]at hcl
 have key:∀ i,i<n->∃ b:UInt8,cs[i]? = some (.int .u8 (b.toNat:Int)):=by
  intro i hi
  have h1:=hel i hi
  rw[c_u8,Nat.mul_one,List.getElem?_eq_getElem (by omega)]at h1
  obtain⟨k,e1,_,hw⟩:=DataW.trod_int Tryz.underlying5 h1
  have hw:=wf_u8 hw
  have e5:=congrArg (·[0]?) e1
  have e6:cs[i]? = some (.int .u8 k):=by simpa[List.getElem?_take,List.getElem?_drop]using e5
  refine⟨UInt8.ofNat k.toNat,?_⟩
  rw[e6]
  have:(UInt8.ofNat k.toNat).toNat=k.toNat:=by simp;omega
  rw[this,Int.toNat_of_nonneg hw.1]
 refine⟨cs.map fun v=>match v with | .int _ k=>UInt8.ofNat k.toNat|_=>0,by rw[List.length_map,hcl],?_⟩
 apply List.ext_getElem?
 intro i
 by_cases hi:i<n
 ·obtain⟨b,hb⟩:=key i hi
  rw[hb]
  simp only[bytes8,List.getElem?_map,hb,Option.map_some]
  simp
 ·rw[List.getElem?_eq_none (by omega),List.getElem?_eq_none (by simp[bytes8];omega)]
theorem trod_head {H:Type} {enc:TypeId × Value->H} {W:World} {base:Nat} {spare:Nat->Bool} {hd:Bool} {fuel:Nat} {cs:List Value} {x:DataW H × List MemPlace}
  (h:DataW.trod enc Tryz.prog W base spare hd fuel 32 cs=some x):∃ (size:Int) (root:By),root.length=32/\-9223372036854775808<=size/\size<=9223372036854775807/\cs=headC size root:=by
 obtain⟨xs,n,_,_,hcl,hl,hg⟩:=DataW.trod_struct Tryz.underlying32 h
 match xs,hl with
 | [y0,y1],_ =>
  have g0:=hg 0 _ rfl
  have g1:=hg 1 _ rfl
  rw[c_head]at hcl
  simp[c_int]at g0
  simp[c_hash]at g1
  obtain⟨a0,e0,_,w0⟩:=DataW.trod_int Tryz.underlying3 g0
  obtain⟨root,hr,e1⟩:=trod_bytes Tryz.underlying30 c_hash g1
  have w0:=wf_i64 w0
  refine⟨a0,root,hr,w0.1,w0.2,?_⟩
  cases cs with
  | nil=>simp at e0
  | cons c r =>
   simp at e0 e1
   have h32:r.length<=32:=by rw[List.length_cons]at hcl;exact Nat.le_of_eq (Nat.succ.inj hcl)
   rw[List.take_of_length_le h32]at e1
   rw[e0,e1]
end Go.Proofs.YtdmedbhbefdnkaaGreatDoor
