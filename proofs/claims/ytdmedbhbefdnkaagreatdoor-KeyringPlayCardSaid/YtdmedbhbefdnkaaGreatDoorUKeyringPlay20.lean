/- View2 -/
import Derived.Lib.BufferRead
import Derived.Test.YtdmedbhbefdnkaaGreatDoorUKeyringPlay17
set_option linter.unusedVariables false
set_option linter.unusedSimpArgs false
set_option maxRecDepth 100000
set_option maxHeartbeats 16000000
namespace Go.Proofs.YtdmedbhbefdnkaaGreatDoor
open Go.RowKit
section
variable {w w' : World} {size : Nat} {v : Value} {xs : List Value}
theorem addr_mid (g off m:Nat):(⟨g,off,none⟩:Addr).add m=⟨g,off+m,none⟩:=by unfold Addr.add;split<;>simp_all
theorem View.mid3 {P:Program} {t:TypeId} {a:Option Addr} {n cap:Nat} (h:View w size (.slice a n cap) xs) (ht:P.underlying t=some (.slice (P.elem t))) (hsz:∀ w,(sizeOf (P.elem t)).run P w = .ok size w) (lo hi:Nat) (h1:lo<=hi) (h2:hi<=n) :
  ∃ v1,(∀ w0,(Instr.slice t (.slice a n cap) (some (.int .i64 (lo:Int))) (some (.int .i64 (hi:Int))) (some (.int .i64 (hi:Int)))).run P w0 = .ok v1 w0)/\View w size v1 ((xs.drop (lo*size)).take ((hi-lo)*size)):=by
 obtain⟨a',n',cap',hv,k1,k2,k3,k4,k5⟩:=h
 cases hv
 have hle:hi*size<=xs.length:=by rw[<- k1];exact Nat.mul_le_mul_right _ h2
 have hsub:(hi-lo)*size=hi*size-lo*size:=Nat.sub_mul _ _ _
 have hlo:lo*size<=hi*size:=Nat.mul_le_mul_right _ h1
 refine⟨.slice (if hi=lo then a else a.map (·.add (lo*size))) (hi-lo) (hi-lo),fun w0=>?_,_,hi-lo,hi-lo,rfl,?_,Nat.le_refl _,by omega,fun h0=>?_,fun h0=>?_⟩
 ·have hs:=run_slice_lhm (P:=P) (w:=w0) t a n cap ht .i64 .i64 .i64 (lo:Int) (hi:Int) (hi:Int) (by omega) (by omega) (by omega) (by omega)
  rw[hsz]at hs
  simp only[Result.andThen,sliced,Int.toNat_natCast]at hs
  rw[hs]
 ·rw[List.length_take,List.length_drop,hsub];omega
 ·have hne:¬ hi=lo:=by clear k4 k5;omega
  obtain⟨g,off,rfl⟩:=k4 (by clear k4 k5;omega)
  rw[if_neg hne]
  exact⟨g,off+lo*size,by simp[addr_mid]⟩
 ·have hne:¬ hi=lo:=by clear k4 k5;omega
  obtain⟨g,off,rfl,hg,hc⟩:=k5 (by clear k4 k5;omega)
  rw[if_neg hne]
  refine⟨g,off+lo*size,by simp[addr_mid],hg,fun j u hu=>?_⟩
  have hj:=(List.getElem?_eq_some_iff.1 hu).1
  rw[List.length_take]at hj
  rw[List.getElem?_take_of_lt (by omega),List.getElem?_drop]at hu
  rw[Nat.add_assoc]
  exact hc _ u hu
end
section
variable {w : World} {l : List UInt8}
theorem View.text {v:Value} (h:View w 1 v (bytes8 l)):(convert 72 9 v).run Tryz.prog w = .ok (.string ⟨l.toArray⟩) w:=by
 obtain⟨a,n,cap,rfl,h1,h2,h3,h4,h5⟩:=h
 rw[bytes8_len,Nat.mul_one]at h1
 rcases Nat.eq_zero_or_pos n with h0|h0
 ·subst h0
  have hl:l=[]:=List.eq_nil_of_length_eq_zero h1.symm
  subst hl
  rcases a with _|⟨g,off,s⟩
  ·exact Lib.run_convert_nil_bytes w 72 9 5 cap Tryz.underlying72 Tryz.underlying5 Tryz.underlying9
  ·exact run_convert_bytes_back w 72 9 5 ⟨g,off,s⟩ cap [] Tryz.underlying72 Tryz.underlying5 Tryz.underlying9 (fun j hj=>by simp at hj)
 ·obtain⟨g,off,rfl,_,hc⟩:=h5 h0
  exact run_string_of l h1 hc
end
end Go.Proofs.YtdmedbhbefdnkaaGreatDoor
