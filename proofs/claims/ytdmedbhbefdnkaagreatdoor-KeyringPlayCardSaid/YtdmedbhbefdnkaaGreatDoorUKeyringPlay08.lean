/- RowV -/
import Derived.Deep.Upon
import Derived.Test.YtdmedbhbefdnkaaGreatDoorUKeyringPlay07
set_option linter.unusedVariables false
set_option linter.unusedSimpArgs false
set_option maxRecDepth 100000
set_option maxHeartbeats 16000000
namespace Go.Proofs.YtdmedbhbefdnkaaGreatDoor
open Go.RowKit
theorem Row.shape {w:World} {e:TypeId} {size:Nat} {v:Value} {xs:List Value} (h:Row w e size v xs):∃ a n c,v = .slice a n c/\n*size=xs.length/\n<=c/\c<=maxLen:=by
 rcases h with⟨rfl,rfl⟩|⟨g,n,cap,rest,rfl,h1,_,h2,_,h4⟩
 ·exact⟨none,0,0,rfl,by simp,Nat.le_refl _,Nat.zero_le _⟩
 ·exact⟨_,n,cap,rfl,h1.symm,h2,h4⟩
theorem Row.append_view {P:Program} {w:World} {e t:TypeId} {i:TypeInfo} {size:Nat} {z v u:Value} {xs ys:List Value} (h:Row w e size v xs) (hu:View w size u ys) (ht:P.underlying t=some (.slice e)) (hi:P.info? e=some i) (hz:i.zero=some z) (hsize:i.size=size) (hzs:z.cells.size=size) (hpos:0<size) (hby:i.bytes<=1000)
  (h1:∀ u∈ys,u.oneCell'=true) (hlen:xs.length+ys.length<=1000000000) (ty:TypeId) :
  ∃ v' w',(Builtin.append_ #[t,t] ty #[v,u]).run P w = .ok v' w'/\AppendPost w e size v (xs++ys) v' w':=by
 obtain⟨a,m,c,rfl,hm,hmc,hcm,_,h5⟩:=hu
 by_cases h0:0<m
 ·obtain⟨g,off,rfl,hg,hc⟩:=h5 h0
  exact h.append_cells ht hi hz hsize hzs hpos hby ⟨g,off,none⟩ m c ys hm.symm (fun j u hu=>by
   have e9:(⟨g,off,none⟩:Addr).add j=⟨g,off+j,none⟩:=by unfold Addr.add;split<;>simp_all
   rw[e9];exact hc j u hu) h1 h0 hlen ty
 ·obtain rfl:m=0:=by omega
  obtain rfl:ys=[]:=List.eq_nil_of_length_eq_zero (by omega)
  obtain⟨sa,n,cap,rfl,_,hle,_⟩:=h.shape
  have hsrc:Src P i.size t (.slice a 0 c) 0 [] w:=by
   cases a with
   | none=>exact Src.ofNil w ht c
   | some a=>exact Src.ofSlice w ht a 0 c [] (by simp) (fun j u hu=>by simp at hu) (fun u hu=>by simp at hu)
  refine⟨.slice sa n cap,w,run_append_nothing w t t ty e i ht hi sa n cap hle _ hsrc,?_,Kept.refl _ _,fun k hk=>Or.inl hk⟩
  rw[List.append_nil]
  exact h
end Go.Proofs.YtdmedbhbefdnkaaGreatDoor
