/- Open -/
import Derived.Deep.Slices
import Derived.Lib.SmallJoins
import Derived.ProofKit
import Derived.OpenShut
import Derived.Test.YtdmedbhbefdnkaaGreatDoorUKeyringPlay06
set_option linter.unusedVariables false
set_option linter.unusedSimpArgs false
set_option maxRecDepth 100000
set_option maxHeartbeats 16000000
namespace Go.Proofs.YtdmedbhbefdnkaaGreatDoor
open Go.RowKit Go.WideShapes Go.ChangeShapes
def ElemAt (w:World) (a:Option Addr) (n i:Nat) (cs:List Value):Prop :=
 ∃ b off,a=some ⟨b,off,none⟩/\b<w.heap.size/\∀ j v,cs[j]? = some v->w.cell? ⟨b,off+i*n+j,none⟩=some v
theorem addr_add (a:Addr) (h:a.spot=none) (n:Nat):a.add n=⟨a.block,a.off+n,none⟩:=by
 obtain⟨b,o,s⟩:=a
 simp only at h
 subst h
 unfold Addr.add
 split<;>simp_all
theorem open_rows {H:Type} {enc:TypeId × Value->H} {P:Program} {w:World} {r:Reach} {base:Nat} {t e:TypeId} {n:Nat} {v:Value} {d:DataW H} {p:List MemPlace} (ht:P.underlying t=some (.slice e)) (hc:P.cellsOf e=n) (hn:0<n)
  (hv:Value.okWide P w r base t v) (h:DataW.Trod enc P w 0 (fun _=>true) true t v d p) :
  ∃ a len cap,v = .slice a len cap/\len<=maxLen/\∀ i,i<len->∃ cs m x,cs.length=n/\ElemAt w a n i cs/\DataW.trod enc P w 0 (fun _=>true) true m e cs=some x:=by
 obtain⟨a,len,cap,rfl⟩:=okWide_slice ht hv
 obtain⟨fuel,hf⟩:=h
 rcases Deep.open_slice ht hf with⟨hcs,_⟩|⟨a',len',cap',m,k,D,Pl,hcs,_,hl,hm,hmm,_,hx⟩
 ·simp[Value.cells]at hcs
  obtain⟨rfl,rfl,rfl⟩:=hcs
  exact⟨none,0,0,rfl,Nat.zero_le _,fun i hi=>by omega⟩
 ·simp[Value.cells]at hcs
  obtain⟨rfl,rfl,rfl⟩:=hcs
  refine⟨some a',len,cap,rfl,by omega,fun i hi=>?_⟩
  obtain⟨cs,h1,h2⟩:=hx i (by simp at hmm;omega)
  rw[hc]at h1
  obtain⟨_,hlen,hcell⟩:=World.cells?_some h1
  refine⟨cs,k,_,hlen,?_,h2⟩
  have hs:a'.spot=none:=by
   obtain⟨cs0,g1,_⟩:=hx 0 (by simp at hmm;omega)
   rw[hc]at g1
   obtain⟨_,hl0,hc0⟩:=World.cells?_some g1
   have q:=hc0 0 hn
   obtain⟨u,hu⟩:∃ u,cs0[0]? = some u:=⟨cs0[0],List.getElem?_eq_getElem (by omega)⟩
   rw[hu]at q
   have:=World.cell?_spot q
   simpa[Addr.add]using this
  have hb:a'.block<w.heap.size:=by
   have:=World.cells?_block h1 hn
   rw[addr_add _ hs]at this
   exact this
  refine⟨a'.block,a'.off,?_,hb,?_⟩
  ·obtain⟨b,o,s⟩:=a';simp only at hs;subst hs;rfl
  ·intro j u hu
   have:=hcell j (by have:=(List.getElem?_eq_some_iff.1 hu).1;omega)
   rw[addr_add _ hs,addr_add _ rfl,hu]at this
   exact this
end Go.Proofs.YtdmedbhbefdnkaaGreatDoor
