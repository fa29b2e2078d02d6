/- Held -/
import Derived.Deep.RegionHeld3
set_option linter.unusedVariables false
set_option linter.unusedSimpArgs false
set_option maxRecDepth 100000
set_option maxHeartbeats 16000000
namespace Go.Proofs.YtdmedbhbefdnkaaGreatDoor
section
variable {P : Program} {ops : Array Oper} {Q : Exit → Act → World → Prop} {md : Region.Mode} {S : World → Prop} {oi : Oper} {fuel : Nat} {listed : Array Bool} {a a' : Act} {w : World}
theorem lyA (a:Act) (k:Nat) (v:Value):a.put (some k) v = { a with tmps:=a.tmps.setIfInBounds k v }:=rfl
theorem lyB {α : Type} (l:List α) (i:Nat) (x : α):l.toArray.setIfInBounds i x=(l.set i x).toArray:=List.setIfInBounds_toArray ..
theorem lyC {α : Type} (x y : α) (l:List α):(x::l).set 0 y=y::l:=rfl
theorem lyD {α : Type} (x y : α) (l:List α) (n:Nat):(x::l).set (n+1) y=x::l.set n y:=rfl
theorem tk {v:Value} (i:Nat) (hi:ops.toList[i]? = some oi) (hQ:∀ c a w,Q (.panic c) (a.put oi.dst v) w->Q (.panic c) a w) (hS:S w) (h:wpAnyH P md ops Q S fuel (listed.setIfInBounds i true) a' w)
  (hs:Region.noSelect ops=true:=by kernel_rfl) (hf:Region.free md ops listed i=true:=by kernel_rfl) (hr:(Region.ready md ops listed).contains i=true:=by kernel_rfl)
  (hy:YieldsIf P ops S oi v a:=by (refine Or.inl ⟨by rfl,fun w hSw=>?_⟩;(try dsimp only at hSw);go_simp;(try with_reducible rfl)))
  (ha:a.put oi.dst v=a':=by (simp only[lyA,lyB,lyC,lyD];try rfl)):wpAnyH P md ops Q S (fuel+1) listed a w:=by
 subst ha
 exact wpAnyH_take (by rw[<- Array.getElem?_toList];exact hi) hs hf hr hQ hy hS h
theorem tk0 (i:Nat) (hi:ops.toList[i]? = some oi) (hQ:∀ c a w,Q (.panic c) (a.put oi.dst undef) w->Q (.panic c) a w) (hS:S w) (h:wpAnyH P md ops Q S fuel (listed.setIfInBounds i true) a' w)
  (hs:Region.noSelect ops=true:=by kernel_rfl) (hf:Region.free md ops listed i=true:=by kernel_rfl) (hr:(Region.ready md ops listed).contains i=true:=by kernel_rfl)
  (hy:YieldsIf P ops S oi undef a:=by exact Or.inr ⟨by rfl,rfl⟩)
  (ha:a.put oi.dst undef=a':=by (simp only[lyA,lyB,lyC,lyD];try rfl)):wpAnyH P md ops Q S (fuel+1) listed a w:=by
 subst ha
 exact wpAnyH_take (by rw[<- Array.getElem?_toList];exact hi) hs hf hr hQ hy hS h
theorem tky {v:Value} (i:Nat) (hi:ops.toList[i]? = some oi) (hQ:∀ c a w,Q (.panic c) (a.put oi.dst v) w->Q (.panic c) a w) (hy:YieldsIf P ops S oi v a) (hS:S w) (h:wpAnyH P md ops Q S fuel (listed.setIfInBounds i true) a' w)
  (hs:Region.noSelect ops=true:=by kernel_rfl) (hf:Region.free md ops listed i=true:=by kernel_rfl) (hr:(Region.ready md ops listed).contains i=true:=by kernel_rfl)
  (ha:a.put oi.dst v=a':=by (simp only[lyA,lyB,lyC,lyD];try rfl)):wpAnyH P md ops Q S (fuel+1) listed a w:=by
 subst ha
 exact wpAnyH_take (by rw[<- Array.getElem?_toList];exact hi) hs hf hr hQ hy hS h
theorem rd1 (i:Nat) (h:∀ K':Act->World->Prop,Shut (∀ a w,S w->(S w->wpAnyH P md ops Q S fuel (listed.setIfInBounds i true) a w)->K' a w)->if Region.wanted oi (yielded ops a.tmps)=true then Oper.wp P oi a w K' Q else K' (a.put oi.dst undef) w)
  (hr:Region.ready md ops listed=[i]:=by kernel_rfl) (ho:ops.toList[i]? = some oi:=by rfl):wpAnyH P md ops Q S (fuel+1) listed a w :=
 wpAnyH_ready hr (by simp) (AllReadyH.cons (by rw[<- Array.getElem?_toList];exact ho) h AllReadyH.nil)
theorem ti {v:Value} (i:Nat) (hS:S w) (h:wpAnyH P md ops Q S fuel (listed.setIfInBounds i true) a' w) (hi:ops.toList[i]? = some oi:=by rfl) (hQ:∀ c a w,Q (.panic c) (a.put oi.dst v) w->Q (.panic c) a w:=by exact fun _ _ _ h=>h) (hs:Region.noSelect ops=true:=by kernel_rfl) (hf:Region.free md ops listed i=true:=by kernel_rfl) (hr:(Region.ready md ops listed).contains i=true:=by kernel_rfl) (hy:YieldsIf P ops S oi v a:=by (refine Or.inl ⟨by rfl,fun w hSw=>?_⟩;(try dsimp only at hSw);go_simp;(try with_reducible rfl))) (ha:a.put oi.dst v=a':=by (simp only[lyA,lyB,lyC,lyD];try rfl)):wpAnyH P md ops Q S (fuel+1) listed a w:=
 tk i hi hQ hS h hs hf hr hy ha
theorem tp {v:Value} {k:Nat} (i:Nat) (hS:S w) (HP:∀ c a (k:Nat) v w,Q (.panic c) (Act.put a (some k) v) w->Q (.panic c) a w) (h:wpAnyH P md ops Q S fuel (listed.setIfInBounds i true) a' w) (hi:ops.toList[i]? = some oi:=by rfl) (hd:oi.dst=some k:=by rfl) (hs:Region.noSelect ops=true:=by kernel_rfl) (hf:Region.free md ops listed i=true:=by kernel_rfl) (hr:(Region.ready md ops listed).contains i=true:=by kernel_rfl) (hy:YieldsIf P ops S oi v a:=by (refine Or.inl ⟨by rfl,fun w hSw=>?_⟩;(try dsimp only at hSw);go_simp;(try with_reducible rfl))) (ha:a.put oi.dst v=a':=by (simp only[lyA,lyB,lyC,lyD];try rfl)):wpAnyH P md ops Q S (fuel+1) listed a w:=
 tk i hi (fun c a w q=>HP c a k v w (by rw[hd]at q;exact q)) hS h hs hf hr hy ha
theorem ti0 (i:Nat) (hS:S w) (h:wpAnyH P md ops Q S fuel (listed.setIfInBounds i true) a' w) (hi:ops.toList[i]? = some oi:=by rfl) (hQ:∀ c a w,Q (.panic c) (a.put oi.dst undef) w->Q (.panic c) a w:=by exact fun _ _ _ h=>h) (hs:Region.noSelect ops=true:=by kernel_rfl) (hf:Region.free md ops listed i=true:=by kernel_rfl) (hr:(Region.ready md ops listed).contains i=true:=by kernel_rfl) (hy:YieldsIf P ops S oi undef a:=by exact Or.inr ⟨by rfl,rfl⟩) (ha:a.put oi.dst undef=a':=by (simp only[lyA,lyB,lyC,lyD];try rfl)):wpAnyH P md ops Q S (fuel+1) listed a w:=
 tk0 i hi hQ hS h hs hf hr hy ha
theorem tp0 {k:Nat} (i:Nat) (hS:S w) (HP:∀ c a (k:Nat) v w,Q (.panic c) (Act.put a (some k) v) w->Q (.panic c) a w) (h:wpAnyH P md ops Q S fuel (listed.setIfInBounds i true) a' w) (hi:ops.toList[i]? = some oi:=by rfl) (hd:oi.dst=some k:=by rfl) (hs:Region.noSelect ops=true:=by kernel_rfl) (hf:Region.free md ops listed i=true:=by kernel_rfl) (hr:(Region.ready md ops listed).contains i=true:=by kernel_rfl) (hy:YieldsIf P ops S oi undef a:=by exact Or.inr ⟨by rfl,rfl⟩) (ha:a.put oi.dst undef=a':=by (simp only[lyA,lyB,lyC,lyD];try rfl)):wpAnyH P md ops Q S (fuel+1) listed a w:=
 tk0 i hi (fun c a w q=>HP c a k undef w (by rw[hd]at q;exact q)) hS h hs hf hr hy ha
theorem tl {v:Value} (i:Nat) (hi:ops.toList[i]? = some oi) (hQ:∀ c a w,Q (.panic c) (a.put oi.dst v) w->Q (.panic c) a w) (hy:YieldsIf P ops S oi v a) (hS:S w) (h:wpAnyH P md ops Q S fuel (listed.setIfInBounds i true) (a.put oi.dst v) w) (hs:Region.noSelect ops=true:=by kernel_rfl) (hf:Region.free md ops listed i=true:=by kernel_rfl) (hr:(Region.ready md ops listed).contains i=true:=by kernel_rfl):wpAnyH P md ops Q S (fuel+1) listed a w:=
 wpAnyH_take (by rw[<-Array.getElem?_toList];exact hi) hs hf hr hQ hy hS h
theorem dn (h:Q .normal a w) (hr:Region.ready md ops listed=[]:=by kernel_rfl):wpAnyH P md ops Q S fuel listed a w:=wpAnyH_done hr h fuel
end
end Go.Proofs.YtdmedbhbefdnkaaGreatDoor
