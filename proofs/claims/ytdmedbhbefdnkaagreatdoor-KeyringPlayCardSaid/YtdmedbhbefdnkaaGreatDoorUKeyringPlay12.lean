/- Arr Rd2 Res2 -/
import Derived.Deep.MidRow
import Derived.Test.YtdmedbhbefdnkaaGreatDoorUKeyringPlay07
import Derived.Test.YtdmedbhbefdnkaaGreatDoorUKeyringPlay11
set_option linter.unusedVariables false
set_option linter.unusedSimpArgs false
set_option maxRecDepth 100000
set_option maxHeartbeats 16000000
namespace Go.Proofs.YtdmedbhbefdnkaaGreatDoor
open Go.RowKit
def splice (c:List Value) (o:Nat) (vs:List Value):List Value:=c.take o++vs++c.drop (o+vs.length)
theorem splice_len {c:List Value} {o:Nat} {vs:List Value} (h:o+vs.length<=c.length):(splice c o vs).length=c.length:=by
 simp[splice];omega
theorem splice_nil (c:List Value) (o:Nat):splice c o []=c:=by simp[splice]
theorem splice_cons (c:List Value) (o:Nat) (v:Value) (r:List Value) (h:o<c.length):splice (c.set o v) (o+1) r=splice c o (v::r):=by
 simp only[splice,List.length_cons]
 rw[List.take_set,List.drop_set_of_lt (by omega),List.take_add_one,List.getElem?_eq_getElem h]
 rw[List.set_append_right _ _ (by simp;omega)]
 simp only[List.length_take]
 rw[show o-min o c.length=0 by omega,show o+1+r.length=o+(r.length+1) by omega]
 simp
theorem splice_whole {c vs:List Value} (h:vs.length=c.length):splice c 0 vs=vs:=by simp[splice,h]
section
variable {w w' : World} {b : Nat} {c : List Value} {t : TypeId}
theorem Blk.setCells (h:Blk w b c t) (o:Nat) (vs:List Value) (hl:o+vs.length<=c.length):Blk (w.setCells b o vs) b (splice c o vs) t:=by
 induction vs generalizing w c o with
 | nil=>rw[splice_nil];exact h
 | cons v r ih =>
  simp only[List.length_cons]at hl
  rw[World.setCells,<- splice_cons c o v r (by omega)]
  exact ih (h.set o v) (o+1) (by rw[List.length_set];omega)
theorem kept_setCells (w:World) (b o:Nat) (vs:List Value):Kept (· = b) w (w.setCells b o vs):=by
 induction vs generalizing w o with
 | nil=>exact Kept.refl _ _
 | cons v r ih =>
  rw[World.setCells]
  exact((Kept.refl _ _).setCell (S:=fun x=>x=b) (p:=⟨b,o,none⟩) (fun _=>rfl) v).trans (ih _ _)
theorem Blk.rangeAt (h:Blk w b c t) (o n:Nat):w.rangeAt b o ((c.drop o).take n):=by
 intro j v hv
 have hj:j<((c.drop o).take n).length:=(List.getElem?_eq_some_iff.1 hv).1
 refine h.cell ?_
 rw[List.length_take,List.length_drop]at hj
 rw[List.getElem?_take_of_lt (by omega),List.getElem?_drop]at hv
 exact hv
theorem Blk.there (h:Blk w b c t) (o n:Nat) (hl:o+n<=c.length):w.there b o n:=by
 intro j hj
 refine⟨?_,h.free _⟩
 rw[h.cell (i:=o+j) (v:=c[o+j]) (List.getElem?_eq_getElem (by omega))]
 rfl
variable {P : Program} {ty : TypeId} {d : TypeDesc} {n : Nat}
end
theorem i32_oneCell {k:IntKind} {l:List Int} : ∀ v∈(l.map fun x=>Value.int k x),v.oneCell'=true:=by
 intro v hv
 obtain⟨b,_,rfl⟩:=List.mem_map.1 hv
 rfl
theorem Blk.range0 {w:World} {b:Nat} {c:List Value} {t:TypeId} (h:Blk w b c t):w.rangeAt b 0 c:=by
 have:=h.rangeAt 0 c.length
 rwa[List.drop_zero,List.take_length]at this
theorem Blk.result {P:Program} {w:World} {b:Nat} {c:List Value} {t ty:TypeId} {d:TypeDesc} {fn:Func} {p:Tmp} {tmps:Array Value} (h:Blk w b c t) (hf:fn.results = #[.cell p ty]) (hp:tmps.getD p undef = .pointer (some ⟨b,0,none⟩))
  (hu:P.underlying ty=some d) (hd:(match d with | .struct _ | .array _ _=>true|_=>false)=true) (hi:(P.info? ty).map (·.size)=some c.length) :
  (results fn tmps).run P w = .ok (.agg c.toArray) w :=
 results_cell_row hf tmps w b t c.toArray (0,0) d hp h hu hd (by rw[hi,List.size_toArray])
theorem u8_oneCell {l:List UInt8} : ∀ v∈(l.map fun b=>Value.int .u8 (b.toNat:Int)),v.oneCell'=true:=by
 intro v hv
 obtain⟨b,_,rfl⟩:=List.mem_map.1 hv
 rfl
section
variable {P : Program} {ops : Array Oper} {Q : Exit → Act → World → Prop} {md : Region.Mode} {S : World → Prop} {fuel : Nat} {listed : Array Bool} {a : Act} {w : World}
theorem rd2 {oi oj:Oper} (i j:Nat) (h1:∀ K':Act->World->Prop,Shut (∀ a w,S w->(S w->wpAnyH P md ops Q S fuel (listed.setIfInBounds i true) a w)->K' a w)->if Region.wanted oi (yielded ops a.tmps)=true then Oper.wp P oi a w K' Q else K' (a.put oi.dst undef) w)
  (h2:∀ K':Act->World->Prop,Shut (∀ a w,S w->(S w->wpAnyH P md ops Q S fuel (listed.setIfInBounds j true) a w)->K' a w)->if Region.wanted oj (yielded ops a.tmps)=true then Oper.wp P oj a w K' Q else K' (a.put oj.dst undef) w)
  (hr:Region.ready md ops listed=[i,j]:=by kernel_rfl) (ho:ops.toList[i]? = some oi:=by rfl) (ho2:ops.toList[j]? = some oj:=by rfl):wpAnyH P md ops Q S (fuel+1) listed a w :=
 wpAnyH_ready hr (by simp) (AllReadyH.cons (by rw[<- Array.getElem?_toList];exact ho) h1 (AllReadyH.cons (by rw[<- Array.getElem?_toList];exact ho2) h2 AllReadyH.nil))
end
theorem Blk.result2 {P:Program} {w:World} {b:Nat} {c:List Value} {t ty:TypeId} {d:TypeDesc} {fn:Func} {p u:Tmp} {tmps:Array Value} (h:Blk w b c t) (hf:fn.results = #[.cell p ty,.tmp u]) (hp:tmps.getD p undef = .pointer (some ⟨b,0,none⟩))
  (hu:P.underlying ty=some d) (hd:(match d with | .struct _ | .array _ _=>true|_=>false)=true) (hi:(P.info? ty).map (·.size)=some c.length) :
  (results fn tmps).run P w = .ok (.tuple #[.agg c.toArray,tmps.getD u undef]) w:=by
 have hp':tmps[p]?.getD undef = .pointer (some ⟨b,0,none⟩):=by simpa using hp
 simp[results,hf,hp',asAddr,run_loadVar_row w b t ty c.toArray (0,0) d h hu hd (by rw[hi,List.size_toArray])]
end Go.Proofs.YtdmedbhbefdnkaaGreatDoor
