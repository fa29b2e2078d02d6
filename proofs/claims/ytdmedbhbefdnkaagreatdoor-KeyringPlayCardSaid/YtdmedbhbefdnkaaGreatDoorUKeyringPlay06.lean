/- Heap Still -/
import Derived.RegionTactic
import Derived.BigRegion
import Derived.StillTailTactics
import Derived.Deep.RegionWith
import Derived.Deep.RegionHeld3
import Derived.Test.YtdmedbhbefdnkaaGreatDoorUKeyringPlay05
set_option linter.unusedVariables false
set_option linter.unusedSimpArgs false
set_option maxRecDepth 100000
set_option maxHeartbeats 16000000
namespace Go.Proofs.YtdmedbhbefdnkaaGreatDoor
open Go.RowKit
structure Kept (S:Nat->Prop) (w w':World):Prop where
 os:w'.os=w.os
 tape:w'.tape=w.tape
 output:w'.output=w.output
 size:w.heap.size<=w'.heap.size
 block:∀ k,k<w.heap.size->¬ S k->w'.heap[k]? = w.heap[k]?
namespace Kept
variable {S S' : Nat → Prop} {a b c w w' : World}
theorem refl (S:Nat->Prop) (w:World):Kept S w w:=⟨rfl,rfl,rfl,Nat.le_refl _,fun _ _ _=>rfl⟩
theorem trans (h:Kept S a b) (k:Kept S b c):Kept S a c :=
 ⟨k.os.trans h.os,k.tape.trans h.tape,k.output.trans h.output,Nat.le_trans h.size k.size,fun i hi hs=>(k.block i (Nat.lt_of_lt_of_le hi h.size) hs).trans (h.block i hi hs)⟩
theorem mono (h:Kept S a b) (hs:∀ k,k<a.heap.size->S k->S' k):Kept S' a b:=⟨h.os,h.tape,h.output,h.size,fun k hk hn=>h.block k hk (fun q=>hn (hs k hk q))⟩
theorem then_ (h:Kept S a b) (k:Kept S' b c) (hs:∀ i,i<a.heap.size->S' i->S i):Kept S a c :=
 ⟨k.os.trans h.os,k.tape.trans h.tape,k.output.trans h.output,Nat.le_trans h.size k.size,fun i hi hn=>(k.block i (Nat.lt_of_lt_of_le hi h.size) (fun q=>hn (hs i hi q))).trans (h.block i hi hn)⟩
theorem alloc (h:Kept S a w) (o:Obj):Kept S a (w.alloc o) :=
 h.trans ⟨rfl,rfl,rfl,by simp,fun k hk _=>Below.heap_alloc _ _ _ hk⟩
theorem setCell (h:Kept S a w) {p:Addr} (hp:p.block<a.heap.size->S p.block) (u:Value):Kept S a (w.setCell p u) :=
 ⟨h.os,h.tape,h.output,by simpa using h.size,fun k hk hn=>(Below.heap_setCell w p u k (fun e=>by subst e;exact hn (hp hk))).trans (h.block k hk hn)⟩
theorem drew (h:Kept S a w):Kept S a w.drew:=⟨h.os,h.tape,h.output,h.size,h.block⟩
theorem drewN (h:Kept S a w) (n:Nat):Kept S a (w.drewN n):=⟨h.os,h.tape,h.output,h.size,h.block⟩
theorem grown {row:Option Nat} (h:Kept S a w) (hg:w.grownBy w' row) (hr:∀ k,row=some k->k<a.heap.size->S k):Kept S a w' :=
 ⟨hg.os.trans h.os,hg.tape.trans h.tape,hg.output.trans h.output,Nat.le_trans h.size hg.size,fun k hk hn=>(hg.block k (Nat.lt_of_lt_of_le hk h.size) (fun e=>hn (hr k e.symm hk))).trans (h.block k hk hn)⟩
theorem below {B:Nat} (h:Kept S a b) (hB:∀ k,k<B->S k->False) (hle:B<=a.heap.size):Below B a b :=
 ⟨h.os,h.tape,h.output,h.size,fun k hk=>h.block k (by omega) (hB k hk)⟩
theorem of_below (h:Below a.heap.size a b):Kept S a b:=⟨h.os,h.tape,h.output,h.size,fun k hk _=>h.block k hk⟩
end Kept
def Blk (w:World) (b:Nat) (c:List Value) (t:TypeId):Prop:=w.heap[b]? = some (.cells c.toArray t (0,0))
namespace Blk
variable {w w' : World} {b : Nat} {c : List Value} {t : TypeId}
theorem lt (h:Blk w b c t):b<w.heap.size:=(Array.getElem?_eq_some_iff.1 h).1
theorem cell (h:Blk w b c t) {i:Nat} {v:Value} (hi:c[i]? = some v):w.cell? ⟨b,i,none⟩=some v:=by
 unfold Blk at h;simp[World.cell?,h,hi]
theorem free (h:Blk w b c t) (i:Nat):w.frozen? ⟨b,i,none⟩=false:=by
 unfold Blk at h;simp[World.frozen?,h]
theorem kept {S:Nat->Prop} (h:Blk w b c t) (k:Kept S w w') (hb:¬ S b):Blk w' b c t:=by
 unfold Blk;rw[k.block b h.lt hb];exact h
theorem below {B:Nat} (h:Blk w b c t) (k:Below B w w') (hb:b<B):Blk w' b c t:=by
 unfold Blk;rw[k.block b hb];exact h
theorem alloc (h:Blk w b c t) (o:Obj):Blk (w.alloc o) b c t:=by
 unfold Blk;rw[Below.heap_alloc _ _ _ h.lt];exact h
theorem drew (h:Blk w b c t):Blk w.drew b c t:=h
theorem drewN (h:Blk w b c t) (n:Nat):Blk (w.drewN n) b c t:=h
theorem new (w:World) (c:List Value) (t:TypeId):Blk (w.alloc (.cells c.toArray t)) w.heap.size c t:=by
 unfold Blk;exact heap_alloc_new w _
theorem other (h:Blk w b c t) {p:Addr} (hp:p.block≠b) (v:Value):Blk (w.setCell p v) b c t:=by
 unfold Blk;rw[Below.heap_setCell _ _ _ _ (fun e=>hp e.symm)];exact h
theorem set (h:Blk w b c t) (i:Nat) (v:Value):Blk (w.setCell ⟨b,i,none⟩ v) b (c.set i v) t:=by
 unfold Blk at *
 simp[World.setCell,Array.getElem?_modify,h]
end Blk
theorem wp_region_tail {P:Program} {id:Nat} {Q:Exit->Act->World->Prop} {a:Act} {w:World} {l:List Oper} (n:Nat) (hm:P.follows .mixedOrders=true) (hB:Region.lexTailB .any l.toArray n=true)
  (h:wpStill P l.toArray w.drew (fun a'=>wpList P l.toArray Q (l.drop n) a' w.drew) (l.take n) a):(Code.region id l.toArray true).wp P Q a w :=
 wp_region_still_tail n hm hB h
theorem quiet_on {P:Program} {f:FuncId} {args:Array Value} {w:World} {a n:Nat} {v:Value} (h:Calls P f args (w.drewN (a+n)) fun e w'=>e = .returned v/\w.drewN (a+n)=w') :
  Calls P f args (w.drewN (a+n)) fun e w''=>e = .returned v/\∃ m,w''=w.drewN (a+m):=h.mono fun _ _ q=>⟨q.1,n,q.2.symm⟩
theorem quiet_at {P:Program} {f:FuncId} {args:Array Value} {w:World} {n:Nat} {v:Value} (h:Calls P f args (w.drewN n) fun e w'=>e = .returned v/\w.drewN n=w') :
  Calls P f args (w.drewN n) fun e w''=>e = .returned v/\∃ m,w''=w.drewN m:=h.mono fun _ _ q=>⟨q.1,n,q.2.symm⟩
theorem calls_pure {P:Program} {f:FuncId} {args:Array Value} {w:World} {v:Value} (h:Calls P f args w fun e w'=>e = .returned v/\w=w'):Calls P f args w fun e w'=>e = .returned v/\w'=w :=
 h.mono fun _ _ q=>⟨q.1,q.2.symm⟩
structure StH (P:Program) (ops:Array Oper) (w:World) (Q:Act->Prop) (l:List Oper) (a:Act):Prop where
 out:wpStill P ops w Q l a
section
variable {P : Program} {w : World} {ops : Array Oper} {Q : Act → Prop} {a : Act} {o : Oper} {rest : List Oper}
theorem StH.step (h:∀ K:Act->Prop,Hid (∀ a,StH P ops w Q rest a->K a)->if Region.wanted o (yielded ops a.tmps)then o.still P a w K else K (a.put o.dst undef)):StH P ops w Q (o::rest) a:=⟨h _ (Lib.hid (fun _ h=>h.out))⟩
theorem StH.nil (h:Q a):StH P ops w Q [] a:=⟨h⟩
end
end Go.Proofs.YtdmedbhbefdnkaaGreatDoor
