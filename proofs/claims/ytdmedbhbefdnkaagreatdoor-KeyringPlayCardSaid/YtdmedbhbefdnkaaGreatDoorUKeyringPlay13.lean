/- Map -/
import Derived.Maps.Own
import Derived.Maps.OwnSet
import Derived.Maps.RangeWalk
import Derived.Maps.Ext
import Derived.Test.YtdmedbhbefdnkaaGreatDoorUKeyringPlay03
import Derived.Test.YtdmedbhbefdnkaaGreatDoorUKeyringPlay06
set_option linter.unusedVariables false
set_option linter.unusedSimpArgs false
set_option maxRecDepth 100000
set_option maxHeartbeats 16000000
namespace Go.Proofs.YtdmedbhbefdnkaaGreatDoor
open Go.RowKit Go.Maps
def rawR (v:Value):Option (DataW Value × List MemPlace):=some (.held v,[])
def rawD (m:List (Int × Value)):DataW Value:=.map (m.map fun p=>(.int .i64 p.1,.held p.2))
def MapI (P:Program) (k:TypeId) (w:World) (b n:Nat) (m:List (Int × Value)):Prop:=w.ownsMap P k rawR b n (rawD m)
theorem insert_rawD (k:Int) (v:Value) (m:List (Int × Value)) :
  DataW.insert (.int .i64 k,.held v) (m.map fun p=>(Lit.int .i64 p.1,(DataW.held p.2:DataW Value)))=(AM.ins k v m).map fun p=>(Lit.int .i64 p.1,DataW.held p.2):=by
 induction m with
 | nil=>rfl
 | cons y r ih =>
  simp only[List.map_cons,DataW.insert,AM.ins,Lit.before]
  by_cases h:k<y.1
  ·simp[h]
  ·simp[h,ih]
theorem del_rawD (m:List (Int × Value)) (k:Int):(rawD m).del (.int .i64 k)=rawD (AM.del m k):=by
 show DataW.map ((m.map fun p=>(Lit.int .i64 p.1,(DataW.held p.2:DataW Value))).filter fun p=>!p.1.sameKey (.int .i64 k))=DataW.map ((m.filter fun p=>!decide (p.1=k)).map fun p=>(Lit.int .i64 p.1,DataW.held p.2))
 rw[List.filter_map]
 congr 2
 apply List.filter_congr
 intro p _
 simp[Lit.sameKey]
theorem put_rawD (m:List (Int × Value)) (k:Int) (v:Value):(rawD m).put (.int .i64 k) (.held v)=rawD (AM.set m k v):=by
 have h:=del_rawD m k
 unfold rawD DataW.del at h
 simp only[DataW.map.injEq]at h
 unfold rawD DataW.put AM.set
 simp only[DataW.map.injEq]
 rw[h,insert_rawD]
theorem has_rawD (m:List (Int × Value)) (k:Int):Maps.has (rawD m) (.int .i64 k)=(AM.get m k).isSome:=by
 show(m.map fun p=>(Lit.int .i64 p.1,(DataW.held p.2:DataW Value))).any (fun p=>p.1.sameKey (.int .i64 k))=((m.find? fun p=>decide (p.1=k)).map (·.2)).isSome
 rw[Option.isSome_map,List.any_map,Bool.eq_iff_iff,List.find?_isSome,List.any_eq_true]
 simp[Lit.sameKey]
theorem atKey_rawD (m:List (Int × Value)) (k:Int) (z:DataW Value):(rawD m).atKey (.int .i64 k) z=match AM.get m k with
  | some v=>.held v
  | none=>z:=by
 unfold rawD DataW.atKey AM.get
 simp only[List.find?_map]
 have:((fun p:Lit × DataW Value=>p.1.sameKey (.int .i64 k)) ∘ fun p:Int × Value=>(Lit.int .i64 p.1,(DataW.held p.2:DataW Value)))=fun p=>decide (p.1=k):=by
  funext p;simp[Lit.sameKey]
 rw[this]
 cases(m.find? fun p=>decide (p.1=k))<;>rfl
theorem size_rawD (m:List (Int × Value)):Maps.size (rawD m)=m.length:=by simp[rawD,Maps.size]
section
variable {P : Program} {k t e : TypeId} {w : World} {b n : Nat} {m : List (Int × Value)}
theorem MapI.lt (h:MapI P k w b n m):b<w.heap.size:=World.ownsMap.lt h
theorem MapI.kept {S:Nat->Prop} {w':World} (h:MapI P k w b n m) (hk:Kept S w w') (hb:¬ S b):MapI P k w' b n m:=by
 have hlt:=h.lt
 obtain⟨es,clock,hh,F,hs,hD⟩:=h
 exact⟨es,clock,(hk.block b hlt hb).trans hh,F,hs,hD⟩
theorem MapI.alloc (h:MapI P k w b n m) (o:Obj):MapI P k (w.alloc o) b n m:=World.ownsMap.alloc h o
theorem MapI.drew (h:MapI P k w b n m):MapI P k w.drew b n m:=h
theorem MapI.other (h:MapI P k w b n m) {p:Addr} (hp:p.block≠b) (v:Value):MapI P k (w.setCell p v) b n m:=World.ownsMap.setCell h (fun e=>hp e.symm) v
theorem MapI.made (w:World) (P:Program) (k:TypeId):MapI P k (w.alloc (.map #[] 0)) w.heap.size 0 []:=World.ownsMap_made w P k rawR
theorem key_i64 (hk:P.underlying k=some (.int .i64)) {a:Int} (h : -9223372036854775808<=a/\a<=9223372036854775807):keyOf P k (.int .i64 a)=some (.int .i64 a) :=
 keyOf_int_mk hk (by simp[Lit.wf,IntKind.min,IntKind.max,IntKind.signed,IntKind.bits];omega)
theorem MapI.rise (h:MapI P k w b n m) (hk:P.underlying k=some (.int .i64)):AM.Rise m:=by
 obtain⟨es,hD,hr,_⟩:=World.ownsMap.canon h (int_keyed hk)
 unfold rawD at hD
 simp only[DataW.map.injEq]at hD
 subst hD
 rw[List.pairwise_map]at hr
 exact hr.imp (fun {a b} q=>by simpa[Lit.before]using q)
theorem MapI.look (h:MapI P k w b n m) (hk:P.underlying k=some (.int .i64)) (ht:P.underlying t=some (.map k e)) {z:Value} (hz:(zeroValue e).run P w = .ok z w) {a:Int} (ha : -9223372036854775808<=a/\a<=9223372036854775807) :
  (Instr.lookup t (.map (some b)) (.int .i64 a) false).run P w = .ok ((AM.get m a).getD z) w:=by
 obtain⟨v,ps,hrun,hv⟩:=World.ownsMap.lookup h (int_keyed hk) ht hz (zd:=.held z) (zp:=[]) rfl (key_i64 hk ha)
 rw[hrun]
 rw[atKey_rawD]at hv
 unfold rawR at hv
 simp only[Option.some.injEq,Prod.mk.injEq]at hv
 cases hg:AM.get m a with
 | some x=>rw[hg]at hv;simp only[DataW.held.injEq]at hv;rw[hv.1];rfl
 | none=>rw[hg]at hv;simp only[DataW.held.injEq]at hv;rw[hv.1];rfl
theorem MapI.look_ok (h:MapI P k w b n m) (hk:P.underlying k=some (.int .i64)) (ht:P.underlying t=some (.map k e)) {z:Value} (hz:(zeroValue e).run P w = .ok z w) {a:Int} (ha : -9223372036854775808<=a/\a<=9223372036854775807) :
  (Instr.lookup t (.map (some b)) (.int .i64 a) true).run P w = .ok (.tuple #[(AM.get m a).getD z,.bool (AM.get m a).isSome]) w:=by
 obtain⟨v,ps,hrun,hv⟩:=World.ownsMap.look_ok h (int_keyed hk) ht hz (zd:=.held z) (zp:=[]) rfl (key_i64 hk ha)
 rw[hrun,has_rawD]
 rw[atKey_rawD]at hv
 unfold rawR at hv
 simp only[Option.some.injEq,Prod.mk.injEq]at hv
 cases hg:AM.get m a with
 | some x=>rw[hg]at hv;simp only[DataW.held.injEq]at hv;rw[hv.1];rfl
 | none=>rw[hg]at hv;simp only[DataW.held.injEq]at hv;rw[hv.1];rfl
theorem MapI.len (h:MapI P k w b n m) (ht:P.underlying t=some (.map k e)) (ty:TypeId):(Builtin.len_ #[t] ty #[.map (some b)]).run P w = .ok (.int .i64 m.length) w:=by
 have:=World.ownsMap.len h ht ty
 rwa[size_rawD]at this
theorem Kept.of_turned {w':World} (h:w.mapTurned w' b):Kept (· = b) w w':=by
 have g:=h.grown
 exact⟨g.os,g.tape,g.output,g.size,fun k hk hn=>g.block k hk (fun e=>hn (by simpa using e))⟩
theorem MapI.store (h:MapI P k w b n m) (hk:P.underlying k=some (.int .i64)) (ht:P.underlying t=some (.map k e)) (hn:n<maxLen) {a:Int} (ha : -9223372036854775808<=a/\a<=9223372036854775807) (v:Value) :
  ∃ w',(Instr.mapUpdate t (.map (some b)) (.int .i64 a) v).run P w = .ok () w'/\MapI P k w' b (n+1) (AM.set m a v)/\Kept (· = b) w w'/\w'.heap.size=w.heap.size:=by
 obtain⟨w',hrun,hown,hturn⟩:=World.ownsMap.store h (int_keyed hk) ht hn (key_i64 hk ha) (val:=v) (d:=.held v) (ps:=[]) rfl
 rw[put_rawD]at hown
 refine⟨w',hrun,hown,Kept.of_turned hturn,?_⟩
 obtain⟨es,c,es',c',_,rfl⟩:=hturn
 simp[ChangeMaps.setBlock]
def RangeI (P:Program) (k:TypeId) (w:World) (b r n:Nat) (m todo:List (Int × Value)):Prop :=
 ∃ left cnt,w.ranges P k rawR b r n (rawD m) left cnt/\todo=m.filter fun p=>left (.int .i64 p.1)
theorem RangeI.owns {r:Nat} {todo:List (Int × Value)} (h:RangeI P k w b r n m todo):MapI P k w b n m:=by
 obtain⟨left,cnt,hr,_⟩:=h;exact hr.owns
theorem RangeI.lt {r:Nat} {todo:List (Int × Value)} (h:RangeI P k w b r n m todo):r<w.heap.size:=by
 obtain⟨left,cnt,hr,_⟩:=h;exact hr.lt
theorem RangeI.kept {S:Nat->Prop} {w':World} {r:Nat} {todo:List (Int × Value)} (h:RangeI P k w b r n m todo) (hk:Kept S w w') (hb:¬ S b) (hr:¬ S r):RangeI P k w' b r n m todo/\w'.rangeLeft b r=w.rangeLeft b r:=by
 have l1:=h.owns.lt
 have l2:=h.lt
 have e1:=hk.block b l1 hb
 have e2:=hk.block r l2 hr
 refine⟨?_,by simp only[World.rangeLeft,e1,e2]⟩
 obtain⟨left,cnt,⟨es,clock,since,seen,c0,h1,h2,h3,h4,h5,h6⟩,ht⟩:=h
 exact⟨left,cnt,⟨es,clock,since,seen,c0,e1.trans h1,h2,h3,h4,e2.trans h5,h6⟩,ht⟩
theorem RangeI.sub {r:Nat} {todo:List (Int × Value)} (h:RangeI P k w b r n m todo):∀ p∈todo,p∈m:=by
 obtain⟨left,cnt,_,rfl⟩:=h
 intro p hp
 exact(List.mem_filter.1 hp).1
theorem RangeI.rise {r:Nat} {todo:List (Int × Value)} (h:RangeI P k w b r n m todo) (hk:P.underlying k=some (.int .i64)):AM.Rise todo:=by
 have:=h.owns.rise hk
 obtain⟨left,cnt,_,rfl⟩:=h
 exact this.filter _
theorem MapI.ne_blk {d:Nat} {c:List Value} {t:TypeId} (h:MapI P k w b n m) (hb:Blk w d c t):b≠d:=by
 rintro rfl
 obtain⟨es,clock,hh,_⟩:=h
 unfold Blk at hb
 rw[hh]at hb
 cases hb
theorem MapI.tight (h:MapI P k w b n m):MapI P k w b m.length m:=by
 obtain⟨es,clock,hh,F,hs,hD⟩:=h
 refine⟨es,clock,hh,F,?_,hD⟩
 have:=congrArg Maps.size hD
 rw[size_rawD]at this
 rw[this]
 simp[Maps.size,length_sorted]
theorem Kept.of_grown {w':World} {row:Option Nat} (g:w.grownBy w' row):Kept (fun x=>row=some x) w w':=⟨g.os,g.tape,g.output,g.size,fun k hk hn=>g.block k hk (fun e=>hn e.symm)⟩
theorem MapI.range (h:MapI P k w b n m) (hk:P.underlying k=some (.int .i64)) (ht:P.underlying t=some (.map k e)) :
  ∃ w',(Instr.range t (.map (some b))).run P w = .ok (.pointer (some ⟨w.heap.size,0,none⟩)) w'/\RangeI P k w' b w.heap.size n m m/\Kept (fun _=>False) w w'/\w'.heap.size=w.heap.size+1:=by
 obtain⟨w',hrun,hr,hg,hs⟩:=World.ownsMap.range h (int_keyed hk) ht
 refine⟨w',hrun,⟨_,_,hr,?_⟩,(Kept.of_grown hg).mono (fun _ _ e=>by cases e),hs⟩
 symm
 rw[List.filter_eq_self]
 rintro⟨a,v⟩ hp
 rw[has_rawD,(AM.get_some (h.rise hk)).2 hp]
 rfl
theorem RangeI.next {r:Nat} {todo:List (Int × Value)} (h:RangeI P k w b r n m todo) (hk:P.underlying k=some (.int .i64)) (ty:TypeId) :
  (todo=[]/\(Instr.next (.pointer (some ⟨r,0,none⟩)) false ty).run P w = .ok (.tuple #[.bool false]) w) \/
  ∃ a v w',(a,v)∈todo/\(-9223372036854775808<=a/\a<=9223372036854775807)/\(Instr.next (.pointer (some ⟨r,0,none⟩)) false ty).run P w = .ok (.tuple #[.bool true,.int .i64 a,v]) w' /\
   RangeI P k w' b r n m (AM.del todo a)/\w'.rangeLeft b r<w.rangeLeft b r/\Kept (· = r) w w'/\w'.heap.size=w.heap.size/\(Instr.entry (.pointer (some ⟨r,0,none⟩))).run P w' = .ok (.tuple #[.int .i64 a,v]) w':=by
 have hrise:=h.owns.rise hk
 obtain⟨left,cnt,hr,rfl⟩:=h
 rcases hr.next (int_keyed hk) ty with⟨_,hl,hrun⟩|⟨key,v,kl,y,w',cnt',hkey,hleft,hv,hat,hrun,hr',hlt,hg,hs,hent⟩
 ·refine Or.inl ⟨?_,hrun⟩
  rw[List.filter_eq_nil_iff]
  intro p _
  simp[hl]
 ·obtain⟨a,rfl,rfl,hw⟩:=Maps.keyOf_int_inv hk hkey
  have hy:y=(.held v,[]):=by unfold rawR at hv;exact(Option.some.inj hv).symm
  subst hy
  have hget:AM.get m a=some v:=by
   have:=hat .nil
   rw[atKey_rawD]at this
   cases hg2:AM.get m a with
   | some x=>rw[hg2]at this;simp only[DataW.held.injEq]at this;rw[this]
   | none=>rw[hg2]at this;cases this
  refine Or.inr ⟨a,v,w',?_,wf_i64 hw,hrun,⟨_,_,hr',?_⟩,?_,(Kept.of_grown hg).mono (fun x _ e=>by simpa using e.symm),hs,hent⟩
  ·exact List.mem_filter.2 ⟨(AM.get_some hrise).1 hget,hleft⟩
  ·unfold AM.del
   rw[List.filter_filter]
   apply List.filter_congr
   intro p _
   simp[Lit.sameKey,Bool.and_comm]
  ·rw[hr'.left_eq,hr.left_eq];exact hlt
end
end Go.Proofs.YtdmedbhbefdnkaaGreatDoor
