/- FrG RingP SegM OneDisk -/
import Derived.Test.YtdmedbhbefdnkaaGreatDoorUKeyringPlay31
import Derived.Test.YtdmedbhbefdnkaaGreatDoorUKeyringPlay28
set_option linter.unusedVariables false
set_option linter.unusedSimpArgs false
set_option maxRecDepth 100000
set_option maxHeartbeats 16000000
namespace Go.Proofs.YtdmedbhbefdnkaaGreatDoor
open Go.RowKit
structure Og where
 own:Nat->Prop
 holds:World->Nat->Prop
 keep':∀ {w w':World} {d:Nat} {Z:Nat->Prop},holds w d->Kept Z w w'->(∀ k,own k->¬ Z k)->holds w' d
 lt':∀ {w:World} {d k:Nat},holds w d->own k->k<w.heap.size
theorem Og.keep {x:Og} {w w':World} {d:Nat} {Z:Nat->Prop} (h:x.holds w d) (hk:Kept Z w w') (hZ:∀ k,x.own k->¬ Z k):x.holds w' d:=x.keep' h hk hZ
theorem Og.lt {x:Og} {w:World} {d:Nat} (h:x.holds w d) {k:Nat} (hk:x.own k):k<w.heap.size:=x.lt' h hk
def Og.blk (b:Nat) (c:List Value) (t:TypeId):Og:=⟨fun k=>k=b,fun w _=>Blk w b c t,fun h hk hZ=>Blk.kept h hk (hZ b rfl),fun h hk=>by rw[show _=b from hk];exact Blk.lt h⟩
structure FrG (w0 w:World) (d:Nat) (M:DiskM) (B:Nat->Prop) (Os:List Og):Prop where
 ap:Apart B d M w
 old:∀ k,k<w0.heap.size->B k
 tab0:Tab w0
 kept:Kept (fun _=>False) w0 w
 obs:∀ x∈Os,x.holds w d/\∀ k,x.own k->B k/\w0.heap.size<=k
 apart:Os.Pairwise fun x y=>∀ k,x.own k->¬ y.own k
def Owg (w0 w:World) (d:Nat) (M:DiskM) (Os:List Og):Prop:=∃ B,FrG w0 w d M B Os
section
variable {w0 w w' : World} {d r s b : Nat} {M M' : DiskM} {B B' S Z : Nat → Prop} {Os Os' : List Og} {a x : Og} {c c' : List Value} {t : TypeId} {v : Value} {l : List By} {y : Int}
theorem FrG.tab (h:FrG w0 w d M B Os):Tab w:=h.tab0.same h.kept
theorem FrG.perm (h:FrG w0 w d M B Os) (hp:Os.Perm Os'):FrG w0 w d M B Os' :=
 ⟨h.ap,h.old,h.tab0,h.kept,fun x q=>h.obs x (hp.mem_iff.2 q),h.apart.perm hp (fun h k q z=>h k z q)⟩
theorem FrG.sub (h:FrG w0 w d M B Os) (hp:Os'.Sublist Os):FrG w0 w d M B Os' :=
 ⟨h.ap,h.old,h.tab0,h.kept,fun x q=>h.obs x (hp.subset q),h.apart.sublist hp⟩
theorem FrG.same (h:FrG w0 w d M B Os) (hk:Kept (fun _=>False) w w'):FrG w0 w' d M B Os :=
 ⟨h.ap.same hk,h.old,h.tab0,h.kept.trans hk,fun x q=>⟨Og.keep (h.obs x q).1 hk (fun _ _=>id),(h.obs x q).2⟩,h.apart⟩
theorem FrG.swap (h:FrG w0 w d M B (a::Os)) (hk:Kept (fun k=>¬ B k\/a.own k) w w') (ha:Apart (fun k=>B k\/x.own k) d M' w') (hx:x.holds w' d) (ho:∀ k,x.own k->a.own k\/w.heap.size<=k):FrG w0 w' d M' (fun k=>B k\/x.own k) (x::Os):=by
 obtain⟨p1,p2⟩:=List.pairwise_cons.1 h.apart
 have h0:=h.obs a (List.mem_cons_self ..)
 refine⟨ha,fun k q=>Or.inl (h.old k q),h.tab0,h.kept.then_ hk (fun i hi z=>?_),fun y q=>?_,List.pairwise_cons.2 ⟨fun y q k e z=>?_,p2⟩⟩
 ·rcases z with z|z
  ·exact z (h.old i hi)
  ·have:=(h0.2 i z).2;omega
 ·rcases List.mem_cons.1 q with rfl|q
  ·refine⟨hx,fun k e=>⟨Or.inr e,?_⟩⟩
   rcases ho k e with z|z
   ·exact(h0.2 k z).2
   ·exact Nat.le_trans h.kept.size z
  ·have hy:=h.obs y (List.mem_cons_of_mem _ q)
   exact⟨Og.keep hy.1 hk (fun k e z=>z.elim (fun n=>n (hy.2 k e).1) (fun z=>p1 y q k z e)),fun k e=>⟨Or.inl (hy.2 k e).1,(hy.2 k e).2⟩⟩
 ·rcases ho k e with n|n
  ·exact p1 y q k n z
  ·have:=Og.lt (h.obs y (List.mem_cons_of_mem _ q)).1 z
   omega
theorem FrG.to (h:FrG w0 w d M B Os) (hk:Kept (fun k=>¬ B k) w w') (ha:Apart B d M' w'):FrG w0 w' d M' B Os :=
 ⟨ha,h.old,h.tab0,h.kept.then_ hk (fun i hi z=>z (h.old i hi)),fun x q=>⟨Og.keep (h.obs x q).1 hk (fun k e z=>z ((h.obs x q).2 k e).1),(h.obs x q).2⟩,h.apart⟩
theorem FrG.come (h:FrG w0 w d M B Os) (hk:Kept (fun k=>¬ B k) w w') (ha:Apart (fun k=>B k\/x.own k) d M' w') (hx:x.holds w' d) (ho:∀ k,x.own k->w.heap.size<=k):FrG w0 w' d M' (fun k=>B k\/x.own k) (x::Os):=by
 refine⟨ha,fun k q=>Or.inl (h.old k q),h.tab0,h.kept.then_ hk (fun i hi z=>z (h.old i hi)),fun y q=>?_,List.pairwise_cons.2 ⟨fun y q k e z=>?_,h.apart⟩⟩
 ·rcases List.mem_cons.1 q with rfl|q
  ·exact⟨hx,fun k e=>⟨Or.inr e,Nat.le_trans h.kept.size (ho k e)⟩⟩
  ·have hy:=h.obs y q
   exact⟨Og.keep hy.1 hk (fun k e z=>z (hy.2 k e).1),fun k e=>⟨Or.inl (hy.2 k e).1,(hy.2 k e).2⟩⟩
 ·have:=Og.lt (h.obs y q).1 z
  have:=ho k e
  omega
theorem FrG.add (h:FrG w0 w d M B Os) (hk:Kept (fun _=>False) w w') (hx:x.holds w' d) (ho:∀ k,x.own k->w.heap.size<=k):FrG w0 w' d M (fun k=>B k\/x.own k) (x::Os) :=
 h.come (hk.mono (fun _ _=>False.elim)) (h.ap.grow hk (fun _ _=>False.elim) (fun k q=>q.imp id (fun q=>⟨ho k q,Og.lt hx q⟩))) hx ho
theorem Owg.same (h:Owg w0 w d M Os) (hk:Kept (fun _=>False) w w'):Owg w0 w' d M Os:=by obtain⟨B,h⟩:=h;exact⟨_,h.same hk⟩
theorem Owg.add (h:Owg w0 w d M Os) (hk:Kept (fun _=>False) w w') (hx:x.holds w' d) (ho:∀ k,x.own k->w.heap.size<=k):Owg w0 w' d M (x::Os):=by obtain⟨B,h⟩:=h;exact⟨_,h.add hk hx ho⟩
theorem Owg.perm (h:Owg w0 w d M Os) (hp:Os.Perm Os'):Owg w0 w d M Os':=by obtain⟨B,h⟩:=h;exact⟨_,h.perm hp⟩
theorem Owg.sub (h:Owg w0 w d M Os) (hp:Os'.Sublist Os):Owg w0 w d M Os':=by obtain⟨B,h⟩:=h;exact⟨_,h.sub hp⟩
theorem Owg.drop (h:Owg w0 w d M (x::Os)):Owg w0 w d M Os:=h.sub (List.sublist_cons_self ..)
theorem Owg.has (h:Owg w0 w d M Os) (hx:x∈Os):x.holds w d:=by obtain⟨B,h⟩:=h;exact(h.obs x hx).1
theorem Owg.ge (h:Owg w0 w d M Os) (hx:x∈Os) {k:Nat} (hk:x.own k):w0.heap.size<=k:=by obtain⟨B,h⟩:=h;exact((h.obs x hx).2 k hk).2
theorem Owg.old (h:Owg w0 w d M Os):Kept (fun _=>False) w0 w:=by obtain⟨B,h⟩:=h;exact h.kept
theorem Owg.tab (h:Owg w0 w d M Os):Tab w:=by obtain⟨B,h⟩:=h;exact h.tab
theorem Owg.two (h:Owg w0 w d M (a::x::Os)):Owg w0 w d M (x::a::Os):=h.perm (List.Perm.swap _ _ _)
theorem Owg.new (h:Owg w0 w d M Os) (c:List Value) (t:TypeId):Owg w0 (w.alloc (.cells c.toArray t)) d M (Og.blk w.heap.size c t::Os) :=
 h.add ((Kept.refl _ _).alloc _) (Blk.new w c t) (fun k q=>by have:k=w.heap.size:=q;omega)
theorem Owg.turn (h:Owg w0 w d M (Og.blk b c t::Os)) (hk:Kept (· = b) w w') (hb:Blk w' b c' t):Owg w0 w' d M (Og.blk b c' t::Os):=by
 obtain⟨B,h⟩:=h
 have h0:=(h.obs _ (List.mem_cons_self ..)).2 b rfl
 exact⟨_,h.swap (x:=Og.blk b c' t) (hk.mono (fun _ _ e=>Or.inr e)) ((h.ap.turn hk (fun k e=>by rw[e];exact h0.1)).fewer (fun k q=>q.elim id (fun e=>by rw[show k=b from e];exact h0.1))) hb (fun _ q=>Or.inl q)⟩
theorem Owg.made (hA:Apart (fun k=>k<w0.heap.size) d M w) (ht:Tab w0) (hk:Kept (fun _=>False) w0 w):Owg w0 w d M []:=⟨_,hA,fun _=>id,ht,hk,fun x q=>(List.not_mem_nil q).elim,List.Pairwise.nil⟩
theorem Owg.crash (h:Owg w0 w d M Os) (k:Int) (k0 : -9223372036854775808<=k/\k<=9223372036854775807) (he:M.crashR k=(y,M')) :
  Calls Tryz.prog 54 #[.pointer (some ⟨d,0,none⟩),.int .i64 k] w fun e w'=>e = .returned (.int .i64 y)/\Owg w0 w' d M' Os:=by
 obtain⟨B,h⟩:=h
 exact(crash_ap h.ap k k0 he).mono fun e w' q=>⟨q.1,B,h.to q.2.2 q.2.1⟩
theorem Owg.start (h:Owg w0 w d M Os) (hs:0<=M.starts/\M.starts<9223372036854775807) (he:M.startR=(y,M')) :
  Calls Tryz.prog 56 #[.pointer (some ⟨d,0,none⟩)] w fun e w'=>e = .returned (.int .i64 y)/\Owg w0 w' d M' Os:=by
 obtain⟨B,h⟩:=h
 exact(start_ap h.ap hs he).mono fun e w' q=>⟨q.1,B,h.to q.2.2 q.2.1⟩
theorem Owg.fail (h:Owg w0 w d M Os) (n k:Int) (n0 : -9223372036854775808<=n/\n<=9223372036854775807) (k0 : -9223372036854775808<=k/\k<=9223372036854775807) (he:M.failR n k=(y,M')) :
  Calls Tryz.prog 58 #[.pointer (some ⟨d,0,none⟩),.int .i64 n,.int .i64 k] w fun e w'=>e = .returned (.int .i64 y)/\Owg w0 w' d M' Os:=by
 obtain⟨B,h⟩:=h
 exact(fail_ap h.ap n k n0 k0 he).mono fun e w' q=>⟨q.1,B,h.to q.2.2 q.2.1⟩
theorem Owg.dappend (h:Owg w0 w d M Os) (n:Int) (n0 : -9223372036854775808<=n/\n<=9223372036854775807) (s:ByteArray) (hc:M.files.length+M.loose.length<300000000) (he:M.append n s.data.toList=(y,M')) :
  Calls Tryz.prog 12 #[.pointer (some ⟨d,0,none⟩),.int .i64 n,.string s] w fun e w'=>e = .returned (.int .i64 y)/\Owg w0 w' d M' Os:=by
 obtain⟨B,h⟩:=h
 exact(append_ap h.ap n n0 s hc he).mono fun e w' q=>⟨q.1,B,h.to q.2.2 q.2.1⟩
theorem Owg.dtruncate (h:Owg w0 w d M Os) (n size:Int) (n0 : -9223372036854775808<=n/\n<=9223372036854775807) (he:M.truncate n size=(y,M')) :
  Calls Tryz.prog 60 #[.pointer (some ⟨d,0,none⟩),.int .i64 n,.int .i64 size] w fun e w'=>e = .returned (.int .i64 y)/\Owg w0 w' d M' Os:=by
 obtain⟨B,h⟩:=h
 exact(truncate_ap h.ap n size n0 he).mono fun e w' q=>⟨q.1,B,h.to q.2.2 q.2.1⟩
end
def DiskM.mend (M:DiskM):Int × List Hd × DiskM :=
 match AM.get M.files 990 with
 | none=>if(M.create 990).1≠0 then((M.create 990).1,[],(M.create 990).2)else((M.create 990).2.sync.1,[],(M.create 990).2.sync.2)
 | some b=>match readH (wholeF b).1 with
  | none=>(63,[],M)
  | some l =>
   if(wholeF b).2.length=0 then(M.sync.1,l,M.sync.2)
   else if(M.truncate 990 ((b.length-(wholeF b).2.length:Nat):Int)).1≠0 then((M.truncate 990 ((b.length-(wholeF b).2.length:Nat):Int)).1,[],(M.truncate 990 ((b.length-(wholeF b).2.length:Nat):Int)).2)
   else((M.truncate 990 ((b.length-(wholeF b).2.length:Nat):Int)).2.sync.1,l,(M.truncate 990 ((b.length-(wholeF b).2.length:Nat):Int)).2.sync.2)
structure RingM where
 seed:ByteArray
 signed:List Hd
 starts:Int
 dead:Bool
def nextF (l:List Hd) (size:Int) (root:By):Int × Bool × Int :=
 if size<1\/4096<size then(0,false,2)
 else match l.getLast? with
  | none=>(0,true,0)
  | some h=>if(h.1:Int)=size/\h.2=root then(((l.length-1:Nat):Int),false,0)else if size<=(h.1:Int)then(0,false,83)else if 8<=l.length then(0,false,85)else((l.length:Int),true,0)
def DiskM.keepR (M:DiskM) (h:Hd):Int × DiskM:=if(M.append 990 (frameF (recordF h))).1=0 then(M.append 990 (frameF (recordF h))).2.sync else M.append 990 (frameF (recordF h))
def RingM.over (R:RingM) (M:DiskM):Bool:=R.dead||M.down||decide (M.starts≠R.starts)
def RingM.sign (R:RingM) (M:DiskM) (size:Int) (root:By):Int × Nat × RingM × DiskM :=
 if R.over M=true then(61,0, { R with dead:=true },M)
 else if(nextF R.signed size root).2.2≠0 then((nextF R.signed size root).2.2,0,R,M)
 else if(nextF R.signed size root).2.1=false then(0,(nextF R.signed size root).1.toNat,R,M)
 else if(M.keepR (size.toNat,root)).1≠0 then((M.keepR (size.toNat,root)).1,0, { R with dead:=decide ((M.keepR (size.toNat,root)).1=61) },(M.keepR (size.toNat,root)).2)
 else(0,(nextF R.signed size root).1.toNat, { R with signed:=R.signed++[(size.toNat,root)] },(M.keepR (size.toNat,root)).2)
theorem cutF_eq {l p r:By} (h:cutF l=some (p,r)):l=frameF p++r/\p.length<=65536:=by
 unfold cutF at h
 split at h
 ·cases h
 ·split at h
  ·cases h
  ·split at h
   ·rename_i h1 h2 h3
    cases h
    refine⟨?_,by simp;omega⟩
    unfold frameF
    rw[h3,List.append_assoc,<- List.drop_drop,List.take_append_drop,List.take_append_drop]
   ·cases h
theorem AM.set_990 {α : Type} (v v' : α):AM.set [((990:Int),v)] 990 v'=[((990:Int),v')]:=by simp[AM.set,AM.del,AM.ins]
theorem AM.get_990 {α : Type} (v : α):AM.get [((990:Int),v)] 990=some v:=by simp[AM.get]
def oneD (f:By) (loose:List (Int × Nat)) (cap:Int) (down:Bool) (starts:Int) (fails:Bool) (left keep:Int):DiskM:=⟨[(990,f)],loose,cap,down,starts,fails,left,keep⟩
section
variable {f s : By} {cap starts left keep : Int} {fails : Bool}
theorem oneD_crash (k:Int):(oneD f [] cap false starts fails left keep).crash k=oneD f [] cap true starts false left keep:=by
 simp[DiskM.crash,oneD,DiskM.gone,DiskM.crashed]
theorem oneD_has (n:Int) (h:n=990) (loose:List (Int × Nat)):(oneD f loose cap false starts fails left keep).has n=0:=by
 subst h;simp[DiskM.has,oneD,AM.get_990]
theorem oneD_total (loose:List (Int × Nat)) (down:Bool):(oneD f loose cap down starts fails left keep).total=f.length:=by simp[DiskM.total,oneD,AM.sum]
theorem oneD_sync (loose:List (Int × Nat)) (hl:fails=true->0<=left) :
  (fails=false\/1<=left)->∃ left',(oneD f loose cap false starts fails left keep).sync=(0,oneD f [] cap false starts fails left' keep)/\(fails=true->0<=left'):=by
 intro h
 cases fails
 ·exact⟨left,by simp[DiskM.sync,oneD,DiskM.sinks,DiskM.tick],fun h=>by cases h⟩
 ·have h1:1<=left:=by simpa using h
  have hs:¬ left<1:=by omega
  exact⟨left-1,by simp[DiskM.sync,oneD,DiskM.sinks,DiskM.tick,hs],fun _=>by omega⟩
theorem oneD_sync0 (hl:fails=true->0<=left) :
  (∃ left',(oneD f [] cap false starts fails left keep).sync=(0,oneD f [] cap false starts fails left' keep)/\(fails=true->0<=left')) \/
  (fails=true/\∃ left',(oneD f [] cap false starts fails left keep).sync=(61,oneD f [] cap true starts false left' keep)):=by
 by_cases h:fails=false\/1<=left
 ·exact Or.inl (oneD_sync [] hl h)
 ·have h1:fails=true:=by cases fails<;>simp_all
  have h2:left<1:=by omega
  subst h1
  refine Or.inr ⟨rfl,left-1,?_⟩
  have e:(oneD f [] cap false starts true left keep).sunk=oneD f [] cap true starts false (left-1) keep:=by
   unfold DiskM.sunk
   have:(oneD f [] cap false starts true left keep).tick=oneD f [] cap false starts true (left-1) keep:=by simp[DiskM.tick,oneD]
   rw[this,oneD_crash]
  simp only[DiskM.sync]
  rw[if_neg (by simp[oneD]),if_pos (by simp[DiskM.sinks,oneD,h2]),e]
theorem oneD_keepR (h:Hd) (hr:((f.length+(frameF (recordF h)).length:Nat):Int)<=cap):(oneD f [] cap false starts false left keep).keepR h=(0,oneD (f++frameF (recordF h)) [] cap false starts false left keep):=by
 have h0:=oneD_has (f:=f) (cap:=cap) (starts:=starts) (fails:=false) (left:=left) (keep:=keep) 990 rfl []
 have ht:=oneD_total (f:=f) (cap:=cap) (starts:=starts) (fails:=false) (left:=left) (keep:=keep) [] false
 have ha:(oneD f [] cap false starts false left keep).appended 990 (frameF (recordF h))=oneD (f++frameF (recordF h)) [(990,(frameF (recordF h)).length)] cap false starts false left keep:=by
  unfold DiskM.appended oneD
  simp[AM.get_990,AM.set_990]
 have hfull:¬ (oneD f [] cap false starts false left keep).cap-((oneD f [] cap false starts false left keep).total:Int)<((frameF (recordF h)).length:Int):=by
  rw[ht];show ¬ cap-_<_;omega
 have hs:(oneD f [] cap false starts false left keep).sinks=false:=by simp[DiskM.sinks,oneD]
 have hk:(oneD (f++frameF (recordF h)) [(990,(frameF (recordF h)).length)] cap false starts false left keep).tick=oneD (f++frameF (recordF h)) [(990,(frameF (recordF h)).length)] cap false starts false left keep:=by simp[DiskM.tick,oneD]
 have hA:(oneD f [] cap false starts false left keep).append 990 (frameF (recordF h))=(0,oneD (f++frameF (recordF h)) [(990,(frameF (recordF h)).length)] cap false starts false left keep):=by
  unfold DiskM.append
  rw[if_neg (by simp[h0]),if_neg hfull,ha,if_neg (by simp[hs]),hk]
 unfold DiskM.keepR
 rw[hA,if_pos rfl]
 simp[DiskM.sync,oneD,DiskM.sinks,DiskM.tick]
theorem oneD_truncate {t:By} (hl:fails=true->0<=left) :
  (∃ left',(oneD (f++t) [] cap false starts fails left keep).truncate 990 ((f.length:Nat):Int)=(0,oneD f [] cap false starts fails left' keep)/\(fails=true->0<=left')) \/
  (fails=true/\∃ left',(oneD (f++t) [] cap false starts fails left keep).truncate 990 ((f.length:Nat):Int)=(61,oneD (f++t) [] cap true starts false left' keep)):=by
 have h0:=oneD_has (f:=f++t) (cap:=cap) (starts:=starts) (fails:=fails) (left:=left) (keep:=keep) 990 rfl []
 have hg:(AM.get (oneD (f++t) [] cap false starts fails left keep).files 990).getD []=f++t:=by show(AM.get [((990:Int),f++t)] 990).getD []=_;rw[AM.get_990];rfl
 have hT:(oneD (f++t) [] cap false starts fails left keep).truncate 990 ((f.length:Nat):Int)=if(oneD (f++t) [] cap false starts fails left keep).sinks=true then(61,(oneD (f++t) [] cap false starts fails left keep).sunk)else(0,(oneD (f++t) [] cap false starts fails left keep).tick.truncated 990 f.length):=by
  unfold DiskM.truncate
  rw[if_neg (by simp[h0]),if_neg (by rw[hg,List.length_append];omega)]
  rfl
 rw[hT]
 have htr:∀ left',(oneD (f++t) [] cap false starts fails left' keep).truncated 990 f.length=oneD f [] cap false starts fails left' keep:=by
  intro left'
  unfold DiskM.truncated oneD
  simp[AM.get_990,AM.set_990,DiskM.dropL]
 cases fails
 ·left
  have hs:(oneD (f++t) [] cap false starts false left keep).sinks=false:=by simp[DiskM.sinks,oneD]
  have hk:(oneD (f++t) [] cap false starts false left keep).tick=oneD (f++t) [] cap false starts false left keep:=by simp[DiskM.tick,oneD]
  rw[if_neg (by simp[hs]),hk]
  exact⟨left,by rw[htr],fun h=>by cases h⟩
 ·have hl:=hl rfl
  by_cases h1:left<1
  ·right
   have hs:(oneD (f++t) [] cap false starts true left keep).sinks=true:=by simp[DiskM.sinks,oneD,h1]
   have e:(oneD (f++t) [] cap false starts true left keep).sunk=oneD (f++t) [] cap true starts false (left-1) keep:=by
    unfold DiskM.sunk
    have:(oneD (f++t) [] cap false starts true left keep).tick=oneD (f++t) [] cap false starts true (left-1) keep:=by simp[DiskM.tick,oneD]
    rw[this,oneD_crash]
   rw[if_pos hs,e]
   exact⟨rfl,_,rfl⟩
  ·left
   have hs:(oneD (f++t) [] cap false starts true left keep).sinks=false:=by simp[DiskM.sinks,oneD,h1]
   have hk:(oneD (f++t) [] cap false starts true left keep).tick=oneD (f++t) [] cap false starts true (left-1) keep:=by simp[DiskM.tick,oneD]
   rw[if_neg (by simp[hs]),hk]
   exact⟨left-1,by rw[htr],fun _=>by omega⟩
theorem oneD_mend {l:List Hd} {t:By} (hw:wholeF (f++t)=(l.map recordF,t)) (hr:readH (l.map recordF)=some l) (hl:fails=true->0<=left) :
  (∃ left',(oneD (f++t) [] cap false starts fails left keep).mend=(0,l,oneD f [] cap false starts fails left' keep)/\(fails=true->0<=left')) \/
  (fails=true/\∃ t' left' l',(t'=t\/t'=[])/\(oneD (f++t) [] cap false starts fails left keep).mend=(61,l',oneD (f++t') [] cap true starts false left' keep)):=by
 have hg:AM.get (oneD (f++t) [] cap false starts fails left keep).files 990=some (f++t):=AM.get_990 _
 unfold DiskM.mend
 rw[hg]
 simp only[hw,hr]
 by_cases h0:t.length=0
 ·have ht:t=[]:=List.eq_nil_of_length_eq_zero h0
  subst ht
  rw[if_pos h0,List.append_nil]
  rcases oneD_sync0 (f:=f) (cap:=cap) (starts:=starts) (keep:=keep) hl with⟨left',h1,h2⟩|⟨h1,left',h2⟩
  ·exact Or.inl ⟨left',by rw[h1],h2⟩
  ·exact Or.inr ⟨h1,[],left',l,Or.inl rfl,by rw[h2,List.append_nil]⟩
 ·rw[if_neg h0,List.length_append,Nat.add_sub_cancel]
  rcases oneD_truncate (f:=f) (t:=t) (cap:=cap) (starts:=starts) (keep:=keep) hl with⟨left',h1,h2⟩|⟨h1,left',h2⟩
  ·rw[h1,if_neg (by simp)]
   rcases oneD_sync0 (f:=f) (cap:=cap) (starts:=starts) (keep:=keep) h2 with⟨left2,h3,h4⟩|⟨h3,left2,h4⟩
   ·exact Or.inl ⟨left2,by rw[h3],h4⟩
   ·exact Or.inr ⟨h3,[],left2,l,Or.inr rfl,by rw[h4,List.append_nil]⟩
  ·rw[h2,if_pos (show ¬ (61:Int)=0 by decide)]
   exact Or.inr ⟨h1,t,left',[],Or.inl rfl,rfl⟩
end
end Go.Proofs.YtdmedbhbefdnkaaGreatDoor
