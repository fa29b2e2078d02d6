/- AMap DiskM -/
import Derived.Lib.Hide
set_option linter.unusedVariables false
set_option linter.unusedSimpArgs false
set_option maxRecDepth 100000
set_option maxHeartbeats 16000000
namespace Go.Proofs.YtdmedbhbefdnkaaGreatDoor
namespace AM
variable {α β : Type}
def ins (k:Int) (v : α):List (Int × α)->List (Int × α)
 | []=>[(k,v)]
 | y::r=>if k<y.1 then(k,v)::y::r else y::ins k v r
def del (m:List (Int × α)) (k:Int):List (Int × α):=m.filter fun p=>!decide (p.1=k)
def set (m:List (Int × α)) (k:Int) (v : α):List (Int × α):=ins k v (del m k)
def get (m:List (Int × α)) (k:Int):Option α:=(m.find? fun p=>decide (p.1=k)).map (·.2)
def Rise (m:List (Int × α)):Prop:=m.Pairwise fun p q=>p.1<q.1
def sum (f : α -> Nat) (m:List (Int × α)):Nat:=(m.map fun p=>f p.2).sum
def vmap (f : α -> β) (m:List (Int × α)):List (Int × β):=m.map fun p=>(p.1,f p.2)
theorem mem_ins {k:Int} {v : α} {m:List (Int × α)} {p:Int × α} : p∈ins k v m↔p=(k,v)\/p∈m:=by
 induction m with
 | nil=>simp[ins]
 | cons y r ih=>unfold ins;split<;>simp[ih];constructor<;>(rintro (h|h|h)<;>simp[h])
theorem mem_del {k:Int} {m:List (Int × α)} {p:Int × α} : p∈del m k↔p∈m/\p.1≠k:=by simp[del]
theorem mem_set {k:Int} {v : α} {m:List (Int × α)} {p:Int × α} : p∈set m k v↔p=(k,v)\/(p∈m/\p.1≠k):=by rw[set,mem_ins,mem_del]
theorem rise_ins {k:Int} {v : α} {m:List (Int × α)} (h:Rise m) (hk:∀ p∈m,p.1≠k):Rise (ins k v m):=by
 induction m with
 | nil=>simp[ins,Rise]
 | cons y r ih =>
  obtain⟨h1,h2⟩:=List.pairwise_cons.1 h
  unfold ins
  split
  ·rename_i hlt
   refine List.pairwise_cons.2 ⟨fun p hp=>?_,h⟩
   rcases List.mem_cons.1 hp with rfl|hp
   ·exact hlt
   ·have:=h1 p hp;show k<p.1;omega
  ·rename_i hge
   have hy:=hk y (by simp)
   refine List.pairwise_cons.2 ⟨fun p hp=>?_,ih h2 (fun p hp=>hk p (by simp[hp]))⟩
   rcases mem_ins.1 hp with rfl|hp
   ·show y.1<k;omega
   ·exact h1 p hp
theorem rise_del {m:List (Int × α)} (h:Rise m) (k:Int):Rise (del m k):=h.filter _
theorem rise_set {m:List (Int × α)} (h:Rise m) (k:Int) (v : α):Rise (set m k v):=rise_ins (rise_del h k) (fun _ hp=>(mem_del.1 hp).2)
theorem rise_nil:Rise ([]:List (Int × α)):=List.Pairwise.nil
theorem get_some {m:List (Int × α)} (h:Rise m) {k:Int} {v : α} : get m k=some v↔(k,v)∈m:=by
 induction m with
 | nil=>simp[get]
 | cons y r ih =>
  obtain⟨h1,h2⟩:=List.pairwise_cons.1 h
  by_cases e:y.1=k
  ·have hx:get (y::r) k=some y.2:=by simp[get,List.find?_cons,e]
   rw[hx]
   constructor
   ·intro hv
    have:y.2=v:=Option.some.inj hv
    subst e;subst this;simp
   ·intro hm
    rcases List.mem_cons.1 hm with rfl|hm
    ·rfl
    ·have:=h1 _ hm;simp only at this;omega
  ·have hx:get (y::r) k=get r k:=by simp[get,List.find?_cons,e]
   rw[hx,ih h2]
   constructor
   ·intro hm;simp[hm]
   ·intro hm
    rcases List.mem_cons.1 hm with rfl|hm
    ·simp at e
    ·exact hm
theorem get_none {m:List (Int × α)} {k:Int} : get m k=none↔∀ p∈m,p.1≠k:=by
 unfold get
 rw[Option.map_eq_none_iff,List.find?_eq_none]
 simp
theorem get_set_same {m:List (Int × α)} (h:Rise m) (k:Int) (v : α):get (set m k v) k=some v:=by rw[get_some (rise_set h k v),mem_set];simp
theorem get_set_other {m:List (Int × α)} (h:Rise m) {k k':Int} (v : α) (hk:k'≠k):get (set m k v) k'=get m k':=by
 cases hg:get m k' with
 | some x =>
  rw[get_some (rise_set h k v),mem_set]
  exact Or.inr ⟨(get_some h).1 hg,hk⟩
 | none =>
  rw[get_none]at hg ⊢
  intro p hp
  rcases mem_set.1 hp with rfl|⟨hp,_⟩
  ·exact fun e=>hk e.symm
  ·exact hg p hp
theorem get_del_same {m:List (Int × α)} (k:Int):get (del m k) k=none:=by rw[get_none];intro p hp;exact(mem_del.1 hp).2
theorem get_del_other {m:List (Int × α)} (h:Rise m) {k k':Int} (hk:k'≠k):get (del m k) k'=get m k':=by
 cases hg:get m k' with
 | some x=>rw[get_some (rise_del h k),mem_del];exact⟨(get_some h).1 hg,hk⟩
 | none=>rw[get_none]at hg ⊢;intro p hp;exact hg p (mem_del.1 hp).1
theorem ext {m m':List (Int × α)} (h:Rise m) (h':Rise m') (hg:∀ k,get m k=get m' k):m=m':=by
 have hm:∀ p,p∈m↔p∈m':=by
  rintro⟨k,v⟩
  rw[<- get_some h,<- get_some h',hg]
 clear hg
 induction m generalizing m' with
 | nil =>
  cases m' with
  | nil=>rfl
  | cons y r=>have:=(hm y).2 (by simp);simp at this
 | cons x r ih =>
  cases m' with
  | nil=>have:=(hm x).1 (by simp);simp at this
  | cons y r' =>
   obtain⟨a1,a2⟩:=List.pairwise_cons.1 h
   obtain⟨b1,b2⟩:=List.pairwise_cons.1 h'
   have e:x=y:=by
    have hx:=(hm x).1 (by simp)
    have hy:=(hm y).2 (by simp)
    rcases List.mem_cons.1 hx with hx|hx
    ·exact hx
    ·rcases List.mem_cons.1 hy with hy|hy
     ·exact hy.symm
     ·have q1:=b1 x hx;have q2:=a1 y hy;omega
   subst e
   congr 1
   refine ih a2 b2 (fun p=>?_)
   have:=hm p
   simp only[List.mem_cons]at this
   constructor
   ·intro hp
    rcases this.1 (Or.inr hp)with rfl|hq
    ·have:=a1 _ hp;omega
    ·exact hq
   ·intro hp
    rcases this.2 (Or.inr hp)with rfl|hq
    ·have:=b1 _ hp;omega
    ·exact hq
theorem ins_perm (k:Int) (v : α) (m:List (Int × α)):(ins k v m).Perm ((k,v)::m):=by
 induction m with
 | nil=>exact List.Perm.refl _
 | cons y r ih =>
  unfold ins
  split
  ·exact List.Perm.refl _
  ·exact(List.Perm.cons y ih).trans (List.Perm.swap _ _ _)
theorem sum_perm (f : α -> Nat) {m m':List (Int × α)} (h:m.Perm m'):sum f m=sum f m':=(h.map _).sum_nat
theorem sum_cons (f : α -> Nat) (p:Int × α) (m:List (Int × α)):sum f (p::m)=f p.2+sum f m:=by simp[sum]
theorem sum_set (f : α -> Nat) (m:List (Int × α)) (k:Int) (v : α):sum f (set m k v)=f v+sum f (del m k):=by rw[set,sum_perm f (ins_perm k v _),sum_cons]
theorem del_none {m:List (Int × α)} {k:Int} (h:get m k=none):del m k=m:=by
 rw[get_none]at h
 unfold del
 rw[List.filter_eq_self]
 intro p hp
 simpa using h p hp
theorem sum_del (f : α -> Nat) {m:List (Int × α)} (h:Rise m) {k:Int} {v : α} (hg:get m k=some v):sum f m=f v+sum f (del m k):=by
 have e:m=set (del m k) k v:=by
  refine ext h (rise_set (rise_del h k) k v) (fun k'=>?_)
  by_cases hk:k'=k
  ·subst hk;rw[hg,get_set_same (rise_del h k')]
  ·rw[get_set_other (rise_del h k) v hk,get_del_other h hk]
 have e2:del (del m k) k=del m k:=del_none (get_del_same k)
 calc sum f m=sum f (set (del m k) k v):=by rw[<- e]
  _=f v+sum f (del m k):=by rw[sum_set,e2]
theorem length_set (m:List (Int × α)) (k:Int) (v : α):(set m k v).length=(del m k).length+1:=by rw[set,(ins_perm k v _).length_eq];rfl
theorem vmap_ins (f : α -> β) (k:Int) (v : α) (m:List (Int × α)):vmap f (ins k v m)=ins k (f v) (vmap f m):=by
 induction m with
 | nil=>rfl
 | cons y r ih =>
  unfold ins
  simp only[vmap,List.map_cons]at *
  split
  ·rfl
  ·simp only[List.map_cons,ih]
theorem vmap_del (f : α -> β) (m:List (Int × α)) (k:Int):vmap f (del m k)=del (vmap f m) k:=by
 unfold vmap del
 rw[List.filter_map]
 rfl
theorem vmap_set (f : α -> β) (m:List (Int × α)) (k:Int) (v : α):vmap f (set m k v)=set (vmap f m) k (f v):=by rw[set,vmap_ins,vmap_del];rfl
theorem get_vmap (f : α -> β) (m:List (Int × α)) (k:Int):get (vmap f m) k=(get m k).map f:=by
 induction m with
 | nil=>rfl
 | cons y r ih =>
  by_cases e:y.1=k
  ·simp[get,vmap,List.find?_cons,e]
  ·have h1:get (y::r) k=get r k:=by simp[get,List.find?_cons,e]
   have h2:get (vmap f (y::r)) k=get (vmap f r) k:=by simp[get,vmap,List.find?_cons,e]
   rw[h1,h2,ih]
theorem rise_vmap {m:List (Int × α)} (h:Rise m) (f : α -> β):Rise (vmap f m):=by
 unfold Rise vmap
 rw[List.pairwise_map]
 exact h
end AM
structure DiskM where
 files:List (Int × List UInt8)
 loose:List (Int × Nat)
 cap:Int
 down:Bool
 starts:Int
 fails:Bool
 left:Int
 keep:Int
namespace DiskM
def total (M:DiskM):Nat:=AM.sum List.length M.files
def looseOf (l:List (Int × Nat)) (n:Int):Nat:=match l with
 | []=>0
 | p::r=>(if p.1=n then p.2 else 0)+looseOf r n
def looseAll (l:List (Int × Nat)):Nat:=(l.map (·.2)).sum
def stay (keep:Int) (size:Nat):Nat:=min (max keep 0).toNat size
def gstep (st:Int × List (Int × Nat)) (p:Int × Nat):Int × List (Int × Nat) :=
 (st.1-(stay st.1 p.2:Nat),AM.set st.2 p.1 ((AM.get st.2 p.1).getD 0+(p.2-stay st.1 p.2)))
def gone (l:List (Int × Nat)) (keep:Int):List (Int × Nat):=(l.foldl gstep (keep,[])).2
def cut (files:List (Int × List UInt8)) (n:Int) (m:Nat):List UInt8:=((AM.get files n).getD []).take (((AM.get files n).getD []).length-m)
def crashed (files:List (Int × List UInt8)) (g:List (Int × Nat)):List (Int × List UInt8):=g.foldl (fun f p=>AM.set f p.1 (cut files p.1 p.2)) files
def crash (M:DiskM) (keep:Int):DiskM:={ M with files:=crashed M.files (gone M.loose keep),loose:=[],down:=true,fails:=false }
structure Ok (M:DiskM):Prop where
 rise:AM.Rise M.files
 keys:∀ p∈M.files,0<=p.1/\p.1<=9223372036854775807
 cap0:0<=M.cap
 cap1:M.cap<=1048576
 room:(M.total:Int)<=M.cap
 lo:∀ n,looseOf M.loose n<=((AM.get M.files n).getD []).length
 loks:∀ p∈M.loose,0<=p.1/\p.1<=9223372036854775807
 left1:M.left<=9223372036854775807
 left2 : -1<=M.left
 count:M.files.length+M.loose.length<=400000000
 keepk : -9223372036854775808<=M.keep/\M.keep<=9223372036854775807
def Live (M:DiskM):Prop:=M.fails=true->0<=M.left
def tick (M:DiskM):DiskM:=if M.fails=true then { M with left:=M.left-1 } else M
def sinks (M:DiskM):Bool:=M.fails&&decide (M.left<1)
theorem len_le_total {M:DiskM} (h:M.Ok) {n:Int} {b:List UInt8} (hg:AM.get M.files n=some b):b.length<=M.total:=by
 unfold total
 rw[AM.sum_del List.length h.rise hg]
 omega
theorem loose_le {M:DiskM} (h:M.Ok):∀ p∈M.loose,(p.2:Int)<=M.cap:=by
 intro p hp
 have h1:=h.lo p.1
 have h2:p.2<=looseOf M.loose p.1:=by
  clear h1
  generalize M.loose=l at hp
  induction l with
  | nil=>simp at hp
  | cons q r ih =>
   rcases List.mem_cons.1 hp with rfl|hp
   ·simp[looseOf]
   ·have:=ih hp;simp only[looseOf];omega
 have h3:=h.room
 cases hg:AM.get M.files p.1 with
 | none=>rw[hg]at h1;simp at h1;have:=h.cap0;omega
 | some b=>rw[hg]at h1;simp at h1;have:=len_le_total h hg;omega
theorem stay_neg {keep:Int} (h:keep<0) (s:Nat):stay keep s=0:=by unfold stay;omega
theorem gstep_rise {st:Int × List (Int × Nat)} (h:AM.Rise st.2) (p:Int × Nat):AM.Rise (gstep st p).2:=AM.rise_set h _ _
theorem fold_rise (l:List (Int × Nat)) {st:Int × List (Int × Nat)} (h:AM.Rise st.2):AM.Rise (l.foldl gstep st).2:=by
 induction l generalizing st with
 | nil=>exact h
 | cons p r ih=>exact ih (gstep_rise h p)
theorem gone_rise (l:List (Int × Nat)) (keep:Int):AM.Rise (gone l keep):=fold_rise l AM.rise_nil
theorem fold_keep (l:List (Int × Nat)) (st:Int × List (Int × Nat)):(st.1<0->(l.foldl gstep st).1=st.1)/\(0<=st.1->0<=(l.foldl gstep st).1/\(l.foldl gstep st).1<=st.1):=by
 induction l generalizing st with
 | nil=>exact⟨fun _=>rfl,fun h=>⟨h,Int.le_refl _⟩⟩
 | cons p r ih =>
  have h:=ih (gstep st p)
  have e:(gstep st p).1=st.1-(stay st.1 p.2:Nat):=rfl
  constructor
  ·intro hn
   have h0:=stay_neg hn p.2
   rw[List.foldl_cons,h.1 (by omega),e,h0];simp
  ·intro hp
   have hs:(stay st.1 p.2:Int)<=st.1:=by unfold stay;omega
   have:=h.2 (by omega)
   rw[List.foldl_cons]
   omega
theorem fold_get (l:List (Int × Nat)) {st:Int × List (Int × Nat)} (hr:AM.Rise st.2) (n:Int) :
  ((AM.get (l.foldl gstep st).2 n).getD 0<=(AM.get st.2 n).getD 0+looseOf l n)/\((AM.get (l.foldl gstep st).2 n).isSome=((AM.get st.2 n).isSome||l.any fun p=>decide (p.1=n))):=by
 induction l generalizing st with
 | nil=>simp[looseOf]
 | cons p r ih =>
  have h:=ih (gstep_rise hr p)
  rw[List.foldl_cons]
  by_cases e:p.1=n
  ·have hg:AM.get (gstep st p).2 n=some ((AM.get st.2 n).getD 0+(p.2-stay st.1 p.2)):=by subst e;exact AM.get_set_same hr _ _
   rw[hg]at h
   simp only[looseOf,e,if_true,List.any_cons,decide_true,Bool.true_or,Bool.or_true]
   refine⟨?_,?_⟩
   ·have:=h.1;simp only[Option.getD_some]at this;omega
   ·rw[h.2];simp
  ·have hg:AM.get (gstep st p).2 n=AM.get st.2 n:=AM.get_set_other hr _ (fun h=>e h.symm)
   rw[hg]at h
   simp only[looseOf,e,if_false,List.any_cons,decide_false,Bool.false_or]
   refine⟨?_,h.2⟩
   have:=h.1;omega
theorem gone_le (l:List (Int × Nat)) (keep:Int) (n:Int):(AM.get (gone l keep) n).getD 0<=looseOf l n:=by
 have:=(fold_get l (st:=(keep,[])) AM.rise_nil n).1
 unfold gone
 simpa[AM.get]using this
theorem gone_some (l:List (Int × Nat)) (keep:Int) (n:Int):(AM.get (gone l keep) n).isSome=l.any fun p=>decide (p.1=n):=by
 have:=(fold_get l (st:=(keep,[])) AM.rise_nil n).2
 unfold gone
 simpa[AM.get]using this
theorem fold_set_rise (files:List (Int × List UInt8)) (g:List (Int × Nat)) {f:List (Int × List UInt8)} (h:AM.Rise f):AM.Rise (g.foldl (fun f p=>AM.set f p.1 (cut files p.1 p.2)) f):=by
 induction g generalizing f with
 | nil=>exact h
 | cons p r ih=>exact ih (AM.rise_set h _ _)
theorem crashed_rise {files:List (Int × List UInt8)} (h:AM.Rise files) (g:List (Int × Nat)):AM.Rise (crashed files g):=fold_set_rise files g h
theorem fold_set_get (files:List (Int × List UInt8)) {g:List (Int × Nat)} (hg:AM.Rise g) {f:List (Int × List UInt8)} (h:AM.Rise f) (n:Int) :
  AM.get (g.foldl (fun f p=>AM.set f p.1 (cut files p.1 p.2)) f) n=match AM.get g n with
   | some m=>some (cut files n m)
   | none=>AM.get f n:=by
 induction g generalizing f with
 | nil=>rfl
 | cons p r ih =>
  obtain⟨h1,h2⟩:=List.pairwise_cons.1 hg
  rw[List.foldl_cons,ih h2 (AM.rise_set h _ _)]
  by_cases e:p.1=n
  ·have hn:AM.get r n=none:=by rw[AM.get_none];intro q hq;have:=h1 q hq;omega
   have hp:AM.get (p::r) n=some p.2:=by simp[AM.get,List.find?_cons,e]
   rw[hn,hp]
   subst e
   exact AM.get_set_same h _ _
  ·have hp:AM.get (p::r) n=AM.get r n:=by simp[AM.get,List.find?_cons,e]
   rw[hp,AM.get_set_other h _ (fun q=>e q.symm)]
theorem crashed_get {files:List (Int × List UInt8)} (h:AM.Rise files) {g:List (Int × Nat)} (hg:AM.Rise g) (n:Int) :
  AM.get (crashed files g) n=match AM.get g n with
   | some m=>some (cut files n m)
   | none=>AM.get files n:=fold_set_get files hg h n
theorem cut_le (files:List (Int × List UInt8)) (n:Int) (m:Nat):(cut files n m).length<=((AM.get files n).getD []).length:=by
 unfold cut;rw[List.length_take];omega
end DiskM
theorem AM.sum_le_of_get {α : Type} (f : α -> Nat) {m m':List (Int × α)} (h:AM.Rise m) (h':AM.Rise m') (hg:∀ k,((AM.get m' k).map f).getD 0<=((AM.get m k).map f).getD 0):AM.sum f m'<=AM.sum f m:=by
 induction m' generalizing m with
 | nil=>simp[AM.sum]
 | cons p r ih =>
  obtain⟨h1,h2⟩:=List.pairwise_cons.1 h'
  rw[AM.sum_cons]
  have hp:=hg p.1
  have hpp:AM.get (p::r) p.1=some p.2:=by simp[AM.get,List.find?_cons]
  rw[hpp]at hp
  simp only[Option.map_some,Option.getD_some]at hp
  have hrest:AM.sum f r<=AM.sum f (AM.del m p.1):=by
   refine ih (AM.rise_del h _) h2 (fun k=>?_)
   by_cases e:k=p.1
   ·subst e
    have:AM.get r p.1=none:=by rw[AM.get_none];intro q hq;have:=h1 q hq;omega
    rw[this];simp
   ·have hk:=hg k
    have e2:AM.get (p::r) k=AM.get r k:=by
     have:¬ p.1=k:=fun h=>e h.symm
     simp[AM.get,List.find?_cons,this]
    rw[e2]at hk
    rw[AM.get_del_other h e]
    exact hk
  cases hm:AM.get m p.1 with
  | none=>rw[hm]at hp;simp at hp;rw[AM.del_none hm]at hrest;omega
  | some x=>rw[hm]at hp;simp at hp;rw[AM.sum_del f h hm];omega
theorem AM.length_set_le {α : Type} (m:List (Int × α)) (k:Int) (v : α):(AM.set m k v).length<=m.length+1:=by
 rw[AM.length_set]
 have:(AM.del m k).length<=m.length:=List.length_filter_le _ _
 omega
theorem DiskM.gone_len (l:List (Int × Nat)) (keep:Int):(DiskM.gone l keep).length<=l.length:=by
 have key:∀ (l:List (Int × Nat)) (st:Int × List (Int × Nat)),(l.foldl DiskM.gstep st).2.length<=st.2.length+l.length:=by
  intro l
  induction l with
  | nil=>intro st;simp
  | cons p r ih =>
   intro st
   have h1:=ih (DiskM.gstep st p)
   have h2:(DiskM.gstep st p).2.length<=st.2.length+1:=AM.length_set_le _ _ _
   rw[List.foldl_cons,List.length_cons]
   omega
 have:=key l (keep,[])
 unfold DiskM.gone
 simpa using this
theorem DiskM.crashed_len (files:List (Int × List UInt8)) (g:List (Int × Nat)):(DiskM.crashed files g).length<=files.length+g.length:=by
 have key:∀ (g:List (Int × Nat)) (f:List (Int × List UInt8)),(g.foldl (fun f p=>AM.set f p.1 (DiskM.cut files p.1 p.2)) f).length<=f.length+g.length:=by
  intro g
  induction g with
  | nil=>intro f;simp
  | cons p r ih =>
   intro f
   have h1:=ih (AM.set f p.1 (DiskM.cut files p.1 p.2))
   have h2:=AM.length_set_le f p.1 (DiskM.cut files p.1 p.2)
   rw[List.foldl_cons,List.length_cons]
   omega
 exact key g files
theorem DiskM.Ok.crash {M:DiskM} (h:M.Ok) (keep:Int):(M.crash keep).Ok:=by
 have hr:=DiskM.crashed_rise h.rise (DiskM.gone M.loose keep)
 have hg:=DiskM.crashed_get h.rise (DiskM.gone_rise M.loose keep)
 refine⟨hr,?_,h.cap0,h.cap1,?_,?_,?_,h.left1,h.left2,?_,h.keepk⟩
 ·rintro⟨n,b⟩ hp
  have hgn:=(AM.get_some hr).2 hp
  rw[hg]at hgn
  cases hx:AM.get (DiskM.gone M.loose keep) n with
  | none=>rw[hx]at hgn;exact h.keys (n,b) ((AM.get_some h.rise).1 hgn)
  | some m =>
   have:=DiskM.gone_some M.loose keep n
   rw[hx]at this
   obtain⟨q,hq,he⟩:=List.any_eq_true.1 this.symm
   have:=h.loks q hq
   simp at he
   rw[he]at this
   exact this
 ·have:(M.crash keep).total<=M.total:=by
   refine AM.sum_le_of_get List.length h.rise hr (fun n=>?_)
   show((AM.get (DiskM.crashed M.files (DiskM.gone M.loose keep)) n).map List.length).getD 0<=_
   rw[hg]
   cases hx:AM.get (DiskM.gone M.loose keep) n with
   | none=>exact Nat.le_refl _
   | some m =>
    have:=DiskM.cut_le M.files n m
    cases hf:AM.get M.files n with
    | none=>rw[hf]at this;simpa using this
    | some b=>rw[hf]at this;simpa using this
  have:=h.room
  show(((M.crash keep).total:Nat):Int)<=M.cap
  omega
 ·intro n;show 0<=_;omega
 ·intro p hp;simp[DiskM.crash]at hp
 ·have h1:=DiskM.crashed_len M.files (DiskM.gone M.loose keep)
  have h2:=DiskM.gone_len M.loose keep
  have h3:=h.count
  show(DiskM.crashed M.files (DiskM.gone M.loose keep)).length+0<=_
  omega
end Go.Proofs.YtdmedbhbefdnkaaGreatDoor
