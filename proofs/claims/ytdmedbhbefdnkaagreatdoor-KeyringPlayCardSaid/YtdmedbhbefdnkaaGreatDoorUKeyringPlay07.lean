/- Row View CellsT -/
import Derived.Lib.AppendStr
import Derived.Test.YtdmedbhbefdnkaaGreatDoorUKeyringPlay06
set_option linter.unusedVariables false
set_option linter.unusedSimpArgs false
set_option maxRecDepth 100000
set_option maxHeartbeats 16000000
namespace Go.Proofs.YtdmedbhbefdnkaaGreatDoor
open Go.RowKit
def Row (w:World) (e:TypeId) (size:Nat) (v:Value) (xs:List Value):Prop :=
 (v = .slice none 0 0/\xs=[]) \/
 ∃ g n cap rest,v = .slice (some ⟨g,0,none⟩) n cap/\xs.length=n*size/\Blk w g (xs++rest) e/\n<=cap/\cap*size<=xs.length+rest.length/\cap<=maxLen
section
variable {w w' : World} {e : TypeId} {size : Nat} {v : Value} {xs : List Value}
theorem Row.nil (w:World) (e:TypeId) (size:Nat):Row w e size (.slice none 0 0) []:=Or.inl ⟨rfl,rfl⟩
theorem Row.lt (h:Row w e size v xs) {k:Nat} (hk:v.ownBlock=some k):k<w.heap.size:=by
 rcases h with⟨rfl,_⟩|⟨g,n,cap,rest,rfl,_,hb,_⟩
 ·simp[Value.ownBlock]at hk
 ·simp[Value.ownBlock]at hk;subst hk;exact hb.lt
theorem Row.kept {S:Nat->Prop} (h:Row w e size v xs) (hk:Kept S w w') (hS:∀ k,v.ownBlock=some k->¬ S k):Row w' e size v xs:=by
 rcases h with h|⟨g,n,cap,rest,rfl,h1,hb,h2⟩
 ·exact Or.inl h
 ·exact Or.inr ⟨g,n,cap,rest,rfl,h1,hb.kept hk (hS g rfl),h2⟩
theorem Row.alloc (h:Row w e size v xs) (o:Obj):Row (w.alloc o) e size v xs:=h.kept (S:=fun _=>False) ((Kept.refl _ _).alloc o) (fun _ _=>id)
theorem Row.drew (h:Row w e size v xs):Row w.drew e size v xs:=h
theorem Row.other (h:Row w e size v xs) {p:Addr} (hp:v.ownBlock≠some p.block) (u:Value):Row (w.setCell p u) e size v xs:=by
 rcases h with h|⟨g,n,cap,rest,rfl,h1,hb,h2⟩
 ·exact Or.inl h
 ·exact Or.inr ⟨g,n,cap,rest,rfl,h1,hb.other (fun e=>hp (by simp[Value.ownBlock,e])) u,h2⟩
theorem Row.form (h:Row w e size v xs) (hs:0<size):∃ a n cap,v = .slice a n cap/\n*size=xs.length/\n<=maxLen/\(0<n->∃ g,a=some ⟨g,0,none⟩/\v.ownBlock=some g/\∀ j u,xs[j]? = some u->w.cell? ⟨g,j,none⟩=some u):=by
 rcases h with⟨rfl,rfl⟩|⟨g,n,cap,rest,rfl,h1,hb,h2,_,h4⟩
 ·exact⟨none,0,0,rfl,by simp,Nat.zero_le _,fun h=>by omega⟩
 ·refine⟨_,n,cap,rfl,h1.symm,Nat.le_trans h2 h4,fun _=>⟨g,rfl,rfl,fun j u hu=>hb.cell ?_⟩⟩
  rw[List.getElem?_append_left (List.getElem?_eq_some_iff.1 hu).1]
  exact hu
theorem Row.free (h:Row w e size v xs) {g:Nat} (hg:v.ownBlock=some g) (i:Nat):w.frozen? ⟨g,i,none⟩=false:=by
 rcases h with⟨rfl,_⟩|⟨g',n,cap,rest,rfl,_,hb,_⟩
 ·simp[Value.ownBlock]at hg
 ·simp[Value.ownBlock]at hg;subst hg;exact hb.free i
theorem Row.ne_blk {d k:Nat} {c:List Value} {t:TypeId} (h:Row w e size v xs) (hk:v.ownBlock=some k) (hb:Blk w d c t) (ht:e≠t):k≠d:=by
 rintro rfl
 rcases h with⟨rfl,_⟩|⟨g,n,cap,rest,rfl,_,hg,_⟩
 ·simp[Value.ownBlock]at hk
 ·simp[Value.ownBlock]at hk
  subst hk
  unfold Blk at hg hb
  rw[hg]at hb
  simp at hb
  exact ht hb.2
theorem Row.shorter {g n cap:Nat} (h:Row w e size (.slice (some ⟨g,0,none⟩) n cap) xs) (m:Nat) (hm:m<=n):Row w e size (.slice (some ⟨g,0,none⟩) m cap) (xs.take (m*size)):=by
 rcases h with⟨h,_⟩|⟨g',n',cap',rest,hv,h1,hb,h2,h3,h4⟩
 ·cases h
 ·simp only[Value.slice.injEq,Option.some.injEq,Addr.mk.injEq,and_true]at hv
  obtain⟨rfl,rfl,rfl⟩:=hv
  have hle:m*size<=xs.length:=by rw[h1];exact Nat.mul_le_mul_right _ hm
  refine Or.inr ⟨g,m,cap,xs.drop (m*size)++rest,rfl,by simp;omega,?_,by omega,?_,h4⟩
  ·rw[<- List.append_assoc,List.take_append_drop];exact hb
  ·simp;omega
theorem Row.shorter3 {g n cap:Nat} (h:Row w e size (.slice (some ⟨g,0,none⟩) n cap) xs) (m:Nat) (hm:m<=n):Row w e size (.slice (some ⟨g,0,none⟩) m m) (xs.take (m*size)):=by
 rcases h with⟨h,_⟩|⟨g',n',cap',rest,hv,h1,hb,h2,h3,h4⟩
 ·cases h
 ·simp only[Value.slice.injEq,Option.some.injEq,Addr.mk.injEq,and_true]at hv
  obtain⟨rfl,rfl,rfl⟩:=hv
  have hle:m*size<=xs.length:=by rw[h1];exact Nat.mul_le_mul_right _ hm
  refine Or.inr ⟨g,m,m,xs.drop (m*size)++rest,rfl,by simp;omega,?_,by omega,?_,by omega⟩
  ·rw[<- List.append_assoc,List.take_append_drop];exact hb
  ·simp;omega
end
theorem addr0_add (g j:Nat):(⟨g,0,none⟩:Addr).add j=⟨g,j,none⟩:=by unfold Addr.add;split<;>simp_all
theorem blk_setRow {w:World} {g:Nat} {c c':List Value} {e:TypeId} (h:Blk w g c e):Blk (w.setRow g c'.toArray) g c' e:=by
 unfold Blk at h ⊢
 exact setRow_heap w g _ _ e (0,0) h
theorem kept_setRow (w:World) (g:Nat) (c:Array Value):Kept (· = g) w (w.setRow g c) :=
 ⟨rfl,rfl,rfl,by simp[World.setRow],fun k _ hn=>by simp only[World.setRow,Array.getElem?_modify];rw[if_neg (fun e=>hn e.symm)]⟩
def AppendPost (w:World) (e:TypeId) (size:Nat) (v:Value) (xs:List Value) (v':Value) (w':World):Prop :=
 Row w' e size v' xs/\Kept (fun x=>v.ownBlock=some x) w w'/\∀ k,v'.ownBlock=some k->v.ownBlock=some k\/w.heap.size<=k
section
variable {P : Program} {w : World} {e t u : TypeId} {i : TypeInfo}
theorem Row.grown (w:World) (e:TypeId) (size:Nat) (z:Array Value) (n cap:Nat) (xs:List Value) (v:Value) (hl:xs.length=n*size) (hz:z.size=size) (hn:n<=cap) (hc:cap<=maxLen) :
  AppendPost w e size v xs (.slice (some ⟨w.heap.size,0,none⟩) n cap) (w.drew.alloc (.cells (xs.toArray++Builtin.zeroCells z (cap-n)) e)):=by
 refine⟨Or.inr ⟨w.heap.size,n,cap,(Builtin.zeroCells z (cap-n)).toList,rfl,hl,?_,hn,?_,hc⟩,((Kept.refl _ _).drew).alloc _,fun k hk=>Or.inr ?_⟩
 ·have he:xs.toArray++Builtin.zeroCells z (cap-n)=(xs++(Builtin.zeroCells z (cap-n)).toList).toArray:=by apply Array.ext';simp
  rw[he]
  exact Blk.new w.drew (xs++(Builtin.zeroCells z (cap-n)).toList) e
 ·simp[size_zeroCells,hz,hl,<- Nat.add_mul]
  apply Nat.mul_le_mul_right
  omega
 ·simp[Value.ownBlock]at hk;omega
theorem Row.append_str {v:Value} {xs:List Value} (h:Row w e 1 v xs) (ht:P.underlying t=some (.slice e)) (hu:P.underlying u=some .string) (hi:P.info? e=some i) (hz:i.zero=some (.int .u8 0)) (hsize:i.size=1) (hby:i.bytes=1)
  (s:ByteArray) (hlen:xs.length+s.size<=70368744177664) (ty:TypeId) :
  ∃ v' w',(Builtin.append_ #[t,u] ty #[v,.string s]).run P w = .ok v' w'/\AppendPost w e 1 v (xs++Lib.strCells s) v' w':=by
 have hml:maxLen=9223372036854775807:=rfl
 rcases h with⟨rfl,rfl⟩|⟨g,n,cap,rest,rfl,h1,hb,h2,h3,h4⟩
 ·by_cases h0:s.size=0
  ·have hs:Lib.strCells s=[]:=List.eq_nil_of_length_eq_zero (by rw[Lib.strCells_length,h0])
   refine⟨.slice none 0 0,w,?_,?_⟩
   ·simp[Builtin.append_,run_underlying ht,run_underlying hu,sizeOf,typeInfo,hi,hsize,Builtin.lenOf,h0,Builtin.firstCells,loadCells,loadCellsFrom]
   ·rw[hs];exact⟨Row.nil _ _ _,Kept.refl _ _,fun k hk=>by simp[Value.ownBlock]at hk⟩
  ·have hr:=run_append_nil_string (P:=P) w t u ty e i _ ht hu hi hz s (by omega) (by simp at hlen;omega) (by rw[hby];simp at hlen;omega)
   refine⟨_,_,hr,?_⟩
   have hc:s.data.map (fun b=>Value.int .u8 b.toNat)=(Lib.strCells s).toArray:=by
    apply Array.ext';simp[Lib.strCells]
   rw[hc,List.nil_append]
   exact Row.grown w e 1 _ s.size _ (Lib.strCells s) _ (by rw[Lib.strCells_length];omega) rfl (grownCap_ge _ _ _ _) (grownCap_le_maxLen _ _ _ _ (by simp at hlen;omega))
 ·have hn:n=xs.length:=by omega
  by_cases hroom:n+s.size<=cap
  ·have hr:=Lib.run_append_room_string (P:=P) w t u ty e i ht hu hi hsize g n cap _ hb s hroom (by simp only[List.size_toArray,List.length_append];omega)
   refine⟨_,_,hr,?_⟩
   have hc:((xs++rest).toArray.toList.take n++Lib.strCells s++(xs++rest).toArray.toList.drop (n+s.size)).toArray=((xs++Lib.strCells s)++rest.drop s.size).toArray:=by
    subst hn
    simp[List.take_append,List.drop_append]
   rw[hc]
   refine⟨Or.inr ⟨g,n+s.size,cap,rest.drop s.size,rfl,by rw[List.length_append,Lib.strCells_length];omega,blk_setRow hb,hroom,?_,h4⟩,?_,fun k hk=>Or.inl hk⟩
   ·simp[Lib.strCells_length];omega
   ·exact(kept_setRow w g _).mono (fun x _ hx=>by simp[Value.ownBlock,hx])
  ·have holds:∀ j v,xs[j]? = some v->w.cell? ((⟨g,0,none⟩:Addr).add j)=some v:=by
    intro j u hu
    rw[addr0_add]
    refine hb.cell ?_
    rw[List.getElem?_append_left (List.getElem?_eq_some_iff.1 hu).1];exact hu
   have hcap:=nextslicecap_le (need:=n+s.size) (old:=cap) (by omega)
   have hr:=Lib.run_append_grow_string (P:=P) w t u ty e i _ ht hu hi hz ⟨g,0,none⟩ n cap xs (by rw[hsize];exact h1) holds s (by omega) (by omega) (by rw[hby];omega)
   refine⟨_,_,hr,?_⟩
   have hc:xs.toArray++(Lib.strCells s).toArray=(xs++Lib.strCells s).toArray:=by simp
   rw[hc]
   exact Row.grown w e 1 _ (n+s.size) _ (xs++Lib.strCells s) _ (by rw[List.length_append,Lib.strCells_length];omega) rfl (grownCap_ge _ _ _ _) (grownCap_le_maxLen _ _ _ _ (by omega))
theorem Row.append_cells {size:Nat} {z v:Value} {xs:List Value} (h:Row w e size v xs) (ht:P.underlying t=some (.slice e)) (hi:P.info? e=some i) (hz:i.zero=some z) (hsize:i.size=size) (hzs:z.cells.size=size) (hpos:0<size) (hby:i.bytes<=1000)
  (a:Addr) (m c:Nat) (news:List Value) (hl:news.length=m*size) (hnews:∀ j u,news[j]? = some u->w.cell? (a.add j)=some u) (h1:∀ u∈news,u.oneCell'=true) (hm:0<m) (hlen:xs.length+news.length<=1000000000) (ty:TypeId) :
  ∃ v' w',(Builtin.append_ #[t,t] ty #[v,.slice (some a) m c]).run P w = .ok v' w'/\AppendPost w e size v (xs++news) v' w':=by
 subst hsize
 have hml:maxLen=9223372036854775807:=rfl
 have hm1:m<=news.length:=by rw[hl];exact Nat.le_mul_of_pos_right _ hpos
 rcases h with⟨rfl,rfl⟩|⟨g,n,cap,rest,rfl,hx,hb,h2,h3,h4⟩
 ·have hb1:m*i.bytes<=281474976710656:=by
   have:m*i.bytes<=1000000000*1000:=Nat.mul_le_mul (by simp at hlen;omega) hby
   omega
  have hr:=run_append_nil (P:=P) w t ty e i z ht hi hz a m c news hl hnews hm (by simp at hlen;omega) hb1
  refine⟨_,_,hr,?_⟩
  rw[List.nil_append]
  exact Row.grown w e i.size _ m _ news _ hl hzs (grownCap_ge _ _ _ _) (grownCap_le_maxLen _ _ _ _ (by simp at hlen;omega))
 ·have hn:n<=xs.length:=by rw[hx];exact Nat.le_mul_of_pos_right _ hpos
  by_cases hroom:n+m<=cap
  ·have hfit:n*i.size+news.length<=(xs++rest).toArray.size:=by
    have:(n+m)*i.size<=cap*i.size:=Nat.mul_le_mul_right _ hroom
    rw[Nat.add_mul]at this
    simp only[List.size_toArray,List.length_append]
    omega
   have hr:=run_append_room (P:=P) w t ty e i ht hi g n cap _ hb a m c news hl hnews h1 hroom hfit
   refine⟨_,_,hr,?_⟩
   have hc:((xs++rest).toArray.toList.take (n*i.size)++news++(xs++rest).toArray.toList.drop (n*i.size+news.length)).toArray=((xs++news)++rest.drop news.length).toArray:=by
    rw[<- hx]
    simp[List.take_append,List.drop_append]
   rw[hc]
   refine⟨Or.inr ⟨g,n+m,cap,rest.drop news.length,rfl,by rw[List.length_append,hx,hl,Nat.add_mul],blk_setRow hb,hroom,?_,h4⟩,?_,fun k hk=>Or.inl hk⟩
   ·simp only[List.size_toArray,List.length_append]at hfit
    simp only[List.length_append,List.length_drop]
    omega
   ·exact(kept_setRow w g _).mono (fun x _ hx=>by simp[Value.ownBlock,hx])
  ·have holds:∀ j v,xs[j]? = some v->w.cell? ((⟨g,0,none⟩:Addr).add j)=some v:=by
    intro j u hu
    rw[addr0_add]
    refine hb.cell ?_
    rw[List.getElem?_append_left (List.getElem?_eq_some_iff.1 hu).1];exact hu
   have hcap:=nextslicecap_le (need:=n+m) (old:=cap) (by omega)
   have hb2:Builtin.nextslicecap (n+m) cap*i.bytes<=281474976710656:=by
    have:Builtin.nextslicecap (n+m) cap*i.bytes<=4000000000*1000:=Nat.mul_le_mul (by omega) hby
    omega
   have hr:=run_append_grow (P:=P) w t ty e i z ht hi hz ⟨g,0,none⟩ n cap xs hx holds a m c news hl hnews (by omega) (by omega) hb2
   refine⟨_,_,hr,?_⟩
   have hc:xs.toArray++news.toArray=(xs++news).toArray:=by simp
   rw[hc]
   exact Row.grown w e i.size _ (n+m) _ (xs++news) _ (by rw[List.length_append,hx,hl,Nat.add_mul]) hzs (grownCap_ge _ _ _ _) (grownCap_le_maxLen _ _ _ _ (by omega))
end
def View (w:World) (size:Nat) (v:Value) (xs:List Value):Prop :=
 ∃ a n cap,v = .slice a n cap/\n*size=xs.length/\n<=cap/\cap<=maxLen/\(0<cap->∃ g off,a=some ⟨g,off,none⟩)/\(0<n->∃ g off,a=some ⟨g,off,none⟩/\g<w.heap.size/\∀ j u,xs[j]? = some u->w.cell? ⟨g,off+j,none⟩=some u)
section
variable {w w' : World} {size : Nat} {v : Value} {xs : List Value}
theorem View.nil (w:World) (size:Nat):View w size (.slice none 0 0) []:=⟨none,0,0,rfl,by simp,Nat.le_refl _,Nat.zero_le _,fun h=>by omega,fun h=>by omega⟩
theorem Row.view {e:TypeId} (h:Row w e size v xs):View w size v xs:=by
 rcases h with⟨rfl,rfl⟩|⟨g,n,cap,rest,rfl,h1,hb,h2,_,h4⟩
 ·exact View.nil w size
 ·refine⟨_,n,cap,rfl,h1.symm,h2,h4,fun _=>⟨g,0,rfl⟩,fun _=>⟨g,0,rfl,hb.lt,fun j u hu=>?_⟩⟩
  rw[Nat.zero_add]
  refine hb.cell ?_
  rw[List.getElem?_append_left (List.getElem?_eq_some_iff.1 hu).1]
  exact hu
theorem View.kept {S:Nat->Prop} (h:View w size v xs) (hk:Kept S w w') (hS:∀ g c t f,w.heap[g]? = some (.cells c t f)->v.ownBlock=some g->¬ S g) (hs:0<size):View w' size v xs:=by
 obtain⟨a,n,cap,rfl,h1,h2,h3,h4,h5⟩:=h
 refine⟨a,n,cap,rfl,h1,h2,h3,h4,fun hn=>?_⟩
 obtain⟨g,off,rfl,hg,hc⟩:=h5 hn
 refine⟨g,off,rfl,Nat.lt_of_lt_of_le hg hk.size,fun j u hu=>?_⟩
 have h0:0<xs.length:=by rw[<- h1];exact Nat.mul_pos hn hs
 have hcell:∃ c t f,w.heap[g]? = some (.cells c t f):=by
  have:=hc 0 xs[0] (List.getElem?_eq_getElem h0)
  unfold World.cell? at this
  simp only at this
  split at this
  ·rename_i c t f q;exact⟨_,_,_,q⟩
  ·cases this
 obtain⟨c,t,f,hcell⟩:=hcell
 have:=hk.block g hg (hS g c t f hcell rfl)
 rw[<- hc j u hu]
 simp only[World.cell?,this]
theorem View.same (h:View w size v xs) (hk:Kept (fun _=>False) w w') (hs:0<size):View w' size v xs:=h.kept hk (fun _ _ _ _ _ _=>id) hs
theorem View.head {a:Option Addr} {n cap:Nat} (h:View w size (.slice a n cap) xs) (i:Nat) (hi:i<=n):View w size (.slice a i cap) (xs.take (i*size)):=by
 obtain⟨a',n',cap',hv,h1,h2,h3,h4,h5⟩:=h
 cases hv
 have hle:i*size<=xs.length:=by rw[<- h1];exact Nat.mul_le_mul_right _ hi
 refine⟨a,i,cap,rfl,by rw[List.length_take];omega,by omega,h3,h4,fun h0=>?_⟩
 obtain⟨g,off,rfl,hg,hc⟩:=h5 (by omega)
 refine⟨g,off,rfl,hg,fun j u hu=>hc j u ?_⟩
 have:=(List.getElem?_eq_some_iff.1 hu).1
 rw[List.length_take]at this
 rwa[List.getElem?_take_of_lt (by omega)]at hu
theorem View.tail {a:Option Addr} {n cap:Nat} (h:View w size (.slice a n cap) xs) (i:Nat) (hi:i<=n):View w size (.slice (if cap=i then a else a.map (·.add (i*size))) (n-i) (cap-i)) (xs.drop (i*size)):=by
 obtain⟨a',n',cap',hv,h1,h2,h3,h4,h5⟩:=h
 cases hv
 have add':∀ g off m:Nat,(⟨g,off,none⟩:Addr).add m=⟨g,off+m,none⟩:=fun g off m=>by unfold Addr.add;split<;>simp_all
 have hle:i*size<=xs.length:=by rw[<- h1];exact Nat.mul_le_mul_right _ hi
 refine⟨_,n-i,cap-i,rfl,by rw[List.length_drop,Nat.sub_mul];omega,by omega,by omega,fun h0=>?_,fun h0=>?_⟩
 ·have hne:¬ cap=i:=by clear h4 h5;omega
  obtain⟨g,off,rfl⟩:=h4 (by clear h4 h5;omega)
  rw[if_neg hne]
  exact⟨g,off+i*size,by simp[add']⟩
 ·have hne:¬ cap=i:=by clear h4 h5;omega
  obtain⟨g,off,rfl,hg,hc⟩:=h5 (by clear h4 h5;omega)
  rw[if_neg hne]
  refine⟨g,off+i*size,by simp[add'],hg,fun j u hu=>?_⟩
  rw[List.getElem?_drop]at hu
  rw[Nat.add_assoc]
  exact hc _ u hu
theorem View.run_head {P:Program} {t:TypeId} {a:Option Addr} {n cap:Nat} (h:View w size (.slice a n cap) xs) (ht:P.underlying t=some (.slice (P.elem t))) (hsz:∀ w,(sizeOf (P.elem t)).run P w = .ok size w) (i:Nat) (hi:i<=n) (w0:World) :
  (Instr.slice t (.slice a n cap) none (some (.int .i64 (i:Int))) none).run P w0 = .ok (.slice a i cap) w0:=by
 obtain⟨a',n',cap',hv,h1,h2,h3,h4,h5⟩:=h
 cases hv
 have hs:=run_slice_h (P:=P) (w:=w0) t a n cap ht .i64 (i:Int) (by omega) (by omega)
 rw[hsz]at hs
 simp only[Result.andThen,sliced]at hs
 have ea:(if cap=0 then a else a.map (·.add (0*size)))=a:=by
  split
  ·rfl
  ·cases a<;>simp[Addr.add]
 rw[hs,ea];simp
theorem View.run_tail {P:Program} {t:TypeId} {a:Option Addr} {n cap:Nat} (h:View w size (.slice a n cap) xs) (ht:P.underlying t=some (.slice (P.elem t))) (hsz:∀ w,(sizeOf (P.elem t)).run P w = .ok size w) (i:Nat) (hi:i<=n) (w0:World) :
  (Instr.slice t (.slice a n cap) (some (.int .i64 (i:Int))) none none).run P w0 = .ok (.slice (if cap=i then a else a.map (·.add (i*size))) (n-i) (cap-i)) w0:=by
 obtain⟨a',n',cap',hv,h1,h2,h3,h4,h5⟩:=h
 cases hv
 have hs:=run_slice_l (P:=P) (w:=w0) t a n cap ht .i64 (i:Int) (by omega) (by omega)
 rw[hsz]at hs
 simp only[Result.andThen,sliced,Int.toNat_natCast]at hs
 rw[hs]
end
def CellsT (w:World) (k:Nat) (t:TypeId):Prop:=∃ c f,w.heap[k]? = some (.cells c t f)
theorem Row.cellsT {w:World} {e:TypeId} {size:Nat} {v:Value} {xs:List Value} (h:Row w e size v xs) {k:Nat} (hk:v.ownBlock=some k):CellsT w k e:=by
 rcases h with⟨rfl,_⟩|⟨g,n,cap,rest,rfl,_,hb,_⟩
 ·simp[Value.ownBlock]at hk
 ·simp[Value.ownBlock]at hk;subst hk;exact⟨_,_,hb⟩
theorem CellsT.same {w:World} {k:Nat} {t t':TypeId} (h:CellsT w k t) (h':CellsT w k t'):t=t':=by
 obtain⟨c,f,h⟩:=h
 obtain⟨c',f',h'⟩:=h'
 rw[h]at h'
 simp at h'
 exact h'.2.1
end Go.Proofs.YtdmedbhbefdnkaaGreatDoor
