/- RD1 RD2 RD3 RD4 RD5 RD6 RD7 RD9 RD10 Sm1 RE1 RE2 RE3 RGo -/
import Derived.Test.YtdmedbhbefdnkaaGreatDoorUKeyringPlay08
import Derived.Test.YtdmedbhbefdnkaaGreatDoorUKeyringPlay38
set_option linter.unusedVariables false
set_option linter.unusedSimpArgs false
set_option maxRecDepth 100000
set_option maxHeartbeats 16000000
namespace Go.Proofs.YtdmedbhbefdnkaaGreatDoor
open Go.RowKit
structure RefM where
 cap:Int
 L:List (Int × By)
 loose:List Int
 down:Bool
 starts:Int
 fails:Int
 keep:Int
structure RefM.Ok (R:RefM):Prop where
 few:R.L.length<=100
 size:∀ p∈R.L,p.2.length<=2000000
 loo:R.loose.length<=10000000
 cap0:0<=R.cap/\R.cap<=1048576
 fail0:0<=R.fails/\R.fails<=2000000000000
def fcells (L:List (Int × By)):List Value:=L.flatMap fun p=>[.int .i64 p.1,.string (strB p.2)]
theorem fcells_len (L:List (Int × By)):(fcells L).length=L.length*2:=by
 induction L with
 | nil=>rfl
 | cons a r ih=>simp only[fcells,List.flatMap_cons,List.length_append,List.length_cons,List.length_nil]at *;omega
theorem fcells_append (L M:List (Int × By)):fcells (L++M)=fcells L++fcells M:=by simp[fcells]
theorem fcells_cons (a:Int × By) (L:List (Int × By)):fcells (a::L)=[.int .i64 a.1,.string (strB a.2)]++fcells L:=by simp[fcells]
theorem fcells_get (L:List (Int × By)) (i:Nat) (p:Int × By) (h:L[i]? = some p):(fcells L)[i*2]? = some (.int .i64 p.1)/\(fcells L)[i*2+1]? = some (.string (strB p.2)):=by
 induction L generalizing i with
 | nil=>simp at h
 | cons a r ih =>
  rw[fcells_cons]
  cases i with
  | zero=>simp at h;subst h;simp
  | succ i =>
   have:=ih i (by simpa using h)
   rw[List.getElem?_append_right (by simp;omega),List.getElem?_append_right (by simp;omega)]
   have e0:[Value.int .i64 a.1,Value.string (strB a.2)].length=2:=rfl
   rw[e0,show(i+1)*2-2=i*2 by omega,show(i+1)*2+1-2=i*2+1 by omega]
   exact this
theorem fcells_one (L:List (Int × By)):∀ u∈fcells L,u.oneCell'=true:=by
 intro u hu
 unfold fcells at hu
 simp only[List.mem_flatMap,List.mem_cons,List.not_mem_nil,or_false]at hu
 obtain⟨p,_,rfl|rfl⟩:=hu<;>rfl
theorem fcells_take (L:List (Int × By)) (i:Nat):(fcells L).take (i*2)=fcells (L.take i):=by
 induction L generalizing i with
 | nil=>simp[fcells]
 | cons a r ih =>
  cases i with
  | zero=>simp[fcells]
  | succ i =>
   rw[List.take_succ_cons,fcells_cons,fcells_cons,<- ih i,show(i+1)*2=i*2+1+1 by omega]
   rfl
theorem fcells_drop (L:List (Int × By)) (i:Nat):(fcells L).drop (i*2)=fcells (L.drop i):=by
 induction L generalizing i with
 | nil=>simp[fcells]
 | cons a r ih =>
  cases i with
  | zero=>simp
  | succ i =>
   rw[List.drop_succ_cons,fcells_cons,<- ih i,show(i+1)*2=i*2+1+1 by omega]
   rfl
abbrev refC (R:RefM) (x y:Value):List Value:=[.int .i64 R.cap,x,y,.bool R.down,.int .i64 R.starts,.int .i64 R.fails,.int .i64 R.keep]
structure IsRef (w:World) (r:Nat) (R:RefM) (x y:Value):Prop where
 blk:Blk w r (refC R x y) 82
 files:Row w 87 2 x (fcells R.L)
 loose:Row w 3 1 y (icells R.loose)
def refOwn (r:Nat) (x y:Value) (k:Nat):Prop:=k=r\/x.ownBlock=some k\/y.ownBlock=some k
section
variable {w w' W : World} {r : Nat} {R R' : RefM} {x y x' y' : Value} {S : Nat → Prop}
theorem icells_len (l:List Int):(icells l).length=l.length:=by simp[icells]
theorem IsRef.kept (h:IsRef w r R x y) (hk:Kept S w w') (hS:∀ k,refOwn r x y k->¬ S k):IsRef w' r R x y :=
 ⟨h.blk.kept hk (hS r (Or.inl rfl)),h.files.kept hk (fun k q=>hS k (Or.inr (Or.inl q))),h.loose.kept hk (fun k q=>hS k (Or.inr (Or.inr q)))⟩
theorem IsRef.same (h:IsRef w r R x y) (hk:Kept (fun _=>False) w w'):IsRef w' r R x y:=h.kept hk (fun _ _=>id)
theorem IsRef.lt (h:IsRef w r R x y) {k:Nat} (hk:refOwn r x y k):k<w.heap.size:=by
 rcases hk with rfl|q|q
 ·exact h.blk.lt
 ·exact h.files.lt q
 ·exact h.loose.lt q
theorem IsRef.ne (h:IsRef w r R x y):(∀ k,x.ownBlock=some k->k≠r)/\(∀ k,y.ownBlock=some k->k≠r) :=
 ⟨fun _ q=>h.files.ne_blk q h.blk (by decide),fun _ q=>h.loose.ne_blk q h.blk (by decide)⟩
theorem IsRef.form (h:IsRef w r R x y):∃ a c,x = .slice a R.L.length c/\∀ (i:Nat) (p:Int × By),R.L[i]? = some p->∃ g,a=some ⟨g,0,none⟩/\w.cell? ⟨g,i*2,none⟩=some (.int .i64 p.1)/\w.cell? ⟨g,i*2+1,none⟩=some (.string (strB p.2)):=by
 obtain⟨a,n,c,rfl,hn,_,hc⟩:=h.files.form (by omega)
 rw[fcells_len]at hn
 obtain rfl:n=R.L.length:=by omega
 refine⟨a,c,rfl,fun i p hp=>?_⟩
 have hi:=(List.getElem?_eq_some_iff.1 hp).1
 obtain⟨g,rfl,_,hg⟩:=hc (by omega)
 obtain⟨g0,g1⟩:=fcells_get _ i p hp
 exact⟨g,rfl,hg _ _ g0,hg _ _ g1⟩
theorem IsRef.lform (h:IsRef w r R x y):∃ a c,y = .slice a R.loose.length c/\∀ (i:Nat) (n:Int),R.loose[i]? = some n->∃ g,a=some ⟨g,0,none⟩/\w.cell? ⟨g,i,none⟩=some (.int .i64 n):=by
 obtain⟨a,n,c,rfl,hn,_,hc⟩:=h.loose.form (by omega)
 rw[icells_len]at hn
 obtain rfl:n=R.loose.length:=by omega
 refine⟨a,c,rfl,fun i p hp=>?_⟩
 have hi:=(List.getElem?_eq_some_iff.1 hp).1
 obtain⟨g,rfl,_,hg⟩:=hc (by omega)
 exact⟨g,rfl,hg i _ (by unfold icells;rw[List.getElem?_map,hp];rfl)⟩
def RefTo (w:World) (r:Nat) (x y:Value) (R':RefM) (w':World):Prop :=
 ∃ x' y',IsRef w' r R' x' y'/\Kept (· = r) w w'/\(∀ k,x'.ownBlock=some k->x.ownBlock=some k\/w.heap.size<=k)/\(∀ k,y'.ownBlock=some k->y.ownBlock=some k\/w.heap.size<=k)
theorem RefTo.self (h:IsRef w r R x y):RefTo w r x y R w:=⟨x,y,h,Kept.refl _ _,fun _=>Or.inl,fun _=>Or.inl⟩
def findV (L:List (Int × By)) (n:Int):Int:=match L.findIdx? (fun p=>decide (p.1=n))with
 | some i=>(i:Int)
 | none=>-1
theorem findV_at {L:List (Int × By)} {n:Int} {i:Nat} {p:Int × By} (hp:L[i]? = some p) (hn:p.1=n) (hb:∀ j q,L[j]? = some q->j<i->q.1≠n):findV L n=(i:Int):=by
 obtain⟨hi,e⟩:=List.getElem?_eq_some_iff.1 hp
 have:L.findIdx? (fun p=>decide (p.1=n))=some i:=by
  rw[List.findIdx?_eq_some_iff_getElem]
  refine⟨hi,by rw[e];exact decide_eq_true hn,fun j hj=>?_⟩
  have:=hb j _ (List.getElem?_eq_getElem (by omega)) hj
  simpa using this
 unfold findV
 rw[this]
theorem findV_none {L:List (Int × By)} {n:Int} (hb:∀ j q,L[j]? = some q->j<L.length->q.1≠n):findV L n = -1:=by
 have:L.findIdx? (fun p=>decide (p.1=n))=none:=by
  rw[List.findIdx?_eq_none_iff]
  intro q hq
  obtain⟨j,hj,e⟩:=List.getElem_of_mem hq
  have:=hb j q (by rw[List.getElem?_eq_getElem hj,e]) hj
  simpa using this
 unfold findV
 rw[this]
theorem findV_cases (L:List (Int × By)) (n:Int):(findV L n = -1/\∀ p∈L,p.1≠n)\/∃ (i:Nat) (p:Int × By),findV L n=(i:Int)/\L[i]? = some p/\p.1=n:=by
 unfold findV
 cases h:L.findIdx? (fun p=>decide (p.1=n))with
 | none =>
  left
  rw[List.findIdx?_eq_none_iff]at h
  exact⟨rfl,fun p hp=>by simpa using h p hp⟩
 | some i =>
  right
  rw[List.findIdx?_eq_some_iff_getElem]at h
  obtain⟨hi,h1,_⟩:=h
  exact⟨i,L[i],rfl,List.getElem?_eq_getElem hi,by simpa using h1⟩
theorem dec_gtr {a b:Nat} (h:a<b):decide ((a:Int)<(b:Int))=true/\decide (a<b)=true:=⟨decide_eq_true (by omega),decide_eq_true h⟩
theorem dec_ler {a b:Nat} (h:¬ a<b):decide ((a:Int)<(b:Int))=false/\decide (a<b)=false:=⟨decide_eq_false (by omega),decide_eq_false h⟩
theorem find_ref (h:IsRef w r R x y) (hl:R.L.length<=100) (n:Int) :
  Calls Tryz.prog 42 #[.pointer (some ⟨r,0,none⟩),.int .i64 n] w fun e w'=>e = .returned (.int .i64 (findV R.L n))/\w=w':=by
 obtain⟨a,c,rfl,hc⟩:=h.form
 have c1:=h.blk.cell (i:=1) rfl
 have HC:=Lib.hid hc
 have HV:=Lib.hid (And.intro (fun i p hp hn hb=>findV_at (L:=R.L) (n:=n) (i:=i) (p:=p) hp hn hb) (fun hb=>findV_none (L:=R.L) (n:=n) hb))
 clear h hc
 generalize findV R.L n=V at *
 go_enter Tryz.func42,Tryz.ntmps42
 go_wp2_with fail
 go_loop [5] (fun z=>∃ i:Nat,i<=R.L.length/\z = .int .i64 (i:Int)/\Hid (∀ j q,R.L[j]? = some q->j<i->q.1≠n)) (fun z=>R.L.length-(intOf z).toNat)
 case atStart=>exact⟨0,Nat.zero_le _,rfl,Lib.hid (fun j q _ hj=>absurd hj (Nat.not_lt_zero _))⟩
 case round =>
  obtain⟨i,hi,rfl,HS⟩:=hrel
  by_cases hlt:i<R.L.length
  ·obtain⟨y1,y2⟩:=dec_gtr hlt
   obtain⟨p,hp⟩:∃ p,R.L[i]? = some p:=⟨_,List.getElem?_eq_getElem hlt⟩
   obtain⟨g,rfl,q0,-⟩:=HC.out i p hp
   by_cases hn:p.1=n
   ·have z1:(p.1==n)=true:=by simpa using hn
    have hv:=HV.out.1 i p hp hn HS.out
    have HR:=Lib.hid hv
    clear hi hp hn hv
    go_wp2_with fail
    go_ret
    exact⟨by rw[HR.out];rfl,rfl⟩
   ·have z1:(p.1==n)=false:=by simpa using hn
    have HS3:Hid (∀ j q,R.L[j]? = some q->j<i+1->q.1≠n):=by
     refine Lib.hid ?_
     intro j q hq hj
     rcases Nat.lt_or_ge j i with z|z
     ·exact HS.out j q hq z
     ·obtain rfl:j=i:=by omega
      rw[hp]at hq
      cases hq
      exact hn
    have HLT:=Lib.hid hlt
    clear hi hp hn
    go_wp2_with fail
    go_round
    case rel=>exact⟨i+1,HLT.out,by go_num,HS3⟩
    case measure=>have:=HLT.out;simp[intOf];omega
  ·obtain rfl:i=R.L.length:=by omega
   obtain⟨y1,y2⟩:=dec_ler hlt
   have HR:=Lib.hid (HV.out.2 HS.out)
   clear hi hlt
   go_wp2_with fail
   go_ret
   exact⟨by rw[HR.out];rfl,rfl⟩
def RefM.at_ (R:RefM) (n:Int):Int × Int:=if R.down=true then(-1,61)else if findV R.L n<0 then(-1,4)else(findV R.L n,0)
theorem at_ref (h:IsRef w r R x y) (hl:R.L.length<=100) (n:Int) {i e0:Int} (he:R.at_ n=(i,e0)) :
  Calls Tryz.prog 32 #[.pointer (some ⟨r,0,none⟩),.int .i64 n] w fun e w'=>e = .returned (.tuple #[.int .i64 i,.int .i64 e0])/\w=w':=by
 have c3:=h.blk.cell (i:=3) rfl
 have HF:=Lib.hid (find_ref h hl n)
 clear h
 unfold RefM.at_ at he
 generalize findV R.L n=V at *
 cases hd:R.down with
 | true =>
  rw[if_pos hd]at he
  rw[hd]at c3
  cases he
  go_enter Tryz.func32,Tryz.ntmps32
  go_wp2_with fail
  refine bodyPost_ret (v:=.tuple #[.int .i64 (-1),.int .i64 61]) (by simp[results,Tryz.results32,go_sem]) rfl ⟨rfl,rfl⟩
 | false =>
  rw[if_neg (by rw[hd];simp)]at he
  rw[hd]at c3
  by_cases h0:V<0
  ·rw[if_pos h0]at he
   cases he
   have z1:decide (V<0)=true:=decide_eq_true h0
   clear h0
   go_enter Tryz.func32,Tryz.ntmps32
   go_wp2_with (go_at_call 42;refine HF.out.mono ?_;rintro e w' ⟨rfl,rfl⟩)
   refine bodyPost_ret (v:=.tuple #[.int .i64 (-1),.int .i64 4]) (by simp[results,Tryz.results32,go_sem]) rfl ⟨rfl,rfl⟩
  ·rw[if_neg h0]at he
   cases he
   have z1:decide (i<0)=false:=decide_eq_false h0
   clear h0
   go_enter Tryz.func32,Tryz.ntmps32
   go_wp2_with (go_at_call 42;refine HF.out.mono ?_;rintro e w' ⟨rfl,rfl⟩)
   refine bodyPost_ret (v:=.tuple #[.int .i64 i,.int .i64 0]) (by simp[results,Tryz.results32,go_sem]) rfl ⟨rfl,rfl⟩
def RefM.sinks (R:RefM):Bool:=decide (R.fails=1)
def RefM.tick (R:RefM):RefM:=if R.fails=0 then R else { R with fails:=R.fails-1 }
theorem fails_ref (h:IsRef w r R x y) (hf:0<=R.fails/\R.fails<=2000000000000) :
  Calls Tryz.prog 33 #[.pointer (some ⟨r,0,none⟩)] w fun e w'=>e = .returned (.bool R.sinks)/\IsRef w' r R.tick x y/\Kept (· = r) w w':=by
 have c5:=h.blk.cell (i:=5) rfl
 have z5:=h.blk.free 5
 by_cases h0:R.fails=0
 ·have e1:R.sinks=false:=decide_eq_false (by omega)
  have e2:R.tick=R:=by unfold RefM.tick;rw[if_pos h0]
  have z1:(R.fails==0)=true:=by simpa using h0
  have HI:=Lib.hid h
  rw[e1,e2]
  clear e1 e2 h h0 hf
  go_enter Tryz.func33,Tryz.ntmps33
  go_wp2_with fail
  go_ret
  exact⟨rfl,HI.out,Kept.refl _ _⟩
 ·have e2:R.tick = { R with fails:=R.fails-1 }:=by unfold RefM.tick;rw[if_neg h0]
  have z1:(R.fails==0)=false:=by simpa using h0
  have z2:(R.fails-1==0)=R.sinks:=by unfold RefM.sinks;by_cases q:R.fails=1<;>simp[q];omega
  have hw:wrap64 (R.fails-1)=R.fails-1:=IntWalk.wrap64_in _ (by omega)
  have hE:∀ W',w.setCell ⟨r,5,none⟩ (.int .i64 (R.fails-1))=W'->IsRef W' r R.tick x y/\Kept (· = r) w W':=by
   intro W' hW
   have hk:=kept_cell w r 5 (.int .i64 (R.fails-1))
   have hb:=h.blk.set 5 (.int .i64 (R.fails-1))
   rw[hW]at hk hb
   rw[e2]
   exact⟨⟨hb,h.files.kept hk (fun k q=>h.ne.1 k q),h.loose.kept hk (fun k q=>h.ne.2 k q)⟩,hk⟩
  have HE:=Lib.hid hE
  clear hE e2 h h0 hf
  go_enter Tryz.func33,Tryz.ntmps33
  go_wp2_with fail
  generalize hW:World.setCell _ _ _=W'
  obtain⟨g1,g2⟩:=HE.out W' hW
  refine bodyPost_ret (v:=.bool R.sinks) (by simp[results,Tryz.results33,go_sem]) rfl ⟨rfl,g1,g2⟩
end
theorem info_file:(Tryz.prog.info? 87).map (fun i=>(i.zero,i.size,i.bytes))=some (some (.agg #[.int .i64 0,.string ⟨#[]⟩]),2,24):=by kernel_rfl
theorem file_append {w:World} {v:Value} {L:List (Int × By)} (p:Int × By) (hL:L.length<=1000000) (hrow:Row w 87 2 v (fcells L)) :
  ∃ sa n cap w3,(Builtin.append_ #[79,79] 79 #[v,.slice (some ⟨w.heap.size,0,none⟩) 1 1]).run Tryz.prog (w.alloc (.cells #[.int .i64 p.1,.string (strB p.2)] 87)) = .ok (.slice sa n cap) w3 /\
   Row w3 87 2 (.slice sa n cap) (fcells (L++[p]))/\Kept (fun x=>v.ownBlock=some x) w w3/\∀ k,(Value.slice sa n cap).ownBlock=some k->v.ownBlock=some k\/w.heap.size<=k:=by
 obtain⟨i0,hi,hz0,hz1,hz2⟩:=info_parts info_file
 have hnew:=Blk.new w [.int .i64 p.1,.string (strB p.2)] 87
 have hal:Kept (fun _=>False) w (w.alloc (.cells #[.int .i64 p.1,.string (strB p.2)] 87)):=(Kept.refl _ _).alloc _
 have hkl:(fcells L).length=L.length*2:=fcells_len L
 obtain⟨v',w3,hrun,hrow3,hk3,hf3⟩:=Row.append_cells (P:=Tryz.prog) (t:=79) (hrow.kept hal (fun _ _=>id)) Tryz.underlying79 hi hz0 hz1 rfl (by decide) (by rw[hz2];decide) ⟨w.heap.size,0,none⟩ 1 1 [.int .i64 p.1,.string (strB p.2)] rfl
  (fun j u hu=>by rw[addr0_add];exact hnew.cell hu) (fun u hu=>by simp at hu;rcases hu with rfl|rfl<;>rfl) (by decide) (by simp;omega) 79
 obtain⟨sa,n,cap,rfl,_⟩:=hrow3.form (by omega)
 refine⟨sa,n,cap,w3,hrun,?_,(hal.mono (fun _ _=>False.elim)).trans hk3,fun k hk=>(hf3 k hk).imp id (fun q=>by have:=hal.size;omega)⟩
 rw[fcells_append]
 exact hrow3
theorem files_append {w:World} {v u:Value} {L M:List (Int × By)} (hL:L.length+M.length<=1000000) (hrow:Row w 87 2 v (fcells L)) (hview:View w 2 u (fcells M)) :
  ∃ sa n cap w3,(Builtin.append_ #[79,79] 79 #[v,u]).run Tryz.prog w = .ok (.slice sa n cap) w3 /\
   Row w3 87 2 (.slice sa n cap) (fcells (L++M))/\Kept (fun x=>v.ownBlock=some x) w w3/\∀ k,(Value.slice sa n cap).ownBlock=some k->v.ownBlock=some k\/w.heap.size<=k:=by
 obtain⟨i0,hi,hz0,hz1,hz2⟩:=info_parts info_file
 have hkl:(fcells L).length=L.length*2:=fcells_len L
 have hkm:(fcells M).length=M.length*2:=fcells_len M
 obtain⟨v',w3,hrun,hrow3,hk3,hf3⟩:=Row.append_view (P:=Tryz.prog) (t:=79) hrow hview Tryz.underlying79 hi hz0 hz1 rfl (by decide) (by rw[hz2];decide) (fcells_one M) (by omega) 79
 obtain⟨sa,n,cap,rfl,_⟩:=hrow3.form (by omega)
 exact⟨sa,n,cap,w3,hrun,by rw[fcells_append];exact hrow3,hk3,hf3⟩
section
variable {w w' W : World} {r : Nat} {R R' : RefM} {x y x' y' : Value} {S : Nat → Prop}
theorem sum_take {L:List (Int × By)} {i:Nat} {p:Int × By} (hp:L[i]? = some p):AM.sum List.length (L.take (i+1))=AM.sum List.length (L.take i)+p.2.length:=by
 rw[List.take_add_one,hp]
 simp[AM.sum]
theorem sum_take_le (L:List (Int × By)) (i:Nat):AM.sum List.length (L.take i)<=AM.sum List.length L:=by
 conv=>rhs;rw[<- List.take_append_drop i L]
 unfold AM.sum
 rw[List.map_append,List.sum_append]
 omega
theorem RefM.Ok.sum (h:R.Ok):AM.sum List.length R.L<=200000000:=by
 have h1:∀ (L:List (Int × By)),(∀ p∈L,p.2.length<=2000000)->AM.sum List.length L<=L.length*2000000:=by
  intro L
  induction L with
  | nil=>intro _;simp[AM.sum]
  | cons a r ih =>
   intro hq
   have:=ih (fun p hp=>hq p (by simp[hp]))
   have:=hq a (by simp)
   rw[AM.sum_cons,List.length_cons]
   omega
 have:=h1 R.L h.size
 have:=h.few
 omega
def RefM.free (R:RefM):Int:=R.cap-(AM.sum List.length R.L:Nat)
theorem free_ref (h:IsRef w r R x y) (hR:R.Ok) :
  Calls Tryz.prog 36 #[.pointer (some ⟨r,0,none⟩)] w fun e w'=>e = .returned (.int .i64 R.free)/\w=w':=by
 obtain⟨a,c,rfl,hc⟩:=h.form
 have c0:=h.blk.cell (i:=0) rfl
 have c1:=h.blk.cell (i:=1) rfl
 have HC:=Lib.hid hc
 have HS:=Lib.hid (And.intro hR.sum hR.cap0)
 have hl:=hR.few
 clear h hc hR
 unfold RefM.free
 go_enter Tryz.func36,Tryz.ntmps36
 go_wp2_with fail
 go_loop [3,4] (fun u z=>∃ i:Nat,i<=R.L.length/\u = .int .i64 (R.cap-(AM.sum List.length (R.L.take i):Nat))/\z = .int .i64 (i:Int)) (fun _ z=>R.L.length-(intOf z).toNat)
 case atStart=>exact⟨0,Nat.zero_le _,by simp[AM.sum],rfl⟩
 case round =>
  obtain⟨i,hi,rfl,rfl⟩:=hrel
  by_cases hlt:i<R.L.length
  ·obtain⟨y1,y2⟩:=dec_gtr hlt
   obtain⟨p,hp⟩:∃ p,R.L[i]? = some p:=⟨_,List.getElem?_eq_getElem hlt⟩
   obtain⟨g,rfl,-,q1⟩:=HC.out i p hp
   have hs:=sum_take hp
   have hs2:=sum_take_le R.L (i+1)
   obtain⟨T,hT⟩:∃ T,AM.sum List.length (R.L.take i)=T:=⟨_,rfl⟩
   rw[hT]at hs ⊢
   have hsz:(strB p.2).size=p.2.length:=strB_size p.2
   obtain⟨bs,hbs⟩:∃ bs,strB p.2=bs:=⟨_,rfl⟩
   rw[hbs]at hsz q1
   have HG:=Lib.hid (show R.cap-(T:Int)-(bs.size:Int)=R.cap-(AM.sum List.length (R.L.take (i+1)):Nat) by rw[hs,hsz];omega)
   have HW:=Lib.hid (show wrap64 (R.cap-(AM.sum List.length (R.L.take (i+1)):Nat))=R.cap-(AM.sum List.length (R.L.take (i+1)):Nat)from IntWalk.wrap64_in _ (by have:=HS.out;omega))
   have HLT:=Lib.hid hlt
   clear hi hp hs hs2 hT hsz hbs
   go_wp2_with fail
   go_round
   case rel=>exact⟨i+1,HLT.out,by rw[HG.out,HW.out],by go_num⟩
   case measure=>have:=HLT.out;simp[intOf];omega
  ·obtain rfl:i=R.L.length:=by omega
   obtain⟨y1,y2⟩:=dec_ler hlt
   clear hi hlt
   rw[List.take_length]
   go_wp2_with fail
   go_ret
   exact⟨rfl,rfl⟩
theorem new_ref (w:World) (cap:Int) (h0:0<=cap) (h1:cap<=1048576) :
  Calls Tryz.prog 9 #[.int .i64 cap] w fun e w'=>∃ r,e = .returned (.tuple #[.pointer (some ⟨r,0,none⟩),.int .i64 0])/\w.heap.size<=r/\IsRef w' r ⟨cap,[],[],false,0,0,0⟩ (.slice none 0 0) (.slice none 0 0)/\Kept (fun _=>False) w w':=by
 have z1:decide (cap<0)=false:=decide_eq_false (by omega)
 have z2:decide (1048576<cap)=false:=decide_eq_false (by omega)
 have HN:=Lib.hid (show IsRef (w.alloc (.cells (refC ⟨cap,[],[],false,0,0,0⟩ (.slice none 0 0) (.slice none 0 0)).toArray 82)) w.heap.size ⟨cap,[],[],false,0,0,0⟩ (.slice none 0 0) (.slice none 0 0)from⟨Blk.new _ _ _,Row.nil _ _ _,Row.nil _ _ _⟩)
 clear h0 h1
 go_enter Tryz.func9,Tryz.ntmps9
 go_wp2_with fail
 refine bodyPost_ret (v:=.tuple #[.pointer (some ⟨w.heap.size,0,none⟩),.int .i64 0]) (by simp[results,Tryz.results9,go_sem]) rfl ⟨w.heap.size,rfl,Nat.le_refl _,HN.out,(Kept.refl _ _).alloc _⟩
end
theorem step_append_runR {P:Program} {w:World} {ops:Array Oper} {o:Oper} {a:Act} {K:Act->World->Prop} {Q:Exit->Act->World->Prop} {E:Prop} (hgd:o.guard=none) (s x:Operand) (t tn:TypeId)
  (ho:o.op = .call { callee:=.builtin .append,args:=#[s,x],argTypes:=#[t,tn] }) (vs vx:Value) (hs:a.eval s=vs) (hx:a.eval x=vx)
  (v':Value) (w':World) (hr:(Builtin.append_ #[t,tn] o.type #[vs,vx]).run P w = .ok v' w') (h:K (a.put o.dst v') w') :
  if Region.wanted o (yielded ops a.tmps)=true then Oper.wp P o a w K Q else E:=by
 have hw:Region.wanted o (yielded ops a.tmps)=true:=by simp[Region.wanted,hgd]
 rw[if_pos hw]
 exact Lib.wp_append_run w s x t tn ho vs vx hs hx v' w' hr h
def madeL (L:List (Int × By)) (n:Int):List (Int × By):=L.takeWhile (fun p=>decide (p.1<n))++(n,[])::L.dropWhile (fun p=>decide (p.1<n))
theorem while_at {L:List (Int × By)} {f:Int × By->Bool} {i:Nat} (h1:∀ j p,L[j]? = some p->j<i->f p=true) (h2:∀ p,L[i]? = some p->f p=false) (hi:i<=L.length):L.takeWhile f=L.take i/\L.dropWhile f=L.drop i:=by
 induction L generalizing i with
 | nil=>simp
 | cons a l ih =>
  cases i with
  | zero =>
   have:=h2 a rfl
   simp[List.takeWhile_cons,List.dropWhile_cons,this]
  | succ i =>
   have h0:=h1 0 a rfl (by omega)
   obtain⟨g1,g2⟩:=ih (i:=i) (fun j p hp hj=>h1 (j+1) p (by simpa using hp) (by omega)) (fun p hp=>h2 p (by simpa using hp)) (by simpa using hi)
   simp[List.takeWhile_cons,List.dropWhile_cons,h0,g1,g2]
section
variable {w w' W : World} {r : Nat} {R R' : RefM} {x y x' y' : Value} {S : Nat → Prop}
theorem RefM.tick_eq (R:RefM):R.tick.L=R.L/\R.tick.loose=R.loose/\R.tick.cap=R.cap/\R.tick.down=R.down/\R.tick.starts=R.starts/\R.tick.keep=R.keep:=by
 unfold RefM.tick
 split<;>exact⟨rfl,rfl,rfl,rfl,rfl,rfl⟩
def MakeS (w:World) (r:Nat) (R:RefM) (x y:Value) (v:Value) (i:Nat) (W:World):Prop :=
 IsRef W r R x y/\Kept (· = r) w W/\Row W 87 2 v (fcells (R.L.take i))/\(∀ k,v.ownBlock=some k->w.heap.size<=k)/\∀ k,refOwn r x y k->k<w.heap.size
theorem MakeS.drew {v:Value} {i:Nat} (h:MakeS w r R x y v i W):MakeS w r R x y v i W.drew:=⟨h.1.same (Kept.refl _ _).drew,h.2.1.drew,h.2.2.1.drew,h.2.2.2⟩
theorem MakeS.app {v:Value} {i:Nat} {p:Int × By} (h:MakeS w r R x y v i W) (hR:R.L.length<=100) (hp:R.L[i]? = some p) :
  ∃ sa n cap w3,(Builtin.append_ #[79,79] 79 #[v,.slice (some ⟨W.heap.size,0,none⟩) 1 1]).run Tryz.prog (W.alloc (.cells #[.int .i64 p.1,.string (strB p.2)] 87)) = .ok (.slice sa n cap) w3/\Hid (MakeS w r R x y (.slice sa n cap) (i+1) w3):=by
 obtain⟨h1,h2,h3,h4,h5⟩:=h
 obtain⟨sa,n,cap,w3,hr,g1,g2,g3⟩:=file_append p (by rw[List.length_take];omega) h3
 refine⟨sa,n,cap,w3,hr,Lib.hid ⟨h1.kept g2 (fun k q e=>by have:=h4 k e;have:=h5 k q;omega),h2.then_ g2 (fun k hk e=>by have:=h4 k e;omega),?_,fun k e=>(g3 k e).elim (h4 k) (fun q=>by have:=h2.size;omega),h5⟩⟩
 rw[List.take_add_one,hp]
 exact g1
theorem MakeS.last {v:Value} {i:Nat} (h:MakeS w r R x y v i W) (hR:R.L.length<=100) (hi:i<=R.L.length) (n:Int) :
  ∃ a c s1 m1 c1 w1 s2 m2 c2 w2,x = .slice a R.L.length c /\
   (∀ w0,(Instr.slice 79 x (some (.int .i64 (i:Int))) none none).run Tryz.prog w0 = .ok (.slice (if c=i then a else a.map (·.add (i*2))) (R.L.length-i) (c-i)) w0) /\
   (Builtin.append_ #[79,79] 79 #[v,.slice (some ⟨W.heap.size,0,none⟩) 1 1]).run Tryz.prog (W.alloc (.cells #[.int .i64 n,.string (strB [])] 87)) = .ok (.slice s1 m1 c1) w1 /\
   (Builtin.append_ #[79,79] 79 #[.slice s1 m1 c1,.slice (if c=i then a else a.map (·.add (i*2))) (R.L.length-i) (c-i)]).run Tryz.prog w1 = .ok (.slice s2 m2 c2) w2 /\
   (W.cell? ⟨r,1,none⟩=some x/\(W.alloc (.cells #[.int .i64 n,.string (strB [])] 87)).cell? ⟨r,1,none⟩=some x/\w1.cell? ⟨r,1,none⟩=some x/\w2.cell? ⟨r,1,none⟩=some x/\w2.frozen? ⟨r,1,none⟩=false) /\
   Hid (∀ W',w2.setCell ⟨r,1,none⟩ (.slice s2 m2 c2)=W'->RefTo w r x y { R with L:=R.L.take i++(n,[])::R.L.drop i } W'):=by
 obtain⟨h1,h2,h3,h4,h5⟩:=h
 obtain⟨a,c,rfl,-⟩:=h1.form
 have hv:=h1.files.view
 have v2:=hv.tail i hi
 rw[fcells_drop]at v2
 have hz:=fun w0=>hv.run_tail (P:=Tryz.prog) (t:=79) (by kernel_rfl) (fun _=>by kernel_rfl) i hi w0
 obtain⟨s1,m1,c1,w1,r1,g1,k1,o1⟩:=file_append (n,[]) (by rw[List.length_take];omega) h3
 have hk1:IsRef w1 r R (.slice a R.L.length c) y:=h1.kept k1 (fun k q e=>by have:=h4 k e;have:=h5 k q;omega)
 have hv1:View w1 2 (.slice (if c=i then a else a.map (·.add (i*2))) (R.L.length-i) (c-i)) (fcells (R.L.drop i)):=by
  have e:=hk1.files.view.tail i hi
  rwa[fcells_drop]at e
 obtain⟨s2,m2,c2,w2,r2,g2,k2,o2⟩:=files_append (by simp;omega) g1 hv1
 have ho1:∀ k,(Value.slice s1 m1 c1).ownBlock=some k->w.heap.size<=k:=fun k e=>(o1 k e).elim (h4 k) (fun q=>by have:=h2.size;omega)
 have hk2:IsRef w2 r R (.slice a R.L.length c) y:=hk1.kept k2 (fun k q e=>by have:=ho1 k e;have:=h5 k q;omega)
 have hK1:Kept (· = r) w w1:=h2.then_ k1 (fun k hk e=>by have:=h4 k e;omega)
 have hK2:Kept (· = r) w w2:=hK1.then_ k2 (fun k hk e=>by have:=ho1 k e;omega)
 have ho2:∀ k,(Value.slice s2 m2 c2).ownBlock=some k->w.heap.size<=k:=fun k e=>(o2 k e).elim (ho1 k) (fun q=>by have:=hK1.size;omega)
 refine⟨a,c,s1,m1,c1,w1,s2,m2,c2,w2,rfl,hz,r1,r2,⟨h1.blk.cell rfl,(h1.blk.alloc _).cell rfl,hk1.blk.cell rfl,hk2.blk.cell rfl,hk2.blk.free 1⟩,Lib.hid ?_⟩
 intro W' hW
 have hkc:=kept_cell w2 r 1 (.slice s2 m2 c2)
 have hb:=hk2.blk.set 1 (.slice s2 m2 c2)
 rw[hW]at hkc hb
 have hrr:=h5 r (Or.inl rfl)
 refine⟨.slice s2 m2 c2,y,⟨hb,?_,hk2.loose.kept hkc (fun k q=>hk2.ne.2 k q)⟩,hK2.then_ hkc (fun _ _ q=>q),fun k e=>Or.inr (ho2 k e),fun _=>Or.inl⟩
 have e1:R.L.take i++[(n,[])]++R.L.drop i=R.L.take i++(n,[])::R.L.drop i:=by simp
 rw[e1]at g2
 exact g2.kept hkc (fun k q e=>by have:=ho2 k q;have:k=r:=e;omega)
end
theorem info_i64:(Tryz.prog.info? 3).map (fun i=>(i.zero,i.size,i.bytes))=some (some (.int .i64 0),1,8):=by kernel_rfl
theorem icells_append (l m:List Int):icells (l++m)=icells l++icells m:=by simp[icells]
theorem icells_one (l:List Int):∀ u∈icells l,u.oneCell'=true:=by
 intro u hu
 unfold icells at hu
 simp only[List.mem_map]at hu
 obtain⟨p,_,rfl⟩:=hu
 rfl
theorem int_append {w:World} {v:Value} {L:List Int} (p:Int) (hL:L.length<=100000000) (hrow:Row w 3 1 v (icells L)) :
  ∃ sa n cap w3,(Builtin.append_ #[80,80] 80 #[v,.slice (some ⟨w.heap.size,0,none⟩) 1 1]).run Tryz.prog (w.alloc (.cells #[.int .i64 p] 3)) = .ok (.slice sa n cap) w3 /\
   Row w3 3 1 (.slice sa n cap) (icells (L++[p]))/\Kept (fun x=>v.ownBlock=some x) w w3/\∀ k,(Value.slice sa n cap).ownBlock=some k->v.ownBlock=some k\/w.heap.size<=k:=by
 obtain⟨i0,hi,hz0,hz1,hz2⟩:=info_parts info_i64
 have hnew:=Blk.new w [.int .i64 p] 3
 have hal:Kept (fun _=>False) w (w.alloc (.cells #[.int .i64 p] 3)):=(Kept.refl _ _).alloc _
 have hkl:(icells L).length=L.length:=icells_len L
 obtain⟨v',w3,hrun,hrow3,hk3,hf3⟩:=Row.append_cells (P:=Tryz.prog) (t:=80) (hrow.kept hal (fun _ _=>id)) Tryz.underlying80 hi hz0 hz1 rfl (by decide) (by rw[hz2];decide) ⟨w.heap.size,0,none⟩ 1 1 [.int .i64 p] rfl
  (fun j u hu=>by rw[addr0_add];exact hnew.cell hu) (fun u hu=>by simp at hu;rcases hu with rfl;rfl) (by decide) (by simp;omega) 80
 obtain⟨sa,n,cap,rfl,_⟩:=hrow3.form (by omega)
 refine⟨sa,n,cap,w3,hrun,?_,(hal.mono (fun _ _=>False.elim)).trans hk3,fun k hk=>(hf3 k hk).imp id (fun q=>by have:=hal.size;omega)⟩
 rw[icells_append]
 exact hrow3
theorem ints_append {w:World} {v u:Value} {L M:List Int} (hL:L.length+M.length<=100000000) (hrow:Row w 3 1 v (icells L)) (hview:View w 1 u (icells M)) :
  ∃ sa n cap w3,(Builtin.append_ #[80,80] 80 #[v,u]).run Tryz.prog w = .ok (.slice sa n cap) w3 /\
   Row w3 3 1 (.slice sa n cap) (icells (L++M))/\Kept (fun x=>v.ownBlock=some x) w w3/\∀ k,(Value.slice sa n cap).ownBlock=some k->v.ownBlock=some k\/w.heap.size<=k:=by
 obtain⟨i0,hi,hz0,hz1,hz2⟩:=info_parts info_i64
 have hkl:(icells L).length=L.length:=icells_len L
 have hkm:(icells M).length=M.length:=icells_len M
 obtain⟨v',w3,hrun,hrow3,hk3,hf3⟩:=Row.append_view (P:=Tryz.prog) (t:=80) hrow hview Tryz.underlying80 hi hz0 hz1 rfl (by decide) (by rw[hz2];decide) (icells_one M) (by omega) 80
 obtain⟨sa,n,cap,rfl,_⟩:=hrow3.form (by omega)
 exact⟨sa,n,cap,w3,hrun,by rw[icells_append];exact hrow3,hk3,hf3⟩
theorem int_len {w:World} {a:Option Addr} {n c:Nat} {l:List Int} (h:Row w 3 1 (.slice a n c) (icells l)):n=l.length:=by
 obtain⟨_,n',_,hv,q,_⟩:=h.form (by omega)
 cases hv
 rw[icells_len]at q
 omega
theorem file_len {w:World} {a:Option Addr} {n c:Nat} {l:List (Int × By)} (h:Row w 87 2 (.slice a n c) (fcells l)):n=l.length:=by
 obtain⟨_,n',_,hv,q,_⟩:=h.form (by omega)
 cases hv
 rw[fcells_len]at q
 omega
def datL (L:List (Int × By)) (i:Nat):By:=(L.getD i (0,[])).2
def setL (L:List (Int × By)) (i:Nat) (b:By):List (Int × By):=L.set i ((L.getD i (0,[])).1,b)
theorem setL_at {L:List (Int × By)} {i:Nat} {p:Int × By} (hp:L[i]? = some p) (b:By):setL L i b=L.set i (p.1,b)/\datL L i=p.2:=by
 have e:L.getD i (0,[])=p:=by rw[List.getD_eq_getElem?_getD,hp];rfl
 unfold setL datL
 rw[e]
 exact⟨rfl,rfl⟩
theorem fcells_set {L:List (Int × By)} {i:Nat} {p:Int × By} (hp:L[i]? = some p) (b:By) (rest:List Value):(fcells L++rest).set (i*2+1) (.string (strB b))=fcells (L.set i (p.1,b))++rest:=by
 induction L generalizing i with
 | nil=>simp at hp
 | cons a r ih =>
  cases i with
  | zero =>
   simp at hp
   subst hp
   rw[List.set_cons_zero,fcells_cons,fcells_cons]
   rfl
  | succ i =>
   rw[List.set_cons_succ,fcells_cons,fcells_cons,show(i+1)*2+1=i*2+1+1+1 by omega]
   show _::_::((fcells r++rest).set (i*2+1) _)=_::_::(fcells _++rest)
   rw[ih (by simpa using hp)]
theorem file_set {w:World} {g n c i:Nat} {L:List (Int × By)} {p:Int × By} (h:Row w 87 2 (.slice (some ⟨g,0,none⟩) n c) (fcells L)) (hp:L[i]? = some p) (b:By) :
  w.frozen? ⟨g,i*2+1,none⟩=false/\Row (w.setCell ⟨g,i*2+1,none⟩ (.string (strB b))) 87 2 (.slice (some ⟨g,0,none⟩) n c) (fcells (L.set i (p.1,b))):=by
 rcases h with⟨e,_⟩|⟨g',n',c',rest,e,h1,hb,h2,h3,h4⟩
 ·cases e
 ·cases e
  have h9:=hb.set (i*2+1) (.string (strB b))
  rw[fcells_set hp b rest]at h9
  exact⟨hb.free _,Or.inr ⟨g,n,c,rest,rfl,by rw[fcells_len,List.length_set];rwa[fcells_len]at h1,h9,h2,by rw[fcells_len,List.length_set];rwa[fcells_len]at h3,h4⟩⟩
section
variable {w w' W : World} {r : Nat} {R R' : RefM} {x y x' y' v : Value} {l : List Int}
def LooS (w:World) (r:Nat) (R:RefM) (x y:Value) (v:Value) (l:List Int) (W:World):Prop :=
 IsRef W r R x y/\Kept (· = r) w W/\Row W 3 1 v (icells l)/\(∀ k,v.ownBlock=some k->w.heap.size<=k)/\∀ k,refOwn r x y k->k<w.heap.size
theorem LooS.start (h:IsRef w r R x y):LooS w r R x y (.slice none 0 0) [] w:=⟨h,Kept.refl _ _,Row.nil _ _ _,fun k q=>by simp[Value.ownBlock]at q,fun k q=>h.lt q⟩
theorem LooS.app (h:LooS w r R x y v l W) (hl:l.length<=100000000) (n:Int) :
  ∃ sa m cap w3,(Builtin.append_ #[80,80] 80 #[v,.slice (some ⟨W.heap.size,0,none⟩) 1 1]).run Tryz.prog (W.alloc (.cells #[.int .i64 n] 3)) = .ok (.slice sa m cap) w3/\m=l.length+1/\Hid (LooS w r R x y (.slice sa m cap) (l++[n]) w3):=by
 obtain⟨h1,h2,h3,h4,h5⟩:=h
 obtain⟨sa,m,cap,w3,hr,g1,g2,g3⟩:=int_append n hl h3
 exact⟨sa,m,cap,w3,hr,by rw[int_len g1];simp,Lib.hid ⟨h1.kept g2 (fun k q e=>by have:=h4 k e;have:=h5 k q;omega),h2.then_ g2 (fun k hk e=>by have:=h4 k e;omega),g1,fun k e=>(g3 k e).elim (h4 k) (fun q=>by have:=h2.size;omega),h5⟩⟩
theorem LooS.all (h:LooS w r R x y v l W) {m:List Int} {u:Value} (hl:l.length+m.length<=100000000) (hu:View W 1 u (icells m)) :
  ∃ sa k cap w3,(Builtin.append_ #[80,80] 80 #[v,u]).run Tryz.prog W = .ok (.slice sa k cap) w3/\k=l.length+m.length/\Hid (LooS w r R x y (.slice sa k cap) (l++m) w3):=by
 obtain⟨h1,h2,h3,h4,h5⟩:=h
 obtain⟨sa,m',cap,w3,hr,g1,g2,g3⟩:=ints_append hl h3 hu
 exact⟨sa,m',cap,w3,hr,by rw[int_len g1];simp,Lib.hid ⟨h1.kept g2 (fun k q e=>by have:=h4 k e;have:=h5 k q;omega),h2.then_ g2 (fun k hk e=>by have:=h4 k e;omega),g1,fun k e=>(g3 k e).elim (h4 k) (fun q=>by have:=h2.size;omega),h5⟩⟩
theorem LooS.done (h:LooS w r R x y v l W):W.cell? ⟨r,2,none⟩=some y/\W.frozen? ⟨r,2,none⟩=false/\∀ W',W.setCell ⟨r,2,none⟩ v=W'->IsRef W' r { R with loose:=l } x v/\Kept (· = r) w W'/\∀ k,v.ownBlock=some k->w.heap.size<=k:=by
 obtain⟨h1,h2,h3,h4,h5⟩:=h
 refine⟨h1.blk.cell rfl,h1.blk.free 2,fun W' hW=>?_⟩
 have hk:=kept_cell W r 2 v
 have hb:=h1.blk.set 2 v
 rw[hW]at hk hb
 have hr:=h5 r (Or.inl rfl)
 exact⟨⟨hb,h1.files.kept hk (fun k q=>h1.ne.1 k q),h3.kept hk (fun k q e=>by have:=h4 k q;have:k=r:=e;omega)⟩,h2.then_ hk (fun _ _ q=>q),h4⟩
theorem IsRef.relay (h:IsRef w r R x y) (hR:R.L.length<=100) {i:Nat} {p:Int × By} (hp:R.L[i]? = some p) (b:By) :
  ∃ g n c w1,(Builtin.append_ #[79,79] 79 #[.slice none 0 0,x]).run Tryz.prog w = .ok (.slice (some ⟨g,0,none⟩) n c) w1/\n=R.L.length/\i<n /\
   w1.cell? ⟨g,i*2+1,none⟩=some (.string (strB p.2))/\w1.frozen? ⟨g,i*2+1,none⟩=false/\(w1.setCell ⟨g,i*2+1,none⟩ (.string (strB b))).cell? ⟨r,1,none⟩=some x/\(w1.setCell ⟨g,i*2+1,none⟩ (.string (strB b))).frozen? ⟨r,1,none⟩=false /\
   Hid (∀ W',(w1.setCell ⟨g,i*2+1,none⟩ (.string (strB b))).setCell ⟨r,1,none⟩ (.slice (some ⟨g,0,none⟩) n c)=W'->IsRef W' r { R with L:=R.L.set i (p.1,b) } (.slice (some ⟨g,0,none⟩) n c) y/\Kept (· = r) w W'/\∀ k,(Value.slice (some ⟨g,0,none⟩) n c).ownBlock=some k->w.heap.size<=k):=by
 have hi:=(List.getElem?_eq_some_iff.1 hp).1
 obtain⟨sa,n,c,w1,hr,g1,g2,g3⟩:=files_append (L:=[]) (by simp;omega) (Row.nil w _ _) h.files.view
 rw[List.nil_append]at g1
 have hn:=file_len g1
 have hK:Kept (fun _=>False) w w1:=g2.mono (fun k _ e=>by simp[Value.ownBlock]at e)
 have h1:=h.same hK
 obtain⟨a',n',c',hv,hn',hml,hcc⟩:=g1.form (by omega)
 cases hv
 obtain⟨g,rfl,hg,hcell⟩:=hcc (by omega)
 have hgw:∀ k,(Value.slice (some ⟨g,0,none⟩) n c).ownBlock=some k->w.heap.size<=k:=fun k e=>(g3 k e).elim (fun q=>by simp[Value.ownBlock]at q) id
 have hgg:=hgw g hg
 obtain⟨f1,f2⟩:=file_set g1 hp b
 have hrw:=h.blk.lt
 have k1:=kept_cell w1 g (i*2+1) (.string (strB b))
 have h2:IsRef (w1.setCell ⟨g,i*2+1,none⟩ (.string (strB b))) r R x y:=h1.kept k1 (fun k q e=>by have:=h.lt q;have:k=g:=e;omega)
 refine⟨g,n,c,w1,hr,hn,by omega,hcell _ _ (fcells_get _ _ _ hp).2,f1,h2.blk.cell rfl,h2.blk.free 1,Lib.hid (fun W' hW=>?_)⟩
 have k2:=kept_cell (w1.setCell ⟨g,i*2+1,none⟩ (.string (strB b))) r 1 (.slice (some ⟨g,0,none⟩) n c)
 have hb:=h2.blk.set 1 (.slice (some ⟨g,0,none⟩) n c)
 rw[hW]at k2 hb
 refine⟨⟨hb,f2.kept k2 (fun k q e=>by have:=hgw k q;have:k=r:=e;omega),h2.loose.kept k2 (fun k q=>h2.ne.2 k q)⟩,?_,hgw⟩
 exact((hK.mono (S':=(· = r)) (fun _ _=>False.elim)).then_ k1 (fun k hk e=>by have:k=g:=e;omega)).then_ k2 (fun _ _ q=>q)
end
section
variable {w w' W : World} {r : Nat} {R R' : RefM} {x y x' y' v : Value} {l : List Int}
theorem at_up (hd:R.down=false) (n:Int):R.at_ n=if findV R.L n<0 then(-1,4)else(findV R.L n,0):=by
 unfold RefM.at_
 rw[if_neg (by rw[hd];simp)]
theorem replicate_snoc (k:Nat) (n:Int):List.replicate k n++[n]=List.replicate (k+1) n:=by rw[List.replicate_succ']
theorem append_okr {R R1:RefM} (hR:R.Ok) (hR1:R1 = { R with L:=R1.L }) {l:List Int} {R2:RefM} (h2:R2 = { R1 with loose:=l }):0<=R2.fails/\R2.fails<=2000000000000:=by
 rw[h2]
 show 0<=R1.fails/\_
 rw[hR1]
 exact hR.fail0
end
def cutStep (n:Int) (st:Int × List Int) (a:Int):Int × List Int:=if a=n/\0<st.1 then(st.1-1,st.2)else(st.1,st.2++[a])
def cutF11 (n less:Int) (l:List Int):Int × List Int:=l.foldl (cutStep n) (less,[])
def cutR (n less:Int) (l:List Int):List Int:=(cutF11 n less l.reverse).2.reverse
theorem cutF11_snoc (n less:Int) (l:List Int) (a:Int):cutF11 n less (l++[a])=cutStep n (cutF11 n less l) a:=by simp[cutF11]
theorem drop_rev {l:List Int} {j:Nat} {a:Int} (h:l[j]? = some a):(l.drop j).reverse=(l.drop (j+1)).reverse++[a]:=by
 obtain⟨hj,e⟩:=List.getElem?_eq_some_iff.1 h
 rw[List.drop_eq_getElem_cons hj,e,List.reverse_cons]
theorem cutStep_len (n:Int) (st:Int × List Int) (a:Int):(cutStep n st a).2.length<=st.2.length+1:=by
 unfold cutStep
 split
 ·simp only;omega
 ·simp only[List.length_append,List.length_singleton];omega
theorem cutStep_less (n:Int) (st:Int × List Int) (a:Int) (h:0<=st.1):0<=(cutStep n st a).1/\(cutStep n st a).1<=st.1:=by
 unfold cutStep
 split
 ·rename_i q;simp only;omega
 ·simp only;omega
theorem cutF11_len (n less:Int) (l:List Int):(cutF11 n less l).2.length<=l.length:=by
 have h:∀ (l:List Int) (st:Int × List Int),(l.foldl (cutStep n) st).2.length<=st.2.length+l.length:=by
  intro l
  induction l with
  | nil=>intro st;simp
  | cons a l ih =>
   intro st
   have h1:=ih (cutStep n st a)
   have h2:=cutStep_len n st a
   rw[List.foldl_cons,List.length_cons]
   omega
 have:=h l (less,[])
 simpa[cutF11]using this
theorem cutF11_less (n less:Int) (l:List Int) (h0:0<=less):0<=(cutF11 n less l).1/\(cutF11 n less l).1<=less:=by
 have h:∀ (l:List Int) (st:Int × List Int),0<=st.1->0<=(l.foldl (cutStep n) st).1/\(l.foldl (cutStep n) st).1<=st.1:=by
  intro l
  induction l with
  | nil=>intro st h;simp;exact h
  | cons a l ih =>
   intro st h
   have h1:=cutStep_less n st a h
   have h2:=ih (cutStep n st a) h1.1
   rw[List.foldl_cons]
   omega
 exact h l (less,[]) h0
section
variable {w w' W : World} {r : Nat} {R R' : RefM} {x y x' y' v : Value} {l : List Int}
theorem LooS.cell (h:LooS w r R x y v l W):∃ a c,v = .slice a l.length c/\∀ (i:Nat) (n:Int),l[i]? = some n->∃ g,a=some ⟨g,0,none⟩/\W.cell? ⟨g,i,none⟩=some (.int .i64 n):=by
 obtain⟨a,n,c,rfl,hn,_,hc⟩:=h.2.2.1.form (by omega)
 rw[icells_len]at hn
 obtain rfl:n=l.length:=by omega
 refine⟨a,c,rfl,fun i p hp=>?_⟩
 have hi:=(List.getElem?_eq_some_iff.1 hp).1
 obtain⟨g,rfl,_,hg⟩:=hc (by omega)
 exact⟨g,rfl,hg i _ (by unfold icells;rw[List.getElem?_map,hp];rfl)⟩
theorem cut_ref (h:IsRef w r R x y) (hl:R.loose.length<=10000000) (n less:Int) (h0:0<=less/\less<=100000000) :
  Calls Tryz.prog 86 #[.pointer (some ⟨r,0,none⟩),.int .i64 n,.int .i64 less] w fun e w'=>e = .returned (.tuple #[])/\∃ y',IsRef w' r { R with loose:=cutR n less R.loose } x y'/\Kept (· = r) w w'/\∀ k,y'.ownBlock=some k->w.heap.size<=k:=by
 obtain⟨a,c,rfl,hc⟩:=h.lform
 have c2:=h.blk.cell (i:=2) rfl
 have HS0:=Lib.hid (LooS.start h)
 have HC:=Lib.hid hc
 clear h hc
 go_enter Tryz.func86,Tryz.ntmps86
 go_wp2_with fail
 go_loopw [2,6,7] (fun z2 z6 z7 wr=>∃ (j:Nat) (sa:Option Addr) (sc:Nat),j<=R.loose.length/\z2 = .int .i64 (cutF11 n less (R.loose.drop j).reverse).1/\z6 = .slice sa (cutF11 n less (R.loose.drop j).reverse).2.length sc/\z7 = .int .i64 ((j:Int)-1)/\Hid (LooS w r R x (.slice a R.loose.length c) (.slice sa (cutF11 n less (R.loose.drop j).reverse).2.length sc) (cutF11 n less (R.loose.drop j).reverse).2 wr)) (fun _ _ z7 _=>((intOf z7)+1).toNat)
 case atStart=>exact⟨R.loose.length,none,0,Nat.le_refl _,by simp[cutF11],by simp[cutF11],by first|rfl|(congr 1;exact IntWalk.wrap64_in _ (by omega))|(rw[IntWalk.wrap64_in _ (by omega)]),by simp only[List.drop_length,List.reverse_nil];exact HS0⟩
 case round =>
  obtain⟨j,sa,sc,hj,rfl,rfl,rfl,HS⟩:=hrel
  have hlen:=cutF11_len n less (R.loose.drop j).reverse
  have hless:=cutF11_less n less (R.loose.drop j).reverse h0.1
  rw[List.length_reverse,List.length_drop]at hlen
  obtain⟨st,hst⟩:∃ st,cutF11 n less (R.loose.drop j).reverse=st:=⟨_,rfl⟩
  rw[hst]at HS hlen hless ⊢
  have HJ:=Lib.hid (And.intro hj (And.intro hlen (And.intro hless hst)))
  rcases j with _|j
  ·obtain⟨l2,hl2⟩:∃ l2,l2=st.2:=⟨_,rfl⟩
   have hcut:cutR n less R.loose=l2.reverse:=by
    unfold cutR
    rw[hl2,<- hst,List.drop_zero]
   have hl2b:l2.length<=10000000:=by rw[hl2];omega
   rw[<- hl2]at HS
   have HCU:=Lib.hid hcut
   obtain⟨_,_,hq,hcells⟩:=HS.out.cell
   simp only[Value.slice.injEq]at hq
   obtain⟨rfl,-,rfl⟩:=hq
   obtain⟨s1,hs1⟩:∃ s1:Int,s1=st.1:=⟨_,rfl⟩
   rw[<- hs1,<- hl2]
   have HCB:=Lib.hid hcells
   have HS2:=Lib.hid (LooS.start HS.out.1)
   clear hj hlen hless hst HJ hcells hcut hl2 hs1 HS0
   rw[show((0:Nat):Int)-1 = -1 from rfl]
   go_wp2_with fail
   go_loopw [8,9] (fun z8 z9 wq=>∃ (j:Nat) (sb:Option Addr) (m sd:Nat),j<=l2.length/\z8 = .slice sb m sd/\z9 = .int .i64 ((j:Int)-1)/\Hid (LooS wr r R x (.slice a R.loose.length c) (.slice sb m sd) (l2.drop j).reverse wq)) (fun _ z9 _=>((intOf z9)+1).toNat)
   case atStart=>exact⟨l2.length,none,0,0,Nat.le_refl _,rfl,by first|rfl|(rw[IntWalk.wrap64_in _ (by omega)]),by simp only[List.drop_length,List.reverse_nil];exact HS2⟩
   case round =>
    obtain⟨j,sb,m,sd,hj,rfl,rfl,HT⟩:=hrel
    rcases j with _|j
    ·have z1:decide ((0:Int)<=((0:Nat):Int)-1)=false:=by decide
     obtain⟨d2,f2,hdone⟩:=HT.out.done
     have HDN:=Lib.hid hdone
     clear hdone hj
     go_wp2_with fail
     generalize hW:World.setCell _ _ _=W9
     obtain⟨g1,g2,g3⟩:=HDN.out W9 hW
     go_end0
     refine⟨rfl,_,?_,HS.out.2.1.then_ g2 (fun _ _ q=>q),fun k q=>by have:=g3 k q;have:=HS.out.2.1.size;omega⟩
     rw[HCU.out]
     exact g1
    ·have z1:decide ((0:Int)<=((j+1:Nat):Int)-1)=true:=decide_eq_true (by omega)
     obtain⟨v,hv⟩:∃ v,l2[j]? = some v:=⟨_,List.getElem?_eq_getElem (by omega)⟩
     obtain⟨g,rfl,hg⟩:=HCB.out j v hv
     have hgr:g≠r:=HS.out.2.2.1.ne_blk (k:=g) rfl HS.out.1.blk (by decide)
     have hgq:=HT.out.2.1.cell hg (fun e=>hgr e)
     have hjl:((j:Int)<(l2.length:Int))=True:=eq_true (by omega)
     have hjb:j<=10000000:=by omega
     rw[show((j+1:Nat):Int)-1=(j:Int) by omega]at z1 ⊢
     obtain⟨sc9,m9,cap9,w5,hap,-,HT5⟩:=HT.out.app (by rw[List.length_reverse,List.length_drop];omega) v
     rw[<- drop_rev hv]at HT5
     have HJ2:=Lib.hid (show j<=l2.length by omega)
     clear hg hgr hj hv
     go_wp2_with (at_builtin;refine Lib.wpList_append_run _ rfl _ _ 80 80 rfl _ _ rfl rfl _ _ hap ?_)
     go_roundw
     case rel=>exact⟨j,sc9,m9,cap9,HJ2.out,rfl,by go_num,HT5⟩
     case measure=>first|(simp[intOf];done)|(simp[intOf];omega)
  ·have z1:decide ((0:Int)<=((j+1:Nat):Int)-1)=true:=decide_eq_true (by omega)
   obtain⟨v,hv⟩:∃ v,R.loose[j]? = some v:=⟨_,List.getElem?_eq_getElem (by omega)⟩
   obtain⟨a',c',hq,hcells⟩:=HS.out.1.lform
   simp only[Value.slice.injEq]at hq
   obtain⟨rfl,-,rfl⟩:=hq
   obtain⟨g,rfl,hg⟩:=hcells j v hv
   have d2:=HS.out.1.blk.cell (i:=2) rfl
   have hjl:((j:Int)<(R.loose.length:Int))=True:=eq_true (by omega)
   have hjb:j<=10000000:=by omega
   rw[show((j+1:Nat):Int)-1=(j:Int) by omega]at z1 ⊢
   have hst2:cutF11 n less (R.loose.drop j).reverse=cutStep n st v:=by rw[drop_rev hv,cutF11_snoc,hst]
   have HST:=Lib.hid hst2
   obtain⟨s1,l1⟩:=st
   dsimp only at HS hlen hless ⊢
   have HJ2:=Lib.hid (show j<=R.loose.length by omega)
   by_cases hb:v=n/\0<s1
   ·have z2:(v==n)=true:=by simpa using hb.1
    have z3:decide (0<s1)=true:=decide_eq_true hb.2
    have hs1:0<=s1/\s1<=100000000:=by omega
    have hE:cutStep n (s1,l1) v=(s1-1,l1):=by unfold cutStep;rw[if_pos hb]
    rw[hE]at HST
    clear hb hE hst hst2 HJ hlen hless hcells hv hj
    go_wp2_with fail
    go_roundw
    case rel=>exact⟨j,sa,sc,HJ2.out,by rw[HST.out],by rw[HST.out],by go_num,by rw[HST.out];exact HS⟩
    case measure=>first|(simp[intOf];done)|(simp[intOf];omega)
   ·have hE:cutStep n (s1,l1) v=(s1,l1++[v]):=by unfold cutStep;rw[if_neg hb]
    rw[hE]at HST
    obtain⟨sc9,m9,cap9,w5,hap,hm9,HT5⟩:=HS.out.app (by omega) v
    have HM:=Lib.hid hm9
    have hs1:0<=s1/\s1<=100000000:=by omega
    by_cases hvn:v=n
    ·have z2:(v==n)=true:=by simpa using hvn
     have z3:decide (0<s1)=false:=decide_eq_false (fun q=>hb ⟨hvn,q⟩)
     clear hb hE hst hst2 HJ hlen hless hcells hv hj hvn hm9
     go_wp2_with (at_builtin;refine Lib.wpList_append_run _ rfl _ _ 80 80 rfl _ _ rfl rfl _ _ hap ?_)
     go_roundw
     case rel=>exact⟨j,sc9,cap9,HJ2.out,by rw[HST.out],by rw[HST.out,HM.out];simp,by go_num,by rw[HST.out];have:=HT5;rw[HM.out]at this;simpa using this⟩
     case measure=>first|(simp[intOf];done)|(simp[intOf];omega)
    ·have z2:(v==n)=false:=by simpa using hvn
     clear hb hE hst hst2 HJ hlen hless hcells hv hj hvn hm9
     go_wp2_with (at_builtin;refine Lib.wpList_append_run _ rfl _ _ 80 80 rfl _ _ rfl rfl _ _ hap ?_)
     go_roundw
     case rel=>exact⟨j,sc9,cap9,HJ2.out,by rw[HST.out],by rw[HST.out,HM.out];simp,by go_num,by rw[HST.out];have:=HT5;rw[HM.out]at this;simpa using this⟩
     case measure=>first|(simp[intOf];done)|(simp[intOf];omega)
end
theorem take_strB (l:By) (k:Nat):(strB l).extract 0 k=strB (l.take k):=bstr_eq (by rw[ByteArray.data_extract,Array.toList_extract];simp[List.extract_eq_take_drop])
section
variable {w w' W : World} {r : Nat} {R R' : RefM} {x y x' y' v : Value} {l : List Int}
end
def expandL (l:List (Int × Nat)):List Int:=l.flatMap fun p=>List.replicate p.2 p.1
theorem expandL_append (l m:List (Int × Nat)):expandL (l++m)=expandL l++expandL m:=by simp[expandL]
theorem expandL_count (l:List (Int × Nat)) (n:Int):(expandL l).count n=DiskM.looseOf l n:=by
 induction l with
 | nil=>rfl
 | cons p r ih =>
  have e:expandL (p::r)=List.replicate p.2 p.1++expandL r:=by simp[expandL]
  rw[e,List.count_append,ih,looseOf_cons,List.count_replicate]
  by_cases h:p.1=n
  ·simp[h]
  ·have h2:¬ n=p.1:=fun q=>h q.symm
   simp[h]
def keepF (n:Int):Nat->List Int->List Int
 | _,[]=>[]
 | s,a::r=>if a=n then(match s with|0=>keepF n 0 r|s+1=>a::keepF n s r)else a::keepF n s r
theorem keepF_ne {n a:Int} (h:¬ a=n) (s:Nat) (r:List Int):keepF n s (a::r)=a::keepF n s r:=by simp[keepF,h]
theorem keepF_zero (n:Int) (r:List Int):keepF n 0 (n::r)=keepF n 0 r:=by simp[keepF]
theorem keepF_succ (n:Int) (s:Nat) (r:List Int):keepF n (s+1) (n::r)=n::keepF n s r:=by simp[keepF]
theorem cutF11_cons (n less:Int) (a:Int) (X:List Int):cutF11 n less (a::X).reverse=cutStep n (cutF11 n less X.reverse) a:=by rw[List.reverse_cons,cutF11_snoc]
theorem cut_left (n:Int) (less:Nat) (X:List Int):(cutF11 n less X.reverse).1=((less-X.count n:Nat):Int):=by
 induction X with
 | nil=>simp[cutF11]
 | cons a r ih =>
  rw[cutF11_cons]
  unfold cutStep
  by_cases h:a=n
  ·subst h
   rw[List.count_cons_self]
   by_cases h2:0<(cutF11 a less r.reverse).1
   ·rw[if_pos ⟨rfl,h2⟩];dsimp only;omega
   ·rw[if_neg (fun q=>h2 q.2)];dsimp only;omega
  ·rw[if_neg (fun q=>h q.1),List.count_cons_of_ne h];exact ih
theorem cut_keep (n:Int) (less:Nat) (X:List Int):cutR n less X=keepF n (X.count n-less) X:=by
 unfold cutR
 induction X with
 | nil=>simp[cutF11,keepF]
 | cons a r ih =>
  have hl:=cut_left n less r
  rw[cutF11_cons]
  unfold cutStep
  by_cases h:a=n
  ·subst h
   rw[List.count_cons_self]
   by_cases h2:0<(cutF11 a less r.reverse).1
   ·rw[if_pos ⟨rfl,h2⟩]
    dsimp only
    rw[ih,show r.count a+1-less=0 by omega,keepF_zero,show r.count a-less=0 by omega]
   ·rw[if_neg (fun q=>h2 q.2)]
    dsimp only
    rw[List.reverse_append,List.reverse_singleton,List.singleton_append,ih,show r.count a+1-less=(r.count a-less)+1 by omega,keepF_succ]
  ·rw[if_neg (fun q=>h q.1),List.count_cons_of_ne h]
   dsimp only
   rw[List.reverse_append,List.reverse_singleton,List.singleton_append,ih,keepF_ne h]
theorem keepF_rep (n:Int) (k s:Nat) (r:List Int):keepF n s (List.replicate k n++r)=List.replicate (min k s) n++keepF n (s-min k s) r:=by
 induction k generalizing s with
 | zero=>simp
 | succ k ih =>
  rw[List.replicate_succ,List.cons_append]
  cases s with
  | zero=>rw[keepF_zero,ih];simp
  | succ s =>
   rw[keepF_succ,ih,show min (k+1) (s+1)=min k s+1 by omega,List.replicate_succ,List.cons_append,show s+1-(min k s+1)=s-min k s by omega]
theorem keepF_other {n a:Int} (h:¬ a=n) (k s:Nat) (r:List Int):keepF n s (List.replicate k a++r)=List.replicate k a++keepF n s r:=by
 induction k with
 | zero=>simp
 | succ k ih=>rw[List.replicate_succ,List.cons_append,keepF_ne h,ih,List.cons_append]
theorem drop_keep (n:Int) (l:List (Int × Nat)) (s:Nat):expandL (DiskM.dropL n l s)=keepF n s (expandL l):=by
 induction l generalizing s with
 | nil=>rfl
 | cons p r ih =>
  have e:∀ (q:Int × Nat) (m:List (Int × Nat)),expandL (q::m)=List.replicate q.2 q.1++expandL m:=fun q m=>by simp[expandL]
  unfold DiskM.dropL
  by_cases h:p.1=n
  ·rw[if_pos h,e,e,ih]
   dsimp only
   rw[h,keepF_rep]
  ·rw[if_neg h,e,e,ih,keepF_other h]
theorem count_room:∀ (L:List (Int × By)) (X:List Int),AM.Rise L->(∀ n,X.count n<=((AM.get L n).getD []).length)->X.length<=AM.sum List.length L
 | [],X,_,h=>by
  have:X=[]:=by
   cases X with
   | nil=>rfl
   | cons a r =>
    have:=h a
    rw[List.count_cons_self]at this
    simp[AM.get]at this
  subst this
  simp
 | p::L,X,hr,h=>by
  obtain⟨r1,r2⟩:=List.pairwise_cons.1 hr
  have h1:=count_room L (X.filter (fun a=>!decide (a=p.1))) r2 (fun n=>by
   by_cases hn:n=p.1
   ·subst hn
    rw[List.count_eq_zero.2 (by simp)]
    omega
   ·rw[List.count_filter (by simpa using hn)]
    have:=h n
    rw[AM.get,List.find?_cons]at this
    have e:decide (p.1=n)=false:=decide_eq_false (fun q=>hn q.symm)
    rw[e]at this
    exact this)
  have h2:=h p.1
  have e2:AM.get (p::L) p.1=some p.2:=by simp[AM.get]
  rw[e2]at h2
  have h3:X.length=(X.filter (fun a=>!decide (a=p.1))).length+X.count p.1:=by
   rw[List.count_eq_countP,<- List.countP_eq_length_filter,Nat.add_comm]
   rw[List.length_eq_countP_add_countP (fun a=>a==p.1)]
   congr 1
   exact List.countP_congr (fun a _=>by simp)
  rw[AM.sum_cons,h3]
  simp only[Option.getD_some]at h2
  omega
theorem find_get {L:List (Int × By)} (hr:AM.Rise L) (n:Int):(AM.get L n=none/\findV L n = -1)\/∃ (i:Nat) (b:By),AM.get L n=some b/\findV L n=(i:Int)/\L[i]? = some (n,b):=by
 rcases findV_cases L n with⟨h1,h2⟩|⟨i,p,h1,h2,h3⟩
 ·exact Or.inl ⟨AM.get_none.2 h2,h1⟩
 ·refine Or.inr ⟨i,p.2,(AM.get_some hr).2 ?_,h1,?_⟩
  ·rw[<- h3];exact List.mem_of_getElem? h2
  ·rw[h2,<- h3]
theorem rise_at {p:Int × By} {L:List (Int × By)} (hr:AM.Rise (p::L)) {n:Int} {b:By} {i:Nat} (h:L[i]? = some (n,b)):p.1<n:=(List.pairwise_cons.1 hr).1 (n,b) (List.mem_of_getElem? h)
theorem del_above {L:List (Int × By)} {n:Int} (h:∀ q∈L,n<q.1):AM.del L n=L:=by
 unfold AM.del
 rw[List.filter_eq_self]
 intro q hq
 have:=h q hq
 have:¬ q.1=n:=by omega
 simpa using this
theorem ins_above {L:List (Int × By)} {n:Int} (v:By) (h:∀ q∈L,n<q.1):AM.ins n v L=(n,v)::L:=by
 cases L with
 | nil=>rfl
 | cons a r=>unfold AM.ins;rw[if_pos (h a (by simp))]
theorem set_at:∀ {L:List (Int × By)} {n:Int} {b:By} {i:Nat},AM.Rise L->L[i]? = some (n,b)->∀ v:By,L.set i (n,v)=AM.set L n v
 | [],_,_,_,_,h,_=>by simp at h
 | p::L,n,b,0,hr,h,v=>by
  simp at h
  subst h
  have ha:=(List.pairwise_cons.1 hr).1
  unfold AM.set AM.del
  rw[List.filter_cons_of_neg (by simp)]
  have e:=del_above (L:=L) (n:=n) ha
  unfold AM.del at e
  rw[e,ins_above v ha]
  rfl
 | p::L,n,b,i+1,hr,h,v=>by
  have h2:L[i]? = some (n,b):=by simpa using h
  have hlt:=rise_at hr h2
  have ih:=set_at (List.pairwise_cons.1 hr).2 h2 v
  unfold AM.set AM.del at ih ⊢
  have hpn:¬ p.1=n:=by omega
  rw[List.filter_cons_of_pos (by simpa using hpn),List.set_cons_succ]
  unfold AM.ins
  rw[if_neg (by omega),ih]
theorem made_at:∀ {L:List (Int × By)} {n:Int},AM.get L n=none->madeL L n=AM.set L n []
 | [],n,_=>rfl
 | p::L,n,h=>by
  have hne:∀ q∈p::L,q.1≠n:=AM.get_none.1 h
  have hpn:¬ p.1=n:=hne p (by simp)
  have h2:AM.get L n=none:=AM.get_none.2 (fun q hq=>hne q (by simp[hq]))
  have ih:=made_at h2
  have e1:=AM.del_none h
  have e2:=AM.del_none h2
  unfold madeL AM.set at ih ⊢
  rw[e2]at ih
  rw[e1]
  unfold AM.ins
  by_cases hlt:p.1<n
  ·rw[List.takeWhile_cons_of_pos (by simpa using hlt),List.dropWhile_cons_of_pos (by simpa using hlt),if_neg (by omega),List.cons_append,ih]
  ·rw[List.takeWhile_cons_of_neg (by simpa using hlt),List.dropWhile_cons_of_neg (by simpa using hlt),if_pos (by omega)]
   rfl
section
variable {M M' : DiskM} {R R' : RefM} {e : Int}
theorem set_few {L:List (Int × By)} (hr:AM.Rise L) {n:Int} {b v:By} (hg:AM.get L n=some b):(AM.set L n v).length=L.length:=by
 rcases find_get hr n with⟨g1,_⟩|⟨i,c,g1,_,g3⟩
 ·rw[g1]at hg;cases hg
 ·rw[<- set_at hr g3 v,List.length_set]
variable {w : World} {r : Nat} {x y : Value}
end
section
variable {w w1 w2 w' : World} {d r : Nat} {M : DiskM} {B : Nat → Prop} {x y : Value}
theorem expand_len (l:List (Int × Nat)):(expandL l).length=DiskM.looseAll l:=by
 induction l with
 | nil=>rfl
 | cons p q ih =>
  have e:expandL (p::q)=List.replicate p.2 p.1++expandL q:=by simp[expandL]
  have e2:DiskM.looseAll (p::q)=p.2+DiskM.looseAll q:=by simp[DiskM.looseAll]
  rw[e,e2,List.length_append,List.length_replicate,ih]
theorem loose_ap (h:Apart B d M w):Calls Tryz.prog 51 #[.pointer (some ⟨d,0,none⟩)] w fun e w'=>e = .returned (.int .i64 (expandL M.loose).length)/\Kept (fun _=>False) w w':=by
 obtain⟨_,_,fp,h1,_⟩:=h
 have:=loose_any w h1
 rwa[<- expand_len]at this
end
theorem Row.putAt {w:World} {e:TypeId} {size:Nat} {v:Value} {xs:List Value} (h:Row w e size v xs) {g:Nat} (hg:v.ownBlock=some g) (i:Nat) (hi:i<xs.length) (u:Value):Row (w.setCell ⟨g,i,none⟩ u) e size v (xs.set i u)/\Kept (· = g) w (w.setCell ⟨g,i,none⟩ u):=by
 rcases h with⟨rfl,rfl⟩|⟨g',n,cap,rest,rfl,h1,hb,h2,h3,h4⟩
 ·simp at hi
 ·simp[Value.ownBlock]at hg
  subst hg
  have hs:=hb.set i u
  rw[List.set_append_left _ _ hi]at hs
  exact⟨Or.inr ⟨g',n,cap,rest,rfl,by rw[List.length_set];exact h1,hs,h2,by rw[List.length_set];exact h3,h4⟩,kept_cell w g' i u⟩
theorem rise_inj {L:List (Int × By)} (hr:AM.Rise L) {i j:Nat} {p q:Int × By} (hp:L[i]? = some p) (hq:L[j]? = some q) (he:p.1=q.1):i=j:=by
 obtain⟨hi,rfl⟩:=List.getElem?_eq_some_iff.1 hp
 obtain⟨hj,rfl⟩:=List.getElem?_eq_some_iff.1 hq
 unfold AM.Rise at hr
 rw[List.pairwise_iff_getElem]at hr
 rcases Nat.lt_trichotomy i j with h|h|h
 ·have:=hr i j hi hj h;omega
 ·exact h
 ·have:=hr j i hj hi h;omega
def lessN (L:List (Int × By)) (l:List Int) (j:Nat):Nat:=match L[j]? with
 | some p=>l.count p.1
 | none=>0
def lessC (L:List (Int × By)) (l:List Int):List Value:=(List.range 100).map fun j=>.int .i64 (lessN L l j:Int)
theorem lessC_len (L:List (Int × By)) (l:List Int):(lessC L l).length=100:=by simp[lessC]
theorem lessC_nil (L:List (Int × By)):lessC L []=List.replicate 100 (.int .i64 0):=by
 have:∀ j,lessN L [] j=0:=fun j=>by unfold lessN;split<;>simp
 unfold lessC
 simp only[this]
 rfl
theorem lessC_at {L:List (Int × By)} (l:List Int) {j:Nat} (hj:j<100) {p:Int × By} (hp:L[j]? = some p):(lessC L l)[j]? = some (.int .i64 (l.count p.1:Nat)):=by
 unfold lessC
 rw[List.getElem?_map,List.getElem?_range hj]
 simp only[Option.map_some,lessN,hp]
theorem lessC_snoc {L:List (Int × By)} (hr:AM.Rise L) (l:List Int) {i:Nat} {p:Int × By} (hi:i<100) (hp:L[i]? = some p):(lessC L l).set i (.int .i64 ((l.count p.1+1:Nat):Int))=lessC L (l++[p.1]):=by
 apply List.ext_getElem?
 intro j
 rw[List.getElem?_set,lessC_len]
 by_cases hj:j<100
 ·by_cases hij:i=j
  ·subst hij
   rw[if_pos rfl,if_pos hi,lessC_at _ hi hp,List.count_append,List.count_singleton_self]
  ·rw[if_neg hij]
   unfold lessC
   rw[List.getElem?_map,List.getElem?_map,List.getElem?_range hj]
   simp only[Option.map_some]
   congr 2
   unfold lessN
   cases hq:L[j]? with
   | none=>rfl
   | some q =>
    simp only
    have hne:p.1≠q.1:=fun e=>hij (rise_inj hr hp hq e)
    rw[List.count_append,List.count_singleton,if_neg (by simpa using hne)]
    rfl
 ·rw[List.getElem?_eq_none (by rw[lessC_len];omega)]
  split
  ·omega
  ·rw[List.getElem?_eq_none (by rw[lessC_len];omega)]
def cutTo (L:List (Int × By)) (l:List Int) (i:Nat):List (Int × By):=(L.take i).map (fun p=>(p.1,p.2.take (p.2.length-l.count p.1)))++L.drop i
theorem cutTo_len (L:List (Int × By)) (l:List Int) (i:Nat):(cutTo L l i).length=L.length:=by unfold cutTo;rw[List.length_append,List.length_map,List.length_take,List.length_drop];omega
theorem cutTo_at {L:List (Int × By)} (l:List Int) {i:Nat} {p:Int × By} (hp:L[i]? = some p):(cutTo L l i)[i]? = some p:=by
 have hi:=(List.getElem?_eq_some_iff.1 hp).1
 have hl:((L.take i).map (fun p:Int × By=>(p.1,p.2.take (p.2.length-l.count p.1)))).length=i:=by rw[List.length_map,List.length_take];omega
 unfold cutTo
 rw[List.getElem?_append_right (by omega),hl,Nat.sub_self,List.getElem?_drop,Nat.add_zero,hp]
theorem cutTo_next {L:List (Int × By)} (l:List Int) {i:Nat} {p:Int × By} (hp:L[i]? = some p):(fcells (cutTo L l i)).set (i*2+1) (.string (strB (p.2.take (p.2.length-l.count p.1))))=fcells (cutTo L l (i+1)):=by
 obtain⟨hi,e⟩:=List.getElem?_eq_some_iff.1 hp
 have hl:(fcells ((L.take i).map (fun p:Int × By=>(p.1,p.2.take (p.2.length-l.count p.1))))).length=i*2:=by rw[fcells_len,List.length_map,List.length_take];omega
 unfold cutTo
 rw[fcells_append,fcells_append,List.set_append_right _ _ (by omega),hl,show i*2+1-i*2=1 by omega,List.drop_eq_getElem_cons hi,e,fcells_cons,List.take_succ_eq_append_getElem hi,e,List.map_append,fcells_append,List.append_assoc]
 congr 1
theorem cutTo_all (L:List (Int × By)) (l:List Int):cutTo L l L.length=L.map (fun p=>(p.1,p.2.take (p.2.length-l.count p.1))):=by unfold cutTo;rw[List.take_of_length_le (Nat.le_refl _),List.drop_eq_nil_of_le (Nat.le_refl _),List.append_nil]
def RefM.crash (R:RefM) (keep:Int):RefM:={ R with L:=R.L.map (fun p=>(p.1,p.2.take (p.2.length-(R.loose.drop (min (max keep 0) (R.loose.length:Int)).toNat).count p.1))),loose:=[],down:=true,fails:=0 }
section
variable {w w' W : World} {r : Nat} {R R' : RefM} {x y : Value}
theorem crash_ref_down (h:IsRef w r R x y) (hd:R.down=true) (keep:Int) :
  Calls Tryz.prog 55 #[.pointer (some ⟨r,0,none⟩),.int .i64 keep] w fun e w'=>e = .returned (.int .i64 61)/\w=w':=by
 have c3:=h.blk.cell (i:=3) rfl
 rw[hd]at c3
 clear h hd
 go_enter Tryz.func55,Tryz.ntmps55
 go_wp2_with fail
 go_ret
 exact⟨rfl,rfl⟩
theorem crash_ref (h:IsRef w r R x y) (hR:R.Ok) (hd:R.down=false) (hr:AM.Rise R.L) (hF:∀ n∈R.loose,∃ (i:Nat) (p:Int × By),findV R.L n=(i:Int)/\R.L[i]? = some p/\p.1=n) (hC:∀ p∈R.L,R.loose.count p.1<=p.2.length) (keep:Int) :
  Calls Tryz.prog 55 #[.pointer (some ⟨r,0,none⟩),.int .i64 keep] w fun e w'=>e = .returned (.int .i64 0)/\RefTo w r x y (R.crash keep) w':=by
 obtain⟨ya,yc,hye,hyc⟩:=h.lform
 obtain⟨xa,xc,hxe,hxc⟩:=h.form
 have c1:=h.blk.cell (i:=1) rfl
 have c2:=h.blk.cell (i:=2) rfl
 have c3:=h.blk.cell (i:=3) rfl
 rw[hd]at c3
 obtain⟨k,hk⟩:∃ k:Nat,(min (max keep 0) (R.loose.length:Int)).toNat=k:=⟨_,rfl⟩
 have hkl:k<=R.loose.length:=by omega
 have hk1:min (max keep 0) (R.loose.length:Int)=(k:Int):=by omega
 have HCR:=Lib.hid (show R.crash keep = { R with L:=cutTo R.L (R.loose.drop k) R.L.length,loose:=[],down:=true,fails:=0 } by unfold RefM.crash;rw[cutTo_all,hk])
 generalize R.crash keep=RC at *
 have HI:=Lib.hid (And.intro h (And.intro hR (And.intro hr (And.intro hF hC))))
 have HY:=Lib.hid (And.intro hye hyc)
 have HX:=Lib.hid (And.intro hxe hxc)
 have hll:R.loose.length<=10000000:=hR.loo
 rw[hye]at c2
 rw[hxe]at c1
 have C12:=Lib.hid (And.intro c1 c2)
 clear h hR hr hF hC hk hye hyc hxe hxc hd
 go_enter Tryz.func55,Tryz.ntmps55
 go_upto_region 5 with fail
 generalize hW1:World.alloc w _=W1
 obtain⟨lb,hlb⟩:∃ lb,w.heap.size=lb:=⟨_,rfl⟩
 have HB1:Hid (Blk W1 lb (lessC R.L []) 144/\Kept (fun _=>False) w W1):=by
  rw[<- hW1,<- hlb]
  refine Lib.hid ⟨?_,(Kept.refl _ _).alloc _⟩
  rw[lessC_nil]
  exact Blk.new w (List.replicate 100 (.int .i64 0)) 144
 have HLB:=Lib.hid hlb
 simp only[hlb]
 clear hW1 hlb hk1 c1 c2 c3
 go_wp2_with fail
 go_loopw [6] (fun z wr=>∃ j:Nat,k<=j/\j<=R.loose.length/\z = .int .i64 (j:Int)/\Hid (Blk wr lb (lessC R.L ((R.loose.take j).drop k)) 144/\Kept (fun _=>False) w wr)) (fun z _=>R.loose.length-(intOf z).toNat)
 case atStart=>exact⟨k,Nat.le_refl _,hkl,rfl,Lib.hid ⟨by rw[List.drop_eq_nil_of_le (by rw[List.length_take];omega)];exact HB1.out.1,HB1.out.2⟩⟩
 case round =>
  obtain⟨j,hkj,hjl,rfl,HB⟩:=hrel
  have c2:=HB.out.2.cell C12.out.2 id
  by_cases hlt:j<R.loose.length
  ·obtain⟨y1,y2⟩:=dec_gtr hlt
   obtain⟨n,hn⟩:∃ n,R.loose[j]? = some n:=⟨_,List.getElem?_eq_getElem hlt⟩
   obtain⟨g,rfl,q0⟩:=HY.out.2 j n hn
   have q1:=HB.out.2.cell q0 id
   obtain⟨i,p,hfi,hp,hpn⟩:=HI.out.2.2.2.1 n (List.mem_of_getElem? hn)
   have hi100:i<100:=by have:=(List.getElem?_eq_some_iff.1 hp).1;have:=HI.out.2.1.few;omega
   have hfind:=find_ref (HI.out.1.same HB.out.2) HI.out.2.1.few n
   rw[hfi]at hfind
   have HFI:=Lib.hid hfind
   have hl0:=lessC_at (L:=R.L) ((R.loose.take j).drop k) hi100 hp
   have hs0:=lessC_snoc HI.out.2.2.1 ((R.loose.take j).drop k) hi100 hp
   have hnx:(R.loose.take (j+1)).drop k=(R.loose.take j).drop k++[p.1]:=by rw[List.take_add_one,hn,Option.toList_some,List.drop_append_of_le_length (by rw[List.length_take];omega),hpn]
   have hcb:((R.loose.take j).drop k).count p.1<=10000000:=Nat.le_trans List.count_le_length (by rw[List.length_drop,List.length_take];omega)
   rw[<- hnx]at hs0
   generalize((R.loose.take j).drop k).count p.1=cn at *
   have l0:=HB.out.1.cell hl0
   have f0:=HB.out.1.free i
   have hset:=HB.out.1.set i (.int .i64 ((cn+1:Nat):Int))
   rw[hs0]at hset
   have hkc:=kept_cell wr lb i (.int .i64 ((cn+1:Nat):Int))
   have HN:=Lib.hid (show ∀ W',wr.setCell ⟨lb,i,none⟩ (.int .i64 ((cn:Int)+1))=W'->Blk W' lb (lessC R.L ((R.loose.take (j+1)).drop k)) 144/\Kept (fun _=>False) w W' from fun W' hW=>by
    rw[<- hW]
    exact⟨hset,HB.out.2.then_ hkc (fun b hb e=>by have:b=lb:=e;have:=HLB.out;omega)⟩)
   have HLT:=Lib.hid hlt
   have i1:(i:Int)<100:=by omega
   have i0:(0:Int)<=(i:Int):=by omega
   have e1:wrap64 ((cn:Int)+1)=(cn:Int)+1:=IntWalk.wrap64_in _ (by omega)
   clear hn q0 hfi hp hpn hfind hl0 hs0 hnx hset hkc HB hlt
   go_upto_region 7 with (go_at_call 42;refine HFI.out.mono ?_;rintro e' w1 ⟨rfl,rfl⟩)
   generalize hW2:World.setCell _ _ _=W2
   have HB2:=Lib.hid (HN.out W2 hW2)
   clear hW2 HN l0 f0 q1 c2
   go_wp2_with fail
   go_roundw
   case rel=>exact⟨j+1,by omega,HLT.out,by go_num,HB2⟩
   case measure=>have:=HLT.out;simp[intOf];omega
  ·obtain rfl:j=R.loose.length:=by omega
   obtain⟨y1,y2⟩:=dec_ler hlt
   have hB:=HB.out
   rw[List.take_of_length_le (Nat.le_refl _)]at hB
   obtain⟨l,hl⟩:∃ l,R.loose.drop k=l:=⟨_,rfl⟩
   rw[hl]at hB
   have HL:=Lib.hid (And.intro hl hB)
   have c1:=HB.out.2.cell C12.out.1 id
   have hIr:=HI.out.1.same HB.out.2
   have hxv:=hIr.files.view
   obtain⟨xa2,xc2,hxe2,-⟩:=hIr.form
   rw[HX.out.1]at hxv
   obtain⟨sa,sn,sc,W3,hr3,hrow3,hk3,ho3⟩:=files_append (L:=[]) (by have:=HI.out.2.1.few;simp;omega) (Row.nil wr _ _) hxv
   rw[List.nil_append]at hrow3
   have hK3:Kept (fun _=>False) wr W3:=hk3.mono (fun q _ e=>by simp[Value.ownBlock]at e)
   have hsn:sn=R.L.length:=file_len hrow3
   subst hsn
   have HS3:=Lib.hid (show Row W3 87 2 (.slice sa R.L.length sc) (fcells (cutTo R.L l 0))/\Blk W3 lb (lessC R.L l) 144/\(∀ q,(Value.slice sa R.L.length sc).ownBlock=some q->w.heap.size<=q)/\Kept (fun _=>False) w W3 from
    ⟨by unfold cutTo;simpa using hrow3,hB.1.kept hK3 id,fun q e=>by rcases ho3 q e with e|e;(· simp[Value.ownBlock]at e);(have:=hB.2.size;omega),hB.2.trans hK3⟩)
   clear hB hl HB hlt hkj hjl hIr hxv hrow3 hk3 hK3 ho3 hxe2 HB1
   go_upto_region 10 with (at_builtin;refine Lib.wpList_append_run _ rfl _ _ 79 79 rfl _ _ rfl rfl _ _ hr3 ?_)
   clear hr3 c1 c2 y1 y2
   have hfew:R.L.length<=100:=HI.out.2.1.few
   go_wp2_with fail
   go_loopw [8] (fun z wr=>∃ i:Nat,i<=R.L.length/\z = .int .i64 (i:Int)/\Hid (Row wr 87 2 (.slice sa R.L.length sc) (fcells (cutTo R.L l i))/\Blk wr lb (lessC R.L l) 144/\(∀ q,(Value.slice sa R.L.length sc).ownBlock=some q->w.heap.size<=q)/\Kept (fun _=>False) w wr)) (fun z _=>R.L.length-(intOf z).toNat)
   case atStart=>exact⟨0,Nat.zero_le _,rfl,HS3⟩
   case round =>
    obtain⟨i,hi,rfl,HS⟩:=hrel
    by_cases hlt:i<R.L.length
    ·obtain⟨y1,y2⟩:=dec_gtr hlt
     obtain⟨p,hp⟩:∃ p,R.L[i]? = some p:=⟨_,List.getElem?_eq_getElem hlt⟩
     have HD:=Lib.hid (show Row wr.drew 87 2 (.slice sa R.L.length sc) (fcells (cutTo R.L l i))/\Blk wr.drew lb (lessC R.L l) 144/\(∀ q,(Value.slice sa R.L.length sc).ownBlock=some q->w.heap.size<=q)/\Kept (fun _=>False) w wr.drew from⟨HS.out.1.drew,HS.out.2.1.drew,HS.out.2.2.1,HS.out.2.2.2.trans (Kept.refl _ _).drew⟩)
     obtain⟨_,_,_,hve,_,_,hcl⟩:=HD.out.1.form (by omega)
     cases hve
     obtain⟨g,rfl,hown,hcc⟩:=hcl (by omega)
     have hat:=cutTo_at l hp
     obtain⟨-,hg1⟩:=fcells_get _ i p hat
     have q1:=hcc _ _ hg1
     have l0:=HD.out.2.1.cell (lessC_at (L:=R.L) l (by omega) hp)
     have hcp:l.count p.1<=p.2.length:=by
      have h1:=HI.out.2.2.2.2 p (List.mem_of_getElem? hp)
      have h2:l.count p.1<=R.loose.count p.1:=by rw[<- HL.out.1];exact List.Sublist.count_le _ (List.drop_sublist _ _)
      omega
     have hnx:=cutTo_next l hp
     obtain⟨bp,hbp⟩:∃ bp,strB p.2=bp:=⟨_,rfl⟩
     have hbl:bp.size=p.2.length:=by rw[<- hbp];exact strB_size _
     have hex:strB (p.2.take (p.2.length-l.count p.1))=bp.extract 0 (p.2.length-l.count p.1):=by rw[<- hbp];exact(take_strB _ _).symm
     rw[hbp]at q1
     rw[hex,<- hbl]at hnx
     rw[<- hbl]at hcp
     have hbz:bp.size<=2000000:=by rw[hbl];exact HI.out.2.1.size p (List.mem_of_getElem? hp)
     generalize l.count p.1=cn at *
     have fl:=HD.out.1.free hown (i*2+1)
     have hlen:i*2+1<(fcells (cutTo R.L l i)).length:=by rw[fcells_len,cutTo_len];omega
     have hset:=HD.out.1.putAt hown (i*2+1) hlen (.string (bp.extract 0 (bp.size-cn)))
     rw[hnx]at hset
     have hgw:=HD.out.2.2.1 g hown
     have hgl:g≠lb:=fun e=>by
      have h1:=HD.out.1.cellsT hown
      subst e
      exact absurd (h1.same ⟨_,_,HD.out.2.1⟩) (by decide)
     have HN:=Lib.hid (show ∀ W',wr.drew.setCell ⟨g,i*2+1,none⟩ (.string (bp.extract 0 (bp.size-cn)))=W'->Row W' 87 2 (.slice (some ⟨g,0,none⟩) R.L.length sc) (fcells (cutTo R.L l (i+1)))/\Blk W' lb (lessC R.L l) 144/\(∀ q,(Value.slice (some ⟨g,0,none⟩) R.L.length sc).ownBlock=some q->w.heap.size<=q)/\Kept (fun _=>False) w W' from fun W' hW=>by
      rw[<- hW]
      exact⟨hset.1,HD.out.2.1.kept hset.2 (fun e=>hgl e.symm),HD.out.2.2.1,HD.out.2.2.2.then_ hset.2 (fun b hb e=>by have:b=g:=e;omega)⟩)
     have HLT:=Lib.hid hlt
     have i1:(i:Int)<100:=by omega
     have i0:(0:Int)<=(i:Int):=by omega
     have s1:(0:Int)<=(bp.size:Int)-(cn:Int):=by omega
     have s2:(bp.size:Int)-(cn:Int)<=(bp.size:Int):=by omega
     have s3:((bp.size:Int)-(cn:Int)).toNat=bp.size-cn:=by omega
     have s4:IntKind.i64.wrap ((bp.size:Int)-(cn:Int))=(bp.size:Int)-(cn:Int):=IntWalk.i64_in _ (by omega)
     have i2:(i:Int)<(R.L.length:Int):=by omega
     clear hp hat hg1 hnx hbp hbl hex hset hgw hgl hlen hcc hcl HS HD hown hlt hi
     go_wp2_with fail
     refine wp_region_tail 20 (by kernel_rfl) (by kernel_rfl) ?_
     simp only[List.take_succ_cons,List.take_zero,List.drop_succ_cons,List.drop_zero]
     generalize World.drew wr=W0 at *
     refine StH.out ?_
     repeat (refine StH.step (fun K hK=>?_);go_simp;refine hK.out _ ?_;clear hK K)
     refine StH.nil ?_
     go_upto_region 12 with fail
     generalize hW4:World.setCell _ _ _=W4
     have HS4:=Lib.hid (HN.out W4 hW4)
     clear hW4 HN q1 l0 fl
     go_wp2_with fail
     go_roundw
     case rel=>exact⟨i+1,HLT.out,by go_num,HS4⟩
     case measure=>have:=HLT.out;simp[intOf];omega
    ·obtain rfl:i=R.L.length:=by omega
     obtain⟨y1,y2⟩:=dec_ler hlt
     have hIr:=HI.out.1.same HS.out.2.2.2
     have d1:=hIr.blk.cell (i:=1) rfl
     have d2:=hIr.blk.cell (i:=2) rfl
     have d3:=hIr.blk.cell (i:=3) rfl
     have d5:=hIr.blk.cell (i:=5) rfl
     have f1:=hIr.blk.free 1
     have b1:=hIr.blk.set 1 (.slice sa R.L.length sc)
     have b2:=b1.set 2 (.slice none 0 0)
     have b3:=b2.set 3 (.bool true)
     have b4:=b3.set 5 (.int .i64 0)
     have e2:=b1.cell (i:=2) rfl
     have f2:=b1.free 2
     have e3:=b2.cell (i:=3) rfl
     have f3:=b2.free 3
     have e5:=b3.cell (i:=5) rfl
     have f5:=b3.free 5
     have k1:=kept_cell wr r 1 (.slice sa R.L.length sc)
     have k2:=kept_cell (wr.setCell ⟨r,1,none⟩ (.slice sa R.L.length sc)) r 2 (.slice none 0 0)
     have k3:=kept_cell ((wr.setCell ⟨r,1,none⟩ (.slice sa R.L.length sc)).setCell ⟨r,2,none⟩ (.slice none 0 0)) r 3 (.bool true)
     have k4:=kept_cell (((wr.setCell ⟨r,1,none⟩ (.slice sa R.L.length sc)).setCell ⟨r,2,none⟩ (.slice none 0 0)).setCell ⟨r,3,none⟩ (.bool true)) r 5 (.int .i64 0)
     have HN:=Lib.hid (show ∀ W',(((wr.setCell ⟨r,1,none⟩ (.slice sa R.L.length sc)).setCell ⟨r,2,none⟩ (.slice none 0 0)).setCell ⟨r,3,none⟩ (.bool true)).setCell ⟨r,5,none⟩ (.int .i64 0)=W'->RefTo w r x y RC W' from fun W' hW=>by
      rw[<- hW,HCR.out,HL.out.1]
      have hk:=((k1.trans k2).trans k3).trans k4
      refine⟨.slice sa R.L.length sc,.slice none 0 0,⟨b4,HS.out.1.kept hk (fun q e e2=>HS.out.1.ne_blk e hIr.blk (by decide) e2),Row.nil _ _ _⟩,(HS.out.2.2.2.mono (S':=(· = r)) (fun _ _=>False.elim)).trans hk,fun q e=>Or.inr (HS.out.2.2.1 q e),fun q e=>by simp[Value.ownBlock]at e⟩)
     clear hIr b1 b2 b3 b4 k1 k2 k3 k4 HS hlt hi
     go_upto_region 15 with fail
     generalize hW5:World.setCell _ _ _=W5
     have HE:=Lib.hid (HN.out W5 hW5)
     clear hW5 HN d1 d2 d3 d5 f1 e2 f2 e3 f3 e5 f5
     go_wp2_with fail
     go_ret
     exact⟨rfl,HE.out⟩
end
structure RefM.Fit (R:RefM):Prop where
 rise:AM.Rise R.L
 find:∀ n∈R.loose,∃ (i:Nat) (p:Int × By),findV R.L n=(i:Int)/\R.L[i]? = some p/\p.1=n
 count:∀ p∈R.L,R.loose.count p.1<=p.2.length
theorem RefM.Ok.tick {R:RefM} (h:R.Ok):R.tick.Ok:=by
 unfold RefM.tick
 split
 ·exact h
 ·exact⟨h.few,h.size,h.loo,h.cap0,by have:=h.fail0;show 0<=R.fails-1/\R.fails-1<=_;omega⟩
theorem RefM.Fit.tick {R:RefM} (h:R.Fit):R.tick.Fit:=by
 unfold RefM.tick
 split
 ·exact h
 ·exact⟨h.rise,h.find,h.count⟩
def RefM.startR (R:RefM):Int × RefM:=if R.down=true then(0, { R with down:=false,starts:=R.starts+1 })else(2,R)
def RefM.failR (R:RefM) (n keep:Int):Int × RefM:=if R.down=true then(61,R)else if n<0 then(2,R)else(0, { R with fails:=min n 1099511627776+1,keep:=keep })
def RefM.crashR (R:RefM) (keep:Int):Int × RefM:=if R.down=true then(61,R)else(0,R.crash keep)
def RefM.syncF (R:RefM):Int × RefM:=if R.down=true then(61,R)else if R.sinks=true then(61,R.tick.crash R.tick.keep)else(0, { R.tick with loose:=[] })
def RefM.createF (R:RefM) (n:Int):Int × RefM :=
 if R.down=true then(61,R)else if n<0 then(2,R)else if 0<=findV R.L n then(62,R)else if 99<R.L.length then(60,R)else if R.sinks=true then(61,R.tick.crash R.tick.keep)else(0, { R.tick with L:=madeL R.L n })
def RefM.truncateF (R:RefM) (n size:Int):Int × RefM :=
 if R.down=true then(61,R)else if findV R.L n<0 then(4,R)else if size<0\/((datL R.L (findV R.L n).toNat).length:Int)<size then(2,R)
 else if R.sinks=true then(61,R.tick.crash R.tick.keep)else(0, { R.tick with loose:=cutR n ((datL R.L (findV R.L n).toNat).length-size) R.loose,L:=setL R.L (findV R.L n).toNat ((datL R.L (findV R.L n).toNat).take size.toNat) })
def RefM.appended (R:RefM) (n:Int) (s:By):RefM:={ R with L:=setL R.L (findV R.L n).toNat (datL R.L (findV R.L n).toNat++s),loose:=R.loose++List.replicate s.length n }
def RefM.appendF (R:RefM) (n:Int) (s:By):Int × RefM :=
 if R.down=true then(61,R)else if findV R.L n<0 then(4,R)else if R.free<(s.length:Int)then(60,R)
 else if R.sinks=true then(61,(R.appended n s).tick.crash R.keep)else(0,(R.appended n s).tick)
section
variable {w w' w1 W : World} {r : Nat} {R R' R1 : RefM} {x y x' y' v : Value} {l : List Int}
theorem RefTo.after (hk:Kept (· = r) w w1) (h:RefTo w1 r x y R' w'):RefTo w r x y R' w':=by
 obtain⟨x1,y1,h1,h2,h3,h4⟩:=h
 have:=hk.size
 exact⟨x1,y1,h1,hk.trans h2,fun k q=>(h3 k q).imp id (fun q=>by omega),fun k q=>(h4 k q).imp id (fun q=>by omega)⟩
theorem sunk_ref (h:IsRef w r R x y) (hR:R.Ok) (hd:R.down=false) (hf:R.Fit) :
  Calls Tryz.prog 34 #[.pointer (some ⟨r,0,none⟩)] w fun e w'=>e = .returned (.int .i64 61)/\RefTo w r x y (R.crash R.keep) w':=by
 have c6:=h.blk.cell (i:=6) rfl
 have HC:=Lib.hid (crash_ref h hR hd hf.rise hf.find hf.count R.keep)
 generalize R.crash R.keep=RC at *
 generalize R.keep=kp at *
 clear h hR hf hd
 go_enter Tryz.func34,Tryz.ntmps34
 go_wp2_with (go_at_call 55;refine HC.out.mono ?_;rintro e w1 ⟨rfl,g1⟩;have H1:=Lib.hid g1;clear g1)
 go_ret
 exact⟨rfl,H1.out⟩
theorem start_ref (h:IsRef w r R x y) (hs:0<=R.starts/\R.starts<9223372036854775807) {e0:Int} (he:R.startR=(e0,R')) :
  Calls Tryz.prog 57 #[.pointer (some ⟨r,0,none⟩)] w fun e w'=>e = .returned (.int .i64 e0)/\RefTo w r x y R' w':=by
 have c3:=h.blk.cell (i:=3) rfl
 have c4:=h.blk.cell (i:=4) rfl
 unfold RefM.startR at he
 cases hd:R.down with
 | false =>
  rw[if_neg (by rw[hd];simp)]at he
  cases he
  rw[hd]at c3
  have HT:=Lib.hid (RefTo.self h)
  clear h hd
  go_enter Tryz.func57,Tryz.ntmps57
  go_wp2_with fail
  go_ret
  exact⟨rfl,HT.out⟩
 | true =>
  rw[if_pos hd]at he
  cases he
  rw[hd]at c3
  have b3:=h.blk.set 3 (.bool false)
  have f3:=h.blk.free 3
  have e4:=b3.cell (i:=4) rfl
  have f4:=b3.free 4
  have b4:=b3.set 4 (.int .i64 (R.starts+1))
  have k3:=kept_cell w r 3 (.bool false)
  have k4:=kept_cell (w.setCell ⟨r,3,none⟩ (.bool false)) r 4 (.int .i64 (R.starts+1))
  have HN:=Lib.hid (show ∀ W',(w.setCell ⟨r,3,none⟩ (.bool false)).setCell ⟨r,4,none⟩ (.int .i64 (R.starts+1))=W'->RefTo w r x y { R with down:=false,starts:=R.starts+1 } W' from fun W' hW=>by
   rw[<- hW]
   have hk:=k3.trans k4
   exact⟨x,y,⟨b4,h.files.kept hk (fun k q=>h.ne.1 k q),h.loose.kept hk (fun k q=>h.ne.2 k q)⟩,hk,fun _=>Or.inl,fun _=>Or.inl⟩)
  have e1:wrap64 (R.starts+1)=R.starts+1:=IntWalk.wrap64_in _ (by omega)
  clear h hd b3 b4 k3 k4
  go_enter Tryz.func57,Tryz.ntmps57
  go_upto_region 4 with fail
  generalize hW5:World.setCell _ _ _=W5
  have HE:=Lib.hid (HN.out W5 hW5)
  clear hW5 HN e4 f4 f3 c3 c4
  go_wp2_with fail
  go_ret
  exact⟨rfl,HE.out⟩
theorem fail_ref (h:IsRef w r R x y) (n keep:Int) (hn : -9223372036854775808<=n/\n<=9223372036854775807) {e0:Int} (he:R.failR n keep=(e0,R')) :
  Calls Tryz.prog 59 #[.pointer (some ⟨r,0,none⟩),.int .i64 n,.int .i64 keep] w fun e w'=>e = .returned (.int .i64 e0)/\RefTo w r x y R' w':=by
 have c3:=h.blk.cell (i:=3) rfl
 unfold RefM.failR at he
 have HT:=Lib.hid (RefTo.self h)
 cases hd:R.down with
 | true =>
  rw[if_pos hd]at he
  cases he
  rw[hd]at c3
  clear h hd
  go_enter Tryz.func59,Tryz.ntmps59
  go_wp2_with fail
  go_ret
  exact⟨rfl,HT.out⟩
 | false =>
  rw[if_neg (by rw[hd];simp)]at he
  rw[hd]at c3
  by_cases h0:n<0
  ·rw[if_pos h0]at he
   cases he
   have z1:decide (n<0)=true:=decide_eq_true h0
   clear h hd h0
   go_enter Tryz.func59,Tryz.ntmps59
   go_wp2_with fail
   go_ret
   exact⟨rfl,HT.out⟩
  ·rw[if_neg h0]at he
   cases he
   have z1:decide (n<0)=false:=decide_eq_false h0
   obtain⟨m,hm⟩:∃ m,min n 1099511627776=m:=⟨_,rfl⟩
   have hm0:0<=m/\m<=1099511627776:=by omega
   rw[hm]
   have c5:=h.blk.cell (i:=5) rfl
   have b5:=h.blk.set 5 (.int .i64 (m+1))
   have f5:=h.blk.free 5
   have e6:=b5.cell (i:=6) rfl
   have f6:=b5.free 6
   have b6:=b5.set 6 (.int .i64 keep)
   have k5:=kept_cell w r 5 (.int .i64 (m+1))
   have k6:=kept_cell (w.setCell ⟨r,5,none⟩ (.int .i64 (m+1))) r 6 (.int .i64 keep)
   have HN:=Lib.hid (show ∀ W',(w.setCell ⟨r,5,none⟩ (.int .i64 (m+1))).setCell ⟨r,6,none⟩ (.int .i64 keep)=W'->RefTo w r x y { R with fails:=m+1,keep:=keep } W' from fun W' hW=>by
    rw[<- hW]
    have hk:=k5.trans k6
    exact⟨x,y,⟨b6,h.files.kept hk (fun k q=>h.ne.1 k q),h.loose.kept hk (fun k q=>h.ne.2 k q)⟩,hk,fun _=>Or.inl,fun _=>Or.inl⟩)
   have e1:wrap64 (m+1)=m+1:=IntWalk.wrap64_in _ (by omega)
   clear h hd b5 b6 k5 k6 h0 HT
   go_enter Tryz.func59,Tryz.ntmps59
   go_upto_region 6 with fail
   generalize hW5:World.setCell _ _ _=W5
   have HE:=Lib.hid (HN.out W5 hW5)
   clear hW5 HN e6 f6 f5 c3 c5
   go_wp2_with fail
   go_ret
   exact⟨rfl,HE.out⟩
theorem syncF_ref (h:IsRef w r R x y) (hR:R.Ok) (hfit:R.Fit) {e0:Int} (he:R.syncF=(e0,R')) :
  Calls Tryz.prog 46 #[.pointer (some ⟨r,0,none⟩)] w fun e w'=>e = .returned (.int .i64 e0)/\RefTo w r x y R' w':=by
 have c3:=h.blk.cell (i:=3) rfl
 unfold RefM.syncF at he
 cases hd:R.down with
 | true =>
  rw[if_pos hd]at he
  rw[hd]at c3
  cases he
  have HT:=Lib.hid (RefTo.self h)
  clear h hR hd
  go_enter Tryz.func46,Tryz.ntmps46
  go_wp2_with fail
  go_ret
  exact⟨rfl,HT.out⟩
 | false =>
  rw[if_neg (by rw[hd];simp)]at he
  rw[hd]at c3
  by_cases hs:R.sinks=true
  ·rw[if_pos hs]at he
   cases he
   have hfs:=fails_ref h hR.fail0
   rw[hs]at hfs
   have HFS:=Lib.hid hfs
   have HSU:=Lib.hid (fun w1 (g1:IsRef w1 r R.tick x y) (g2:Kept (· = r) w w1)=>(sunk_ref g1 hR.tick (by rw[R.tick_eq.2.2.2.1];exact hd) hfit.tick).mono (R':=fun e w'=>e = .returned (.int .i64 61)/\RefTo w r x y (R.tick.crash R.tick.keep) w') (fun e w' q=>⟨q.1,RefTo.after g2 q.2⟩))
   clear hfs h hR hd hs hfit
   go_enter Tryz.func46,Tryz.ntmps46
   go_wp2_with (first|(go_at_call 33;refine HFS.out.mono ?_;rintro e w1 ⟨rfl,g1,g2⟩;have HSK:=Lib.hid (HSU.out w1 g1 g2);clear g1 g2)|(go_at_call 34;refine HSK.out.mono ?_;rintro e w2 ⟨rfl,g1⟩;have H2:=Lib.hid g1;clear g1))
   go_ret
   exact⟨rfl,H2.out⟩
  rw[if_neg hs]at he
  have hs:R.sinks=false:=by simpa using hs
  cases he
  have HF:=fails_ref h hR.fail0
  rw[hs]at HF
  have HF:=Lib.hid HF
  have HE:=Lib.hid (fun w1 (g1:IsRef w1 r R.tick x y) (g2:Kept (· = r) w w1)=>(show w1.frozen? ⟨r,2,none⟩=false/\(w1.cell? ⟨r,2,none⟩).isSome/\RefTo w r x y { R.tick with loose:=[] } (w1.setCell ⟨r,2,none⟩ (.slice none 0 0))from by
   have hk:=kept_cell w1 r 2 (.slice none 0 0)
   have hb:=g1.blk.set 2 (.slice none 0 0)
   exact⟨g1.blk.free 2,by rw[g1.blk.cell (i:=2) rfl];rfl,x,.slice none 0 0,⟨hb,g1.files.kept hk (fun k q=>g1.ne.1 k q),Row.nil _ _ _⟩,g2.then_ hk (fun _ _ q=>q),fun _=>Or.inl,fun k q=>by simp[Value.ownBlock]at q⟩))
  clear h hR hs hd
  go_enter Tryz.func46,Tryz.ntmps46
  go_wp2_with (go_at_call 33;refine HF.out.mono ?_;rintro e w1 ⟨rfl,g1,g2⟩;have z2:=g1.blk.free 2;have d2:=g1.blk.cell (i:=2) rfl;have H1:=Lib.hid (HE.out w1 g1 g2).2.2;clear g1 g2)
  go_ret
  exact⟨rfl,H1.out⟩
theorem createF_ref (h:IsRef w r R x y) (hR:R.Ok) (hfit:R.Fit) (n:Int) (n0 : -9223372036854775808<=n/\n<=9223372036854775807) {e0:Int} (he:R.createF n=(e0,R')) :
  Calls Tryz.prog 11 #[.pointer (some ⟨r,0,none⟩),.int .i64 n] w fun e w'=>e = .returned (.int .i64 e0)/\RefTo w r x y R' w':=by
 have HT:=Lib.hid (RefTo.self h)
 have hlow:=fun k (q:refOwn r x y k)=>h.lt q
 have hfew:=hR.few
 unfold RefM.createF at he
 cases hd:R.down with
 | true =>
  rw[if_pos hd]at he
  cases he
  have HAT:=Lib.hid (at_ref h hR.few n (i:=-1) (e0:=61) (by unfold RefM.at_;rw[if_pos hd]))
  clear h hR hd hlow
  go_enter Tryz.func11,Tryz.ntmps11
  go_wp2_with (go_at_call 32;refine HAT.out.mono ?_;rintro e w' ⟨rfl,rfl⟩)
  go_ret
  exact⟨rfl,HT.out⟩
 | false =>
  rw[if_neg (by rw[hd];simp)]at he
  obtain⟨i0,e1,hat,he1,hneg⟩:∃ i0 e1,R.at_ n=(i0,e1)/\(e1==61)=false/\(findV R.L n<0->i0<0)/\(¬ findV R.L n<0->i0=findV R.L n):=by
   unfold RefM.at_
   rw[if_neg (by rw[hd];simp)]
   by_cases q:findV R.L n<0
   ·exact⟨-1,4,by rw[if_pos q],rfl,fun _=>by omega,fun q2=>absurd q q2⟩
   ·exact⟨_,0,by rw[if_neg q],rfl,fun q2=>absurd q2 q,fun _=>rfl⟩
  have HAT:=Lib.hid (at_ref h hR.few n hat)
  clear hat
  by_cases hn:n<0
  ·rw[if_pos hn]at he
   cases he
   have z1:decide (n<0)=true:=decide_eq_true hn
   clear h hR hd hlow hn hneg
   go_enter Tryz.func11,Tryz.ntmps11
   go_wp2_with (go_at_call 32;refine HAT.out.mono ?_;rintro e w' ⟨rfl,rfl⟩)
   go_ret
   exact⟨rfl,HT.out⟩
  ·rw[if_neg hn]at he
   have z1:decide (n<0)=false:=decide_eq_false hn
   by_cases hf:0<=findV R.L n
   ·rw[if_pos hf]at he
    cases he
    have z2:decide (0<=i0)=true:=decide_eq_true (by rw[hneg.2 (by omega)];exact hf)
    clear h hR hd hlow hn hneg hf
    go_enter Tryz.func11,Tryz.ntmps11
    go_wp2_with (go_at_call 32;refine HAT.out.mono ?_;rintro e w' ⟨rfl,rfl⟩)
    go_ret
    exact⟨rfl,HT.out⟩
   ·rw[if_neg hf]at he
    have z2:decide (0<=i0)=false:=decide_eq_false (by have:=hneg.1 (by omega);omega)
    clear hneg hf
    obtain⟨a,c,rfl,hc⟩:=h.form
    have c1:=h.blk.cell (i:=1) rfl
    by_cases hfull:99<R.L.length
    ·rw[if_pos hfull]at he
     cases he
     have z3:decide ((99:Int)<(R.L.length:Int))=true:=decide_eq_true (by omega)
     have z4:decide (99<R.L.length)=true:=decide_eq_true hfull
     clear h hR hd hlow hn hc hfull
     go_enter Tryz.func11,Tryz.ntmps11
     go_wp2_with (go_at_call 32;refine HAT.out.mono ?_;rintro e w' ⟨rfl,rfl⟩)
     go_ret
     exact⟨rfl,HT.out⟩
    ·rw[if_neg hfull]at he
     have z3:decide ((99:Int)<(R.L.length:Int))=false:=decide_eq_false (by omega)
     have z4:decide (99<R.L.length)=false:=decide_eq_false hfull
     by_cases hs:R.sinks=true
     ·rw[if_pos hs]at he
      cases he
      have hfs:=fails_ref h hR.fail0
      rw[hs]at hfs
      have HFS:=Lib.hid hfs
      have HSU:=Lib.hid (fun w1 (g1:IsRef w1 r R.tick (.slice a R.L.length c) y) (g2:Kept (· = r) w w1)=>(sunk_ref g1 hR.tick (by rw[R.tick_eq.2.2.2.1];exact hd) hfit.tick).mono (R':=fun e w'=>e = .returned (.int .i64 61)/\RefTo w r (.slice a R.L.length c) y (R.tick.crash R.tick.keep) w') (fun e w' q=>⟨q.1,RefTo.after g2 q.2⟩))
      clear hfs h hR hd hs hfit hn hc HT hlow hfull
      go_enter Tryz.func11,Tryz.ntmps11
      go_wp2_with (first|(go_at_call 32;refine HAT.out.mono ?_;rintro e w' ⟨rfl,rfl⟩)|(go_at_call 33;refine HFS.out.mono ?_;rintro e w1 ⟨rfl,g1,g2⟩;have HSK:=Lib.hid (HSU.out w1 g1 g2);clear g1 g2)|(go_at_call 34;refine HSK.out.mono ?_;rintro e w2 ⟨rfl,g1⟩;have H2:=Lib.hid g1;clear g1))
      go_ret
      exact⟨rfl,H2.out⟩
     rw[if_neg hs]at he
     have hs:R.sinks=false:=by simpa using hs
     cases he
     have HF:=fails_ref h hR.fail0
     rw[hs]at HF
     have HF:=Lib.hid HF
     have HLW:=Lib.hid (And.intro hlow (And.intro hn hfew))
     obtain⟨t1,t2,t3,t4,t5,t6⟩:=R.tick_eq
     have HTK:=Lib.hid t1
     generalize R.tick=R1 at *
     clear t1 t2 t3 t4 t5 t6 h hR hs hd hlow hn hc HT hfull
     go_enter Tryz.func11,Tryz.ntmps11
     go_upto_region 12 with (first
      | (go_at_call 32;refine HAT.out.mono ?_;rintro e w' ⟨rfl,rfl⟩)
      | (go_at_call 33;refine HF.out.mono ?_;rintro e w1 ⟨rfl,g1,g2⟩;have HM:=Lib.hid (show MakeS w r R1 (.slice a R.L.length c) y (.slice none 0 0) 0 w1 from⟨g1,g2,Row.nil _ _ _,fun k q=>by simp[Value.ownBlock]at q,HLW.out.1⟩);clear g1 g2))
     clear HAT HF z1 z2 z3 z4 c1
     go_wp2_with fail
     go_loopw [7,8] (fun z7 z8 wr=>∃ (i:Nat) (sa:Option Addr) (sc:Nat),i<=R.L.length/\z7 = .slice sa i sc/\z8 = .int .i64 (i:Int)/\Hid (MakeS w r R1 (.slice a R.L.length c) y (.slice sa i sc) i wr)/\Hid (∀ j p,R1.L[j]? = some p->j<i->p.1<n)) (fun _ z8 _=>R.L.length-(intOf z8).toNat)
     case atStart=>exact⟨0,none,0,Nat.zero_le _,rfl,rfl,HM,Lib.hid (fun j p _ q=>absurd q (Nat.not_lt_zero _))⟩
     case round =>
      obtain⟨i,sa,sc,hi,rfl,rfl,HS,HP⟩:=hrel
      have d1:=HS.out.1.blk.cell (i:=1) rfl
      by_cases hlt:i<R.L.length
      ·obtain⟨y1,y2⟩:=dec_gtr hlt
       obtain⟨p,hp⟩:∃ p,R1.L[i]? = some p:=⟨_,List.getElem?_eq_getElem (by rw[HTK.out];exact hlt)⟩
       obtain⟨a',c',hx',hcc⟩:=HS.out.1.form
       simp only[Value.slice.injEq]at hx'
       obtain⟨rfl,-,rfl⟩:=hx'
       obtain⟨g,rfl,q0,q1⟩:=hcc i p hp
       have HI:=Lib.hid hp
       have HLT:=Lib.hid hlt
       by_cases hpn:p.1<n
       ·have z5:decide (p.1<n)=true:=decide_eq_true hpn
        have HP2:Hid (∀ j q,R1.L[j]? = some q->j<i+1->q.1<n):=by
         refine Lib.hid ?_
         intro j q hq hj
         rcases Nat.lt_or_ge j i with z|z
         ·exact HP.out j q hq z
         ·obtain rfl:j=i:=by omega
          rw[hp]at hq
          cases hq
          exact hpn
        obtain⟨sb,m,cb,w3,hap,hm⟩:=HS.out.app (by rw[HTK.out];exact HLW.out.2.2) hp
        have hmi:m=i+1:=by
         obtain⟨_,m',_,hv',q2,_⟩:=hm.out.2.2.1.form (by omega)
         cases hv'
         rw[fcells_len,List.length_take,HTK.out]at q2
         omega
        subst hmi
        clear hpn hcc hp HP hi
        go_wp2_with (at_builtin;refine Lib.wpList_append_run _ rfl _ _ 79 79 rfl _ _ rfl rfl _ _ hap ?_)
        go_roundw
        case rel=>exact⟨i+1,sb,cb,HLT.out,rfl,by go_num,hm,HP2⟩
        case measure=>have:=HLT.out;simp[intOf];omega
       ·have z5:decide (p.1<n)=false:=decide_eq_false hpn
        have hmade:madeL R.L n=R1.L.take i++(n,[])::R1.L.drop i:=by
         obtain⟨e1,e2⟩:=while_at (L:=R1.L) (f:=fun p=>decide (p.1<n)) (fun j p hp hj=>decide_eq_true (HP.out j p hp hj)) (fun p' hp'=>by rw[hp]at hp';cases hp';exact z5) (by rw[HTK.out];exact hi)
         unfold madeL
         rw[HTK.out]at e1 e2
         rw[e1,e2,HTK.out]
        have HMD:=Lib.hid hmade
        have HI9:=Lib.hid hi
        clear hpn hcc hp HP hmade
        go_upto_region 17 with fail
        clear q0 q1 z5 y1 y2
        refine wp_region_held_drew (S:=fun _=>True) (by kernel_rfl) trivial (fun _=>?_)
        have hSd:=HS.out.drew
        generalize World.drew wr=Wd at *
        obtain⟨a2,k2,s1,m1,l1,w5,s2,m2,l2,w6,hx2,hz,r1,r2,⟨e0,e1,e2,e3,f3⟩,HE⟩:=hSd.last (by rw[HTK.out];exact HLW.out.2.2) (by rw[HTK.out];exact HI9.out) n
        clear hSd
        rw[HTK.out]at hx2 hz r2 HE
        simp only[Value.slice.injEq]at hx2
        obtain⟨rfl,-,rfl⟩:=hx2
        rw[HTK.out]at HMD
        rw[<- HMD.out]at HE
        generalize(if c=i then(some ⟨g,0,none⟩)else((some ⟨g,0,none⟩):Option Addr).map (·.add (i*2)))=sx at hz r2
        clear d1
        change (Builtin.append_ #[79,79] 79 #[_,.slice (some ⟨Wd.heap.size,0,none⟩) 1 1]).run Tryz.prog (Wd.alloc (.cells #[.int .i64 n,.string ⟨#[]⟩] 87))=_ at r1
        change (Wd.alloc (.cells #[.int .i64 n,.string ⟨#[]⟩] 87)).cell? _=_ at e1
        refine ti 0 trivial ?_
        refine ti 1 trivial ?_
        refine ti 2 trivial ?_
        refine ti 3 trivial ?_
        refine ti 6 trivial ?_
        refine ti 7 trivial ?_
        refine ti 8 trivial ?_
        refine ti 10 trivial ?_
        refine ti 11 trivial ?_
        refine rd2 4 9 (fun K hK=>?_) (fun K hK=>?_)
        ·go_simp
         refine hK.out _ _ trivial (fun _=>?_)
         clear hK K
         try simp only[lyA,lyB,lyC,lyD]
         refine rd2 5 9 (fun K hK=>?_) (fun K hK=>?_)
         ·((with_reducible refine step_append_runR ?_ ?_ ?_ 79 79 ?_ _ _ ?_ ?_ _ _ r1 ?_);exact rfl;rotate_left 2;exact rfl;exact rfl;exact rfl)
          refine hK.out _ _ trivial (fun _=>?_)
          clear hK K
          try simp only[lyA,lyB,lyC,lyD]
          refine rd1 9 (fun K hK=>?_)
          have hq:=e2
          go_simp
          clear hq
          refine hK.out _ _ trivial (fun _=>?_)
          clear hK K
          try simp only[lyA,lyB,lyC,lyD]
          refine ti 12 trivial ?_
          refine rd1 13 (fun K hK=>?_)
          ((with_reducible refine step_append_runR ?_ ?_ ?_ 79 79 ?_ _ _ ?_ ?_ _ _ r2 ?_);exact rfl;rotate_left 2;exact rfl;exact rfl;exact rfl)
          refine hK.out _ _ trivial (fun _=>?_)
          clear hK K
          try simp only[lyA,lyB,lyC,lyD]
          refine ti 14 trivial ?_
          refine ti 15 trivial ?_
          refine rd1 16 (fun K hK=>?_)
          have hq:=e3
          have hq2:=f3
          go_simp
          clear hq hq2
          refine hK.out _ _ trivial (fun _=>?_)
          clear hK K
          try simp only[lyA,lyB,lyC,lyD]
          refine dn ?_
          generalize hW9:World.setCell _ _ _=W9
          have H9:=HE.out W9 hW9
          go_wp2_with fail
          go_ret
          exact⟨rfl,H9⟩
         ·have hq:=e1
          go_simp
          clear hq
          refine hK.out _ _ trivial (fun _=>?_)
          clear hK K
          try simp only[lyA,lyB,lyC,lyD]
          refine ti 12 trivial ?_
          refine rd1 5 (fun K hK=>?_)
          ((with_reducible refine step_append_runR ?_ ?_ ?_ 79 79 ?_ _ _ ?_ ?_ _ _ r1 ?_);exact rfl;rotate_left 2;exact rfl;exact rfl;exact rfl)
          refine hK.out _ _ trivial (fun _=>?_)
          clear hK K
          try simp only[lyA,lyB,lyC,lyD]
          refine rd1 13 (fun K hK=>?_)
          ((with_reducible refine step_append_runR ?_ ?_ ?_ 79 79 ?_ _ _ ?_ ?_ _ _ r2 ?_);exact rfl;rotate_left 2;exact rfl;exact rfl;exact rfl)
          refine hK.out _ _ trivial (fun _=>?_)
          clear hK K
          try simp only[lyA,lyB,lyC,lyD]
          refine ti 14 trivial ?_
          refine ti 15 trivial ?_
          refine rd1 16 (fun K hK=>?_)
          have hq:=e3
          have hq2:=f3
          go_simp
          clear hq hq2
          refine hK.out _ _ trivial (fun _=>?_)
          clear hK K
          try simp only[lyA,lyB,lyC,lyD]
          refine dn ?_
          generalize hW9:World.setCell _ _ _=W9
          have H9:=HE.out W9 hW9
          go_wp2_with fail
          go_ret
          exact⟨rfl,H9⟩
        ·have hq:=e0
         go_simp
         clear hq
         refine hK.out _ _ trivial (fun _=>?_)
         clear hK K
         try simp only[lyA,lyB,lyC,lyD]
         refine ti 12 trivial ?_
         refine rd1 4 (fun K hK=>?_)
         go_simp
         refine hK.out _ _ trivial (fun _=>?_)
         clear hK K
         try simp only[lyA,lyB,lyC,lyD]
         refine rd1 5 (fun K hK=>?_)
         ((with_reducible refine step_append_runR ?_ ?_ ?_ 79 79 ?_ _ _ ?_ ?_ _ _ r1 ?_);exact rfl;rotate_left 2;exact rfl;exact rfl;exact rfl)
         refine hK.out _ _ trivial (fun _=>?_)
         clear hK K
         try simp only[lyA,lyB,lyC,lyD]
         refine rd1 13 (fun K hK=>?_)
         ((with_reducible refine step_append_runR ?_ ?_ ?_ 79 79 ?_ _ _ ?_ ?_ _ _ r2 ?_);exact rfl;rotate_left 2;exact rfl;exact rfl;exact rfl)
         refine hK.out _ _ trivial (fun _=>?_)
         clear hK K
         try simp only[lyA,lyB,lyC,lyD]
         refine ti 14 trivial ?_
         refine ti 15 trivial ?_
         refine rd1 16 (fun K hK=>?_)
         have hq:=e3
         have hq2:=f3
         go_simp
         clear hq hq2
         refine hK.out _ _ trivial (fun _=>?_)
         clear hK K
         try simp only[lyA,lyB,lyC,lyD]
         refine dn ?_
         generalize hW9:World.setCell _ _ _=W9
         have H9:=HE.out W9 hW9
         go_wp2_with fail
         go_ret
         exact⟨rfl,H9⟩
      ·obtain rfl:i=R.L.length:=by omega
       obtain⟨y1,y2⟩:=dec_ler hlt
       have hmade:madeL R.L n=R1.L.take R.L.length++(n,[])::R1.L.drop R.L.length:=by
        obtain⟨e1,e2⟩:=while_at (L:=R1.L) (f:=fun p=>decide (p.1<n)) (fun j p hp hj=>decide_eq_true (HP.out j p hp hj)) (fun p' hp'=>by have:=(List.getElem?_eq_some_iff.1 hp').1;rw[HTK.out]at this;omega) (by rw[HTK.out];exact hi)
        unfold madeL
        rw[HTK.out]at e1 e2
        rw[e1,e2,HTK.out]
       have HMD:=Lib.hid hmade
       have HI9:=Lib.hid hi
       clear hlt HP hmade
       go_upto_region 17 with fail
       refine wp_region_held_drew (S:=fun _=>True) (by kernel_rfl) trivial (fun _=>?_)
       have hSd:=HS.out.drew
       generalize World.drew wr=Wd at *
       obtain⟨a2,k2,s1,m1,l1,w5,s2,m2,l2,w6,hx2,hz,r1,r2,⟨e0,e1,e2,e3,f3⟩,HE⟩:=hSd.last (by rw[HTK.out];exact HLW.out.2.2) (by rw[HTK.out];exact HI9.out) n
       clear hSd
       rw[HTK.out]at hx2 hz r2 HE
       simp only[Value.slice.injEq]at hx2
       obtain⟨rfl,-,rfl⟩:=hx2
       rw[HTK.out]at HMD
       rw[<- HMD.out]at HE
       generalize(if c=R.L.length then a else(a:Option Addr).map (·.add (R.L.length*2)))=sx at hz r2
       clear d1
       rw[Nat.sub_self]at r2
       simp only[Nat.sub_self]at hz
       change (Builtin.append_ #[79,79] 79 #[_,.slice (some ⟨Wd.heap.size,0,none⟩) 1 1]).run Tryz.prog (Wd.alloc (.cells #[.int .i64 n,.string ⟨#[]⟩] 87))=_ at r1
       change (Wd.alloc (.cells #[.int .i64 n,.string ⟨#[]⟩] 87)).cell? _=_ at e1
       refine ti 0 trivial ?_
       refine ti 1 trivial ?_
       refine ti 2 trivial ?_
       refine ti 3 trivial ?_
       refine ti 6 trivial ?_
       refine ti 7 trivial ?_
       refine ti 8 trivial ?_
       refine ti 10 trivial ?_
       refine ti 11 trivial ?_
       refine rd2 4 9 (fun K hK=>?_) (fun K hK=>?_)
       ·go_simp
        refine hK.out _ _ trivial (fun _=>?_)
        clear hK K
        try simp only[lyA,lyB,lyC,lyD]
        refine rd2 5 9 (fun K hK=>?_) (fun K hK=>?_)
        ·((with_reducible refine step_append_runR ?_ ?_ ?_ 79 79 ?_ _ _ ?_ ?_ _ _ r1 ?_);exact rfl;rotate_left 2;exact rfl;exact rfl;exact rfl)
         refine hK.out _ _ trivial (fun _=>?_)
         clear hK K
         try simp only[lyA,lyB,lyC,lyD]
         refine rd1 9 (fun K hK=>?_)
         have hq:=e2
         go_simp
         clear hq
         refine hK.out _ _ trivial (fun _=>?_)
         clear hK K
         try simp only[lyA,lyB,lyC,lyD]
         refine ti 12 trivial ?_
         refine rd1 13 (fun K hK=>?_)
         ((with_reducible refine step_append_runR ?_ ?_ ?_ 79 79 ?_ _ _ ?_ ?_ _ _ r2 ?_);exact rfl;rotate_left 2;exact rfl;exact rfl;exact rfl)
         refine hK.out _ _ trivial (fun _=>?_)
         clear hK K
         try simp only[lyA,lyB,lyC,lyD]
         refine ti 14 trivial ?_
         refine ti 15 trivial ?_
         refine rd1 16 (fun K hK=>?_)
         have hq:=e3
         have hq2:=f3
         go_simp
         clear hq hq2
         refine hK.out _ _ trivial (fun _=>?_)
         clear hK K
         try simp only[lyA,lyB,lyC,lyD]
         refine dn ?_
         generalize hW9:World.setCell _ _ _=W9
         have H9:=HE.out W9 hW9
         go_wp2_with fail
         go_ret
         exact⟨rfl,H9⟩
        ·have hq:=e1
         go_simp
         clear hq
         refine hK.out _ _ trivial (fun _=>?_)
         clear hK K
         try simp only[lyA,lyB,lyC,lyD]
         refine ti 12 trivial ?_
         refine rd1 5 (fun K hK=>?_)
         ((with_reducible refine step_append_runR ?_ ?_ ?_ 79 79 ?_ _ _ ?_ ?_ _ _ r1 ?_);exact rfl;rotate_left 2;exact rfl;exact rfl;exact rfl)
         refine hK.out _ _ trivial (fun _=>?_)
         clear hK K
         try simp only[lyA,lyB,lyC,lyD]
         refine rd1 13 (fun K hK=>?_)
         ((with_reducible refine step_append_runR ?_ ?_ ?_ 79 79 ?_ _ _ ?_ ?_ _ _ r2 ?_);exact rfl;rotate_left 2;exact rfl;exact rfl;exact rfl)
         refine hK.out _ _ trivial (fun _=>?_)
         clear hK K
         try simp only[lyA,lyB,lyC,lyD]
         refine ti 14 trivial ?_
         refine ti 15 trivial ?_
         refine rd1 16 (fun K hK=>?_)
         have hq:=e3
         have hq2:=f3
         go_simp
         clear hq hq2
         refine hK.out _ _ trivial (fun _=>?_)
         clear hK K
         try simp only[lyA,lyB,lyC,lyD]
         refine dn ?_
         generalize hW9:World.setCell _ _ _=W9
         have H9:=HE.out W9 hW9
         go_wp2_with fail
         go_ret
         exact⟨rfl,H9⟩
       ·have hq:=e0
        go_simp
        clear hq
        refine hK.out _ _ trivial (fun _=>?_)
        clear hK K
        try simp only[lyA,lyB,lyC,lyD]
        refine ti 12 trivial ?_
        refine rd1 4 (fun K hK=>?_)
        go_simp
        refine hK.out _ _ trivial (fun _=>?_)
        clear hK K
        try simp only[lyA,lyB,lyC,lyD]
        refine rd1 5 (fun K hK=>?_)
        ((with_reducible refine step_append_runR ?_ ?_ ?_ 79 79 ?_ _ _ ?_ ?_ _ _ r1 ?_);exact rfl;rotate_left 2;exact rfl;exact rfl;exact rfl)
        refine hK.out _ _ trivial (fun _=>?_)
        clear hK K
        try simp only[lyA,lyB,lyC,lyD]
        refine rd1 13 (fun K hK=>?_)
        ((with_reducible refine step_append_runR ?_ ?_ ?_ 79 79 ?_ _ _ ?_ ?_ _ _ r2 ?_);exact rfl;rotate_left 2;exact rfl;exact rfl;exact rfl)
        refine hK.out _ _ trivial (fun _=>?_)
        clear hK K
        try simp only[lyA,lyB,lyC,lyD]
        refine ti 14 trivial ?_
        refine ti 15 trivial ?_
        refine rd1 16 (fun K hK=>?_)
        have hq:=e3
        have hq2:=f3
        go_simp
        clear hq hq2
        refine hK.out _ _ trivial (fun _=>?_)
        clear hK K
        try simp only[lyA,lyB,lyC,lyD]
        refine dn ?_
        generalize hW9:World.setCell _ _ _=W9
        have H9:=HE.out W9 hW9
        go_wp2_with fail
        go_ret
        exact⟨rfl,H9⟩
theorem truncateF_ref (h:IsRef w r R x y) (hR:R.Ok) (hfit:R.Fit) (n size:Int) (hsz : -9223372036854775808<=size/\size<=9223372036854775807) {e0:Int} (he:R.truncateF n size=(e0,R')) :
  Calls Tryz.prog 45 #[.pointer (some ⟨r,0,none⟩),.int .i64 n,.int .i64 size] w fun e w'=>e = .returned (.int .i64 e0)/\RefTo w r x y R' w':=by
 have HT:=Lib.hid (RefTo.self h)
 unfold RefM.truncateF at he
 cases hd:R.down with
 | true =>
  rw[if_pos hd]at he
  cases he
  have HAT:=Lib.hid (at_ref h hR.few n (i:=-1) (e0:=61) (by unfold RefM.at_;rw[if_pos hd]))
  clear h hR hd
  go_enter Tryz.func45,Tryz.ntmps45
  go_wp2_with (go_at_call 32;refine HAT.out.mono ?_;rintro e w' ⟨rfl,rfl⟩)
  go_ret
  exact⟨rfl,HT.out⟩
 | false =>
  rw[if_neg (by rw[hd];simp)]at he
  have hat:=at_up hd n
  rcases findV_cases R.L n with⟨hf,_⟩|⟨i,p,hf,hp,hpn⟩
  ·rw[if_pos (by omega)]at he hat
   cases he
   have HAT:=Lib.hid (at_ref h hR.few n hat)
   clear h hR hd hat hf
   go_enter Tryz.func45,Tryz.ntmps45
   go_wp2_with (go_at_call 32;refine HAT.out.mono ?_;rintro e w' ⟨rfl,rfl⟩)
   go_ret
   exact⟨rfl,HT.out⟩
  ·rw[if_neg (by omega),hf]at he hat
   rw[show((i:Int)).toNat=i by omega]at he
   obtain⟨es,ed⟩:=setL_at hp (p.2.take size.toNat)
   rw[ed,es]at he
   have HAT:=Lib.hid (at_ref h hR.few n hat)
   obtain⟨a,c,rfl,hc⟩:=h.form
   have c1:=h.blk.cell (i:=1) rfl
   obtain⟨g,rfl,-,q1⟩:=hc i p hp
   have hil:((i:Int)<(R.L.length:Int))=True:=eq_true (by have:=(List.getElem?_eq_some_iff.1 hp).1;omega)
   obtain⟨bp,hbp⟩:∃ bp,strB p.2=bp:=⟨_,rfl⟩
   have hbl:bp.size=p.2.length:=by rw[<- hbp];exact strB_size _
   rw[hbp]at q1
   by_cases hneg:size<0
   ·rw[if_pos (Or.inl hneg)]at he
    cases he
    have z1:decide (size<0)=true:=decide_eq_true hneg
    clear h hR hd hat hf hp hpn hbp hbl hc es ed hneg
    go_enter Tryz.func45,Tryz.ntmps45
    go_wp2_with (go_at_call 32;refine HAT.out.mono ?_;rintro e w' ⟨rfl,rfl⟩)
    go_ret
    exact⟨rfl,HT.out⟩
   ·have z1:decide (size<0)=false:=decide_eq_false hneg
    by_cases hbig:(p.2.length:Int)<size
    ·rw[if_pos (Or.inr hbig)]at he
     cases he
     have z2:decide ((bp.size:Int)<size)=true:=decide_eq_true (by rw[hbl];exact hbig)
     clear h hR hd hat hf hp hpn hbp hbl hc es ed hneg hbig
     go_enter Tryz.func45,Tryz.ntmps45
     go_wp2_with (go_at_call 32;refine HAT.out.mono ?_;rintro e w' ⟨rfl,rfl⟩)
     go_ret
     exact⟨rfl,HT.out⟩
    ·rw[if_neg (by omega)]at he
     obtain⟨k,rfl⟩:∃ k:Nat,size=(k:Int):=⟨size.toNat,by omega⟩
     have hk:k<=p.2.length:=by omega
     have z2:decide ((bp.size:Int)<(k:Int))=false:=decide_eq_false (by rw[hbl];omega)
     have z3:decide (bp.size<k)=false:=decide_eq_false (by rw[hbl];omega)
     by_cases hs:R.sinks=true
     ·rw[if_pos hs]at he
      cases he
      have hfs:=fails_ref h hR.fail0
      rw[hs]at hfs
      have HFS:=Lib.hid hfs
      have HSU:=Lib.hid (fun w1 (g1:IsRef w1 r R.tick (.slice (some ⟨g,0,none⟩) R.L.length c) y) (g2:Kept (· = r) w w1)=>(sunk_ref g1 hR.tick (by rw[R.tick_eq.2.2.2.1];exact hd) hfit.tick).mono (R':=fun e w'=>e = .returned (.int .i64 61)/\RefTo w r (.slice (some ⟨g,0,none⟩) R.L.length c) y (R.tick.crash R.tick.keep) w') (fun e w' q=>⟨q.1,RefTo.after g2 q.2⟩))
      clear hfs h hR hd hs hfit hat hf hp hpn hbp hbl hc es ed hneg hbig hk hsz HT
      go_enter Tryz.func45,Tryz.ntmps45
      go_wp2_with (first|(go_at_call 32;refine HAT.out.mono ?_;rintro e w' ⟨rfl,rfl⟩)|(go_at_call 33;refine HFS.out.mono ?_;rintro e w1 ⟨rfl,g1,g2⟩;have HSK:=Lib.hid (HSU.out w1 g1 g2);clear g1 g2)|(go_at_call 34;refine HSK.out.mono ?_;rintro e w2 ⟨rfl,g1⟩;have H2:=Lib.hid g1;clear g1))
      go_ret
      exact⟨rfl,H2.out⟩
     rw[if_neg hs]at he
     have hs:R.sinks=false:=by simpa using hs
     cases he
     rw[Int.toNat_natCast]
     obtain⟨t1,t2,t3,t4,t5,t6⟩:=R.tick_eq
     have hf1:=fails_ref h hR.fail0
     rw[hs]at hf1
     have HF:=Lib.hid hf1
     obtain⟨R1,hR1⟩:∃ R1,R.tick=R1:=⟨_,rfl⟩
     rw[hR1]at HF t1 t2
     have hbz:bp.size<=2000000:=by have:=hR.size p (List.mem_of_getElem? hp);omega
     have HD:=Lib.hid (And.intro hR (And.intro hp (And.intro hpn (And.intro hbp (And.intro hbl (And.intro hk (And.intro t1 (And.intro t2 hR1))))))))
     have hkb:k<=2000000:=by omega
     clear h hR hs hd hat hf hp hpn hbp hbl hc es ed hneg hbig hR1 t1 t2 t3 t4 t5 t6 hf1 HT hk hsz
     go_enter Tryz.func45,Tryz.ntmps45
     go_upto_region 8 with (first
      | (go_at_call 32;refine HAT.out.mono ?_;rintro e w' ⟨rfl,rfl⟩)
      | (go_at_call 33;refine HF.out.mono ?_;rintro e w1 ⟨rfl,g1,g2⟩;have H1:=Lib.hid (And.intro g1 g2);clear g1 g2))
     clear c1 q1 z1 HF HAT
     have d1:=H1.out.1.blk.cell (i:=1) rfl
     obtain⟨a',c',hq,hcells⟩:=H1.out.1.form
     rw[HD.out.2.2.2.2.2.2.1]at hq hcells
     simp only[Value.slice.injEq]at hq
     obtain⟨rfl,-,rfl⟩:=hq
     obtain⟨g',hg,-,q1⟩:=hcells i p HD.out.2.1
     simp only[Option.some.injEq,Addr.mk.injEq,and_true]at hg
     subst hg
     rw[HD.out.2.2.2.1]at q1
     have hct:=Lib.hid (cut_ref H1.out.1 (by rw[HD.out.2.2.2.2.2.2.2.1];exact HD.out.1.loo) n ((p.2.length:Int)-(k:Int)) (by have:=HD.out.2.2.2.2.1;have:=HD.out.2.2.2.2.2.1;omega))
     clear hcells
     rw[<- HD.out.2.2.2.2.1]at hct
     go_upto_region 9 with (go_at_call 86;refine hct.out.mono ?_;rintro e w2 ⟨rfl,y2,g1,g2,g3⟩;have H2:=Lib.hid (And.intro g1 (And.intro g2 g3));clear g1 g2 g3)
     clear d1 q1 hct z2
     have e2:(strB (p.2.take k))=bp.extract 0 k:=by rw[<- HD.out.2.2.2.1];exact(take_strB _ _).symm
     obtain⟨g5,m,c5,w3,hr,hm,him,c1,f1,c2,f2,HE⟩:=H2.out.1.relay (by show R1.L.length<=100;rw[HD.out.2.2.2.2.2.2.1];exact HD.out.1.few) (i:=i) (p:=p) (by show R1.L[i]? = some p;rw[HD.out.2.2.2.2.2.2.1];exact HD.out.2.1) (p.2.take k)
     rw[e2]at c2 f2 HE
     rw[HD.out.2.2.2.1]at c1
     have him2:((i:Int)<(m:Int))=True:=eq_true (by omega)
     have d1:=H2.out.1.blk.cell (i:=1) rfl
     have HM:=Lib.hid hm
     have hk1:k<=bp.size:=by rw[HD.out.2.2.2.2.1];exact HD.out.2.2.2.2.2.1
     have hk2:((k:Int)<=(bp.size:Int))=True:=eq_true (by omega)
     clear e2 hm hil
     go_upto_region 12 with (at_builtin;refine Lib.wpList_append_run _ rfl _ _ 79 79 rfl _ _ rfl rfl _ _ hr ?_)
     generalize hW3:World.setCell _ _ _=W3
     obtain⟨g1,g2,g3⟩:=HE.out W3 hW3
     have HG:=Lib.hid (And.intro g1 (And.intro g2 g3))
     clear g1 g2 g3 hW3 HE c1 c2 f1 f2 hr d1
     go_wp2_with fail
     go_ret
     refine⟨rfl,_,_,?_,(H1.out.2.trans H2.out.2.1).trans HG.out.2.1,fun q e=>Or.inr (by have:=HG.out.2.2 q e;have:=H1.out.2.size;have:=H2.out.2.1.size;omega),fun q e=>Or.inr (by have:=H2.out.2.2 q e;have:=H1.out.2.size;omega)⟩
     have h9:=HG.out.1
     rw[HD.out.2.2.2.2.2.2.2.2]
     rw[HD.out.2.2.2.2.1,HD.out.2.2.2.2.2.2.1,HD.out.2.2.2.2.2.2.2.1]at h9
     exact h9
end
section
variable {w w' w1 W : World} {r : Nat} {R R' R1 : RefM} {x y x' y' v : Value} {l : List Int}
theorem appendF_ref (h:IsRef w r R x y) (hR:R.Ok) (n:Int) (s:By) (hsl:s.length<=2000000) (hfit:R.sinks=true->R.down=false->¬ findV R.L n<0->¬ R.free<(s.length:Int)->(R.appended n s).Fit/\(R.appended n s).Ok) {e0:Int} (he:R.appendF n s=(e0,R')) :
  Calls Tryz.prog 13 #[.pointer (some ⟨r,0,none⟩),.int .i64 n,.string (strB s)] w fun e w'=>e = .returned (.int .i64 e0)/\RefTo w r x y R' w':=by
 have HT:=Lib.hid (RefTo.self h)
 unfold RefM.appendF at he
 cases hd:R.down with
 | true =>
  rw[if_pos hd]at he
  cases he
  have HAT:=Lib.hid (at_ref h hR.few n (i:=-1) (e0:=61) (by unfold RefM.at_;rw[if_pos hd]))
  clear h hR hd hsl
  go_enter Tryz.func13,Tryz.ntmps13
  go_wp2_with (go_at_call 32;refine HAT.out.mono ?_;rintro e w' ⟨rfl,rfl⟩)
  go_ret
  exact⟨rfl,HT.out⟩
 | false =>
  rw[if_neg (by rw[hd];simp)]at he
  have hat:=at_up hd n
  rcases findV_cases R.L n with⟨hf,_⟩|⟨i,p,hf,hp,hpn⟩
  ·rw[if_pos (by omega)]at he hat
   cases he
   have HAT:=Lib.hid (at_ref h hR.few n hat)
   clear h hR hd hsl hat hf
   go_enter Tryz.func13,Tryz.ntmps13
   go_wp2_with (go_at_call 32;refine HAT.out.mono ?_;rintro e w' ⟨rfl,rfl⟩)
   go_ret
   exact⟨rfl,HT.out⟩
  ·rw[if_neg (by omega)]at he hat
   rw[hf]at hat
   have HAT:=Lib.hid (at_ref h hR.few n hat)
   have HFR:=Lib.hid (free_ref h hR)
   obtain⟨bs,hbs⟩:∃ bs,strB s=bs:=⟨_,rfl⟩
   have hbl:bs.size=s.length:=by rw[<- hbs];exact strB_size s
   by_cases hfr:R.free<(s.length:Int)
   ·rw[if_pos hfr]at he
    cases he
    have z1:decide (R.free<(bs.size:Int))=true:=decide_eq_true (by rw[hbl];exact hfr)
    rw[hbs]
    clear h hR hd hsl hat hf hp hpn hfr hbs hbl
    generalize R.free=F at *
    go_enter Tryz.func13,Tryz.ntmps13
    go_wp2_with (first
     | (go_at_call 32;refine HAT.out.mono ?_;rintro e w' ⟨rfl,rfl⟩)
     | (go_at_call 36;refine HFR.out.mono ?_;rintro e w' ⟨rfl,rfl⟩))
    go_ret
    exact⟨rfl,HT.out⟩
   ·rw[if_neg hfr]at he
    have hfit:=fun q=>hfit q hd (by omega) hfr
    have HZ:=Lib.hid (And.intro he (And.intro hd (And.intro hfit hf)))
    have z1:decide (R.free<(bs.size:Int))=false:=decide_eq_false (by rw[hbl];exact hfr)
    have z2:(9223372036854775807<p.2.length+s.length)=False:=eq_false (by have:=hR.size p (List.mem_of_getElem? hp);omega)
    obtain⟨e1,e2⟩:=setL_at hp (p.2++s)
    obtain⟨g,m,c,w1,hr,hm,him,c1,f1,c2,f2,HE⟩:=h.relay hR.few hp (p.2++s)
    have e3:strB (p.2++s)=strB p.2++bs:=by rw[<- hbs];exact(bstr_cat _ _).symm
    rw[e3]at HE c2 f2
    have hbp:(strB p.2).size=p.2.length:=strB_size p.2
    obtain⟨bp,hbpe⟩:∃ bp,strB p.2=bp:=⟨_,rfl⟩
    rw[hbpe]at c1 c2 f2 HE hbp
    rw[<- hbp,<- hbl]at z2
    have c0:=h.blk.cell (i:=1) rfl
    have him2:((i:Int)<(m:Int))=True:=eq_true (by omega)
    have HD:=Lib.hid (And.intro trivial (And.intro hR (And.intro hp (And.intro hsl (And.intro hbl (And.intro hpn (And.intro e1 e2)))))))
    rw[hbs]
    clear h hR hd hfit he hsl hat hf hfr hbs hbl e1 e2 e3 hbp hbpe hm hp hpn
    go_enter Tryz.func13,Tryz.ntmps13
    go_upto_region 9 with (first
     | (go_at_call 32;refine HAT.out.mono ?_;rintro e w' ⟨rfl,rfl⟩)
     | (go_at_call 36;refine HFR.out.mono ?_;rintro e w' ⟨rfl,rfl⟩)
     | (at_builtin;refine Lib.wpList_append_run _ rfl _ _ 79 79 rfl _ _ rfl rfl _ _ hr ?_))
    generalize hW3:World.setCell _ _ _=W3
    obtain⟨g1,g2,g3⟩:=HE.out W3 hW3
    obtain⟨R1,hR1⟩:∃ R1:RefM,R1 = { R with L:=R.L.set i (p.1,p.2++s) }:=⟨_,rfl⟩
    have hlo:R1.loose=R.loose:=by rw[hR1]
    rw[<- hR1]at g1
    obtain⟨ya,yc,rfl,-⟩:=g1.lform
    have d2:=g1.blk.cell (i:=2) rfl
    obtain⟨sa,k9,cap,w4,ha,hk9,HL⟩:=(LooS.start g1).all (by have:=HD.out.2.1.loo;rw[hlo];simp;omega) g1.loose.view
    rw[List.nil_append]at HL
    rw[List.length_nil,Nat.zero_add]at hk9
    subst hk9
    have HG:=Lib.hid (And.intro g2 (And.intro g3 (And.intro hR1 hlo)))
    clear g1 g2 g3 hR1 hlo hW3 c0 c1 c2 f1 f2 z1 z2 him2 HE HAT HFR hr
    go_upto_region 10 with (at_builtin;refine Lib.wpList_append_run _ rfl _ _ 80 80 rfl _ _ rfl rfl _ _ ha ?_)
    clear ha d2
    have hbs2:bs.size<=2000000:=by have:=HD.out.2.2.2.1;have:=HD.out.2.2.2.2.1;omega
    go_wp2_with fail
    go_loopw [10,11] (fun z10 z11 wr=>∃ (k:Nat) (sa:Option Addr) (m9 sc:Nat),k<=bs.size/\z10 = .slice sa m9 sc/\z11 = .int .i64 (k:Int)/\Hid (LooS W3 r R1 (.slice (some ⟨g,0,none⟩) m c) (.slice ya R1.loose.length yc) (.slice sa m9 sc) (R1.loose++List.replicate k n) wr)) (fun _ z11 _=>bs.size-(intOf z11).toNat)
    case atStart=>exact⟨0,sa,_,cap,Nat.zero_le _,rfl,rfl,by rw[List.replicate_zero,List.append_nil];exact HL⟩
    case round =>
     obtain⟨k,sb,m9,sc,hk,rfl,rfl,HS⟩:=hrel
     by_cases hlt:k<bs.size
     ·obtain⟨y1,y2⟩:=dec_gtr hlt
      obtain⟨sd,m8,sc8,w5,hap,-,HS5⟩:=HS.out.app (by have:=HD.out.2.1.loo;have:=HG.out.2.2.2;rw[List.length_append,List.length_replicate,this];omega) n
      rw[List.append_assoc,replicate_snoc]at HS5
      have HLT:=Lib.hid hlt
      clear hk
      go_wp2_with (at_builtin;refine Lib.wpList_append_run _ rfl _ _ 80 80 rfl _ _ rfl rfl _ _ hap ?_)
      go_roundw
      case rel=>exact⟨k+1,sd,m8,sc8,HLT.out,rfl,by go_num,HS5⟩
      case measure=>have:=HLT.out;simp[intOf];omega
     ·obtain rfl:k=bs.size:=by omega
      obtain⟨y1,y2⟩:=dec_ler hlt
      obtain⟨d2,f2,hdone⟩:=HS.out.done
      have HDN:=Lib.hid hdone
      clear hlt hk hdone
      go_upto_region 15 with fail
      generalize hW6:World.setCell _ _ _=W6
      obtain⟨g1,g2,g3⟩:=HDN.out W6 hW6
      have hf:=fails_ref g1 (append_okr HD.out.2.1 (by rw[HG.out.2.2.1]) rfl)
      have e9:RefM.sinks { R1 with loose:=R1.loose++List.replicate bs.size n } = R.sinks:=by rw[HG.out.2.2.1];rfl
      have hA:({ R1 with loose:=R1.loose++List.replicate bs.size n } : RefM)=R.appended n s:=by
       unfold RefM.appended
       rw[HZ.out.2.2.2,HD.out.2.2.2.2.1,HG.out.2.2.1]
       show _=({ R with L:=setL R.L (((i:Nat):Int)).toNat (datL R.L (((i:Nat):Int)).toNat++s),loose:=R.loose++List.replicate s.length n } : RefM)
       rw[show(((i:Nat):Int)).toNat=i by omega,HD.out.2.2.2.2.2.2.2,HD.out.2.2.2.2.2.2.1]
      rw[e9,hA]at hf
      have hhe:=HZ.out.1
      have HFI:=Lib.hid HZ.out.2.2.1
      have HDN2:=Lib.hid HZ.out.2.1
      have HK:=Lib.hid (And.intro g2 g3)
      have hks:=(HG.out.1.then_ HK.out.1 (fun _ _ q=>q)).size
      have HOW:=Lib.hid (show(∀ k,(Value.slice (some ⟨g,0,none⟩) m c).ownBlock=some k->w.heap.size<=k)/\(∀ k,_->w.heap.size<=k)from⟨HG.out.2.1,fun k q=>by have:=HK.out.2 k q;have:=HG.out.1.size;omega⟩)
      have HKK:=Lib.hid (HG.out.1.then_ HK.out.1 (fun _ _ q=>q))
      clear g1 g2 g3 e9 hW6 d2 f2 y1 y2 hks hA HZ HD HG HK
      cases hsk:R.sinks with
      | false =>
       rw[hsk]at hf hhe
       rw[if_neg (by simp)]at hhe
       cases hhe
       have HF:=Lib.hid hf
       clear hf hsk
       go_wp2_with (go_at_call 33;refine HF.out.mono ?_;rintro e w7 ⟨rfl,g1,g2⟩;have H7:=Lib.hid (And.intro g1 g2);clear g1 g2)
       go_ret
       exact⟨rfl,_,_,H7.out.1,HKK.out.then_ H7.out.2 (fun _ _ q=>q),fun k q=>Or.inr (HOW.out.1 k q),fun k q=>Or.inr (HOW.out.2 k q)⟩
      | true =>
       rw[hsk]at hf hhe
       rw[if_pos rfl]at hhe
       cases hhe
       have HF:=Lib.hid hf
       have hfo:=HFI.out hsk
       have hkp:(R.appended n s).tick.keep=R.keep:=(R.appended n s).tick_eq.2.2.2.2.2
       have HSU:=Lib.hid (fun w7 x7 y7 (g1:IsRef w7 r (R.appended n s).tick x7 y7)=>(sunk_ref g1 hfo.2.tick (by rw[(R.appended n s).tick_eq.2.2.2.1];exact HDN2.out) hfo.1.tick))
       rw[hkp]at HSU
       clear hf hsk hfo hkp
       go_wp2_with (first
        | (go_at_call 33;refine HF.out.mono ?_;rintro e w7 ⟨rfl,g1,g2⟩;have HK7:=Lib.hid g2;have HSK:=Lib.hid (HSU.out w7 _ _ g1);clear g1 g2)
        | (go_at_call 34;refine HSK.out.mono ?_;rintro e w8 ⟨rfl,g1⟩;have H8:=Lib.hid g1;clear g1))
       go_ret
       obtain⟨x9,y9,q1,q2,q3,q4⟩:=H8.out
       have hkk:=HKK.out.then_ HK7.out (S:=(· = r)) (fun _ _ q=>q)
       have hz:=hkk.size
       exact⟨rfl,x9,y9,q1,hkk.then_ q2 (fun _ _ q=>q),fun k q=>Or.inr ((q3 k q).elim (HOW.out.1 k) (fun q=>by omega)),fun k q=>Or.inr ((q4 k q).elim (HOW.out.2 k) (fun q=>by omega))⟩
end
section
variable {w w1 w2 : World} {r : Nat} {M M1 M2 : DiskM} {x y x1 y1 : Value} {e : Int}
end
end Go.Proofs.YtdmedbhbefdnkaaGreatDoor
