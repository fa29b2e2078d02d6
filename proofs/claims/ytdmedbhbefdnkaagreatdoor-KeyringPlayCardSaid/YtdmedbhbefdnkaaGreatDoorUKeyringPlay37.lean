/- Paths1 Paths2 Lam2 Lam3 Lam4 Lam5 Lam6 Lam7 -/
import Derived.Test.YtdmedbhbefdnkaaGreatDoorUKeyringPlay34
import Derived.Test.YtdmedbhbefdnkaaGreatDoorUKeyringPlay02
import Derived.Test.YtdmedbhbefdnkaaGreatDoorUKeyringPlay30
set_option linter.unusedVariables false
set_option linter.unusedSimpArgs false
set_option maxRecDepth 100000
set_option maxHeartbeats 16000000
namespace Go.Proofs.YtdmedbhbefdnkaaGreatDoor
open Go.RowKit Go.Sort Go.Shelf
abbrev H32:={l:By // l.length=32}
instance:Inhabited H32:=⟨⟨List.replicate 32 0,by simp⟩⟩
def hcell (x:H32):List Value:=bytes8 x.1
def hvals (l:List H32):List By:=l.map (·.1)
theorem hvals_32 (l:List H32):∀ x∈hvals l,x.length=32:=by
 intro x hx
 obtain⟨y,_,rfl⟩:=List.mem_map.1 hx
 exact y.2
theorem hcells_get {L:List By} (h:∀ x∈L,x.length=32) (q r:Nat) (hr:r<32) (a:By) (hq:L[q]? = some a):(hcells L)[q*32+r]? = (bytes8 a)[r]?:=by
 rw[<- hcells_at h q a hq,List.getElem?_take_of_lt hr,List.getElem?_drop]
def lift32 (L:List By) (h:∀ x∈L,x.length=32):List H32:=L.pmap (fun x hx=>⟨x,hx⟩) h
theorem hvals_lift (L:List By) (h:∀ x∈L,x.length=32):hvals (lift32 L h)=L:=by simp[hvals,lift32,List.map_pmap]
theorem hflat_eq (l:List H32):(flatK hcell 32 l.toArray).toList=hcells (hvals l):=by
 apply List.ext_getElem?
 intro i
 have hl2:(hcells (hvals l)).length=l.length*32:=by rw[hcells_len (hvals_32 l)];simp[hvals]
 by_cases hi:i<l.length*32
 ·have hq:i/32<l.length:=by omega
  obtain⟨p,hp⟩:∃ p,l[i/32]? = some p:=⟨l[i/32],List.getElem?_eq_getElem hq⟩
  have hp2:l.toArray[i/32]! = p:=by
   rw[getElem!_pos _ _ (by simpa using hq)]
   simp[List.getElem?_eq_getElem hq]at hp
   simpa using hp
  have hv:(hvals l)[i/32]? = some p.1:=by simp[hvals,hp]
  have g0:=hcells_get (hvals_32 l) (i/32) (i%32) (by omega) p.1 hv
  rw[show i/32*32+i%32=i by omega]at g0
  have hf:=get_flatK hcell 32 l.toArray i (by simpa using hi)
  have hf2:(flatK hcell 32 l.toArray).toList[i]? = some (hcell p)[i%32]!:=by
   rw[<- hp2,<- hf]
   rw[getElem!_pos _ _ (by simpa using hi)]
   simp[List.getElem?_eq_getElem,hi]
  have hlen:i%32<(hcell p).length:=by show i%32<(bytes8 p.1).length;rw[bytes8_len,p.2];omega
  rw[hf2,g0,getElem!_pos (hcell p) (i%32) hlen]
  exact(List.getElem?_eq_getElem hlen).symm
 ·rw[List.getElem?_eq_none (by simp;omega),List.getElem?_eq_none (by omega)]
section
variable {w : World} {g n cap : Nat}
theorem kept_putRow (w:World) (blk m:Nat) (dk:Array H32):Kept (· = blk) w (putRowK hcell 32 (Sort.ahead w m) blk 0 dk):=by
 have hsz:(putRowK hcell 32 (Sort.ahead w m) blk 0 dk).heap.size=w.heap.size:=by
  unfold putRowK
  rw[Sort.size_putRow];rfl
 refine⟨rfl,rfl,rfl,by rw[hsz];exact Nat.le_refl _,fun k hk hn=>?_⟩
 show((Sort.ahead w m).heap.modify blk _)[k]? = _
 rw[Array.getElem?_modify,if_neg (fun e=>hn e.symm)]
 rfl
theorem putCells_rowH (xs ys rest:List Value) (h:xs.length=ys.length):Sort.putCells id 0 ys.toArray (xs++rest).toArray=(ys++rest).toArray:=by
 apply Array.ext'
 apply List.ext_getElem?
 intro i
 unfold Sort.putCells
 simp only[Array.toList_mapIdx,List.getElem?_mapIdx]
 by_cases hi:i<ys.length
 ·rw[List.getElem?_append_left (by omega)]
  simp only[List.getElem?_append_left (show i<ys.length from hi)]
  have:i<xs.length:=by omega
  simp[List.getElem?_eq_getElem,hi,this]
 ·rw[List.getElem?_append_right (by omega)]
  simp only[List.getElem?_append_right (show ys.length<=i by omega)]
  rw[h]
  cases hr:rest[i-ys.length]? with
  | none=>simp[hr]
  | some v=>simp[hr,hi]
theorem blk_putRow {c:List Value} {rest:List Value} (h:Blk w g (c++rest) 30) (m:Nat) (l:List H32) (hl:c.length=l.length*32):Blk (putRowK hcell 32 (Sort.ahead w m) g 0 l.toArray) g (hcells (hvals l)++rest) 30:=by
 unfold Blk at *
 show((Sort.ahead w m).heap.modify g (onCells (Sort.putCells id 0 (flatK hcell 32 l.toArray))))[g]? = _
 rw[Array.getElem?_modify,if_pos rfl]
 show Option.map _ w.heap[g]? = _
 rw[h]
 have e:=putCells_rowH c (hcells (hvals l)) rest (by rw[hl,hcells_len (hvals_32 l)];simp[hvals])
 have e2:(hcells (hvals l)).toArray=flatK hcell 32 l.toArray:=by rw[<- hflat_eq]
 rw[e2]at e
 simp[onCells,e]
theorem holds_rowH {l:List H32} {rest:List Value} (h:Blk w g (hcells (hvals l)++rest) 30):HoldsK hcell 32 w g 0 l.toArray:=by
 intro j hj
 have hj':j<l.length*32:=by simpa using hj
 refine⟨?_,h.free _⟩
 have hlen:(hcells (hvals l)).length=l.length*32:=by rw[hcells_len (hvals_32 l)];simp[hvals]
 rw[Nat.zero_add]
 refine h.cell ?_
 rw[List.getElem?_append_left (by omega),<- hflat_eq]
 have e:(flatK hcell 32 l.toArray)[j]! = (flatK hcell 32 l.toArray)[j]:=getElem!_pos (flatK hcell 32 l.toArray) j hj
 rw[e]
 simp[List.getElem?_eq_getElem,hj']
end
theorem reverse_any (w:World) (v:Value) (L:List By) (hr:Row w 30 32 v (hcells L)) (h32:∀ x∈L,x.length=32) (hL:L.length<=1000000) :
  Calls Tryz.prog 125 #[v] w fun e w'=>e = .returned (.tuple #[])/\Row w' 30 32 v (hcells L.reverse)/\Kept (fun k=>v.ownBlock=some k) w w':=by
 rcases hr with⟨rfl,hx⟩|⟨g,n,cap,rest,rfl,h1,hb,h2,h3,h4⟩
 ·have hl:L=[]:=by
   have:=hcells_len h32
   rw[hx]at this
   exact List.eq_nil_of_length_eq_zero (by simp at this;omega)
  subst hl
  refine(AnyQ.slices_Reverse_empty Tryz.reverseHash none 0 w).mono ?_
  rintro e w' ⟨rfl,rfl⟩
  exact⟨rfl,Row.nil _ _ _,Kept.refl _ _⟩
 ·have hn:n=L.length:=by rw[hcells_len h32]at h1;omega
  have hlift:=hvals_lift L h32
  generalize hM:lift32 L h32=M at *
  have hML:M.length=L.length:=by rw[<- hlift];simp[hvals]
  subst hlift
  have hn2:n=M.toArray.size:=by simp;omega
  subst hn2
  refine(AnyQ.slices_Reverse Tryz.reverseHash 32 Tryz.isAgg30 Tryz.sizeOf30 hcell (fun x=>by show(bytes8 x.1).length=32;rw[bytes8_len,x.2]) (fun x v hv=>u8_oneCell v hv) g 0 cap M.toArray w (holds_rowH hb) (by simp;omega)).mono ?_
  rintro e w' ⟨rfl,m,rfl⟩
  have hrev:M.toArray.reverse=M.reverse.toArray:=by simp
  rw[hrev]
  have hvr:(hvals M).reverse=hvals M.reverse:=by simp[hvals]
  refine⟨rfl,Or.inr ⟨g,M.toArray.size,cap,rest,rfl,?_,?_,h2,?_,h4⟩,(kept_putRow w g m _).mono (fun k _ e=>by simp[Value.ownBlock,e])⟩
  ·rw[hvr,hcells_len (hvals_32 _)];simp[hvals]
  ·rw[hvr]
   exact blk_putRow hb m M.reverse (by rw[hcells_len (hvals_32 _)];simp[hvals])
  ·rw[hvr,hcells_len (hvals_32 _)]
   rw[hcells_len (hvals_32 _)]at h3
   simpa[hvals]using h3
end Go.Proofs.YtdmedbhbefdnkaaGreatDoor
namespace Go.Proofs.YtdmedbhbefdnkaaGreatDoor
open Go.RowKit
def PathPost (w:World) (P:List By) (e:Ending) (w':World):Prop :=
 ∃ v,e = .returned (.tuple #[v,.int .i64 0])/\Row w' 30 32 v (hcells P)/\(∀ k,v.ownBlock=some k->w.heap.size<=k)/\Kept (fun _=>False) w w'
theorem flatten_drop {L:List By} (h:∀ x∈L,x.length=32) (k:Nat):L.flatten.drop (k*32)=(L.drop k).flatten:=by
 induction L generalizing k with
 | nil=>simp
 | cons a L ih =>
  have ha:=h a (by simp)
  cases k with
  | zero=>simp
  | succ k =>
   rw[List.flatten_cons,show(k+1)*32=a.length+k*32 by omega,<- List.drop_drop,List.drop_left,List.drop_succ_cons]
   exact ih (fun x hx=>h x (by simp[hx])) k
theorem flatten_take {L:List By} (h:∀ x∈L,x.length=32) (k:Nat):L.flatten.take (k*32)=(L.take k).flatten:=by
 induction L generalizing k with
 | nil=>simp
 | cons a L ih =>
  have ha:=h a (by simp)
  cases k with
  | zero=>simp
  | succ k =>
   rw[List.flatten_cons,show(k+1)*32=a.length+k*32 by omega,List.take_length_add_append,List.take_succ_cons,List.flatten_cons,ih (fun x hx=>h x (by simp[hx])) k]
theorem hcells_drop {L:List By} (h:∀ x∈L,x.length=32) (k:Nat):(hcells L).drop (k*32)=hcells (L.drop k):=by
 rw[hcells,bytes8_drop,flatten_drop h]
theorem hcells_take {L:List By} (h:∀ x∈L,x.length=32) (k:Nat):(hcells L).take (k*32)=hcells (L.take k):=by
 rw[hcells,bytes8_take,flatten_take h]
theorem path_root {w wr:World} {x z:Value} {M os:List By} (hview:View wr 32 x (hcells M)) (h32:∀ q∈M,q.length=32) (hM:M.length<=1000000) (ht:Tab wr) (hrow:Row wr 30 32 z (hcells os)) (ho32:∀ q∈os,q.length=32) (hos:os.length<=1000000)
  (hown:∀ b,z.ownBlock=some b->w.heap.size<=b) (hk:Kept (fun _=>False) w wr) :
  Calls Tryz.prog 105 #[x] wr fun e w2=>∃ v' w',e = .returned (hashV (rootF M)) /\
   (Builtin.append_ #[59,59] 59 #[z,.slice (some ⟨w2.heap.size,0,none⟩) 1 1]).run Tryz.prog (w2.alloc (.cells (bytes8 (rootF M)).toArray 30)) = .ok v' w' /\
   Hid (Row w' 30 32 v' (hcells (os++[rootF M]))/\(∀ b,v'.ownBlock=some b->w.heap.size<=b)/\Kept (fun b=>z.ownBlock=some b) wr w'/\Kept (fun _=>False) w w'):=by
 refine(root_any wr x M hview h32 hM ht).mono ?_
 rintro e w2 ⟨rfl,hk2⟩
 obtain⟨v',w',hr,hrow3,hk3,ho3⟩:=append_hash1 (hrow.kept hk2 (fun _ _=>id)) ho32 (rootF M) (rootF_len h32) hos
 have hk4:Kept (fun b=>z.ownBlock=some b) wr w':=(hk2.mono (fun _ _=>False.elim)).trans hk3
 refine⟨v',w',rfl,hr,Lib.hid ⟨hrow3,fun b hb=>?_,hk4,hk.then_ hk4 (fun i hi hx=>?_)⟩⟩
 ·rcases ho3 b hb with h|h
  ·exact hown b h
  ·have:=hk.size;have:=hk2.size;omega
 ·have:=hown i hx;omega
theorem path_any (w:World) (v:Value) (L:List By) (i:Nat) (hv:View w 32 v (hcells L)) (h32:∀ x∈L,x.length=32) (hL:L.length<=1000000) (hi:i<L.length) (ht:Tab w) :
  Calls Tryz.prog 98 #[v,.int .i64 (i:Int)] w (PathPost w (pathF L i)):=by
 have hv0:=hv
 obtain⟨a,n,cap,rfl,h1,h2,h3,h4,h5⟩:=hv
 rw[hcells_len h32]at h1
 have hn:n=L.length:=by omega
 obtain⟨g,off,rfl,hg,_⟩:=h5 (by omega)
 have y1:decide ((i:Int)<0)=false:=decide_eq_false (by omega)
 have y2:decide (n<=i)=false:=decide_eq_false (by omega)
 have HN:=Lib.hid hn
 clear h1 h2 h3 h4 h5 hn
 go_enter Tryz.func98,Tryz.ntmps98
 go_wp2_with fail
 go_loopw [0,1,6] (fun x y z wr=>∃ (M:List By) (j:Nat) (os:List By),y = .int .i64 (j:Int)/\View wr 32 x (hcells M)/\(∀ b,x.ownBlock=some b->b<w.heap.size)/\Hid (∀ q∈M,q.length=32)/\j<M.length/\os.length+M.length<=L.length /\
  Row wr 30 32 z (hcells os)/\Hid (∀ q∈os,q.length=32)/\(∀ b,z.ownBlock=some b->w.heap.size<=b)/\Hid (topF L i=os++topF M j)/\Kept (fun _=>False) w wr) (fun x _ _ _=>sliceLen x)
 case atStart=>exact⟨L,i,[],rfl,hv0,fun b hb=>by simp[Value.ownBlock]at hb;omega,Lib.hid h32,hi,by simp,Row.nil _ _ _,Lib.hid (fun q hq=>by simp at hq),fun b hb=>by simp[Value.ownBlock]at hb,Lib.hid (by simp),Kept.refl _ _⟩
 case round =>
  obtain⟨M,j,os,rfl,hview,hvb,HM32,hj,hlen,hrow,HO32,hown,HT,hk⟩:=hrel
  have hview0:=hview
  obtain⟨a,n,cap,rfl,h1,h2,h3,h4,h5⟩:=hview
  rw[hcells_len HM32.out]at h1
  obtain rfl:n=M.length:=by omega
  by_cases hone:1<M.length
  ·have z1:decide ((1:Int)<(M.length:Int))=true:=decide_eq_true (by omega)
   have z1':decide (1<M.length)=true:=decide_eq_true hone
   have hin:=splitN_in (n:=M.length) (by omega)
   have HSP:=Lib.hid (fun w'=>split_any w' M.length (by omega))
   generalize hK:splitN M.length=K at *
   have hr28:∀ w0,(Instr.slice 59 (.slice a M.length cap) (some (.int .i64 (K:Int))) none none).run Tryz.prog w0 = .ok (.slice (if cap=K then a else a.map (·.add (K*32))) (M.length-K) (cap-K)) w0:=fun w0=>hview0.run_tail elem_hashes size_hashes K (by omega) w0
   have hr34:∀ w0,(Instr.slice 59 (.slice a M.length cap) none (some (.int .i64 (K:Int))) none).run Tryz.prog w0 = .ok (.slice a K cap) w0:=fun w0=>hview0.run_head elem_hashes size_hashes K (by omega) w0
   have hvt:=hview0.tail K (by omega)
   have hvh:=hview0.head K (by omega)
   rw[hcells_drop HM32.out]at hvt
   rw[hcells_take HM32.out]at hvh
   have hob:(Value.slice (if cap=K then a else a.map (·.add (K*32))) (M.length-K) (cap-K)).ownBlock=(Value.slice a M.length cap).ownBlock:=by
    rcases a with _|⟨g,off,s⟩
    ·simp[Value.ownBlock]
    ·split
     ·rfl
     ·simp only[Option.map_some,Value.ownBlock,Addr.add];split<;>rfl
   have hvl:sliceLen (Value.slice (if cap=K then a else a.map (·.add (K*32))) (M.length-K) (cap-K))=M.length-K:=rfl
   generalize(Value.slice (if cap=K then a else a.map (·.add (K*32))) (M.length-K) (cap-K))=vt at *
   have hvb2:∀ b,(Value.slice a K cap).ownBlock=some b->b<w.heap.size:=fun b hb=>hvb b (by cases a<;>(simp[Value.ownBlock]at hb ⊢;try exact hb))
   have hvb3:∀ b,vt.ownBlock=some b->b<w.heap.size:=fun b hb=>hvb b (by rw[<- hob];exact hb)
   have hd32:∀ q∈M.drop K,q.length=32:=fun q hq=>HM32.out q (List.mem_of_mem_drop hq)
   have ht32:∀ q∈M.take K,q.length=32:=fun q hq=>HM32.out q (List.mem_of_mem_take hq)
   by_cases hlow:j<K
   ·have z2:decide ((j:Int)<(K:Int))=true:=decide_eq_true (by omega)
    have z2':decide (j<K)=true:=decide_eq_true hlow
    have htop:=topF_low (l:=M) (i:=j) (by omega) (by rw[hK];exact hlow)
    rw[hK]at htop
    have hcall:=path_root hvt hd32 (by simp;omega) (ht.same hk) hrow HO32.out (by omega) hown hk
    have HF:=Lib.hid (And.intro hvh (And.intro hvb2 (And.intro ht32 htop)))
    have HX:=Lib.hid (And.intro hin (And.intro hlen hj))
    have HV:=Lib.hid (And.intro hvb hown)
    have hR32:=rootF_len hd32
    have HR:=Lib.hid hR32
    have HJ:=Lib.hid hlow
    generalize rootF (M.drop K)=R at *
    have lR:(bytes8 R).length=32:=by rw[bytes8_len,hR32]
    have hfold:=fold_hash hR32
    simp only[zeros,List.replicate]at hfold
    clear hvb3 hvl hview0 hvb h1 h2 h3 h4 h5 hin hvt hvh hob hvb2 hd32 ht32 htop hlow hone hrow hown hj hlen hR32 hK
    go_wp2_with (first|(go_at_call 124;refine(HSP.out _).mono ?_;rintro e w1 ⟨rfl,rfl⟩)|(go_at_call 105;refine hcall.mono ?_;rintro e w2 ⟨v',w',rfl,hr1,HG⟩)|(at_builtin;refine Lib.wpList_append_run _ rfl _ _ 59 59 rfl _ _ rfl rfl _ _ hr1 ?_))
    obtain⟨g1,g2,g3,g4⟩:=HG.out
    obtain⟨f1,f2,f3,f4⟩:=HF.out
    obtain⟨e1,e2,e3⟩:=HX.out
    have e4:=HJ.out
    refine⟨⟨M.take K,j,os++[R],rfl,f1.kept g3 (fun b c t f hb hv hz=>?_) (by omega),f2,Lib.hid f3,by rw[List.length_take];omega,by rw[List.length_append,List.length_take];simp only[List.length_cons,List.length_nil];omega,g1,Lib.hid (fun q hq=>?_),g2,Lib.hid ?_,g4⟩,e1.2⟩
    ·have h1:=f2 b hv
     have h2:=HV.out.2 b hz
     omega
    ·rcases List.mem_append.1 hq with h|h
     ·exact HO32.out q h
     ·rw[List.mem_singleton.1 h];exact HR.out
    ·rw[HT.out,f4,List.append_assoc,List.singleton_append]
   ·have z2:decide ((j:Int)<(K:Int))=false:=decide_eq_false (by omega)
    have z2':decide (j<K)=false:=decide_eq_false hlow
    have htop:=topF_high (l:=M) (i:=j) (by omega) (by rw[hK];exact hlow)
    rw[hK]at htop
    have hcall:=path_root hvh ht32 (by simp;omega) (ht.same hk) hrow HO32.out (by omega) hown hk
    have HF:=Lib.hid (And.intro hvt (And.intro hvb3 (And.intro hd32 htop)))
    have HX:=Lib.hid (And.intro hin (And.intro hlen hj))
    have HV:=Lib.hid (And.intro hvb hown)
    have hR32:=rootF_len ht32
    have HR:=Lib.hid hR32
    have HVL:=Lib.hid hvl
    have HJ:=Lib.hid hlow
    generalize rootF (M.take K)=R at *
    have lR:(bytes8 R).length=32:=by rw[bytes8_len,hR32]
    have hfold:=fold_hash hR32
    simp only[zeros,List.replicate]at hfold
    have a9:wrap64 ((j:Int)-(K:Int))=((j-K:Nat):Int):=by rw[IntWalk.wrap64_in _ (by omega)];omega
    clear hvb3 hvl hview0 hvb h1 h2 h3 h4 h5 hin hvt hvh hob hvb2 hd32 ht32 htop hlow hone hrow hown hj hlen hR32 hK
    go_wp2_with (first|(go_at_call 124;refine(HSP.out _).mono ?_;rintro e w1 ⟨rfl,rfl⟩)|(go_at_call 105;refine hcall.mono ?_;rintro e w2 ⟨v',w',rfl,hr1,HG⟩)|(at_builtin;refine Lib.wpList_append_run _ rfl _ _ 59 59 rfl _ _ rfl rfl _ _ hr1 ?_))
    obtain⟨g1,g2,g3,g4⟩:=HG.out
    obtain⟨f1,f2,f3,f4⟩:=HF.out
    obtain⟨e1,e2,e3⟩:=HX.out
    have e4:=HJ.out
    refine⟨⟨M.drop K,j-K,os++[R],by rw[a9],f1.kept g3 (fun b c t f hb hv hz=>?_) (by omega),f2,Lib.hid f3,by rw[List.length_drop];omega,by rw[List.length_append,List.length_drop];simp only[List.length_cons,List.length_nil];omega,g1,Lib.hid (fun q hq=>?_),g2,Lib.hid ?_,g4⟩,by show sliceLen vt<M.length;rw[HVL.out];omega⟩
    ·have h1:=f2 b hv
     have h2:=HV.out.2 b hz
     omega
    ·rcases List.mem_append.1 hq with h|h
     ·exact HO32.out q h
     ·rw[List.mem_singleton.1 h];exact HR.out
    ·rw[HT.out,f4,List.append_assoc,List.singleton_append]
  ·have z1:decide ((1:Int)<(M.length:Int))=false:=decide_eq_false (by omega)
   have z1':decide (1<M.length)=false:=decide_eq_false hone
   have htop:topF L i=os:=by rw[HT.out,topF_few (l:=M) (i:=j) (by omega),List.append_nil]
   have hrev:=(reverse_any wr u6 os hrow HO32.out (by omega)).mono (R':=fun e w2=>e = .returned (.tuple #[])/\Hid (Row w2 30 32 u6 (hcells os.reverse)/\Kept (fun _=>False) w w2)) (by
    rintro e w2 ⟨rfl,h1,h2⟩
    exact⟨rfl,Lib.hid ⟨h1,hk.then_ h2 (fun b hb hx=>by have:=hown b hx;omega)⟩⟩)
   have HTP:=Lib.hid htop
   have HOW:=Lib.hid hown
   clear hview0 hvb h1 h2 h3 h4 h5 htop hrow hown hj hlen hone
   go_wp2_with (first|(go_at_call 125;refine hrev.mono ?_;rintro e w2 ⟨rfl,HG⟩))
   go_ret2
   exact⟨u6,rfl,by unfold pathF;rw[HTP.out];exact HG.out.1,HOW.out,HG.out.2⟩
theorem zeros_get (m q:Nat) (h:q<(zeros m).toArray.size):(zeros m).toArray[q] = .int .u8 0:=by
 have h2:q<(zeros m).length:=by simpa using h
 show(zeros m)[q]=_
 exact List.eq_of_mem_replicate (List.getElem_mem h2)
theorem made_zeros (n:Nat):madeCells (zeros 32).toArray n=(zeros n).toArray:=by
 apply Array.ext
 ·simp[size_madeCells,zeros]
 ·intro j h1 h2
  simp only[madeCells,Array.getElem_map,Array.getElem_range]
  have hs:(zeros 32).toArray.size=32:=by rw[List.size_toArray,zeros_len]
  have hj:j%(zeros 32).toArray.size<(zeros 32).toArray.size:=by rw[hs];exact Nat.mod_lt _ (by omega)
  rw[getElem!_pos (zeros 32).toArray _ hj,zeros_get,zeros_get]
theorem make_hashes (w:World):(Instr.makeSlice 59 (.int .i64 512) (.int .i64 512)).run Tryz.prog w = .ok (.slice (some ⟨w.heap.size,0,none⟩) 512 512) (w.alloc (.cells (zeros 16384).toArray 30)):=by
 obtain⟨i,hi,hz,hsz,hby⟩:=info_parts info_hash3
 have:=run_makeSlice (P:=Tryz.prog) (w:=w) 59 30 i _ Tryz.underlying59 hi hz .i64 .i64 (512:Int) (512:Int) (by omega) (by omega) (by rw[hsz];omega) (by rw[hby];omega) (by omega)
 rw[this]
 have e:madeCells (Value.agg (zeros 32).toArray).cells ((512:Int).toNat*i.size)=(zeros 16384).toArray:=by
  rw[hsz]
  show madeCells (zeros 32).toArray 16384=_
  exact made_zeros 16384
 rw[e]
 rfl
def listTo (L:List By) (k:Nat):List Value:=hcells (L.take k)++zeros ((512-k)*32)
theorem listTo_len {L:List By} (h:∀ x∈L,x.length=32) (hL:L.length=512) (k:Nat) (hk:k<=512):(listTo L k).length=16384:=by
 unfold listTo
 rw[List.length_append,hcells_len (fun x hx=>h x (List.mem_of_mem_take hx)),zeros_len,List.length_take]
 omega
theorem listTo_zero (L:List By):listTo L 0=zeros 16384:=by simp[listTo,hcells,bytes8]
theorem listTo_all {L:List By} (hL:L.length=512):listTo L 512=hcells L:=by
 unfold listTo
 rw[List.take_of_length_le (by omega)]
 simp[zeros]
theorem listTo_step {L:List By} (h:∀ x∈L,x.length=32) (hL:L.length=512) (k:Nat) (a:By) (ha:L[k]? = some a):splice (listTo L k) (k*32) (bytes8 a)=listTo L (k+1):=by
 obtain⟨hk,he⟩:=List.getElem?_eq_some_iff.1 ha
 have ha32:=h a (List.mem_of_getElem? ha)
 have hl:(hcells (L.take k)).length=k*32:=by
  rw[hcells_len (fun x hx=>h x (List.mem_of_mem_take hx)),List.length_take];omega
 unfold splice listTo
 rw[List.take_append_of_le_length (by omega),List.take_of_length_le (by omega),bytes8_len,ha32,List.drop_append,List.drop_eq_nil_of_le (by omega),hl]
 have e1:hcells (L.take (k+1))=hcells (L.take k)++bytes8 a:=by
  rw[List.take_succ_eq_append_getElem hk,hcells_append,he,hcells_one]
 rw[e1]
 have e2:(zeros ((512-k)*32)).drop (k*32+32-k*32)=zeros ((512-(k+1))*32):=by
  simp[zeros]
  omega
 rw[e2]
 simp
def PublicPost (w:World) (L:List By) (e:Ending) (w':World):Prop :=
 ∃ v,e = .returned v/\Row w' 30 32 v (hcells L)/\(∀ k,v.ownBlock=some k->w.heap.size<=k)/\Kept (fun _=>False) w w'
theorem check_meas0 {n k:Nat} (h:k<n):n-(intOf (.int .i64 ((k:Int)+1))).toNat<n-(intOf (.int .i64 (k:Int))).toNat:=by show n-((k:Int)+1).toNat<n-((k:Int)).toNat;omega
theorem public_any (w:World) (seed:ByteArray) (index:Nat) (hs:seed.size<=1000) (h1:index<2147483648) (ht:Tab w) :
  Calls Tryz.prog 82 #[.string seed,.int .i64 (index:Int)] w (PublicPost w (publicF seed.data.toList index)):=by
 have y1:decide ((index:Int)<0)=false:=decide_eq_false (by omega)
 have y2:decide ((2147483648:Int)<=(index:Int))=false:=decide_eq_false (by omega)
 have hmk:=make_hashes w
 have hb:=Blk.new w (zeros 16384) 30
 have h32:=public_32 seed.data.toList index
 have hL:=publicF_len seed.data.toList index
 have hat:=publicF_at seed.data.toList index
 have HAT:=Lib.hid hat
 clear hat
 generalize hPP:publicF seed.data.toList index=P at *
 have HB:=Lib.hid (show Blk (w.alloc (.cells (zeros 16384).toArray 30)) w.heap.size (listTo P 0) 30 by rw[listTo_zero];exact hb)
 clear hb hPP
 generalize hz:zeros 16384=Z at *
 clear hz
 go_enter Tryz.func82,Tryz.ntmps82
 go_wp2_with fail
 go_loopw [16] (fun x wr=>∃ k:Nat,x = .int .i64 (k:Int)/\k<=512/\Blk wr w.heap.size (listTo P k) 30/\Kept (fun _=>False) w wr) (fun x _=>512-(intOf x).toNat)
 case atStart=>exact⟨0,rfl,by omega,HB.out,(Kept.refl _ _).alloc _⟩
 case round =>
  obtain⟨k,rfl,hk,hblk,hkw⟩:=hrel
  by_cases hlt:k<512
  ·have z1:decide ((k:Int)<512)=true:=decide_eq_true (by omega)
   have z2:decide (k<512)=true:=decide_eq_true hlt
   have hsec:=secret_any wr seed index (k/2) (k%2) hs h1 (by omega) (by omega) (ht.same hkw)
   have hP:=HAT.out k hlt
   have hS:=secretF_len seed.data.toList index (k/2) (k%2)
   generalize secretF seed.data.toList index (k/2) (k%2)=S at *
   have hsh:=fun w' (hw:Kept (fun _=>False) wr w')=>shown_any w' ⟨S.toArray⟩ (by show S.toArray.size<=900000;rw[List.size_toArray,hS];omega) (ht.same (hkw.trans hw))
   have hR:=shownF_len S
   have e0:shownF (⟨S.toArray⟩:ByteArray).data.toList=shownF S:=rfl
   rw[e0]at hsh
   clear e0
   generalize shownF S=R at *
   have hstep:=listTo_step h32 hL k R hP
   have hlen:=listTo_len h32 hL k (by omega)
   have HA:=Lib.hid hsec
   have HH:=Lib.hid (fun w'=>hash_any w' S hS)
   have HS:=Lib.hid hsh
   have HF:=Lib.hid (And.intro hstep (And.intro hlen hR))
   have i0:(k:Int)<512:=by omega
   have i1:(0:Int)<=(k:Int):=by omega
   have HL:=Lib.hid hlt
   clear hsec hsh hstep hlen hR hP hS hlt hL h32 hmk
   go_wp2_with (first|(go_at_call 113;refine HA.out.mono ?_;rintro e w1 ⟨rfl,hk1⟩)|(go_at_call 102;refine(HH.out _).mono ?_;rintro e w2 ⟨rfl,hk2⟩)|(go_at_call 112;refine(HS.out _ (hk1.trans hk2)).mono ?_;rintro e w3 ⟨rfl,hk3⟩)|((with_reducible show wpList _ _ _ (⟨none,.store _ (.tmp 30) _,_,_,_,_⟩::_) _ _);refine wpList_store_mid rfl 30 _ _ rfl w.heap.size (k*32) (bytes8 R).toArray rfl rfl ?hth ?hi ?h1 ?_))
   case hth =>
    have e32:(bytes8 R).toArray.size=32:=by rw[List.size_toArray,bytes8_len,HF.out.2.2]
    rw[e32]
    exact(((hblk.kept hk1 id).kept hk2 id).kept hk3 id).there (k*32) 32 (by rw[HF.out.2.1];have:=HL.out;omega)
   case hi=>first|exact info_hash HF.out.2.2|simpa using info_hash HF.out.2.2
   case h1=>first|exact all_oneCell_toArray (fun y hy=>u8_oneCell y hy)|exact fun y hy=>u8_oneCell y hy
   have hb3:=((hblk.kept hk1 id).kept hk2 id).kept hk3 id
   have hb4:=hb3.setCells (k*32) (bytes8 R) (by rw[bytes8_len,HF.out.2.1,HF.out.2.2];have:=HL.out;omega)
   rw[HF.out.1]at hb4
   have hlt:=HL.out
   exact⟨⟨k+1,rfl,hlt,hb4,(((hkw.trans hk1).trans hk2).trans hk3).then_ (kept_setCells _ _ _ _) (fun i hi e=>by omega)⟩,check_meas0 hlt⟩
  ·have z1:decide ((k:Int)<512)=false:=decide_eq_false (by omega)
   have z2:decide (k<512)=false:=decide_eq_false hlt
   obtain rfl:k=512:=by omega
   rw[listTo_all hL]at hblk
   have HX:=Lib.hid (And.intro hblk (And.intro hL (hcells_len h32)))
   clear hblk hL h32 hmk
   go_wp2_with fail
   go_ret
   refine⟨_,rfl,Or.inr ⟨w.heap.size,512,512,[],rfl,by rw[HX.out.2.2,HX.out.2.1],by rw[List.append_nil];exact HX.out.1,Nat.le_refl _,by rw[HX.out.2.2,HX.out.2.1];exact Nat.le_add_right _ _,by unfold maxLen;omega⟩,fun b hb=>?_,hkw⟩
   simp[Value.ownBlock]at hb
   omega
theorem kept_below {B:Nat} {w w':World} (h:Below B w w'):Kept (fun k=>B<=k) w w':=⟨h.os,h.tape,h.output,h.size,fun k _ hn=>h.block k (by omega)⟩
theorem kept_build {B:Nat} {w wr w':World} (hk:Kept (fun _=>False) w wr) (h:Below B wr w') (hB:w.heap.size<=B):Kept (fun _=>False) w w':=hk.then_ (kept_below h) (fun i hi e=>by omega)
theorem leaf_any (w:World) (v:Value) (L:List By) (hv:View w 32 v (hcells L)) (h32:∀ x∈L,x.length=32) (hL:L.length=512) (ht:Tab w) :
  Calls Tryz.prog 81 #[v] w fun e w'=>e = .returned (hashV (leafF L))/\Kept (fun _=>False) w w':=by
 obtain⟨a,n,cap,rfl,q1,q2,q3,q4,q5⟩:=id hv
 rw[hcells_len h32]at q1
 obtain rfl:n=512:=by omega
 obtain⟨g,off,rfl,hg,hrg⟩:=q5 (by omega)
 clear q1 q2 q3 q4 q5 hv
 have hbr:=(Blk.new w (zeros 32) 30).alloc (.cells #[.pointer none,.slice none 0 0] 156)
 have hfr:=Bld.fresh (w.alloc (.cells (zeros 32).toArray 30))
 rw[World.size_alloc]at hfr
 have k0:Kept (fun _=>False) w ((w.alloc (.cells (zeros 32).toArray 30)).alloc (.cells #[.pointer none,.slice none 0 0] 156)):=((Kept.refl _ _).alloc _).alloc _
 have hsz0:w.heap.size+1<=((w.alloc (.cells (zeros 32).toArray 30)).alloc (.cells #[.pointer none,.slice none 0 0] 156)).heap.size:=by rw[World.size_alloc,World.size_alloc];omega
 have hwb:=writeByte_any (w.heap.size+1) (w.heap.size+1) [] 4 _ (by omega) hfr (by simp) hsz0
 have hwb2:Calls Tryz.prog 109 #[.pointer (some ⟨w.heap.size+1,0,none⟩),.int .u8 4] ((w.alloc (.cells (zeros 32).toArray 30)).alloc (.cells #[.pointer none,.slice none 0 0] 156)) (fun e w1=>e = .returned .nilIface/\Hid (Bld (w.heap.size+1) (w.heap.size+1) (4::(L.take 0).flatten) w1/\Blk w1 w.heap.size (zeros 32) 30/\w.heap.size+1<=w1.heap.size/\Kept (fun _=>False) w w1)) :=
  hwb.mono (fun e w1 q=>⟨q.1,Lib.hid ⟨by simpa using q.2.1,hbr.kept (kept_below q.2.2) (by omega),Nat.le_trans hsz0 q.2.2.size,kept_build k0 q.2.2 (by omega)⟩⟩)
 have HWB:=Lib.hid hwb2
 have hleaf:=shaF_len (4::L.flatten)
 have HLF:=Lib.hid (show leafF L=shaF (4::L.flatten)from rfl)
 generalize leafF L=R at *
 have hR:R.length=32:=by rw[HLF.out];exact hleaf
 have HR:=Lib.hid hR
 have HI:=Lib.hid (show(Tryz.prog.info? 30).map (·.size)=some (bytes8 R).length by rw[bytes8_len,hR];exact info_h32)
 clear hwb hwb2 hbr hfr k0 hsz0 hleaf hR
 go_enter Tryz.func81,Tryz.ntmps81
 go_wp2_with (first|(go_at_call 109;refine HWB.out.mono ?_;rintro e w1 ⟨rfl,HS0⟩))
 go_loopw [13] (fun x wr=>∃ k:Nat,x = .int .i64 (k:Int)/\k<=512/\Bld (w.heap.size+1) (w.heap.size+1) (4::(L.take k).flatten) wr/\Blk wr w.heap.size (zeros 32) 30/\w.heap.size+1<=wr.heap.size/\Kept (fun _=>False) w wr) (fun x _=>512-(intOf x).toNat)
 case atStart=>exact⟨0,rfl,by omega,HS0.out.1,HS0.out.2.1,HS0.out.2.2.1,HS0.out.2.2.2⟩
 case round =>
  obtain⟨k,rfl,hk,hbld,hbr,hsz,hkw⟩:=hrel
  by_cases hlt:k<512
  ·have z1:decide ((k:Int)<512)=true:=decide_eq_true (by omega)
   have z2:decide (k<512)=true:=decide_eq_true hlt
   obtain⟨h,hh⟩:∃ h,L[k]? = some h:=⟨_,List.getElem?_eq_getElem (by omega)⟩
   have hh32:=h32 h (List.mem_of_getElem? hh)
   have hrk:=rangeAt_mid (rangeAt_kept hrg hkw hg id) (k*32) 32
   rw[hcells_at h32 k h hh]at hrk
   have HRK:=Lib.hid hrk
   have hnew:=hash_stored (Blk.new wr (zeros 32) 30) (zeros_len 32) hh32
   have HN1:=Lib.hid hnew.1
   have hflat:(L.take (k+1)).flatten=(L.take k).flatten++h:=by
    obtain⟨hq,he⟩:=List.getElem?_eq_some_iff.1 hh
    rw[List.take_succ_eq_append_getElem hq,he];simp
   have hfl:((L.take k).flatten).length=k*32:=by rw[flatten_len (fun x hx=>h32 x (List.mem_of_mem_take hx)),List.length_take];omega
   have hwr:∀ w2,Kept (fun _=>False) wr w2->Calls Tryz.prog 110 #[.pointer (some ⟨w.heap.size+1,0,none⟩),.string ⟨h.toArray⟩] w2 (fun e w3=>e = .returned (.tuple #[.int .i64 (⟨h.toArray⟩:ByteArray).size,.nilIface])/\Hid (Bld (w.heap.size+1) (w.heap.size+1) (4::(L.take (k+1)).flatten) w3/\Blk w3 w.heap.size (zeros 32) 30/\w.heap.size+1<=w3.heap.size/\Kept (fun _=>False) w w3)):=by
    intro w2 hk2
    have hs2:w.heap.size+1<=w2.heap.size:=Nat.le_trans hsz hk2.size
    have hq:(⟨h.toArray⟩:ByteArray).size=32:=by show h.toArray.size=32;rw[List.size_toArray,hh32]
    refine(writeString_any (w.heap.size+1) (w.heap.size+1) _ ⟨h.toArray⟩ w2 (hbld.kept hk2 (fun _ _=>id)) (by rw[List.length_cons,hfl,hq];omega) hs2).mono ?_
    rintro e w3 ⟨rfl,hb3,hbel⟩
    refine⟨rfl,Lib.hid ⟨by rw[hflat];exact hb3,(hbr.kept hk2 id).kept (kept_below hbel) (by omega),Nat.le_trans hs2 hbel.size,kept_build (hkw.trans hk2) hbel (by omega)⟩⟩
   have HF:=Lib.hid (show ∀ w1,w1=(wr.alloc (.cells (zeros 32).toArray 30)).setCells wr.heap.size 0 (bytes8 h)->w1.rangeAt wr.heap.size 0 (bytes8 h)/\Kept (fun _=>False) wr w1 from by
    rintro w1 rfl
    exact⟨hnew.2.range0,((Kept.refl _ _).alloc _).then_ (kept_setCells _ _ _ _) (fun i hi e=>by omega)⟩)
   have ih:=Lib.hid (show(Tryz.prog.info? 30).map (·.size)=some (bytes8 h).length by rw[bytes8_len,hh32];exact info_h32)
   have HH:=Lib.hid (fun w'=>hash_any w' h hh32)
   have H32:=Lib.hid hh32
   have HWR:=Lib.hid hwr
   have HL:=Lib.hid hlt
   have i0:(k:Int)<512:=by omega
   have i1:(0:Int)<=(k:Int):=by omega
   clear hrk hnew hflat hfl hwr hh32 hh hlt hL h32 hbld hbr hrg
   go_wp2_with (first|((with_reducible show wpList _ _ _ (⟨some 16,_,_,_,_,_⟩::_) _ _);refine wpList_load_mid rfl 30 _ rfl g (off+k*32) rfl (bytes8 h) _ HRK.out Tryz.underlying30 rfl ih.out ?_)|((with_reducible show wpList _ _ _ (⟨none,.store _ (.tmp 5) _,_,_,_,_⟩::_) _ _);refine wpList_store_mid rfl 30 _ _ rfl wr.heap.size 0 (bytes8 h).toArray rfl rfl ?hth ?hi ?h1 ?hk;(case' hk=>generalize hw1:World.setCells _ wr.heap.size 0 _=w1;obtain⟨p0,kk1⟩:=HF.out w1 hw1.symm;clear hw1;have HB:=Lib.hid p0;clear p0))|((with_reducible show wpList _ _ _ (⟨some 17,_,_,_,_,_⟩::_) _ _);refine wpList_load_mid rfl 30 _ rfl wr.heap.size 0 rfl (bytes8 h) _ HB.out Tryz.underlying30 rfl ih.out ?_)|(go_at_call 102;refine(HH.out _).mono ?_;rintro e w2 ⟨rfl,hk2⟩)|(go_at_call 110;refine(HWR.out _ (kk1.trans hk2)).mono ?_;rintro e w3 ⟨rfl,HG⟩))
   case hth=>exact HN1.out
   case hi=>first|exact info_hash H32.out|simpa using info_hash H32.out
   case h1=>first|exact all_oneCell_toArray (fun y hy=>u8_oneCell y hy)|exact fun y hy=>u8_oneCell y hy
   exact⟨⟨k+1,rfl,HL.out,HG.out.1,HG.out.2.1,HG.out.2.2.1,HG.out.2.2.2⟩,check_meas0 HL.out⟩
  ·have z1:decide ((k:Int)<512)=false:=decide_eq_false (by omega)
   have z2:decide (k<512)=false:=decide_eq_false hlt
   obtain rfl:k=512:=by omega
   rw[List.take_of_length_le (by omega)]at hbld
   have hfl:(4::L.flatten).length=16385:=by rw[List.length_cons,flatten_len h32];omega
   have hstr:Calls Tryz.prog 111 #[.pointer (some ⟨w.heap.size+1,0,none⟩)] wr (fun e w1=>e = .returned (.string ⟨(4::L.flatten).toArray⟩)/\Hid (Blk w1 w.heap.size (zeros 32) 30/\Kept (fun _=>False) w w1)) :=
    (builderString_any (w.heap.size+1) (w.heap.size+1) _ wr hbld hsz).mono (fun e w1 q=>⟨q.1,Lib.hid ⟨hbr.kept (kept_below q.2) (by omega),kept_build hkw q.2 (by omega)⟩⟩)
   have hsum:∀ w1,Hid (Blk w1 w.heap.size (zeros 32) 30/\Kept (fun _=>False) w w1)->Calls Tryz.prog 100 #[.string ⟨(4::L.flatten).toArray⟩] w1 (fun e w2=>e = .returned (.agg (bytes8 R).toArray)/\Hid (Blk w2 w.heap.size (zeros 32) 30/\Kept (fun _=>False) w w2)):=by
    intro w1 H1
    refine(sum_any w1 ⟨(4::L.flatten).toArray⟩ (by show(4::L.flatten).toArray.size<=1000000;rw[List.size_toArray,hfl];omega) (ht.same H1.out.2)).mono ?_
    rintro e w2 ⟨rfl,hk2⟩
    exact⟨by rw[HLF.out],Lib.hid ⟨H1.out.1.kept hk2 id,H1.out.2.trans hk2⟩⟩
   have HST:=Lib.hid hstr
   have HSU:=Lib.hid hsum
   clear hstr hsum hfl hbld hbr hsz hL h32 hlt hrg
   generalize 4::L.flatten=F at *
   go_wp2_with (first|(go_at_call 111;refine HST.out.mono ?_;rintro e w1 ⟨rfl,H1⟩)|(go_at_call 100;refine(HSU.out _ H1).mono ?_;rintro e w2 ⟨rfl,H2⟩)|((with_reducible show wpList _ _ _ (⟨none,.store _ (.tmp 2) _,_,_,_,_⟩::_) _ _);refine wpList_store_mid rfl 30 _ _ rfl w.heap.size 0 (bytes8 R).toArray rfl rfl ?hthe ?hie ?h1e ?_))
   case hthe=>exact(hash_stored H2.out.1 (zeros_len 32) HR.out).1
   case hie=>first|exact info_hash HR.out|simpa using info_hash HR.out
   case h1e=>first|exact all_oneCell_toArray (fun y hy=>u8_oneCell y hy)|exact fun y hy=>u8_oneCell y hy
   have hst:=hash_stored H2.out.1 (zeros_len 32) HR.out
   refine bodyPost_ret (hst.2.result rfl rfl Tryz.underlying30 rfl HI.out) rfl ⟨rfl,?_⟩
   exact H2.out.2.then_ (kept_setCells _ _ _ _) (fun i hi e=>by omega)
structure SignSt (w wr:World) (sb ob:Nat) (v:Value) (P:List By) (sv ov:Value) (A B:By):Prop where
 s:BldR wr sb sv A
 o:BldR wr ob ov B
 sOwn:∀ q,sv.ownBlock=some q->sb<=q/\q≠ob
 oOwn:∀ q,ov.ownBlock=some q->sb<=q/\q≠sb/\sv.ownBlock≠some q
 pub:Row wr 30 32 v (hcells P)
 pOwn:∀ q,v.ownBlock=some q->q<sb
 base:w.heap.size<=sb
 kept:Kept (fun _=>False) w wr
 ne:sb<ob
section
variable {w wr w' : World} {sb ob : Nat} {v sv ov : Value} {P : List By} {A B : By}
theorem SignSt.same (h:SignSt w wr sb ob v P sv ov A B) (k:Kept (fun _=>False) wr w'):SignSt w w' sb ob v P sv ov A B :=
 ⟨h.s.same k,h.o.same k,h.sOwn,h.oOwn,h.pub.kept k (fun _ _=>id),h.pOwn,h.base,h.kept.trans k,h.ne⟩
theorem SignSt.writeS (h:SignSt w wr sb ob v P sv ov A B) (s:By) (hl:A.length+s.length<=1000000000) :
  Calls Tryz.prog 110 #[.pointer (some ⟨sb,0,none⟩),.string ⟨s.toArray⟩] wr fun e w'=>e = .returned (.tuple #[.int .i64 (⟨s.toArray⟩:ByteArray).size,.nilIface])/\∃ sv',SignSt w w' sb ob v P sv' ov (A++s) B:=by
 have hz:(⟨s.toArray⟩:ByteArray).size=s.length:=by show s.toArray.size=_;simp
 refine(writeString_r ⟨s.toArray⟩ h.s (by rw[hz];exact hl)).mono ?_
 rintro e w2 ⟨sv',rfl,hb,hk,ho⟩
 have hne:=h.ne
 have holt:=h.o.lt
 refine⟨rfl,sv',hb,h.o.kept hk (fun e=>?_) (fun q hq e=>?_),fun q hq=>?_,fun q hq=>?_,h.pub.kept hk (fun q hq e=>?_),h.pOwn,h.base,h.kept.then_ hk (fun i hi e=>?_),h.ne⟩
 ·rcases e with e|e
  ·omega
  ·exact(h.sOwn _ e).2 rfl
 ·rcases e with e|e
  ·exact(h.oOwn q hq).2.1 e
  ·exact(h.oOwn q hq).2.2 e
 ·rcases ho q hq with e|e
  ·exact h.sOwn q e
  ·omega
 ·obtain⟨h1,h2,h3⟩:=h.oOwn q hq
  refine⟨h1,h2,fun e=>?_⟩
  rcases ho q e with e'|e'
  ·exact h3 e'
  ·have:=h.o.2.lt hq;omega
 ·have hp:=h.pOwn q hq
  rcases e with e|e
  ·omega
  ·have:=(h.sOwn q e).1;omega
 ·have hbs:=h.base
  rcases e with e|e
  ·omega
  ·have:=(h.sOwn i e).1;omega
theorem SignSt.writeO (h:SignSt w wr sb ob v P sv ov A B) (s:By) (hl:B.length+s.length<=1000000000) :
  Calls Tryz.prog 110 #[.pointer (some ⟨ob,0,none⟩),.string ⟨s.toArray⟩] wr fun e w'=>e = .returned (.tuple #[.int .i64 (⟨s.toArray⟩:ByteArray).size,.nilIface])/\∃ ov',SignSt w w' sb ob v P sv ov' A (B++s):=by
 have hz:(⟨s.toArray⟩:ByteArray).size=s.length:=by show s.toArray.size=_;simp
 refine(writeString_r ⟨s.toArray⟩ h.o (by rw[hz];exact hl)).mono ?_
 rintro e w2 ⟨ov',rfl,hb,hk,ho⟩
 have hne:=h.ne
 have hslt:=h.s.lt
 refine⟨rfl,ov',h.s.kept hk (fun e=>?_) (fun q hq e=>?_),hb,h.sOwn,fun q hq=>?_,h.pub.kept hk (fun q hq e=>?_),h.pOwn,h.base,h.kept.then_ hk (fun i hi e=>?_),h.ne⟩
 ·rcases e with e|e
  ·omega
  ·exact(h.oOwn _ e).2.1 rfl
 ·rcases e with e|e
  ·exact(h.sOwn q hq).2 e
  ·exact(h.oOwn q e).2.2 hq
 ·rcases ho q hq with e|e
  ·exact h.oOwn q e
  ·refine⟨by omega,by omega,fun e2=>?_⟩
   have:=h.s.2.lt e2;omega
 ·have hp:=h.pOwn q hq
  rcases e with e|e
  ·omega
  ·have:=(h.oOwn q e).1;omega
 ·have hbs:=h.base
  rcases e with e|e
  ·omega
  ·have:=(h.oOwn i e).1;omega
end
theorem secretsF_succ (seed:By) (index:Nat) (d:By) (k:Nat):secretsF seed index d (k+1)=secretsF seed index d k++secretF seed index k (bitAt d k):=by
 unfold secretsF
 rw[List.range_succ,List.flatMap_append]
 simp
theorem othersF_succ (seed:By) (index:Nat) (d:By) (k:Nat) (h:By) (hh:(publicF seed index)[2*k+1-bitAt d k]? = some h):othersF seed index d (k+1)=othersF seed index d k++h:=by
 unfold othersF
 rw[List.range_succ,List.flatMap_append]
 simp[hh]
theorem sign_any (w:World) (seed:ByteArray) (index:Nat) (d:By) (hd:d.length=32) (hs:seed.size<=1000) (h1:index<2147483648) (ht:Tab w) :
  Calls Tryz.prog 99 #[.string seed,.int .i64 (index:Int),hashV d] w fun e w'=>e = .returned (.string ⟨(signF seed.data.toList index d).toArray⟩)/\Kept (fun _=>False) w w':=by
 have k0:Kept (fun _=>False) w (w.alloc (.cells (bytes8 d).toArray 30)):=(Kept.refl _ _).alloc _
 have hbd:=Blk.new w (bytes8 d) 30
 have h32:=public_32 seed.data.toList index
 have hL:=publicF_len seed.data.toList index
 have hpub:Calls Tryz.prog 82 #[.string seed,.int .i64 (index:Int)] (w.alloc (.cells (bytes8 d).toArray 30)) (fun e w2=>∃ g cap,e = .returned (.slice (some ⟨g,0,none⟩) 512 cap)/\Hid (w2.rangeAt w.heap.size 0 (bytes8 d)/\Row w2 30 32 (.slice (some ⟨g,0,none⟩) 512 cap) (hcells (publicF seed.data.toList index))/\g<w2.heap.size/\Kept (fun _=>False) w w2)):=by
  refine(public_any _ seed index hs h1 (ht.same k0)).mono ?_
  rintro e w2 ⟨v,rfl,hrow,hown,hk⟩
  have hrow2:=hrow
  rcases hrow with⟨rfl,hx⟩|⟨g,n,cap,rest,rfl,q1,q2,q3,q4,q5⟩
  ·have:=hcells_len h32
   rw[hx,hL]at this
   simp at this
  ·rw[hcells_len h32,hL]at q1
   obtain rfl:n=512:=by omega
   exact⟨g,cap,rfl,Lib.hid ⟨(hbd.kept hk id).range0,hrow2,q2.lt,k0.trans hk⟩⟩
 have HP:=Lib.hid hpub
 have HD:=Lib.hid (show(Tryz.prog.info? 30).map (·.size)=some (bytes8 d).length by rw[bytes8_len,hd];exact info_h32)
 have HH:=Lib.hid (fun w'=>hash_any w' d hd)
 have heq:=fun w a l c=>run_eql_slice_nil (P:=Tryz.prog) w 59 30 a l c Tryz.underlying59
 clear hpub hbd k0
 go_enter Tryz.func99,Tryz.ntmps99
 go_wp2_with (first|(go_at_call 82;refine HP.out.mono ?_;rintro e w2 ⟨g,cap,rfl,HG⟩)|((with_reducible show wpList _ _ _ (⟨some 18,_,_,_,_,_⟩::_) _ _);refine wpList_load_mid rfl 30 _ rfl w.heap.size 0 rfl (bytes8 d) _ HG.out.1 Tryz.underlying30 rfl HD.out ?_)|(go_at_call 102;refine(HH.out _).mono ?_;rintro e w3 ⟨rfl,hk3⟩))
 have hst0:SignSt w ((w3.alloc (.cells #[.pointer none,.slice none 0 0] 156)).alloc (.cells #[.pointer none,.slice none 0 0] 156)) w3.heap.size (w3.heap.size+1) (.slice (some ⟨g,0,none⟩) 512 cap) (publicF seed.data.toList index) (.slice none 0 0) (.slice none 0 0) (secretsF seed.data.toList index d 0) (othersF seed.data.toList index d 0):=by
  have ka:Kept (fun _=>False) w3 ((w3.alloc (.cells #[.pointer none,.slice none 0 0] 156)).alloc (.cells #[.pointer none,.slice none 0 0] 156)):=((Kept.refl _ _).alloc _).alloc _
  have ho:=BldR.fresh (w3.alloc (.cells #[.pointer none,.slice none 0 0] 156))
  rw[World.size_alloc]at ho
  refine⟨(BldR.fresh w3).same ((Kept.refl _ _).alloc _),ho,fun q hq=>by simp[Value.ownBlock]at hq,fun q hq=>by simp[Value.ownBlock]at hq,(HG.out.2.1.kept hk3 (fun _ _=>id)).kept ka (fun _ _=>id),fun q hq=>?_,?_,(HG.out.2.2.2.trans hk3).trans ka,Nat.lt_succ_self _⟩
  ·simp[Value.ownBlock]at hq
   have:=HG.out.2.2.1
   have:=hk3.size
   omega
  ·exact Nat.le_trans HG.out.2.2.2.size hk3.size
 have HS0:=Lib.hid hst0
 clear hst0
 generalize hsb:w3.heap.size=sb at *
 clear hsb
 go_loopw [20] (fun x wr=>∃ k:Nat,x = .int .i64 (k:Int)/\k<=256/\∃ sv ov,SignSt w wr sb (sb+1) (.slice (some ⟨g,0,none⟩) 512 cap) (publicF seed.data.toList index) sv ov (secretsF seed.data.toList index d k) (othersF seed.data.toList index d k)) (fun x _=>256-(intOf x).toNat)
 case atStart=>exact⟨0,rfl,by omega,_,_,HS0.out⟩
 case round =>
  obtain⟨k,rfl,hk,sv,ov,hst⟩:=hrel
  by_cases hlt:k<256
  ·have z1:decide ((k:Int)<256)=true:=decide_eq_true (by omega)
   have z2:decide (k<256)=true:=decide_eq_true hlt
   have hbit:=fun w'=>bit_any w' ⟨d.toArray⟩ k (by show k/8<d.toArray.size;rw[List.size_toArray,hd];omega) (by omega)
   have hbl:=bitAt_lt d k
   have e0:bitAt (⟨d.toArray⟩:ByteArray).data.toList k=bitAt d k:=rfl
   rw[e0]at hbit
   clear e0
   have hss:=secretsF_succ seed.data.toList index d k
   have hos:=othersF_succ seed.data.toList index d k
   generalize bitAt d k=bt at *
   obtain⟨m,hm⟩:∃ m,2*k+1-bt=m:=⟨_,rfl⟩
   rw[hm]at hos
   obtain⟨O,hO⟩:∃ O,(publicF seed.data.toList index)[m]? = some O:=⟨_,List.getElem?_eq_getElem (by rw[hL];omega)⟩
   have hos:=hos O hO
   have hO32:=h32 O (List.mem_of_getElem? hO)
   have hsec:=secret_any wr seed index k bt hs h1 hlt hbl (ht.same hst.kept)
   have hS32:=secretF_len seed.data.toList index k bt
   generalize secretF seed.data.toList index k bt=S at *
   have hla:=secretsF_len seed.data.toList index d k
   have hlb:=othersF_len seed.data.toList index d k (by omega)
   have hw1:∀ w2,Kept (fun _=>False) wr w2->Calls Tryz.prog 110 #[.pointer (some ⟨sb,0,none⟩),.string ⟨S.toArray⟩] w2 (fun e w4=>e = .returned (.tuple #[.int .i64 (⟨S.toArray⟩:ByteArray).size,.nilIface])/\Hid ((∃ sv',SignSt w w4 sb (sb+1) (.slice (some ⟨g,0,none⟩) 512 cap) (publicF seed.data.toList index) sv' ov (secretsF seed.data.toList index d (k+1)) (othersF seed.data.toList index d k))/\w4.rangeAt g (m*32) (bytes8 O))):=by
    intro w2 hk2
    refine((hst.same hk2).writeS S (by omega)).mono ?_
    rintro e w4 ⟨rfl,sv',h4⟩
    rw[<- hss]at h4
    have hr:=rangeAt_mid (h4.pub.view.range rfl (by omega)) (m*32) 32
    rw[hcells_at h32 m O hO,Nat.zero_add]at hr
    exact⟨rfl,Lib.hid ⟨⟨sv',h4⟩,hr⟩⟩
   have hw2:∀ w4,(∃ sv',SignSt w w4 sb (sb+1) (.slice (some ⟨g,0,none⟩) 512 cap) (publicF seed.data.toList index) sv' ov (secretsF seed.data.toList index d (k+1)) (othersF seed.data.toList index d k))->∀ w5,Kept (fun _=>False) w4 w5->Calls Tryz.prog 110 #[.pointer (some ⟨sb+1,0,none⟩),.string ⟨O.toArray⟩] w5 (fun e w6=>e = .returned (.tuple #[.int .i64 (⟨O.toArray⟩:ByteArray).size,.nilIface])/\Hid (∃ sv' ov',SignSt w w6 sb (sb+1) (.slice (some ⟨g,0,none⟩) 512 cap) (publicF seed.data.toList index) sv' ov' (secretsF seed.data.toList index d (k+1)) (othersF seed.data.toList index d (k+1)))):=by
    rintro w4 ⟨sv',h4⟩ w5 hk5
    refine((h4.same hk5).writeO O (by omega)).mono ?_
    rintro e w6 ⟨rfl,ov',h6⟩
    rw[<- hos]at h6
    exact⟨rfl,Lib.hid ⟨sv',ov',h6⟩⟩
   have HB:=Lib.hid hbit
   have HS:=Lib.hid hsec
   have HHS:=Lib.hid (fun w'=>hash_any w' S hS32)
   have HHO:=Lib.hid (fun w'=>hash_any w' O hO32)
   have HW1:=Lib.hid hw1
   have HW2:=Lib.hid hw2
   have HIO:=Lib.hid (show(Tryz.prog.info? 30).map (·.size)=some (bytes8 O).length by rw[bytes8_len,hO32];exact info_h32)
   have HL:=Lib.hid hlt
   have j1:(k:Int)<256:=by omega
   have j2:(0:Int)<=(k:Int):=by omega
   have j3:(bt:Int)<2:=by omega
   have j4:(0:Int)<=(bt:Int):=by omega
   have j5:2*(k:Int)+1-(bt:Int)=(m:Int):=by omega
   have j6:(m:Int)<512:=by omega
   have j7:(0:Int)<=(m:Int):=by omega
   clear hbit hsec hw1 hw2 hss hos hla hlb hO32 hS32 hO hm hst hbl hlt hL h32 hd heq
   go_wp2_with (first|(go_at_call 126;refine(HB.out _).mono ?_;rintro e w' ⟨rfl,rfl⟩)|(go_at_call 113;refine HS.out.mono ?_;rintro e w1 ⟨rfl,hk1⟩)|(go_at_call 102;with_reducible refine(HHS.out _).mono ?_;rintro e w2 ⟨rfl,hk2⟩)|(go_at_call 110;with_reducible refine(HW1.out _ (hk1.trans hk2)).mono ?_;rintro e w4 ⟨rfl,HM⟩)|((with_reducible show wpList _ _ _ (⟨some 40,_,_,_,_,_⟩::_) _ _);refine wpList_load_mid rfl 30 _ rfl g (m*32) rfl (bytes8 O) _ HM.out.2 Tryz.underlying30 rfl HIO.out ?_)|(go_at_call 102;with_reducible refine(HHO.out _).mono ?_;rintro e w5 ⟨rfl,hk5⟩)|(go_at_call 110;with_reducible refine(HW2.out _ HM.out.1 _ hk5).mono ?_;rintro e w6 ⟨rfl,HF⟩))
   obtain⟨sv',ov',h6⟩:=HF.out
   exact⟨⟨k+1,rfl,HL.out,sv',ov',h6⟩,check_meas0 HL.out⟩
  ·have z1:decide ((k:Int)<256)=false:=decide_eq_false (by omega)
   have z2:decide (k<256)=false:=decide_eq_false hlt
   obtain rfl:k=256:=by omega
   have hsig:signF seed.data.toList index d=secretsF seed.data.toList index d 256++othersF seed.data.toList index d 256:=rfl
   have hla:=secretsF_len seed.data.toList index d 256
   have hlb:=othersF_len seed.data.toList index d 256 (Nat.le_refl _)
   generalize secretsF seed.data.toList index d 256=A at *
   generalize othersF seed.data.toList index d 256=B at *
   have hA:A≠[]:=fun e=>by rw[e]at hla;simp at hla
   have hB:B≠[]:=fun e=>by rw[e]at hlb;simp at hlb
   have hs1:Calls Tryz.prog 111 #[.pointer (some ⟨sb,0,none⟩)] wr (fun e w1=>e = .returned (.string ⟨A.toArray⟩)/\Hid (BldR w1 (sb+1) ov B/\Kept (fun _=>False) w w1)):=by
    refine(string_r hst.s hA (by omega)).mono ?_
    rintro e w1 ⟨rfl,hk1⟩
    refine⟨rfl,Lib.hid ⟨hst.o.kept hk1 (fun e=>(hst.sOwn _ e).2 rfl) (fun q hq e=>(hst.oOwn q hq).2.2 e),hst.kept.then_ hk1 (fun i hi e=>?_)⟩⟩
    have:=(hst.sOwn i e).1
    have:=hst.base
    omega
   have hs2:∀ w1,Hid (BldR w1 (sb+1) ov B/\Kept (fun _=>False) w w1)->Calls Tryz.prog 111 #[.pointer (some ⟨sb+1,0,none⟩)] w1 (fun e w2=>e = .returned (.string ⟨B.toArray⟩)/\Kept (fun _=>False) w w2):=by
    intro w1 H1
    refine(string_r H1.out.1 hB (by omega)).mono ?_
    rintro e w2 ⟨rfl,hk2⟩
    refine⟨rfl,H1.out.2.then_ hk2 (fun i hi e=>?_)⟩
    have:=(hst.oOwn i e).1
    have:=hst.base
    omega
   have HS1:=Lib.hid hs1
   have HS2:=Lib.hid hs2
   have HSG:=Lib.hid hsig
   have x1:(⟨A.toArray⟩:ByteArray).size+(⟨B.toArray⟩:ByteArray).size<=16384:=by show A.toArray.size+B.toArray.size<=16384;simp;omega
   clear hs1 hs2 hsig hst hla hlb hA hB hlt hL h32 hd heq
   go_wp2_with (first|(go_at_call 111;with_reducible refine HS1.out.mono ?_;rintro e w1 ⟨rfl,H1⟩)|(go_at_call 111;with_reducible refine(HS2.out _ H1).mono ?_;rintro e w2 ⟨rfl,hkf⟩))
   go_ret
   exact⟨by rw[HSG.out,<- bstr_cat];rfl,hkf⟩
theorem splice_get {c:List Value} {o:Nat} {vs:List Value} (h:o+vs.length<=c.length) (j:Nat):(splice c o vs)[j]? = if j<o then c[j]? else if j<o+vs.length then vs[j-o]? else c[j]?:=by
 unfold splice
 have h1:(c.take o).length=o:=by simp;omega
 split
 ·rw[List.append_assoc,List.getElem?_append_left (by omega),List.getElem?_take_of_lt (by omega)]
 ·split
  ·rw[List.append_assoc,List.getElem?_append_right (by omega),List.getElem?_append_left (by omega),h1]
  ·rw[List.getElem?_append_right (by rw[List.length_append];omega),List.length_append,h1,List.getElem?_drop]
   congr 1
   omega
theorem splice_comm {c xs ys:List Value} {o1 o2:Nat} (h1:o1+xs.length<=o2) (h2:o2+ys.length<=c.length):splice (splice c o2 ys) o1 xs=splice (splice c o1 xs) o2 ys:=by
 apply List.ext_getElem?
 intro j
 rw[splice_get (by rw[splice_len h2];omega),splice_get h2,splice_get (by rw[splice_len (by omega)];omega),splice_get (by omega)]
 by_cases a:j<o1
 ·rw[if_pos a,if_pos (by omega),if_pos (by omega),if_pos a]
 ·by_cases b:j<o1+xs.length
  ·rw[if_neg a,if_pos b,if_pos (by omega),if_neg a,if_pos b]
  ·rw[if_neg a,if_neg b]
   by_cases c2:j<o2
   ·rw[if_pos c2,if_pos c2,if_neg a,if_neg b]
   ·rw[if_neg c2,if_neg c2]
    by_cases d:j<o2+ys.length
    ·rw[if_pos d,if_pos d]
    ·rw[if_neg d,if_neg d,if_neg a,if_neg b]
theorem listTo_two {L:List By} (h:∀ x∈L,x.length=32) (hL:L.length=512) (k bt:Nat) (hk:k<256) (hb:bt<2) (X Y:By) (hX:L[2*k+bt]? = some X) (hY:L[2*k+1-bt]? = some Y) :
  splice (splice (listTo L (2*k)) ((2*k+bt)*32) (bytes8 X)) ((2*k+1-bt)*32) (bytes8 Y)=listTo L (2*(k+1)):=by
 have hX32:=h X (List.mem_of_getElem? hX)
 have hY32:=h Y (List.mem_of_getElem? hY)
 have hl:=listTo_len h hL (2*k) (by omega)
 rcases(show bt=0\/bt=1 by omega)with rfl|rfl
 ·rw[Nat.add_zero]at hX ⊢
  rw[Nat.sub_zero]at hY ⊢
  rw[listTo_step h hL (2*k) X hX,listTo_step h hL (2*k+1) Y hY]
  rfl
 ·rw[Nat.add_sub_cancel]at hY ⊢
  rw[splice_comm (by rw[bytes8_len];omega) (by rw[bytes8_len,hl];omega),listTo_step h hL (2*k) Y hY,listTo_step h hL (2*k+1) X hX]
  rfl
theorem recoveredF_len (sig d:By):(recoveredF sig d).length=512:=by unfold recoveredF;rw[List.length_map,List.length_range]
theorem recoveredF_at (sig d:By) (k:Nat) (hk:k<512):(recoveredF sig d)[k]? = some (saidF sig d k):=by
 unfold recoveredF
 rw[List.getElem?_map,List.getElem?_range hk]
 rfl
theorem recovered_32 (sig d:By) (hs:sig.length=16384):∀ x∈recoveredF sig d,x.length=32:=by
 intro x hx
 unfold recoveredF at hx
 obtain⟨k,hk,rfl⟩:=List.mem_map.1 hx
 rw[List.mem_range]at hk
 unfold saidF
 split
 ·exact shownF_len _
 ·rw[List.length_take,List.length_drop];omega
theorem recovered_bit (sig d:By) (k:Nat) (hk:k<256):(recoveredF sig d)[2*k+bitAt d k]? = some (shownF ((sig.drop (k*32)).take 32)):=by
 have hb:=bitAt_lt d k
 rw[recoveredF_at _ _ _ (by omega)]
 unfold saidF
 rw[show(2*k+bitAt d k)/2=k by omega,if_pos (by omega)]
theorem recovered_other (sig d:By) (k:Nat) (hk:k<256):(recoveredF sig d)[2*k+1-bitAt d k]? = some ((sig.drop ((256+k)*32)).take 32):=by
 have hb:=bitAt_lt d k
 rw[recoveredF_at _ _ _ (by omega)]
 unfold saidF
 rw[show(2*k+1-bitAt d k)/2=k by omega,if_neg (by omega)]
theorem extract_drop (s:ByteArray) (a b:Nat):(s.extract a b).data.toList=(s.data.toList.drop a).take (b-a):=by
 rw[ByteArray.data_extract,Array.toList_extract,List.extract_eq_take_drop]
theorem recover_any (w:World) (sig:ByteArray) (d:By) (hsz:sig.size=16384) (hd:d.length=32) (ht:Tab w) :
  Calls Tryz.prog 103 #[.string sig,hashV d] w fun e w'=>e = .returned (.tuple #[hashV (leafF (recoveredF sig.data.toList d)),.int .i64 0])/\Kept (fun _=>False) w w':=by
 have hbd:=(Blk.new w (bytes8 d) 30).alloc (.cells (zeros 32).toArray 30)
 have hbr:=Blk.new (w.alloc (.cells (bytes8 d).toArray 30)) (zeros 32) 30
 rw[World.size_alloc]at hbr
 have k0:Kept (fun _=>False) w ((w.alloc (.cells (bytes8 d).toArray 30)).alloc (.cells (zeros 32).toArray 30)):=((Kept.refl _ _).alloc _).alloc _
 have hsl:sig.data.toList.length=16384:=by rw[bstr_len,hsz]
 have h32:=recovered_32 sig.data.toList d hsl
 have hL:=recoveredF_len sig.data.toList d
 have HRB:=Lib.hid (recovered_bit sig.data.toList d)
 have HRO:=Lib.hid (recovered_other sig.data.toList d)
 have hmk:=make_hashes
 have hz0:=listTo_zero (recoveredF sig.data.toList d)
 generalize zeros 16384=Z at hmk hz0
 have HZ:=Lib.hid hz0
 clear hz0
 generalize recoveredF sig.data.toList d=R at *
 have HRD:=Lib.hid (And.intro hbd.range0 (show(Tryz.prog.info? 30).map (·.size)=some (bytes8 d).length by rw[bytes8_len,hd];exact info_h32))
 have hhash:Calls Tryz.prog 102 #[hashV d] ((w.alloc (.cells (bytes8 d).toArray 30)).alloc (.cells (zeros 32).toArray 30)) (fun e w3=>e = .returned (.string ⟨d.toArray⟩)/\Hid (Blk w3 (w.heap.size+1) (zeros 32) 30/\Kept (fun _=>False) w w3)) :=
  (hash_any _ d hd).mono (fun e w3 q=>⟨q.1,Lib.hid ⟨hbr.kept q.2 id,k0.trans q.2⟩⟩)
 have HH:=Lib.hid hhash
 clear hhash hbd hbr k0
 go_enter Tryz.func103,Tryz.ntmps103
 go_wp2_with (first|((with_reducible show wpList _ _ _ (⟨some 16,_,_,_,_,_⟩::_) _ _);refine wpList_load_mid rfl 30 _ rfl w.heap.size 0 rfl (bytes8 d) _ HRD.out.1 Tryz.underlying30 rfl HRD.out.2 ?_)|(go_at_call 102;refine HH.out.mono ?_;rintro e w3 ⟨rfl,H3⟩))
 have hp0:Blk (w3.alloc (.cells Z.toArray 30)) w3.heap.size (listTo R 0) 30:=by rw[HZ.out];exact Blk.new w3 Z 30
 have hlt3:w.heap.size+1<w3.heap.size:=H3.out.1.lt
 generalize hpb:w3.heap.size=pb at *
 go_loopw [19] (fun x wr=>∃ k:Nat,x = .int .i64 (k:Int)/\k<=256/\Blk wr pb (listTo R (2*k)) 30/\Blk wr (w.heap.size+1) (zeros 32) 30/\Kept (fun _=>False) w wr) (fun x _=>256-(intOf x).toNat)
 case atStart=>exact⟨0,rfl,by omega,hp0,H3.out.1.alloc _,H3.out.2.alloc _⟩
 case round =>
  obtain⟨k,rfl,hk,hblk,hrb,hkw⟩:=hrel
  by_cases hlt:k<256
  ·have z1:decide ((k:Int)<256)=true:=decide_eq_true (by omega)
   have z2:decide (k<256)=true:=decide_eq_true hlt
   have hbit:=fun w'=>bit_any w' ⟨d.toArray⟩ k (by show k/8<d.toArray.size;rw[List.size_toArray,hd];omega) (by omega)
   have hbl:=bitAt_lt d k
   have e0:bitAt (⟨d.toArray⟩:ByteArray).data.toList k=bitAt d k:=rfl
   rw[e0]at hbit
   clear e0
   have hX:=HRB.out k hlt
   have hY:=HRO.out k hlt
   generalize bitAt d k=bt at *
   have hx1:(sig.extract (k*32) ((k+1)*32)).data.toList=(sig.data.toList.drop (k*32)).take 32:=by rw[extract_drop];congr 1;omega
   have hx2:(sig.extract (k*32) ((k+1)*32)).size=32:=by rw[ByteArray.size_extract];omega
   have hy2:32<=(sig.extract ((256+k)*32) sig.size).size:=by rw[ByteArray.size_extract];omega
   have hy1:((sig.extract ((256+k)*32) sig.size).extract 0 32).data.toList=(sig.data.toList.drop ((256+k)*32)).take 32:=by
    rw[extract_drop,extract_drop,List.drop_zero,List.take_take,hsz]
    congr 1
    omega
   have hun:unhashAt (sig.extract ((256+k)*32) sig.size) = #[hashV ((sig.data.toList.drop ((256+k)*32)).take 32),.string ((sig.extract ((256+k)*32) sig.size).extract 32 (sig.extract ((256+k)*32) sig.size).size),.bool true]:=by
    unfold unhashAt;rw[if_pos hy2,hy1]
   rw[hsz]at hun
   have hX32:=h32 _ (List.mem_of_getElem? hX)
   have hY32:=h32 _ (List.mem_of_getElem? hY)
   have hshn:=fun w' ht=>shown_any w' (sig.extract (k*32) ((k+1)*32)) (by rw[hx2];omega) ht
   rw[hx1]at hshn
   have hunh:=fun w'=>unhash_any w' (sig.extract ((256+k)*32) 16384) (by unfold Short;rw[ByteArray.size_extract];omega)
   rw[hun]at hunh
   generalize shownF ((sig.data.toList.drop (k*32)).take 32)=X at *
   generalize(sig.data.toList.drop ((256+k)*32)).take 32=Y at *
   generalize(sig.extract ((256+k)*32) 16384).extract 32 (sig.extract ((256+k)*32) 16384).size=T at *
   have htwo:=listTo_two h32 hL k bt hlt hbl X Y hX hY
   have hlen:=listTo_len h32 hL (2*k) (by omega)
   obtain⟨m1,hm1⟩:∃ m,2*k+bt=m:=⟨_,rfl⟩
   obtain⟨m2,hm2⟩:∃ m,2*k+1-bt=m:=⟨_,rfl⟩
   obtain⟨p1,hp1⟩:∃ m,k*32=m:=⟨_,rfl⟩
   obtain⟨p2,hp2⟩:∃ m,(k+1)*32=m:=⟨_,rfl⟩
   obtain⟨p3,hp3⟩:∃ m,(256+k)*32=m:=⟨_,rfl⟩
   rw[hm1,hm2]at htwo
   rw[hp1,hp2]at hshn
   rw[hp3]at hunh
   have HB:=Lib.hid hbit
   have HSH:=Lib.hid hshn
   have HUN:=Lib.hid hunh
   have HT:=Lib.hid htwo
   have HLN:=Lib.hid hlen
   have HXY:=Lib.hid (And.intro hX32 hY32)
   have HL:=Lib.hid hlt
   have HM:=Lib.hid (And.intro (show m1<512 by omega) (show m2<512 by omega))
   have r1:(p1:Int)<=(p2:Int):=by omega
   have r2:(p2:Int)<=(16384:Int):=by omega
   have r3:(p3:Int)<=(16384:Int):=by omega
   have r4:(0:Int)<=(p1:Int):=by omega
   have r5:(0:Int)<=(p3:Int):=by omega
   have j1:(m1:Int)<512:=by omega
   have j2:(m2:Int)<512:=by omega
   have j3:(k:Int)<256:=by omega
   have j4:(0:Int)<=(k:Int):=by omega
   have j5:(bt:Int)<2:=by omega
   have j6:(0:Int)<=(bt:Int):=by omega
   have i1:2*(k:Int)+(bt:Int)=(m1:Int):=by omega
   have i2:2*(k:Int)+1-(bt:Int)=(m2:Int):=by omega
   have c1:IntKind.i64.wrap ((k:Int)*32)=(p1:Int):=by rw[IntWalk.i64_in _ (by omega)];omega
   have c2:IntKind.i64.wrap ((k:Int)+1)=(k:Int)+1:=IntWalk.i64_in _ (by clear c1;omega)
   have c3:IntKind.i64.wrap (((k:Int)+1)*32)=(p2:Int):=by clear c1 c2;rw[IntWalk.i64_in _ (by omega)];omega
   have c4:IntKind.i64.wrap (256+(k:Int))=256+(k:Int):=IntWalk.i64_in _ (by clear c1 c2 c3;omega)
   have c5:IntKind.i64.wrap ((256+(k:Int))*32)=(p3:Int):=by clear c1 c2 c3 c4;rw[IntWalk.i64_in _ (by omega)];omega
   clear hbit hshn hunh htwo hlen hX32 hY32 hX hY hx1 hx2 hy1 hy2 hun hm1 hm2 hp1 hp2 hp3 hlt hL h32 hd hbl hsl
   go_wp2_with (first|(go_at_call 126;refine(HB.out _).mono ?_;rintro e w' ⟨rfl,rfl⟩))
   go_quiet (fail)
   go_wp2_with (first|(go_at_call 112;refine(HSH.out _ (ht.same (hkw.drewN _))).mono ?_;rintro e w4 ⟨rfl,hk4⟩)|((with_reducible show wpList _ _ _ (⟨none,.store _ (.tmp 44) _,_,_,_,_⟩::_) _ _);refine wpList_store_mid rfl 30 _ _ rfl pb (m1*32) (bytes8 X).toArray rfl rfl ?htha ?hia ?h1a ?_)|(go_at_call 108;refine(HUN.out _).mono ?_;rintro e w6 ⟨rfl,hk6⟩)|((with_reducible show wpList _ _ _ (⟨none,.store _ (.tmp 57) _,_,_,_,_⟩::_) _ _);refine wpList_store_mid rfl 30 _ _ rfl pb (m2*32) (bytes8 Y).toArray rfl rfl ?hthb ?hib ?h1b ?_))
   case htha =>
    have e32:(bytes8 X).toArray.size=32:=by rw[List.size_toArray,bytes8_len,HXY.out.1]
    rw[e32]
    exact((hblk.drewN _).kept hk4 id).there (m1*32) 32 (by rw[HLN.out];have:=HM.out.1;omega)
   case hia=>first|exact info_hash HXY.out.1|simpa using info_hash HXY.out.1
   case h1a=>first|exact all_oneCell_toArray (fun y hy=>u8_oneCell y hy)|exact fun y hy=>u8_oneCell y hy
   case hthb =>
    have e32:(bytes8 Y).toArray.size=32:=by rw[List.size_toArray,bytes8_len,HXY.out.2]
    rw[e32]
    have hb5:=((hblk.drewN nq).kept hk4 id).setCells (m1*32) (bytes8 X) (by rw[bytes8_len,HXY.out.1,HLN.out];have:=HM.out.1;omega)
    exact(hb5.kept hk6 id).there (m2*32) 32 (by rw[splice_len (by rw[bytes8_len,HXY.out.1,HLN.out];have:=HM.out.1;omega),HLN.out];have:=HM.out.2;omega)
   case hib=>first|exact info_hash HXY.out.2|simpa using info_hash HXY.out.2
   case h1b=>first|exact all_oneCell_toArray (fun y hy=>u8_oneCell y hy)|exact fun y hy=>u8_oneCell y hy
   have hb5:=((hblk.drewN nq).kept hk4 id).setCells (m1*32) (bytes8 X) (by rw[bytes8_len,HXY.out.1,HLN.out];have:=HM.out.1;omega)
   have hb7:=(hb5.kept hk6 id).setCells (m2*32) (bytes8 Y) (by rw[bytes8_len,HXY.out.2,splice_len (by rw[bytes8_len,HXY.out.1,HLN.out];have:=HM.out.1;omega),HLN.out];have:=HM.out.2;omega)
   rw[HT.out]at hb7
   have ka:=kept_setCells w4 pb (m1*32) (bytes8 X)
   have kb:=kept_setCells w6 pb (m2*32) (bytes8 Y)
   have hr7:=((((hrb.drewN nq).kept hk4 id).kept ka (by omega)).kept hk6 id).kept kb (by omega)
   have hlw:w.heap.size<pb:=by omega
   exact⟨⟨k+1,rfl,HL.out,hb7,hr7,(((((hkw.drewN nq).trans hk4).then_ ka (fun i hi e=>by omega)).trans hk6).then_ kb (fun i hi e=>by omega))⟩,check_meas0 HL.out⟩
  ·have z1:decide ((k:Int)<256)=false:=decide_eq_false (by omega)
   have z2:decide (k<256)=false:=decide_eq_false hlt
   obtain rfl:k=256:=by omega
   rw[show 2*256=512 from rfl,listTo_all hL]at hblk
   have hv:View wr 32 (.slice (some ⟨pb,0,none⟩) 512 512) (hcells R):=(show Row wr 30 32 (.slice (some ⟨pb,0,none⟩) 512 512) (hcells R)from Or.inr ⟨pb,512,512,[],rfl,by rw[hcells_len h32,hL],by rw[List.append_nil];exact hblk,Nat.le_refl _,by rw[hcells_len h32,hL];exact Nat.le_add_right _ _,by unfold maxLen;omega⟩).view
   have hlf:=(leaf_any wr _ R hv h32 hL (ht.same hkw)).mono (R':=fun e w4=>e = .returned (hashV (leafF R))/\Hid (Blk w4 (w.heap.size+1) (zeros 32) 30/\Kept (fun _=>False) w w4)) (fun e w4 q=>⟨q.1,Lib.hid ⟨hrb.kept q.2 id,hkw.trans q.2⟩⟩)
   have hl2:(leafF R).length=32:=shaF_len _
   generalize hF:leafF R=F at *
   have HFE:=Lib.hid hF
   have HLF:=Lib.hid hlf
   have HF:=Lib.hid hl2
   have HI:=Lib.hid (show(Tryz.prog.info? 30).map (·.size)=some (bytes8 F).length by rw[bytes8_len,hl2];exact info_h32)
   clear hF hlf hl2 hv hblk hrb hlt hL h32 hd hsl hmk
   go_wp2_with (first|(go_at_call 81;refine HLF.out.mono ?_;rintro e w4 ⟨rfl,H4⟩)|((with_reducible show wpList _ _ _ (⟨none,.store _ (.tmp 4) _,_,_,_,_⟩::_) _ _);refine wpList_store_mid rfl 30 _ _ rfl (w.heap.size+1) 0 (bytes8 F).toArray rfl rfl ?hthc ?hic ?h1c ?_))
   case hthc=>exact(hash_stored H4.out.1 (zeros_len 32) HF.out).1
   case hic=>first|exact info_hash HF.out|simpa using info_hash HF.out
   case h1c=>first|exact all_oneCell_toArray (fun y hy=>u8_oneCell y hy)|exact fun y hy=>u8_oneCell y hy
   have hst:=hash_stored H4.out.1 (zeros_len 32) HF.out
   refine bodyPost_ret (hst.2.result2 rfl rfl Tryz.underlying30 rfl HI.out) rfl ⟨by first|rfl|(rw[HFE.out];rfl),?_⟩
   exact H4.out.2.then_ (kept_setCells _ _ _ _) (fun i hi e=>by omega)
end Go.Proofs.YtdmedbhbefdnkaaGreatDoor
