/- Ring2 RingRead Ring3 RingOpen RingNext RingNext2 RingKeep RingSign RingSign2 -/
import Derived.Test.YtdmedbhbefdnkaaGreatDoorUKeyringPlay44
import Derived.Test.YtdmedbhbefdnkaaGreatDoorUKeyringPlay29
set_option linter.unusedVariables false
set_option linter.unusedSimpArgs false
set_option maxRecDepth 100000
set_option maxHeartbeats 16000000
namespace Go.Proofs.YtdmedbhbefdnkaaGreatDoor
open Go.RowKit
def hdC (l:List Hd):List Value:=l.flatMap fun h=>headC (h.1:Int) h.2
theorem hdC_snoc (l:List Hd) (h:Hd):hdC (l++[h])=hdC l++headC (h.1:Int) h.2:=by simp[hdC]
theorem headC_len {size:Int} {root:By} (hr:root.length=32):(headC size root).length=33:=by rw[List.length_cons,bytes8_len,hr]
theorem hdC_len {l:List Hd} (h:∀ x∈l,x.2.length=32):(hdC l).length=l.length*33:=by
 induction l with
 | nil=>rfl
 | cons a r ih =>
  have e:hdC (a::r)=headC (a.1:Int) a.2++hdC r:=by simp[hdC]
  rw[e,List.length_append,headC_len (h a (by simp)),ih (fun x hx=>h x (by simp[hx])),List.length_cons]
  omega
theorem head_oneCell {size:Int} {root:By} : ∀ v∈headC size root,v.oneCell'=true:=by
 intro v hv
 rcases List.mem_cons.1 hv with rfl|hv
 ·rfl
 ·exact u8_oneCell v hv
theorem info_head3:(Tryz.prog.info? 32).map (fun i=>(i.zero,i.size,i.bytes))=some (some (.agg (.int .i64 0::zeros 32).toArray),33,40):=by kernel_rfl
theorem append_head1 {w2:World} {x:Value} {l:List Hd} (hrow:Row w2 32 33 x (hdC l)) (hl32:∀ y∈l,y.2.length=32) (h:Hd) (hh:h.2.length=32) (hl:l.length<=1000000) :
  ∃ v' w',(Builtin.append_ #[22,22] 22 #[x,.slice (some ⟨w2.heap.size,0,none⟩) 1 1]).run Tryz.prog (w2.alloc (.cells (headC (h.1:Int) h.2).toArray 32)) = .ok v' w' /\
   Row w' 32 33 v' (hdC (l++[h]))/\Kept (fun k=>x.ownBlock=some k) w2 w'/\∀ k,v'.ownBlock=some k->x.ownBlock=some k\/w2.heap.size<=k:=by
 obtain⟨i0,hi,hz0,hz1,hz2⟩:=info_parts info_head3
 have hb:=Blk.new w2 (headC (h.1:Int) h.2) 32
 have hlen:=headC_len (size:=(h.1:Int)) hh
 obtain⟨v',w',hr,hrow2,hk,ho⟩:=(hrow.alloc (.cells (headC (h.1:Int) h.2).toArray 32)).append_cells (P:=Tryz.prog) (t:=22) Tryz.underlying22 hi hz0 hz1 (by show(Value.int .i64 0::zeros 32).toArray.size=33;rw[List.size_toArray,List.length_cons,zeros_len]) (by omega) (by omega) ⟨w2.heap.size,0,none⟩ 1 1 (headC (h.1:Int) h.2) (by rw[hlen]) (fun j u hu=>by rw[addr0_add];exact hb.cell hu) head_oneCell (by omega) (by rw[hdC_len hl32,hlen];omega) 22
 refine⟨v',w',hr,?_,((Kept.refl _ _).alloc _).trans hk,fun k hk=>?_⟩
 ·rw[hdC_snoc];exact hrow2
 ·rcases ho k hk with h|h
  ·exact Or.inl h
  ·right;rw[World.size_alloc]at h;omega
theorem fold_head {size:Int} {root:By} (h:root.length=32):(headC size root).zipIdx.foldl (fun (cs:Array Value) (x:Value × Nat)=>cs.setIfInBounds x.snd x.fst) (.int .i64 0::zeros 32).toArray=(headC size root).toArray:=by
 have hl:=headC_len (size:=size) h
 rw[foldl_zip (headC size root) (.int .i64 0::zeros 32) 0 (by rw[hl,List.length_cons,zeros_len];omega),splice_whole (by rw[hl,List.length_cons,zeros_len])]
def ReadPost (w:World) (ps:List By) (e:Ending) (w':World):Prop :=
 ∃ v,e = .returned (.tuple #[v,.bool (readH ps).isSome])/\(∀ l,readH ps=some l->Row w' 32 33 v (hdC l))/\(∀ k,v.ownBlock=some k->w.heap.size<=k)/\Kept (fun _=>False) w w'
theorem readG_none {last:Nat} {p:By} {ps:List By} (h:recOf p=none):readG last (p::ps)=none:=by unfold readG;rw[h]
theorem readG_low {last:Nat} {p:By} {ps:List By} {h:Hd} (hr:recOf p=some h) (hl:h.1<=last):readG last (p::ps)=none:=by unfold readG;rw[hr];simp only;rw[if_pos hl]
theorem readG_next {last:Nat} {p:By} {ps:List By} {h:Hd} (hr:recOf p=some h) (hl:¬ h.1<=last):readG last (p::ps)=(readG h.1 ps).map (h::·):=by
 conv=>lhs;unfold readG
 rw[hr];simp only;rw[if_neg hl]
theorem readH_none {ps:List By} (h:readG 0 ps=none):readH ps=none:=by unfold readH;rw[h]
theorem readH_some {ps:List By} {l:List Hd} (h:readG 0 ps=some l):readH ps=if l.length<=8 then some l else none:=by unfold readH;rw[h]
structure ReadTo (ps:List By) (i last:Nat) (l:List Hd):Prop where
 full:readG 0 ps=(readG last (ps.drop i)).map (l ++ ·)
 len:l.length=i
 le:last<=4096
 oks:∀ x∈l,x.2.length=32
theorem ReadTo.bad {ps:List By} {i last:Nat} {l:List Hd} (h:ReadTo ps i last l) {p:By} (hp:ps[i]? = some p) (hr:recOf p=none\/∃ x,recOf p=some x/\x.1<=last):readH ps=none:=by
 obtain⟨hi,he⟩:=List.getElem?_eq_some_iff.1 hp
 refine readH_none ?_
 rw[h.full,List.drop_eq_getElem_cons hi,he]
 rcases hr with hr|⟨x,hr,hl⟩
 ·rw[readG_none hr];rfl
 ·rw[readG_low hr hl];rfl
theorem ReadTo.step {ps:List By} {i last:Nat} {l:List Hd} (h:ReadTo ps i last l) {p:By} (hp:ps[i]? = some p) {x:Hd} (hr:recOf p=some x) (hl:¬ x.1<=last):ReadTo ps (i+1) x.1 (l++[x]):=by
 obtain⟨hi,he⟩:=List.getElem?_eq_some_iff.1 hp
 have hx:=recOf_ok hr
 refine⟨?_,by rw[List.length_append,h.len];rfl,hx.1,fun y hy=>?_⟩
 ·rw[h.full,List.drop_eq_getElem_cons hi,he,readG_next hr hl]
  cases readG x.1 (ps.drop (i+1))with
  | none=>rfl
  | some r=>simp
 ·rcases List.mem_append.1 hy with hy|hy
  ·exact h.oks y hy
  ·rw[List.mem_singleton.1 hy];exact hx.2
theorem ReadTo.done {ps:List By} {i last:Nat} {l:List Hd} (h:ReadTo ps i last l) (hi:ps.length<=i):readH ps=if l.length<=8 then some l else none:=by
 refine readH_some ?_
 rw[h.full,List.drop_eq_nil_of_le hi]
 simp[readG]
theorem recOf_no {s:By} (h:readGo s 0=none):recOf s=none:=by unfold recOf;rw[h]
theorem recOf_if {s:By} {n k:Nat} (h:readGo s 0=some (n,k)):recOf s=if n<=4096/\(s.drop k).length=32 then some (n,s.drop k)else none:=by unfold recOf;rw[h]
theorem fold_build {size:Int} {root:By} (h:root.length=32):(bytes8 root).zipIdx.foldl (fun (cs:Array Value) (x:Value × Nat)=>cs.setIfInBounds (1+x.snd) x.fst) (.int .i64 size::zeros 32).toArray=(headC size root).toArray:=by
 rw[foldl_zip_at (bytes8 root) (.int .i64 size::zeros 32) 1 0 (by rw[bytes8_len,List.length_cons,zeros_len];omega)]
 unfold splice
 rw[bytes8_len,h,List.drop_eq_nil_of_le (by rw[List.length_cons,zeros_len];omega),List.append_nil]
 rfl
theorem bytes_ne {s:ByteArray} (h:¬ s.size=0):(s.toList=[])=False:=by
 refine eq_false (fun q=>h ?_)
 rw[ByteArray.toList_eq]at q
 have:s.data.toList.length=0:=by rw[q];rfl
 simpa using this
theorem store_fresh (w2:World) (H:By) (hl:H.length=32):Blk ((w2.alloc (.cells (zeros 32).toArray 30)).setCells w2.heap.size 0 (bytes8 H)) w2.heap.size (bytes8 H) 30/\Kept (fun _=>False) w2 ((w2.alloc (.cells (zeros 32).toArray 30)).setCells w2.heap.size 0 (bytes8 H))/\(w2.alloc (.cells (zeros 32).toArray 30)).there w2.heap.size 0 (bytes8 H).toArray.size:=by
 have h:=hash_stored (Blk.new w2 (zeros 32) 30) (zeros_len 32) hl
 exact⟨h.2,(((Kept.refl (fun _=>False) w2).alloc _).then_ (kept_setCells _ w2.heap.size 0 _) (fun i hi e=>by omega)),h.1⟩
theorem unhash_parts (t:ByteArray):∃ (H:By) (r2:ByteArray) (ok:Bool),unhashAt t = #[hashV H,.string r2,.bool ok]/\H.length=32/\(ok=true↔32<=t.size)/\(32<=t.size->H=t.data.toList.take 32/\r2.size=t.size-32):=by
 by_cases h:32<=t.size
 ·refine⟨_,_,_,if_pos h,?_,by simp[h],fun _=>⟨?_,by rw[ByteArray.size_extract];omega⟩⟩
  ·rw[ByteArray.data_extract,Array.toList_extract];simp[List.extract_eq_take_drop];omega
  ·rw[ByteArray.data_extract,Array.toList_extract];simp[List.extract_eq_take_drop]
 ·exact⟨_,_,_,if_neg h,by simp,by simp[h],fun q=>absurd q h⟩
theorem read_ring (w:World) (v:Value) (ps:List By) (hv:Row w 9 1 v (strV ps)) (hps:∀ p∈ps,p.length<=65536) (hn:ps.length<=1000000) :
  Calls Tryz.prog 80 #[v] w (ReadPost w ps):=by
 have hvk:∀ k,v.ownBlock=some k->k<w.heap.size:=fun k hk=>hv.lt hk
 obtain⟨a,n,c,rfl,hm,hml,hcs⟩:=hv.form (by omega)
 rw[strV_len,Nat.mul_one]at hm
 subst hm
 go_enter Tryz.func80,Tryz.ntmps80
 go_wp2_with fail
 go_loopw [4,5,15] (fun x y z wr=>∃ (i last:Nat) (l:List Hd),y = .int .i64 (last:Int)/\z = .int .i64 (i:Int)/\i<=ps.length/\Hid (ReadTo ps i last l)/\last<=4096/\Row wr 32 33 x (hdC l)/\(∀ k,x.ownBlock=some k->w.heap.size<=k)/\Kept (fun _=>False) w wr) (fun _ _ z _=>ps.length-(intOf z).toNat)
 case atStart=>exact⟨0,0,[],rfl,rfl,Nat.zero_le _,Lib.hid ⟨by simp,rfl,by omega,by simp⟩,by omega,Row.nil _ _ _,fun k hk=>by simp[Value.ownBlock]at hk,Kept.refl _ _⟩
 case round =>
  obtain⟨i,last,l,rfl,rfl,hi,HR,hlast,hrow,hown,hk⟩:=hrel
  by_cases hlt:i<ps.length
  ·have z1:decide ((i:Int)<(ps.length:Int))=true:=decide_eq_true (by omega)
   have z2:decide (i<ps.length)=true:=decide_eq_true hlt
   obtain⟨g,rfl,hg,hcell⟩:=hcs (by omega)
   obtain⟨p,hp⟩:∃ p,ps[i]? = some p:=⟨_,List.getElem?_eq_getElem hlt⟩
   have hc0:w.cell? ⟨g,i,none⟩=some (.string ⟨p.toArray⟩):=hcell i _ (by simp[strV,hp])
   have hc1:=hk.cell hc0 id
   have hpl:=hps p (List.mem_of_getElem? hp)
   have hsz:(⟨p.toArray⟩:ByteArray).size=p.length:=rfl
   have hsh:Short (⟨p.toArray⟩:ByteArray).size:=by unfold Short;omega
   have HRD:=Lib.hid (fun w'=>read_any w' ⟨p.toArray⟩ hsh)
   cases hg0:readGo p 0 with
   | none =>
    have hbad:=HR.out.bad hp (Or.inl (recOf_no hg0))
    have HB:=Lib.hid hbad
    have ha:=readAt_no (s:=⟨p.toArray⟩) hg0
    obtain⟨H,r2,ok,hun,hH,hok,_⟩:=unhash_parts "".toUTF8
    obtain rfl:ok=false:=by cases ok with
     | false=>rfl
     | true=>exact absurd (hok.1 rfl) (by decide)
    have HU:=Lib.hid (fun w'=>unhash_any w' "".toUTF8 (by unfold Short;decide))
    have HUN:=Lib.hid (And.intro ha (And.intro hun hH))
    clear hbad hg0 ha hun hH hok
    clear hp hpl hsh hsz hcell hc0 HR hrow hcs hv hvk hml
    go_wp2_with (first|(go_at_call 107;refine(HRD.out _).mono ?_;rintro e w1 ⟨rfl,hk1⟩;rw[HUN.out.1])|(go_at_call 108;refine(HU.out _).mono ?_;rintro e w2 ⟨rfl,hk2⟩;rw[HUN.out.2.1])|((with_reducible show wpList _ _ _ (⟨none,.store _ (.tmp 11) _,_,_,_,_⟩::_) _ _);refine wpList_store_mid rfl 30 _ _ rfl w2.heap.size 0 (bytes8 H).toArray rfl rfl ?htha ?hia ?h1a ?hka;(case' hka=>generalize hw3:World.setCells _ w2.heap.size 0 _=w3)))
    case htha=>exact(store_fresh w2 H HUN.out.2.2).2.2
    case hia=>exact info_hash HUN.out.2.2
    case h1a=>exact all_oneCell_toArray (fun y hy=>u8_oneCell y hy)
    have k3:Kept (fun _=>False) w2 w3:=by rw[<- hw3];exact(store_fresh w2 H HUN.out.2.2).2.1
    go_ret2
    exact⟨_,by rw[HB.out];rfl,fun l' hl'=>by (rw[HB.out]at hl';cases hl'),fun k hk'=>by simp[Value.ownBlock]at hk',((hk.trans hk1).trans hk2).trans k3⟩
   | some x =>
    obtain⟨n,k⟩:=x
    have hif:=recOf_if hg0
    have ha:=readAt_yes (s:=⟨p.toArray⟩) hg0
    have hkl:=readGo_le _ _ hg0
    have hts:((⟨p.toArray⟩:ByteArray).extract k (⟨p.toArray⟩:ByteArray).size).size=p.length-k:=by rw[ByteArray.size_extract];omega
    have htd:((⟨p.toArray⟩:ByteArray).extract k (⟨p.toArray⟩:ByteArray).size).data.toList=p.drop k:=extract_data _ _
    generalize(⟨p.toArray⟩:ByteArray).extract k (⟨p.toArray⟩:ByteArray).size=t at *
    obtain⟨H,r2,ok,hun,hH,hok,hyes⟩:=unhash_parts t
    have HU:=Lib.hid (fun w'=>unhash_any w' t (by unfold Short;omega))
    have HUN:=Lib.hid (And.intro ha (And.intro hun hH))
    by_cases h32:32<=p.length-k
    ·obtain rfl:ok=true:=hok.2 (by omega)
     obtain⟨hH2,hr2⟩:=hyes (by omega)
     by_cases hr0:r2.size=0
     ·obtain rfl:r2=⟨#[]⟩:=by
       obtain⟨⟨l0⟩⟩:=r2
       have:l0=[]:=List.eq_nil_of_length_eq_zero hr0
       rw[this]
      have hd32:(p.drop k).length=32:=by
       have:(p.drop k).length=p.length-k:=List.length_drop
       have:(⟨#[]⟩:ByteArray).size=0:=rfl
       omega
      have hHd:H=p.drop k:=by rw[hH2,htd,List.take_of_length_le (by omega)]
      by_cases h4:n<=4096
      ·rw[if_pos ⟨h4,hd32⟩]at hif
       have hq2:wrap64 (n:Int)=(n:Int):=IntWalk.wrap64_in _ (by omega)
       have HQ2:=Lib.hid hq2
       clear hq2
       have v1:decide ((4096:Int)<(n:Int))=false:=decide_eq_false (by omega)
       have v2:decide (4096<n)=false:=decide_eq_false (by omega)
       by_cases h5:n<=last
       ·have hbad:=HR.out.bad hp (Or.inr ⟨_,hif,h5⟩)
        have HB:=Lib.hid hbad
        have v3:decide (wrap64 (n:Int)<=(last:Int))=true:=by rw[HQ2.out];exact decide_eq_true (by omega)
        have v4:decide (n<=last)=true:=decide_eq_true h5
        clear hbad hif ha hkl hts htd hun hH hok hyes hg0
        clear hp hpl hsh hsz hcell hc0 HR hrow hcs hv hvk hml hH2 hr2 hr0 hd32 hHd
        go_wp2_with (first|(go_at_call 107;refine(HRD.out _).mono ?_;rintro e w1 ⟨rfl,hk1⟩;rw[HUN.out.1])|(go_at_call 108;refine(HU.out _).mono ?_;rintro e w2 ⟨rfl,hk2⟩;rw[HUN.out.2.1])|((with_reducible show wpList _ _ _ (⟨none,.store _ (.tmp 11) _,_,_,_,_⟩::_) _ _);refine wpList_store_mid rfl 30 _ _ rfl w2.heap.size 0 (bytes8 H).toArray rfl rfl ?hthb ?hib ?h1b ?hkb;(case' hkb=>generalize hw3:World.setCells _ w2.heap.size 0 _=w3)))
        case hthb=>exact(store_fresh w2 H HUN.out.2.2).2.2
        case hib=>exact info_hash HUN.out.2.2
        case h1b=>exact all_oneCell_toArray (fun y hy=>u8_oneCell y hy)
        have k3:Kept (fun _=>False) w2 w3:=by rw[<- hw3];exact(store_fresh w2 H HUN.out.2.2).2.1
        go_ret2
        exact⟨_,by rw[HB.out];rfl,fun l' hl'=>by (rw[HB.out]at hl';cases hl'),fun k hk'=>by simp[Value.ownBlock]at hk',((hk.trans hk1).trans hk2).trans k3⟩
       ·have v3:decide (wrap64 (n:Int)<=(last:Int))=false:=by rw[HQ2.out];exact decide_eq_false (by omega)
        have v4:decide (n<=last)=false:=decide_eq_false h5
        have hstep:=HR.out.step hp hif h5
        rw[<- hHd]at hstep
        have HST:=Lib.hid hstep
        obtain⟨C,hC⟩:∃ C:List Value,headC (n:Int) H=C:=⟨_,rfl⟩
        have hf1:=fold_build (size:=(n:Int)) hH
        have hf2:=fold_head (size:=(n:Int)) hH
        have lC:=headC_len (size:=(n:Int)) hH
        have hA:=fun w' (k:Kept (fun _=>False) wr w')=>append_head1 (hrow.kept k (fun _ _=>id)) HR.out.oks (n,H) hH (by have:=HR.out.len;omega)
        rw[hC]at hf1 hf2 lC hA
        simp only[zeros,List.replicate]at hf1 hf2
        have HA:=Lib.hid hA
        have lH:(bytes8 H).length=32:=by rw[bytes8_len,hH]
        have HI:=Lib.hid (show(Tryz.prog.info? 30).map (·.size)=some (bytes8 H).length by rw[bytes8_len,hH];exact info_h32)
        clear hif ha hkl hts htd hun hH hok hyes hg0
        clear hp hpl hsh hsz hcell hc0 HR hrow hcs hv hvk hml hH2 hr2 hr0 hd32 hstep hHd hA hC
        go_wp2_with (first|(go_at_call 107;refine(HRD.out _).mono ?_;rintro e w1 ⟨rfl,hk1⟩;rw[HUN.out.1])|(go_at_call 108;refine(HU.out _).mono ?_;rintro e w2 ⟨rfl,hk2⟩;rw[HUN.out.2.1])|((with_reducible show wpList _ _ _ (⟨none,.store _ (.tmp 11) _,_,_,_,_⟩::_) _ _);refine wpList_store_mid rfl 30 _ _ rfl w2.heap.size 0 (bytes8 H).toArray rfl rfl ?hthf ?hif ?h1f ?hkf;(case' hkf=>generalize hw3:World.setCells _ w2.heap.size 0 _=w3;have B3:Blk w3 w2.heap.size (bytes8 H) 30/\Kept (fun _=>False) w2 w3:=(by rw[<- hw3];exact⟨(store_fresh w2 H HUN.out.2.2).1,(store_fresh w2 H HUN.out.2.2).2.1⟩);obtain⟨v',w',hr1,hA1⟩:=HA.out w3 ((hk1.trans hk2).trans B3.2);have HA1:=Lib.hid hA1;clear hA1))|((with_reducible show wpList _ _ _ (⟨some 55,_,_,_,_,_⟩::_) _ _);refine wpList_load_mid rfl 30 _ rfl w2.heap.size 0 rfl (bytes8 H) _ B3.1.range0 Tryz.underlying30 rfl HI.out ?_)|(at_builtin;refine Lib.wpList_append_run _ rfl _ _ 22 22 rfl _ _ rfl rfl _ _ hr1 ?_))
        case hthf=>exact(store_fresh w2 H HUN.out.2.2).2.2
        case hif=>exact info_hash HUN.out.2.2
        case h1f=>exact all_oneCell_toArray (fun y hy=>u8_oneCell y hy)
        obtain⟨g1,g2,g3⟩:=HA1.out
        refine⟨⟨i+1,n,l++[(n,H)],rfl,by simp,hlt,HST,h4,g1,fun k hk'=>?_,?_⟩,?_⟩
        ·rcases g3 k hk' with q|q
         ·exact hown k q
         ·have:=hk.size;have:=hk1.size;have:=hk2.size;have:=B3.2.size;omega
        ·exact((((hk.trans hk1).trans hk2).trans B3.2).then_ g2 (fun j hj q=>by have:=hown j q;omega))
        ·show ps.length-(((i:Int)+1)).toNat<ps.length-((i:Int)).toNat
         omega
      ·rw[if_neg (fun q=>h4 q.1)]at hif
       have hbad:=HR.out.bad hp (Or.inl hif)
       have HB:=Lib.hid hbad
       have v1:decide ((4096:Int)<(n:Int))=true:=decide_eq_true (by omega)
       have v2:decide (4096<n)=true:=decide_eq_true (by omega)
       clear hbad hif ha hkl hts htd hun hH hok hyes hg0
       clear hp hpl hsh hsz hcell hc0 HR hrow hcs hv hvk hml hH2 hr2 hr0 hd32 hHd
       go_wp2_with (first|(go_at_call 107;refine(HRD.out _).mono ?_;rintro e w1 ⟨rfl,hk1⟩;rw[HUN.out.1])|(go_at_call 108;refine(HU.out _).mono ?_;rintro e w2 ⟨rfl,hk2⟩;rw[HUN.out.2.1])|((with_reducible show wpList _ _ _ (⟨none,.store _ (.tmp 11) _,_,_,_,_⟩::_) _ _);refine wpList_store_mid rfl 30 _ _ rfl w2.heap.size 0 (bytes8 H).toArray rfl rfl ?hthc ?hic ?h1c ?hkc;(case' hkc=>generalize hw3:World.setCells _ w2.heap.size 0 _=w3)))
       case hthc=>exact(store_fresh w2 H HUN.out.2.2).2.2
       case hic=>exact info_hash HUN.out.2.2
       case h1c=>exact all_oneCell_toArray (fun y hy=>u8_oneCell y hy)
       have k3:Kept (fun _=>False) w2 w3:=by rw[<- hw3];exact(store_fresh w2 H HUN.out.2.2).2.1
       go_ret2
       exact⟨_,by rw[HB.out];rfl,fun l' hl'=>by (rw[HB.out]at hl';cases hl'),fun k hk'=>by simp[Value.ownBlock]at hk',((hk.trans hk1).trans hk2).trans k3⟩
     ·rw[if_neg (fun q=>hr0 (by rw[hr2,hts];have:(p.drop k).length=p.length-k:=List.length_drop;have:=q.2;omega))]at hif
      have hbad:=HR.out.bad hp (Or.inl hif)
      have HB:=Lib.hid hbad
      have hne:=bytes_ne hr0
      clear hbad hif ha hkl hts htd hun hH hok hyes hg0
      clear hp hpl hsh hsz hcell hc0 HR hrow hcs hv hvk hml hH2 hr2 hr0
      go_wp2_with (first|(go_at_call 107;refine(HRD.out _).mono ?_;rintro e w1 ⟨rfl,hk1⟩;rw[HUN.out.1])|(go_at_call 108;refine(HU.out _).mono ?_;rintro e w2 ⟨rfl,hk2⟩;rw[HUN.out.2.1])|((with_reducible show wpList _ _ _ (⟨none,.store _ (.tmp 11) _,_,_,_,_⟩::_) _ _);refine wpList_store_mid rfl 30 _ _ rfl w2.heap.size 0 (bytes8 H).toArray rfl rfl ?hthe ?hie ?h1e ?hke;(case' hke=>generalize hw3:World.setCells _ w2.heap.size 0 _=w3)))
      case hthe=>exact(store_fresh w2 H HUN.out.2.2).2.2
      case hie=>exact info_hash HUN.out.2.2
      case h1e=>exact all_oneCell_toArray (fun y hy=>u8_oneCell y hy)
      have k3:Kept (fun _=>False) w2 w3:=by rw[<- hw3];exact(store_fresh w2 H HUN.out.2.2).2.1
      go_ret2
      exact⟨_,by rw[HB.out];rfl,fun l' hl'=>by (rw[HB.out]at hl';cases hl'),fun k hk'=>by simp[Value.ownBlock]at hk',((hk.trans hk1).trans hk2).trans k3⟩
    ·obtain rfl:ok=false:=by cases ok with
      | false=>rfl
      | true=>exact absurd (hok.1 rfl) (by omega)
     rw[if_neg (fun q=>h32 (by have:(p.drop k).length=p.length-k:=List.length_drop;have:=q.2;omega))]at hif
     have hbad:=HR.out.bad hp (Or.inl hif)
     have HB:=Lib.hid hbad
     clear hbad hif ha hkl hts htd hun hH hok hyes hg0
     clear hp hpl hsh hsz hcell hc0 HR hrow hcs hv hvk hml
     go_wp2_with (first|(go_at_call 107;refine(HRD.out _).mono ?_;rintro e w1 ⟨rfl,hk1⟩;rw[HUN.out.1])|(go_at_call 108;refine(HU.out _).mono ?_;rintro e w2 ⟨rfl,hk2⟩;rw[HUN.out.2.1])|((with_reducible show wpList _ _ _ (⟨none,.store _ (.tmp 11) _,_,_,_,_⟩::_) _ _);refine wpList_store_mid rfl 30 _ _ rfl w2.heap.size 0 (bytes8 H).toArray rfl rfl ?hthd ?hid ?h1d ?hkd;(case' hkd=>generalize hw3:World.setCells _ w2.heap.size 0 _=w3)))
     case hthd=>exact(store_fresh w2 H HUN.out.2.2).2.2
     case hid=>exact info_hash HUN.out.2.2
     case h1d=>exact all_oneCell_toArray (fun y hy=>u8_oneCell y hy)
     have k3:Kept (fun _=>False) w2 w3:=by rw[<- hw3];exact(store_fresh w2 H HUN.out.2.2).2.1
     go_ret2
     exact⟨_,by rw[HB.out];rfl,fun l' hl'=>by (rw[HB.out]at hl';cases hl'),fun k hk'=>by simp[Value.ownBlock]at hk',((hk.trans hk1).trans hk2).trans k3⟩
  ·obtain⟨a',n',c',rfl,hm',_,_⟩:=hrow.form (by omega)
   rw[hdC_len HR.out.oks]at hm'
   have hlen:=HR.out.len
   have hdone:=HR.out.done (by omega)
   have z1:decide ((i:Int)<(ps.length:Int))=false:=decide_eq_false (by omega)
   have z2:decide (i<ps.length)=false:=decide_eq_false hlt
   have hn8:n'=l.length:=by omega
   have HX:=Lib.hid (And.intro hdone (And.intro hrow hn8))
   by_cases h8:l.length<=8
   ·have y1:decide ((n':Int)<=8)=true:=decide_eq_true (by omega)
    have y2:decide (n'<=8)=true:=decide_eq_true (by omega)
    clear hdone hrow hm' hlen hn8 hcs hv hvk hml
    go_wp2_with fail
    go_ret2
    have hd:=HX.out.1
    rw[if_pos h8]at hd
    exact⟨_,by rw[hd];rfl,fun l' hl'=>by rw[hd]at hl';cases hl';exact HX.out.2.1,hown,hk⟩
   ·have y1:decide ((n':Int)<=8)=false:=decide_eq_false (by omega)
    have y2:decide (n'<=8)=false:=decide_eq_false (by omega)
    clear hdone hrow hm' hlen hn8 hcs hv hvk hml
    go_wp2_with fail
    go_ret2
    have hd:=HX.out.1
    rw[if_neg h8]at hd
    exact⟨_,by rw[hd];rfl,fun l' hl'=>by (rw[hd]at hl';cases hl'),hown,hk⟩
structure IsRing (w:World) (r d:Nat) (R:RingM) (S:Nat->Prop):Prop where
 ex:∃ t v,Blk w r [.pointer (some ⟨d,0,none⟩),.pointer (some ⟨t,0,none⟩),v,.int .i64 R.starts,.bool R.dead] 95/\IsTree w t R.seed (leavesF R.seed.data.toList)/\Row w 32 33 v (hdC R.signed)/\S t/\∀ k,v.ownBlock=some k->S k
 own:S r
 oks:∀ x∈R.signed,HdOk x
 few:R.signed.length<=8
 short:R.seed.size<=1000
section
variable {w w' : World} {r d : Nat} {R : RingM} {S B : Nat → Prop} {M : DiskM}
theorem IsRing.kept {Z:Nat->Prop} (h:IsRing w r d R S) (hk:Kept Z w w') (hZ:∀ k,S k->¬ Z k):IsRing w' r d R S:=by
 obtain⟨⟨t,v,h1,h2,h3,h4,h5⟩,h6,h7,h8,h9⟩:=h
 exact⟨⟨t,v,h1.kept hk (hZ _ h6),h2.kept hk (hZ _ h4),h3.kept hk (fun k hk'=>hZ k (h5 k hk')),h4,h5⟩,h6,h7,h8,h9⟩
theorem IsRing.same (h:IsRing w r d R S) (hk:Kept (fun _=>False) w w'):IsRing w' r d R S:=h.kept hk (fun _ _=>id)
theorem IsRing.lt (h:IsRing w r d R S):r<w.heap.size:=by obtain⟨⟨t,v,h1,_⟩,_⟩:=h;exact h1.lt
theorem IsRing.dead (h:IsRing w r d R S) (b:Bool):IsRing (w.setCell ⟨r,4,none⟩ (.bool b)) r d { R with dead:=b } S:=by
 obtain⟨⟨t,v,h1,h2,h3,h4,h5⟩,h6,h7,h8,h9⟩:=h
 have hk:Kept (· = r) w (w.setCell ⟨r,4,none⟩ (.bool b)):=kept_cell w r 4 _
 refine⟨⟨t,v,h1.set 4 _,h2.kept hk ?_,h3.other (fun e=>h3.ne_blk e h1 (by decide) rfl) _,h4,h5⟩,h6,h7,h8,h9⟩
 rintro rfl
 have:=h2.1
 unfold Blk at this h1
 rw[this]at h1
 simp at h1
theorem ring_none (h:IsRing w r d R S):Calls Tryz.prog 63 #[.pointer (some ⟨r,0,none⟩)] w fun e w'=>e = .returned (.bool false)/\w=w':=by
 obtain⟨⟨t,v,h1,h2,h3,h4,h5⟩,h6,h7,h8,h9⟩:=h
 have c0:=h1.cell (i:=0) rfl
 go_enter Tryz.func63,Tryz.ntmps63
 go_wp2
 go_ret
 exact⟨rfl,rfl⟩
theorem ring_used (h:IsRing w r d R S):Calls Tryz.prog 20 #[.pointer (some ⟨r,0,none⟩)] w fun e w'=>e = .returned (.int .i64 (R.signed.length:Int))/\w=w':=by
 have hn:=ring_none h
 obtain⟨⟨t,v,h1,h2,h3,h4,h5⟩,h6,h7,h8,h9⟩:=h
 have c2:=h1.cell (i:=2) rfl
 obtain⟨a,n,cap,rfl,hm,_⟩:=h3.form (by omega)
 rw[hdC_len (fun x hx=>(h7 x hx).2.2)]at hm
 have e:R.signed.length=n:=by omega
 rw[e]
 clear hm e h3
 go_enter Tryz.func20,Tryz.ntmps20
 go_wp2_with (go_at_call 63;refine hn.mono ?_;rintro e w' ⟨rfl,rfl⟩)
 go_ret
 exact⟨rfl,rfl⟩
theorem ring_down (h:IsRing w r d R S) (hd:Apart B d M w) :
  Calls Tryz.prog 64 #[.pointer (some ⟨r,0,none⟩)] w fun e w'=>e = .returned (.bool (R.over M))/\IsRing w' r d { R with dead:=R.over M } S/\Kept (· = r) w w':=by
 have hset:∀ b,R.over M=b->IsRing (w.drew.setCell ⟨r,4,none⟩ (.bool b)) r d { R with dead:=R.over M } S/\Kept (· = r) w (w.drew.setCell ⟨r,4,none⟩ (.bool b)):=by
  intro b hb
  rw[hb]
  exact⟨(h.same (Kept.refl _ _).drew).dead b,((Kept.refl (· = r) w).drew).trans (kept_cell w.drew r 4 _)⟩
 have hcell:∀ b,(w.setCell ⟨r,4,none⟩ (.bool b)).cell? ⟨r,4,none⟩=some (.bool b):=by
  intro b
  obtain⟨⟨t,v,h1,_⟩,_⟩:=h
  exact(h1.set 4 (.bool b)).cell (i:=4) rfl
 have hdd:Apart B d M w.drew:=hd.same (Kept.refl _ _).drew
 obtain⟨⟨t,v,h1,h2,h3,h4,h5⟩,h6,h7,h8,h9⟩:=h
 have c0:=(h1.drew).cell (i:=0) rfl
 have c3:=(h1.drew).cell (i:=3) rfl
 have c4:=(h1.drew).cell (i:=4) rfl
 have f4:=(h1.drew).free 4
 have HS:=Lib.hid hset
 cases hdead:R.dead
 ·rw[hdead]at c4
  cases hdn:M.down
  ·have hup:=up_ap hdd (b:=true) (by rw[hdn];rfl)
   by_cases hst:M.starts=R.starts
   ·have ho:R.over M=false:=by simp[RingM.over,hdead,hdn,hst]
    have hs:=starts_ap hdd hst
    have hc:=hcell false
    have HE:=Lib.hid (HS.out false ho)
    rw[ho]
    clear hset hcell HS hd h2 h3 h4 h5 h1
    go_enter Tryz.func64,Tryz.ntmps64
    go_wp2_with fail
    refine wp_region_tail 27 (by kernel_rfl) (by kernel_rfl) ?_
    simp only[List.take_succ_cons,List.take_zero,List.drop_succ_cons,List.drop_zero]
    refine StH.out ?_
    repeat (refine StH.step (fun K hK=>?_);go_simp;refine hK.out _ ?_;clear hK K)
    (refine StH.step (fun K hK=>?_);go_simp;refine⟨_,(calls_pure hup),hK.out _ ?_⟩;clear hK K)
    repeat (refine StH.step (fun K hK=>?_);go_simp;refine hK.out _ ?_;clear hK K)
    (refine StH.step (fun K hK=>?_);go_simp;refine⟨_,(calls_pure hs),hK.out _ ?_⟩;clear hK K)
    repeat (refine StH.step (fun K hK=>?_);go_simp;refine hK.out _ ?_;clear hK K)
    refine StH.nil ?_
    go_wp2_with fail
    go_ret
    rw[ho]at HE
    exact⟨rfl,HE.out.1,HE.out.2⟩
   ·have ho:R.over M=true:=by simp[RingM.over,hdead,hdn,hst]
    have hs:=starts_ap hdd (r:=M.starts) rfl
    have hc:=hcell true
    have y1:(M.starts==R.starts)=false:=by simpa using hst
    have y2:decide (M.starts=R.starts)=false:=decide_eq_false hst
    have y3:(M.starts != R.starts)=true:=by simpa using hst
    have HE:=Lib.hid (HS.out true ho)
    rw[ho]
    clear hset hcell HS hd h2 h3 h4 h5 h1
    go_enter Tryz.func64,Tryz.ntmps64
    go_wp2_with fail
    refine wp_region_tail 27 (by kernel_rfl) (by kernel_rfl) ?_
    simp only[List.take_succ_cons,List.take_zero,List.drop_succ_cons,List.drop_zero]
    refine StH.out ?_
    repeat (refine StH.step (fun K hK=>?_);go_simp;refine hK.out _ ?_;clear hK K)
    (refine StH.step (fun K hK=>?_);go_simp;refine⟨_,(calls_pure hup),hK.out _ ?_⟩;clear hK K)
    repeat (refine StH.step (fun K hK=>?_);go_simp;refine hK.out _ ?_;clear hK K)
    (refine StH.step (fun K hK=>?_);go_simp;refine⟨_,(calls_pure hs),hK.out _ ?_⟩;clear hK K)
    repeat (refine StH.step (fun K hK=>?_);go_simp;refine hK.out _ ?_;clear hK K)
    refine StH.nil ?_
    go_wp2_with fail
    go_ret
    rw[ho]at HE
    exact⟨rfl,HE.out.1,HE.out.2⟩
  ·have hup:=up_ap hdd (b:=false) (by rw[hdn];rfl)
   have ho:R.over M=true:=by simp[RingM.over,hdead,hdn]
   have hc:=hcell true
   have HE:=Lib.hid (HS.out true ho)
   rw[ho]
   clear hset hcell HS hd h2 h3 h4 h5 h1
   go_enter Tryz.func64,Tryz.ntmps64
   go_wp2_with fail
   refine wp_region_tail 27 (by kernel_rfl) (by kernel_rfl) ?_
   simp only[List.take_succ_cons,List.take_zero,List.drop_succ_cons,List.drop_zero]
   refine StH.out ?_
   repeat (refine StH.step (fun K hK=>?_);go_simp;refine hK.out _ ?_;clear hK K)
   (refine StH.step (fun K hK=>?_);go_simp;refine⟨_,(calls_pure hup),hK.out _ ?_⟩;clear hK K)
   repeat (refine StH.step (fun K hK=>?_);go_simp;refine hK.out _ ?_;clear hK K)
   refine StH.nil ?_
   go_wp2_with fail
   go_ret
   rw[ho]at HE
   exact⟨rfl,HE.out.1,HE.out.2⟩
 ·rw[hdead]at c4
  have ho:R.over M=true:=by simp[RingM.over,hdead]
  have hc:=hcell true
  have HE:=Lib.hid (HS.out true ho)
  rw[ho]
  clear hset hcell HS hd h2 h3 h4 h5 h1
  go_enter Tryz.func64,Tryz.ntmps64
  go_wp2_with fail
  refine wp_region_tail 27 (by kernel_rfl) (by kernel_rfl) ?_
  simp only[List.take_succ_cons,List.take_zero,List.drop_succ_cons,List.drop_zero]
  refine StH.out ?_
  repeat (refine StH.step (fun K hK=>?_);go_simp;refine hK.out _ ?_;clear hK K)
  refine StH.nil ?_
  go_wp2_with fail
  go_ret
  rw[ho]at HE
  exact⟨rfl,HE.out.1,HE.out.2⟩
end
def Keeps (B:Nat->Prop):Prop:=B 0/\B 1
theorem Tab.apart {B:Nat->Prop} {w w':World} (ht:Tab w) (hk:Kept (fun k=>¬ B k) w w') (hB:Keeps B):Tab w':=ht.kept hk (fun q=>q hB.1) (fun q=>q hB.2)
def MendPost (B:Nat->Prop) (d:Nat) (w:World) (r:Int × List Hd × DiskM) (e:Ending) (w':World):Prop :=
 ∃ v,e = .returned (.tuple #[v,.int .i64 r.1])/\(r.1=0->Row w' 32 33 v (hdC r.2.1)/\(∀ x∈r.2.1,HdOk x)/\r.2.1.length<=8)/\(∀ k,v.ownBlock=some k->w.heap.size<=k)/\Apart (fun k=>B k\/v.ownBlock=some k) d r.2.2 w'/\Kept (fun k=>¬ B k) w w'
theorem MendPost.bare {B:Nat->Prop} {d:Nat} {w w':World} {r:Int} {l:List Hd} {M:DiskM} (hl:r=0->l=[]) (ha:Apart B d M w') (hk:Kept (fun k=>¬ B k) w w'):MendPost B d w (r,l,M) (.returned (.tuple #[.slice none 0 0,.int .i64 r])) w':=by
 refine⟨_,rfl,fun h=>?_,fun k hk'=>by simp[Value.ownBlock]at hk',ha.fewer (fun k q=>q.elim id (fun q=>by simp[Value.ownBlock]at q)),hk⟩
 rw[hl h]
 exact⟨Row.nil _ _ _,by simp,by simp⟩
section
variable {w : World} {d : Nat} {B : Nat → Prop} {M : DiskM}
theorem readH_ok {ps:List By} {l:List Hd} (h:readH ps=some l):(∀ x∈l,HdOk x)/\l.length<=8:=by
 unfold readH at h
 split at h
 ·cases h
 ·rename_i r hr
  split at h
  ·cases h;exact⟨(readG_rises hr).ok,by assumption⟩
  ·cases h
theorem wholeF_le (l:By):∀ p∈(wholeF l).1,p.length<=65536:=by
 match h:cutF l with
 | none=>rw[wholeF_none h];intro p hp;cases hp
 | some x =>
  have h1:=cutF_len h
  have h2:=wholeF_le x.2
  rw[wholeF_some h]
  intro p hp
  rcases List.mem_cons.1 hp with rfl|hp
  ·exact h1.2
  ·exact h2 p hp
termination_by l.length
decreasing_by omega
theorem mend_none (h:Apart B d M w) (hdn:M.down=false) (hc:M.files.length+M.loose.length<300000000) (hf:AM.get M.files 990=none) :
  Calls Tryz.prog 39 #[.pointer (some ⟨d,0,none⟩)] w (MendPost B d w M.mend):=by
 have hz:M.sizeR 990=(0,4):=by simp[DiskM.sizeR,DiskM.has,hdn,hf]
 have hsize:=size_ap h 990 (by omega) hz
 obtain⟨r1,M1,hcr⟩:∃ r1 M1,M.create 990=(r1,M1):=⟨_,_,rfl⟩
 have hcreate:=create_ap h 990 (by omega) hc hcr
 by_cases h0:r1=0
 ·subst h0
  obtain⟨r2,M2,hsy⟩:∃ r2 M2,M1.sync=(r2,M2):=⟨_,_,rfl⟩
  have hm:M.mend=(r2,[],M2):=by simp[DiskM.mend,hf,hcr,hsy]
  rw[hm]
  have HS:=Lib.hid (fun w1 (h1:Apart B d M1 w1)=>sync_ap h1 hsy)
  clear hm hsy hcr hz hf
  go_enter Tryz.func39,Tryz.ntmps39
  go_wp2_with (first|(go_at_call 38;refine hsize.mono ?_;rintro e w' ⟨rfl,rfl⟩)|(go_at_call 10;refine hcreate.mono ?_;rintro e w1 ⟨rfl,ha1,hk1⟩)|(go_at_call 78;refine(HS.out _ ha1).mono ?_;rintro e w2 ⟨rfl,ha2,hk2⟩))
  go_ret2
  exact MendPost.bare (fun _=>rfl) ha2 (hk1.trans hk2)
 ·have hm:M.mend=(r1,[],M1):=by simp[DiskM.mend,hf,hcr,h0]
  have y1:(r1==0)=false:=by simpa using h0
  have y2:decide (r1=0)=false:=decide_eq_false h0
  rw[hm]
  clear hm hcr hz hf
  go_enter Tryz.func39,Tryz.ntmps39
  go_wp2_with (first|(go_at_call 38;refine hsize.mono ?_;rintro e w' ⟨rfl,rfl⟩)|(go_at_call 10;refine hcreate.mono ?_;rintro e w1 ⟨rfl,ha1,hk1⟩))
  go_ret2
  exact MendPost.bare (fun h=>absurd h h0) ha1 hk1
theorem mend_grow {w3:World} {v:Value} {xs:List Value} {e:TypeId} {size:Nat} (h:Apart B d M w) (hk:Kept (fun _=>False) w w3) (hrow:Row w3 e size v xs) (hown:∀ k,v.ownBlock=some k->w.heap.size<=k):Apart (fun k=>B k\/v.ownBlock=some k) d M w3 :=
 h.grow hk (fun _ _=>False.elim) (fun k q=>q.elim Or.inl (fun q=>Or.inr ⟨hown k q,hrow.lt q⟩))
theorem mend_end {w3 w4:World} {v:Value} {l:List Hd} {r:Int} {M2:DiskM} (hk:Kept (fun _=>False) w w3) (hrow:Row w3 32 33 v (hdC l)) (hown:∀ k,v.ownBlock=some k->w.heap.size<=k) (hok:(∀ x∈l,HdOk x)/\l.length<=8)
  (ha:Apart (fun k=>B k\/v.ownBlock=some k) d M2 w4) (hk4:Kept (fun k=>¬ (B k\/v.ownBlock=some k)) w3 w4):MendPost B d w (r,l,M2) (.returned (.tuple #[v,.int .i64 r])) w4 :=
 ⟨_,rfl,fun _=>⟨hrow.kept hk4 (fun k hk' q=>q (Or.inr hk')),hok.1,hok.2⟩,hown,ha,(hk.mono (fun _ _=>False.elim)).then_ hk4 (fun i _ q hb=>q (Or.inl hb))⟩
theorem mend_some (h:Apart B d M w) (hdn:M.down=false) (b:By) (hf:AM.get M.files 990=some b) (ht:Tab w) :
  Calls Tryz.prog 39 #[.pointer (some ⟨d,0,none⟩)] w (MendPost B d w M.mend):=by
 have hbl:b.length<=1048576:=by
  have h1:=DiskM.len_le_total h.ok hf
  have h2:=h.ok.room
  have h3:=h.ok.cap1
  omega
 have hz:M.sizeR 990=((b.length:Int),0):=by simp[DiskM.sizeR,DiskM.has,hdn,hf]
 have hsize:=size_ap h 990 (by omega) hz
 have hread:=read_ap h 990 (by omega) 0 b.length b hdn hf (by omega)
 rw[List.drop_zero,List.take_of_length_le (Nat.le_refl _)]at hread
 have hread:Calls Tryz.prog 52 #[.pointer (some ⟨d,0,none⟩),.int .i64 990,.int .i64 0,.int .i64 (b.length:Int)] w fun e w'=>e = .returned (.tuple #[.string ⟨b.toArray⟩,.int .i64 0])/\w=w':=hread
 have hwhole:=whole_any w ⟨b.toArray⟩ (by show b.toArray.size<=_;simp;omega) ht
 rw[show(⟨b.toArray⟩:ByteArray).data.toList=b from rfl]at hwhole
 have hwl:=wholeF_len b
 have HRD:=Lib.hid (fun w' v (hrow:Row w' 9 1 v (strV (wholeF b).1))=>read_ring w' v (wholeF b).1 hrow (wholeF_le b) (by omega))
 unfold WholePost at hwhole
 obtain⟨ps,rest,hW⟩:∃ ps rest,wholeF b=(ps,rest):=⟨_,_,rfl⟩
 have hm0:M.mend=match readH ps with
  | none=>(63,[],M)
  | some l=>if rest.length=0 then(M.sync.1,l,M.sync.2)
   else if(M.truncate 990 ((b.length-rest.length:Nat):Int)).1≠0 then((M.truncate 990 ((b.length-rest.length:Nat):Int)).1,[],(M.truncate 990 ((b.length-rest.length:Nat):Int)).2)
   else((M.truncate 990 ((b.length-rest.length:Nat):Int)).2.sync.1,l,(M.truncate 990 ((b.length-rest.length:Nat):Int)).2.sync.2):=by
  unfold DiskM.mend
  rw[hf]
  simp only[hW]
  cases readH ps<;>rfl
 rw[hW]at hwhole HRD hwl
 simp only at hwhole hwl
 cases hr:readH ps with
 | none =>
  rw[hr]at hm0
  simp only at hm0
  rw[hm0]
  have HR:=Lib.hid hr
  clear hm0 hW hz hf hr hwl
  go_enter Tryz.func39,Tryz.ntmps39
  go_wp2_with (first|(go_at_call 38;refine hsize.mono ?_;rintro e w' ⟨rfl,rfl⟩)|(go_at_call 52;refine hread.mono ?_;rintro e w' ⟨rfl,rfl⟩)|(go_at_call 79;refine hwhole.mono ?_;rintro e w1 ⟨v1,rfl,hrow1,hown1,hk1⟩)|(go_at_call 80;refine(HRD.out _ v1 hrow1).mono ?_;rintro e w2 ⟨v2,rfl,hrow2,hown2,hk2⟩);rw[HR.out];rw[show(none:Option (List Hd)).isSome=false from rfl])
  go_ret2
  exact MendPost.bare (fun h=>absurd h (by decide)) (h.same (hk1.trans hk2)) ((hk1.trans hk2).mono (fun _ _=>False.elim))
 | some l =>
  rw[hr]at hm0
  simp only at hm0
  have hok:=readH_ok hr
  have HR:=Lib.hid hr
  have hown:∀ (w1 w2:World) (v:Value),Kept (fun _=>False) w w1->(∀ k,v.ownBlock=some k->w1.heap.size<=k)->∀ k,v.ownBlock=some k->w.heap.size<=k:=fun w1 w2 v hk ho k hk'=>Nat.le_trans hk.size (ho k hk')
  have HOK:=Lib.hid hok
  have HOW:=Lib.hid hown
  by_cases h0:rest.length=0
  ·have y1:decide (((b.length-rest.length:Nat):Int)<(b.length:Int))=false:=decide_eq_false (by omega)
   have y2:decide (b.length-rest.length<b.length)=false:=decide_eq_false (by omega)
   obtain⟨r2,M2,hsy⟩:∃ r2 M2,M.sync=(r2,M2):=⟨_,_,rfl⟩
   rw[if_pos h0,hsy]at hm0
   rw[hm0]
   have HS:=Lib.hid (fun (B':Nat->Prop) w1 (h1:Apart B' d M w1)=>sync_ap h1 hsy)
   clear hm0 hW hz hf hr hwl hok hown hsy h0
   go_enter Tryz.func39,Tryz.ntmps39
   go_wp2_with (first|(go_at_call 38;refine hsize.mono ?_;rintro e w' ⟨rfl,rfl⟩)|(go_at_call 52;refine hread.mono ?_;rintro e w' ⟨rfl,rfl⟩)|(go_at_call 79;refine hwhole.mono ?_;rintro e w1 ⟨v1,rfl,hrow1,hown1,hk1⟩)|(go_at_call 80;refine(HRD.out _ v1 hrow1).mono ?_;rintro e w2 ⟨v2,rfl,hrow2,hown2,hk2⟩);rw[HR.out];rw[show(some l:Option (List Hd)).isSome=true from rfl];have hrw:=hrow2 l HR.out;have ag:=mend_grow h (hk1.trans hk2) hrw (HOW.out _ w2 _ hk1 hown2)|(go_at_call 78;refine(HS.out _ _ ag).mono ?_;rintro e w4 ⟨rfl,ha4,hk4⟩))
   go_ret2
   exact mend_end (hk1.trans hk2) hrw (HOW.out _ w2 _ hk1 hown2) HOK.out ha4 hk4
  ·have y1:decide (((b.length-rest.length:Nat):Int)<(b.length:Int))=true:=decide_eq_true (by omega)
   have y2:decide (b.length-rest.length<b.length)=true:=decide_eq_true (by omega)
   obtain⟨r1,M1,htr⟩:∃ r1 M1,M.truncate 990 ((b.length-rest.length:Nat):Int)=(r1,M1):=⟨_,_,rfl⟩
   rw[if_neg h0,htr]at hm0
   have HT:=Lib.hid (fun (B':Nat->Prop) w1 (h1:Apart B' d M w1)=>truncate_ap h1 990 ((b.length-rest.length:Nat):Int) (by omega) htr)
   by_cases hr1:r1=0
   ·subst hr1
    obtain⟨r2,M2,hsy⟩:∃ r2 M2,M1.sync=(r2,M2):=⟨_,_,rfl⟩
    rw[if_neg (by simp),hsy]at hm0
    rw[hm0]
    have HS:=Lib.hid (fun (B':Nat->Prop) w1 (h1:Apart B' d M1 w1)=>sync_ap h1 hsy)
    clear hm0 hW hz hf hr hwl hok hown hsy h0 htr
    go_enter Tryz.func39,Tryz.ntmps39
    go_wp2_with (first|(go_at_call 38;refine hsize.mono ?_;rintro e w' ⟨rfl,rfl⟩)|(go_at_call 52;refine hread.mono ?_;rintro e w' ⟨rfl,rfl⟩)|(go_at_call 79;refine hwhole.mono ?_;rintro e w1 ⟨v1,rfl,hrow1,hown1,hk1⟩)|(go_at_call 80;refine(HRD.out _ v1 hrow1).mono ?_;rintro e w2 ⟨v2,rfl,hrow2,hown2,hk2⟩);rw[HR.out];rw[show(some l:Option (List Hd)).isSome=true from rfl];have hrw:=hrow2 l HR.out;have ag:=mend_grow h (hk1.trans hk2) hrw (HOW.out _ w2 _ hk1 hown2)|(go_at_call 60;refine(HT.out _ _ ag).mono ?_;rintro e w3 ⟨rfl,ha3,hk3⟩)|(go_at_call 78;refine(HS.out _ _ ha3).mono ?_;rintro e w4 ⟨rfl,ha4,hk4⟩))
    go_ret2
    exact mend_end (hk1.trans hk2) hrw (HOW.out _ w2 _ hk1 hown2) HOK.out ha4 (hk3.trans hk4)
   ·have z1:(r1==0)=false:=by simpa using hr1
    have z2:decide (r1=0)=false:=decide_eq_false hr1
    rw[if_pos hr1]at hm0
    rw[hm0]
    have HN:=Lib.hid hr1
    clear hm0 hW hz hf hr hwl hok hown h0 htr hr1
    go_enter Tryz.func39,Tryz.ntmps39
    go_wp2_with (first|(go_at_call 38;refine hsize.mono ?_;rintro e w' ⟨rfl,rfl⟩)|(go_at_call 52;refine hread.mono ?_;rintro e w' ⟨rfl,rfl⟩)|(go_at_call 79;refine hwhole.mono ?_;rintro e w1 ⟨v1,rfl,hrow1,hown1,hk1⟩)|(go_at_call 80;refine(HRD.out _ v1 hrow1).mono ?_;rintro e w2 ⟨v2,rfl,hrow2,hown2,hk2⟩);rw[HR.out];rw[show(some l:Option (List Hd)).isSome=true from rfl];have hrw:=hrow2 l HR.out|(go_at_call 60;refine(HT.out _ _ (h.same (hk1.trans hk2))).mono ?_;rintro e w3 ⟨rfl,ha3,hk3⟩))
    go_ret2
    exact MendPost.bare (fun q=>absurd q HN.out) ha3 (((hk1.trans hk2).mono (fun _ _=>False.elim)).trans hk3)
theorem mend_any (h:Apart B d M w) (hdn:M.down=false) (hc:M.files.length+M.loose.length<300000000) (ht:Tab w) :
  Calls Tryz.prog 39 #[.pointer (some ⟨d,0,none⟩)] w (MendPost B d w M.mend):=by
 cases hf:AM.get M.files 990 with
 | none=>exact mend_none h hdn hc hf
 | some b=>exact mend_some h hdn b hf ht
def DiskM.openR (M:DiskM):Int × List Hd × DiskM:=if M.down=true then(61,[],M)else M.mend
def OpenPost (B:Nat->Prop) (d:Nat) (w:World) (seed:ByteArray) (r:Int × List Hd × DiskM) (e:Ending) (w':World):Prop :=
 (r.1≠0/\e = .returned (.tuple #[.pointer none,.int .i64 r.1])/\Apart B d r.2.2 w'/\Kept (fun k=>¬ B k) w w') \/
 (r.1=0/\∃ rb S,e = .returned (.tuple #[.pointer (some ⟨rb,0,none⟩),.int .i64 0])/\IsRing w' rb d ⟨seed,r.2.1,r.2.2.starts,false⟩ S/\(∀ k,S k->w.heap.size<=k)/\Apart (fun k=>B k\/S k) d r.2.2 w'/\Kept (fun k=>¬ B k) w w')
theorem open_ring {w1 w2:World} {v:Value} {l:List Hd} {M2:DiskM} {t:Nat} {seed:ByteArray} (hk1:Kept (fun k=>¬ B k) w w1) (hrow:Row w1 32 33 v (hdC l)) (hok:(∀ x∈l,HdOk x)/\l.length<=8) (hown:∀ k,v.ownBlock=some k->w.heap.size<=k)
  (ha:Apart (fun k=>B k\/v.ownBlock=some k) d M2 w1) (ht:IsTree w2 t seed (leavesF seed.data.toList)) (hle:w1.heap.size<=t) (hk2:Kept (fun _=>False) w1 w2) (hs:seed.size<=1000) :
  OpenPost B d w seed (0,l,M2) (.returned (.tuple #[.pointer (some ⟨w2.heap.size,0,none⟩),.int .i64 0])) (w2.alloc (.cells [.pointer (some ⟨d,0,none⟩),.pointer (some ⟨t,0,none⟩),v,.int .i64 M2.starts,.bool false].toArray 95)):=by
 have hk3:Kept (fun _=>False) w2 (w2.alloc (.cells [.pointer (some ⟨d,0,none⟩),.pointer (some ⟨t,0,none⟩),v,.int .i64 M2.starts,.bool false].toArray 95)):=(Kept.refl _ _).alloc _
 have h1:=hk1.size
 have h2:=hk2.size
 have htl:=ht.lt
 have hz:(w2.alloc (.cells [.pointer (some ⟨d,0,none⟩),.pointer (some ⟨t,0,none⟩),v,.int .i64 M2.starts,.bool false].toArray 95)).heap.size=w2.heap.size+1:=World.size_alloc _ _
 refine Or.inr ⟨rfl,w2.heap.size,fun k=>k=w2.heap.size\/k=t\/v.ownBlock=some k,rfl,⟨⟨t,v,Blk.new _ _ _,ht.kept hk3 id,(hrow.kept hk2 (fun _ _=>id)).kept hk3 (fun _ _=>id),Or.inr (Or.inl rfl),fun k hk=>Or.inr (Or.inr hk)⟩,Or.inl rfl,hok.1,hok.2,hs⟩,?_,?_,hk1.then_ (hk2.trans hk3) (fun _ _=>False.elim)⟩
 ·rintro k (rfl|rfl|hk)
  ·omega
  ·omega
  ·exact hown k hk
 ·refine ha.grow (hk2.trans hk3) (fun _ _=>False.elim) (fun k hk=>?_)
  rw[hz]
  rcases hk with q|q|q|q
  ·exact Or.inl (Or.inl q)
  ·exact Or.inr (by omega)
  ·exact Or.inr (by omega)
  ·exact Or.inl (Or.inr q)
theorem open_any (h:Apart B d M w) (seed:ByteArray) (hs:seed.size<=1000) (hc:M.files.length+M.loose.length<300000000) (hB:Keeps B) (ht:Tab w) :
  Calls Tryz.prog 14 #[.pointer (some ⟨d,0,none⟩),.string seed] w (OpenPost B d w seed M.openR):=by
 cases hdn:M.down
 ·have hup:=up_ap h (b:=true) (by rw[hdn];rfl)
  have hm:=mend_any h hdn hc ht
  have ho:M.openR=M.mend:=by simp[DiskM.openR,hdn]
  rw[ho]
  obtain⟨r,l,M2,hr⟩:∃ r l M2,M.mend=(r,l,M2):=⟨_,_,_,rfl⟩
  rw[hr]at hm ⊢
  by_cases h0:r=0
  ·subst h0
   have hstarts:∀ (B':Nat->Prop) w1,Apart B' d M2 w1->Calls Tryz.prog 41 #[.pointer (some ⟨d,0,none⟩)] w1 fun e w'=>e = .returned (.int .i64 M2.starts)/\w1=w':=fun B' w1 h1=>starts_ap h1 rfl
   have HST:=Lib.hid hstarts
   have hnew:=fun w' ht'=>treeNew_any w' seed hs ht'
   have HN:=Lib.hid hnew
   clear hnew hstarts hr ho
   go_enter Tryz.func14,Tryz.ntmps14
   go_wp2_with (first|(go_at_call 37;refine hup.mono ?_;rintro e w' ⟨rfl,rfl⟩)|(go_at_call 39;refine hm.mono ?_;rintro e w1 ⟨v,rfl,hrow1,hown1,ha1,hk1⟩;obtain⟨va,vn,vc,rfl,-⟩:=(hrow1 rfl).1.form (by omega);have HR1:=Lib.hid (hrow1 rfl);clear hrow1)|(go_at_call 40;refine(HN.out _ (ht.apart hk1 hB)).mono ?_;rintro e w2 ⟨t,rfl,htree,hle,hk2⟩)|(go_at_call 41;refine(HST.out _ _ (ha1.grow hk2 (fun _ _=>False.elim) (fun _=>Or.inl))).mono ?_;rintro e w' ⟨rfl,rfl⟩))
   go_ret2
   exact open_ring hk1 HR1.out.1 HR1.out.2 hown1 ha1 htree hle hk2 hs
  ·have y1:(r==0)=false:=by simpa using h0
   have y2:decide (r=0)=false:=decide_eq_false h0
   have HN:=Lib.hid h0
   clear hr ho h0
   go_enter Tryz.func14,Tryz.ntmps14
   go_wp2_with (first|(go_at_call 37;refine hup.mono ?_;rintro e w' ⟨rfl,rfl⟩)|(go_at_call 39;refine hm.mono ?_;rintro e w1 ⟨v,rfl,hrow1,hown1,ha1,hk1⟩))
   go_ret2
   exact Or.inl ⟨HN.out,rfl,ha1.fewer (fun k=>Or.inl),hk1⟩
 ·have hup:=up_ap h (b:=false) (by rw[hdn];rfl)
  have hz:M.sizeR 990=(0,61):=by simp[DiskM.sizeR,DiskM.has,hdn]
  have hsize:=size_ap h 990 (by omega) hz
  have ho:M.openR=(61,[],M):=by simp[DiskM.openR,hdn]
  rw[ho]
  clear ho hz
  go_enter Tryz.func14,Tryz.ntmps14
  go_wp2_with (first|(go_at_call 37;refine hup.mono ?_;rintro e w' ⟨rfl,rfl⟩)|(go_at_call 38;refine hsize.mono ?_;rintro e w' ⟨rfl,rfl⟩))
  go_ret2
  exact Or.inl ⟨show ¬ (61:Int)=0 by decide,rfl,h,Kept.refl _ _⟩
end
theorem hdC_at {l:List Hd} (h:∀ x∈l,x.2.length=32) (k:Nat) {a:Hd} (ha:l[k]? = some a):((hdC l).drop (k*33)).take 33=headC (a.1:Int) a.2:=by
 induction l generalizing k with
 | nil=>simp at ha
 | cons b r ih =>
  have hb:=headC_len (size:=(b.1:Int)) (h b (by simp))
  have e:hdC (b::r)=headC (b.1:Int) b.2++hdC r:=by simp[hdC]
  rw[e]
  cases k with
  | zero =>
   simp at ha
   subst ha
   rw[Nat.zero_mul,List.drop_zero,List.take_append_of_le_length (by omega),List.take_of_length_le (by omega)]
  | succ k =>
   rw[show(k+1)*33=(headC (b.1:Int) b.2).length+k*33 by omega,<- List.drop_drop,List.drop_left]
   exact ih (fun x hx=>h x (by simp[hx])) k (by simpa using ha)
theorem Row.rangeAt {w:World} {e:TypeId} {size g n cap:Nat} {xs:List Value} (h:Row w e size (.slice (some ⟨g,0,none⟩) n cap) xs) (j k:Nat):w.rangeAt g j ((xs.drop j).take k):=by
 intro i u hu
 rw[List.getElem?_take]at hu
 split at hu
 ·rw[List.getElem?_drop]at hu
  exact h.cellsAt hu
 ·cases hu
abbrev NextS (w w':World) (r g m cap:Nat) (size:Int) (root:By) (hs:Nat) (hr:By):Prop:=w'.cell? ⟨r,2,none⟩=some (.slice (some ⟨g,0,none⟩) (m+1) cap)/\w'.rangeAt g (m*33) (headC (hs:Int) hr)/\w'.rangeAt w.heap.size 0 (headC size root)/\w'.cell? ⟨g,m*33,none⟩=some (.int .i64 (hs:Int))/\w'.cell? ⟨w.heap.size,0,none⟩=some (.int .i64 size)/\Kept (fun _=>False) w w'
theorem nextS_at {w:World} {r d:Nat} {R:RingM} {S:Nat->Prop} (h:IsRing w r d R S) {m:Nat} {a:Hd} (hm:R.signed[m]? = some a) (hl:R.signed.length=m+1) (size:Int) (root:By) :
  ∃ g cap,NextS w (w.alloc (.cells (headC size root).toArray 32)) r g m cap size root a.1 a.2:=by
 obtain⟨⟨t,v,h1,h2,h3,h4,h5⟩,h6,h7,h8,h9⟩:=h
 obtain⟨x,n,cap,rfl,hn,_,hx⟩:=h3.form (by omega)
 rw[hdC_len (fun x hx=>(h7 x hx).2.2)]at hn
 obtain rfl:n=m+1:=by omega
 obtain⟨g,rfl,_⟩:=hx (by omega)
 have hk:Kept (fun _=>False) w (w.alloc (.cells (headC size root).toArray 32)):=(Kept.refl _ _).alloc _
 have hb:=head_blk w size root
 have hr:=(h3.kept hk (fun _ _=>id)).rangeAt (m*33) 33
 rw[hdC_at (fun x hx=>(h7 x hx).2.2) m hm]at hr
 refine⟨g,cap,(h1.kept hk id).cell (i:=2) rfl,hr,hb.range0,?_,(head_range hb).1,hk⟩
 have:=hr 0 (.int .i64 (a.1:Int)) rfl
 simpa using this
theorem nextS_drew {w w1:World} {r g m cap:Nat} {size:Int} {root:By} {hs:Nat} {hr:By} (h:NextS w w1 r g m cap size root hs hr):NextS w w1.drew r g m cap size root hs hr:=⟨h.1,h.2.1,h.2.2.1,h.2.2.2.1,h.2.2.2.2.1,h.2.2.2.2.2.drew⟩
section
variable {w : World} {r d : Nat} {R : RingM} {S : Nat → Prop}
def NextPost (w:World) (x:Int × Bool × Int) (e:Ending) (w':World):Prop:=e = .returned (.tuple #[.int .i64 x.1,.bool x.2.1,.int .i64 x.2.2])/\Kept (fun _=>False) w w'
theorem next_bad (h:IsRing w r d R S) (size:Int) (root:By) (hb:size<1\/4096<size) :
  Calls Tryz.prog 65 #[.pointer (some ⟨r,0,none⟩),headV size root] w (NextPost w (0,false,2)):=by
 have hk:Kept (fun _=>False) w (w.alloc (.cells (headC size root).toArray 32)):=(Kept.refl _ _).alloc _
 have c1:=(head_range (head_blk w size root)).1
 obtain⟨⟨t,v,h1,h2,h3,h4,h5⟩,h6,h7,h8,h9⟩:=h
 have c2:=(h1.kept hk id).cell (i:=2) rfl
 obtain⟨x,n,cap,rfl,_⟩:=h3.form (by omega)
 clear h2 h3 h4 h5 h6 h7 h8 h9 h1 hk
 by_cases hlo:size<1
 ·have y1:decide (size<1)=true:=decide_eq_true hlo
  clear hb
  go_enter Tryz.func65,Tryz.ntmps65
  go_wp2_with fail
  go_ret3
  exact⟨rfl,(Kept.refl _ _).alloc _⟩
 ·have y1:decide (size<1)=false:=decide_eq_false hlo
  have y2:decide (4096<size)=true:=decide_eq_true (by omega)
  clear hb
  go_enter Tryz.func65,Tryz.ntmps65
  go_wp2_with fail
  go_ret3
  exact⟨rfl,(Kept.refl _ _).alloc _⟩
theorem next_last (h:IsRing w r d R S) (size:Int) (root:By) (hroot:root.length=32) (hb:¬ (size<1\/4096<size)) (m:Nat) (a:Hd) (hm:R.signed[m]? = some a) (hl:R.signed.length=m+1) :
  Calls Tryz.prog 65 #[.pointer (some ⟨r,0,none⟩),headV size root] w (NextPost w (if(a.1:Int)=size/\a.2=root then((m:Int),false,0)else if size<=(a.1:Int)then(0,false,83)else if 8<=m+1 then(0,false,85)else((m:Int)+1,true,0))):=by
 obtain⟨g,cap,S1⟩:=nextS_at h hm hl size root
 have hm8:=h.few
 have ha32:=(h.oks a (List.mem_of_getElem? hm)).2.2
 obtain⟨hs,hr⟩:=a
 have y1:decide (size<1)=false:=decide_eq_false (by omega)
 have y2:decide (4096<size)=false:=decide_eq_false (by omega)
 have y3:decide ((0:Int)<(m:Int)+1)=true:=decide_eq_true (by omega)
 have S0:=nextS_drew S1
 have c2:=S1.1
 have HI1:=Lib.hid (show(Tryz.prog.info? 32).map (·.size)=some (headC (hs:Int) hr).length by rw[headC_len ha32];exact info_head)
 have HI2:=Lib.hid (show(Tryz.prog.info? 32).map (·.size)=some (headC size root).length by rw[headC_len hroot];exact info_head)
 have a1:IntKind.i64.wrap (m:Int)=(m:Int):=IntWalk.i64_in _ (by omega)
 have heq:=fun w'=>eql_head w' (hs:Int) size hr root ha32 hroot
 have hm7:m<=7:=by omega
 have y4:(m:Int)<(m:Int)+1:=by omega
 have a2:wrap64 (m:Int)=(m:Int):=IntWalk.wrap64_in _ (by omega)
 simp only
 clear h hm hl hb hm8
 by_cases he:(hs:Int)=size/\hr=root
 ·have e1:decide ((hs:Int)=size/\hr=root)=true:=decide_eq_true he
  rw[if_pos he]
  simp only[e1]at heq
  clear he e1
  go_enter Tryz.func65,Tryz.ntmps65
  go_wp2_with fail
  refine wp_region_held_drew (S:=(fun w'=>NextS w w' r g m cap size root hs hr)) (by kernel_rfl) S0 (fun hH0=>?_)
  refine ti 0 hH0 ?_
  refine ti 1 hH0 ?_
  refine ti 2 hH0 ?_
  refine ti 3 hH0 ?_
  refine ti 4 hH0 ?_
  refine ti 5 hH0 ?_
  refine ti 6 hH0 ?_
  refine ti 7 hH0 ?_
  refine ti 8 hH0 ?_
  refine ti 9 hH0 ?_
  refine tky 10 rfl (fun _ _ _ h=>h) (yieldsIf_load_mid (by rfl) _ _ rfl (g) (m*33) rfl (headC (hs:Int) hr) _ (fun w q=>q.2.1) Tryz.underlying32 rfl HI1.out) hH0 ?_
  refine tky 11 rfl (fun _ _ _ h=>h) (yieldsIf_load_mid (by rfl) _ _ rfl (w.heap.size) (0) rfl (headC size root) _ (fun w q=>q.2.2.1) Tryz.underlying32 rfl HI2.out) hH0 ?_
  refine ti 12 hH0 ?_
  refine ti 13 hH0 ?_
  refine rd1 14 (fun K hK=>?_)
  go_simp
  refine hK.out _ _ (hH0) (fun hH1=>?_)
  clear hK K
  try simp only[lyA,lyB,lyC,lyD]
  refine dn ?_
  go_wp2_with fail
  go_ret3
  exact⟨rfl,hH1.2.2.2.2.2⟩
 ·have e1:decide ((hs:Int)=size/\hr=root)=false:=decide_eq_false he
  rw[if_neg he]
  simp only[e1]at heq
  clear he e1
  by_cases hle:size<=(hs:Int)
  ·have y5:decide (size<=(hs:Int))=true:=decide_eq_true hle
   rw[if_pos hle]
   clear hle
   go_enter Tryz.func65,Tryz.ntmps65
   go_wp2_with fail
   refine wp_region_held_drew (S:=(fun w'=>NextS w w' r g m cap size root hs hr)) (by kernel_rfl) S0 (fun hH0=>?_)
   refine ti 0 hH0 ?_
   refine ti 1 hH0 ?_
   refine ti 2 hH0 ?_
   refine ti 3 hH0 ?_
   refine ti 4 hH0 ?_
   refine ti 5 hH0 ?_
   refine ti 6 hH0 ?_
   refine ti 7 hH0 ?_
   refine ti 8 hH0 ?_
   refine ti 9 hH0 ?_
   refine tky 10 rfl (fun _ _ _ h=>h) (yieldsIf_load_mid (by rfl) _ _ rfl (g) (m*33) rfl (headC (hs:Int) hr) _ (fun w q=>q.2.1) Tryz.underlying32 rfl HI1.out) hH0 ?_
   refine tky 11 rfl (fun _ _ _ h=>h) (yieldsIf_load_mid (by rfl) _ _ rfl (w.heap.size) (0) rfl (headC size root) _ (fun w q=>q.2.2.1) Tryz.underlying32 rfl HI2.out) hH0 ?_
   refine ti 12 hH0 ?_
   refine ti 13 hH0 ?_
   refine rd1 14 (fun K hK=>?_)
   go_simp
   refine hK.out _ _ (hH0) (fun hH1=>?_)
   clear hK K
   try simp only[lyA,lyB,lyC,lyD]
   refine dn ?_
   go_wp2_with fail
   have S2:=nextS_drew hH1
   refine wp_region_held_drew (S:=(fun w'=>NextS w w' r g m cap size root hs hr)) (by kernel_rfl) S2 (fun hH0=>?_)
   refine ti 0 hH0 ?_
   refine ti 1 hH0 ?_
   refine ti 2 hH0 ?_
   refine ti 3 hH0 ?_
   refine ti 4 hH0 ?_
   refine ti 5 hH0 ?_
   refine ti 6 hH0 ?_
   refine ti 7 hH0 ?_
   refine ti 8 hH0 ?_
   refine ti 9 hH0 ?_
   refine ti 10 hH0 ?_
   refine ti 11 hH0 ?_
   refine ti 12 hH0 ?_
   refine ti 13 hH0 ?_
   refine ti 14 hH0 ?_
   refine ti 15 hH0 ?_
   refine rd1 16 (fun K hK=>?_)
   go_simp
   refine hK.out _ _ (hH0) (fun hH1=>?_)
   clear hK K
   try simp only[lyA,lyB,lyC,lyD]
   refine dn ?_
   go_wp2_with fail
   go_ret3
   exact⟨rfl,hH1.2.2.2.2.2⟩
  ·have y5:decide (size<=(hs:Int))=false:=decide_eq_false hle
   rw[if_neg hle]
   clear hle
   by_cases h8:8<=m+1
   ·have y6:decide ((8:Int)<=(m:Int)+1)=true:=decide_eq_true (by omega)
    rw[if_pos h8]
    clear h8
    go_enter Tryz.func65,Tryz.ntmps65
    go_wp2_with fail
    refine wp_region_held_drew (S:=(fun w'=>NextS w w' r g m cap size root hs hr)) (by kernel_rfl) S0 (fun hH0=>?_)
    refine ti 0 hH0 ?_
    refine ti 1 hH0 ?_
    refine ti 2 hH0 ?_
    refine ti 3 hH0 ?_
    refine ti 4 hH0 ?_
    refine ti 5 hH0 ?_
    refine ti 6 hH0 ?_
    refine ti 7 hH0 ?_
    refine ti 8 hH0 ?_
    refine ti 9 hH0 ?_
    refine tky 10 rfl (fun _ _ _ h=>h) (yieldsIf_load_mid (by rfl) _ _ rfl (g) (m*33) rfl (headC (hs:Int) hr) _ (fun w q=>q.2.1) Tryz.underlying32 rfl HI1.out) hH0 ?_
    refine tky 11 rfl (fun _ _ _ h=>h) (yieldsIf_load_mid (by rfl) _ _ rfl (w.heap.size) (0) rfl (headC size root) _ (fun w q=>q.2.2.1) Tryz.underlying32 rfl HI2.out) hH0 ?_
    refine ti 12 hH0 ?_
    refine ti 13 hH0 ?_
    refine rd1 14 (fun K hK=>?_)
    go_simp
    refine hK.out _ _ (hH0) (fun hH1=>?_)
    clear hK K
    try simp only[lyA,lyB,lyC,lyD]
    refine dn ?_
    go_wp2_with fail
    have S2:=nextS_drew hH1
    refine wp_region_held_drew (S:=(fun w'=>NextS w w' r g m cap size root hs hr)) (by kernel_rfl) S2 (fun hH0=>?_)
    refine ti 0 hH0 ?_
    refine ti 1 hH0 ?_
    refine ti 2 hH0 ?_
    refine ti 3 hH0 ?_
    refine ti 4 hH0 ?_
    refine ti 5 hH0 ?_
    refine ti 6 hH0 ?_
    refine ti 7 hH0 ?_
    refine ti 8 hH0 ?_
    refine ti 9 hH0 ?_
    refine ti 10 hH0 ?_
    refine ti 11 hH0 ?_
    refine ti 12 hH0 ?_
    refine ti 13 hH0 ?_
    refine ti 14 hH0 ?_
    refine ti 15 hH0 ?_
    refine rd1 16 (fun K hK=>?_)
    go_simp
    refine hK.out _ _ (hH0) (fun hH1=>?_)
    clear hK K
    try simp only[lyA,lyB,lyC,lyD]
    refine dn ?_
    go_wp2_with fail
    go_ret3
    exact⟨rfl,hH1.2.2.2.2.2⟩
   ·have y6:decide ((8:Int)<=(m:Int)+1)=false:=decide_eq_false (by omega)
    rw[if_neg h8]
    clear h8
    go_enter Tryz.func65,Tryz.ntmps65
    go_wp2_with fail
    refine wp_region_held_drew (S:=(fun w'=>NextS w w' r g m cap size root hs hr)) (by kernel_rfl) S0 (fun hH0=>?_)
    refine ti 0 hH0 ?_
    refine ti 1 hH0 ?_
    refine ti 2 hH0 ?_
    refine ti 3 hH0 ?_
    refine ti 4 hH0 ?_
    refine ti 5 hH0 ?_
    refine ti 6 hH0 ?_
    refine ti 7 hH0 ?_
    refine ti 8 hH0 ?_
    refine ti 9 hH0 ?_
    refine tky 10 rfl (fun _ _ _ h=>h) (yieldsIf_load_mid (by rfl) _ _ rfl (g) (m*33) rfl (headC (hs:Int) hr) _ (fun w q=>q.2.1) Tryz.underlying32 rfl HI1.out) hH0 ?_
    refine tky 11 rfl (fun _ _ _ h=>h) (yieldsIf_load_mid (by rfl) _ _ rfl (w.heap.size) (0) rfl (headC size root) _ (fun w q=>q.2.2.1) Tryz.underlying32 rfl HI2.out) hH0 ?_
    refine ti 12 hH0 ?_
    refine ti 13 hH0 ?_
    refine rd1 14 (fun K hK=>?_)
    go_simp
    refine hK.out _ _ (hH0) (fun hH1=>?_)
    clear hK K
    try simp only[lyA,lyB,lyC,lyD]
    refine dn ?_
    go_wp2_with fail
    have S2:=nextS_drew hH1
    refine wp_region_held_drew (S:=(fun w'=>NextS w w' r g m cap size root hs hr)) (by kernel_rfl) S2 (fun hH0=>?_)
    refine ti 0 hH0 ?_
    refine ti 1 hH0 ?_
    refine ti 2 hH0 ?_
    refine ti 3 hH0 ?_
    refine ti 4 hH0 ?_
    refine ti 5 hH0 ?_
    refine ti 6 hH0 ?_
    refine ti 7 hH0 ?_
    refine ti 8 hH0 ?_
    refine ti 9 hH0 ?_
    refine ti 10 hH0 ?_
    refine ti 11 hH0 ?_
    refine ti 12 hH0 ?_
    refine ti 13 hH0 ?_
    refine ti 14 hH0 ?_
    refine ti 15 hH0 ?_
    refine rd1 16 (fun K hK=>?_)
    go_simp
    refine hK.out _ _ (hH0) (fun hH1=>?_)
    clear hK K
    try simp only[lyA,lyB,lyC,lyD]
    refine dn ?_
    go_wp2_with fail
    go_ret3
    exact⟨rfl,hH1.2.2.2.2.2⟩
end
section
variable {w : World} {r d : Nat} {R : RingM} {S : Nat → Prop}
theorem next_first (h:IsRing w r d R S) (size:Int) (root:By) (hb:¬ (size<1\/4096<size)) (hl:R.signed=[]) :
  Calls Tryz.prog 65 #[.pointer (some ⟨r,0,none⟩),headV size root] w (NextPost w (0,true,0)):=by
 have hk:Kept (fun _=>False) w (w.alloc (.cells (headC size root).toArray 32)):=(Kept.refl _ _).alloc _
 have c1:=(head_range (head_blk w size root)).1
 obtain⟨⟨t,v,h1,h2,h3,h4,h5⟩,h6,h7,h8,h9⟩:=h
 have c2:=(h1.kept hk id).cell (i:=2) rfl
 obtain⟨x,n,cap,rfl,hn,_⟩:=h3.form (by omega)
 rw[hl]at hn
 obtain rfl:n=0:=by have:(hdC []).length=0:=rfl;omega
 have y1:decide (size<1)=false:=decide_eq_false (by omega)
 have y2:decide (4096<size)=false:=decide_eq_false (by omega)
 have k0:=hk.drew
 clear h2 h3 h4 h5 h6 h7 h8 h9 h1 hb hn
 go_enter Tryz.func65,Tryz.ntmps65
 go_wp2_with fail
 refine wp_region_held_drew (S:=(fun w'=>Kept (fun _=>False) w w')) (by kernel_rfl) k0 (fun hH0=>?_)
 refine ti 0 hH0 ?_
 refine ti 1 hH0 ?_
 refine ti 2 hH0 ?_
 refine ti0 3 hH0 ?_
 refine ti0 4 hH0 ?_
 refine ti0 5 hH0 ?_
 refine ti0 6 hH0 ?_
 refine ti0 7 hH0 ?_
 refine ti0 8 hH0 ?_
 refine ti0 9 hH0 ?_
 refine ti0 10 hH0 ?_
 refine ti0 11 hH0 ?_
 refine ti0 12 hH0 ?_
 refine ti 13 hH0 ?_
 refine rd1 14 (fun K hK=>?_)
 go_simp
 refine hK.out _ _ (hH0) (fun hH1=>?_)
 clear hK K
 try simp only[lyA,lyB,lyC,lyD]
 refine dn ?_
 go_wp2_with fail
 have k1:=hH1.drew
 refine wp_region_held_drew (S:=(fun w'=>Kept (fun _=>False) w w')) (by kernel_rfl) k1 (fun hH0=>?_)
 refine ti 0 hH0 ?_
 refine ti 1 hH0 ?_
 refine ti 2 hH0 ?_
 refine ti0 3 hH0 ?_
 refine ti0 4 hH0 ?_
 refine ti0 5 hH0 ?_
 refine ti0 6 hH0 ?_
 refine ti0 7 hH0 ?_
 refine ti0 8 hH0 ?_
 refine ti0 9 hH0 ?_
 refine ti0 10 hH0 ?_
 refine ti0 11 hH0 ?_
 refine ti0 12 hH0 ?_
 refine ti0 13 hH0 ?_
 refine ti0 14 hH0 ?_
 refine ti 15 hH0 ?_
 refine rd1 16 (fun K hK=>?_)
 go_simp
 refine hK.out _ _ (hH0) (fun hH1=>?_)
 clear hK K
 try simp only[lyA,lyB,lyC,lyD]
 refine dn ?_
 go_wp2_with fail
 go_ret3
 exact⟨rfl,hH1⟩
theorem next_any (h:IsRing w r d R S) (size:Int) (root:By) (hroot:root.length=32) :
  Calls Tryz.prog 65 #[.pointer (some ⟨r,0,none⟩),headV size root] w (NextPost w (nextF R.signed size root)):=by
 unfold nextF
 by_cases hb:size<1\/4096<size
 ·rw[if_pos hb]
  exact next_bad h size root hb
 ·rw[if_neg hb]
  rcases Nat.eq_zero_or_pos R.signed.length with h0|h0
  ·have hl:R.signed=[]:=List.eq_nil_of_length_eq_zero h0
   have:=next_first h size root hb hl
   rw[hl]
   exact this
  ·obtain⟨a,ha⟩:∃ a,R.signed[R.signed.length-1]? = some a:=⟨_,List.getElem?_eq_getElem (by omega)⟩
   have hg:R.signed.getLast? = some a:=by rw[List.getLast?_eq_getElem?];exact ha
   have:=next_last h size root hroot hb (R.signed.length-1) a ha (by omega)
   rw[hg]
   simp only
   rw[show R.signed.length-1+1=R.signed.length by omega]at this
   rw[show((R.signed.length:Nat):Int)=((R.signed.length-1:Nat):Int)+1 by omega]
   exact this
end
section
variable {w : World} {r d : Nat} {R : RingM} {S B : Nat → Prop} {M : DiskM}
theorem IsRing.cells (h:IsRing w r d R S) {b:Bool} (hb:R.dead=b):w.cell? ⟨r,0,none⟩=some (.pointer (some ⟨d,0,none⟩))/\w.cell? ⟨r,4,none⟩=some (.bool b)/\w.frozen? ⟨r,4,none⟩=false:=by
 obtain⟨⟨t,v,h1,_⟩,_⟩:=h
 exact⟨h1.cell (i:=0) rfl,h1.cell (i:=4) (by rw[hb];rfl),h1.free 4⟩
def KeepPost (B S:Nat->Prop) (r d:Nat) (R:RingM) (w:World) (x:Int × DiskM) (e:Ending) (w':World):Prop :=
 e = .returned (.int .i64 x.1)/\IsRing w' r d { R with dead:=decide (x.1=61) } S/\Apart B d x.2 w'/\Kept (fun k=>¬ B k\/k=r) w w'
theorem keep_end {w1 w2:World} {x:Int} {M2:DiskM} (h:IsRing w2 r d R S) (hS:∀ k,S k->B k) (ha:Apart B d M2 w2) (hk1:Kept (fun _=>False) w w1) (hk2:Kept (fun k=>¬ B k) w1 w2) (b:Bool) (hb:decide (x=61)=b) :
  KeepPost B S r d R w (x,M2) (.returned (.int .i64 x)) (w2.setCell ⟨r,4,none⟩ (.bool b)):=by
 have hk3:Kept (· = r) w2 (w2.setCell ⟨r,4,none⟩ (.bool b)):=kept_cell w2 r 4 _
 have hd:=h.dead b
 rw[<- hb]at hd
 refine⟨rfl,?_,ha.turn hk3 (fun k hk=>by rw[hk];exact hS r h.own),(((hk1.mono (fun _ _=>False.elim)).then_ hk2 (fun _ _=>Or.inl)).then_ hk3 (fun _ _=>Or.inr))⟩
 show IsRing _ r d { R with dead:=decide (x=61) } S
 rw[hb]at hd ⊢
 exact hd
theorem keep_any (h:IsRing w r d R S) (hd:Apart B d M w) (hS:∀ k,S k->B k) (hdead:R.dead=false) (size:Nat) (root:By) (hz:size<=4096) (hroot:root.length=32) (hc:M.files.length+M.loose.length<300000000) (ht:Tab w) :
  Calls Tryz.prog 66 #[.pointer (some ⟨r,0,none⟩),headV (size:Int) root] w (KeepPost B S r d R w (M.keepR (size,root))):=by
 obtain⟨W,hW⟩:∃ W:World,W=w.alloc (.cells (headC (size:Int) root).toArray 32):=⟨_,rfl⟩
 have hb:=head_blk w (size:Int) root
 rw[<- hW]at hb
 have kW:Kept (fun _=>False) w W:=by rw[hW];exact(Kept.refl _ _).alloc _
 have hrl:(recordF (size,root)).length<=132:=by
  have:=numL_len (U64n.small (n:=size) (by omega))
  unfold recordF
  rw[List.length_append,hroot]
  show(numL size).length+32<=132
  omega
 have HREC:=Lib.hid (fun w'=>record_any w' size root hz hroot)
 have HPUT:=Lib.hid (fun w' ht'=>frame_any w' ⟨(recordF (size,root)).toArray⟩ (by show(recordF (size,root)).toArray.size<=_;simp;omega) ht')
 have e1:(⟨(recordF (size,root)).toArray⟩:ByteArray).data.toList=recordF (size,root):=rfl
 rw[e1]at HPUT
 obtain⟨r1,M1,hap⟩:∃ r1 M1,M.append 990 (frameF (recordF (size,root)))=(r1,M1):=⟨_,_,rfl⟩
 have HAP:=Lib.hid (fun w1 (h1:Apart B d M w1)=>append_ap h1 990 (by omega) ⟨(frameF (recordF (size,root))).toArray⟩ hc hap)
 have HI:=Lib.hid (show(Tryz.prog.info? 32).map (·.size)=some (headC (size:Int) root).length by rw[headC_len hroot];exact info_head)
 have HH:=Lib.hid (And.intro h (And.intro hd (And.intro hb (And.intro kW ht))))
 have HSS:=Lib.hid hS
 by_cases h0:r1=0
 ·subst h0
  obtain⟨r2,M2,hsy⟩:∃ r2 M2,M1.sync=(r2,M2):=⟨_,_,rfl⟩
  have hkr:M.keepR (size,root)=(r2,M2):=by simp[DiskM.keepR,hap,hsy]
  rw[hkr]
  have HS:=Lib.hid (fun w1 (h1:Apart B d M1 w1)=>sync_ap h1 hsy)
  obtain⟨b,hbb⟩:∃ b,decide (r2=61)=b:=⟨_,rfl⟩
  have hb2:(r2==61)=b:=by rw[<- hbb];rfl
  have HBB:=Lib.hid hbb
  clear hsy hkr hap h hd hb hrl
  generalize recordF (size,root)=RC at *
  go_enter Tryz.func66,Tryz.ntmps66
  go_wp2_with (first|((with_reducible show wpList _ _ _ (⟨some 9,_,_,_,_,_⟩::_) _ _);refine wpList_load_mid rfl 32 _ rfl w.heap.size 0 rfl (headC (size:Int) root) _ (show World.rangeAt _ _ _ _ by rw[<- hW];exact HH.out.2.2.1.range0) Tryz.underlying32 rfl HI.out ?_)|(go_at_call 97;refine(HREC.out _).mono ?_;rintro e w1 ⟨rfl,hk1⟩;rw[<- hW]at hk1)|(go_at_call 96;refine(HPUT.out _ (HH.out.2.2.2.2.same (HH.out.2.2.2.1.trans hk1))).mono ?_;rintro e w2 ⟨rfl,hk2⟩;have k02:=Lib.hid ((HH.out.2.2.2.1.trans hk1).trans hk2);obtain⟨c0,c4,f4⟩:=(HH.out.1.same k02.out).cells hdead)|(go_at_call 12;refine(HAP.out _ (HH.out.2.1.same k02.out)).mono ?_;rintro e w3 ⟨rfl,ha3,hk3⟩;obtain⟨c0',c4',f4'⟩:=((HH.out.1.same k02.out).kept hk3 (fun k q n=>n (HSS.out k q))).cells hdead)|(go_at_call 78;refine(HS.out _ ha3).mono ?_;rintro e w4 ⟨rfl,ha4,hk4⟩;obtain⟨c0'',c4'',f4''⟩:=(((HH.out.1.same k02.out).kept hk3 (fun k q n=>n (HSS.out k q))).kept hk4 (fun k q n=>n (HSS.out k q))).cells hdead))
  go_ret
  exact keep_end (((HH.out.1.same k02.out).kept hk3 (fun k q n=>n (HSS.out k q))).kept hk4 (fun k q n=>n (HSS.out k q))) HSS.out ha4 k02.out (hk3.trans hk4) b HBB.out
 ·have hkr:M.keepR (size,root)=(r1,M1):=by simp[DiskM.keepR,hap,h0]
  rw[hkr]
  obtain⟨b,hbb⟩:∃ b,decide (r1=61)=b:=⟨_,rfl⟩
  have hb2:(r1==61)=b:=by rw[<- hbb];rfl
  have y1:(r1==0)=false:=by simpa using h0
  have y2:decide (r1=0)=false:=decide_eq_false h0
  have HBB:=Lib.hid hbb
  clear hkr hap h hd hb hrl h0
  generalize recordF (size,root)=RC at *
  go_enter Tryz.func66,Tryz.ntmps66
  go_wp2_with (first|((with_reducible show wpList _ _ _ (⟨some 9,_,_,_,_,_⟩::_) _ _);refine wpList_load_mid rfl 32 _ rfl w.heap.size 0 rfl (headC (size:Int) root) _ (show World.rangeAt _ _ _ _ by rw[<- hW];exact HH.out.2.2.1.range0) Tryz.underlying32 rfl HI.out ?_)|(go_at_call 97;refine(HREC.out _).mono ?_;rintro e w1 ⟨rfl,hk1⟩;rw[<- hW]at hk1)|(go_at_call 96;refine(HPUT.out _ (HH.out.2.2.2.2.same (HH.out.2.2.2.1.trans hk1))).mono ?_;rintro e w2 ⟨rfl,hk2⟩;have k02:=Lib.hid ((HH.out.2.2.2.1.trans hk1).trans hk2);obtain⟨c0,c4,f4⟩:=(HH.out.1.same k02.out).cells hdead)|(go_at_call 12;refine(HAP.out _ (HH.out.2.1.same k02.out)).mono ?_;rintro e w3 ⟨rfl,ha3,hk3⟩;obtain⟨c0',c4',f4'⟩:=((HH.out.1.same k02.out).kept hk3 (fun k q n=>n (HSS.out k q))).cells hdead))
  go_ret
  exact keep_end ((HH.out.1.same k02.out).kept hk3 (fun k q n=>n (HSS.out k q))) HSS.out ha3 k02.out hk3 b HBB.out
end
abbrev zeroRoot:By:=List.replicate 32 0
abbrev signed0C:List Value:=signedC 0 zeroRoot 0 ⟨#[]⟩ (.slice none 0 0)
section
variable {w : World} {r d : Nat} {R : RingM} {S B : Nat → Prop} {M : DiskM}
def SignNo (B S:Nat->Prop) (r d:Nat) (w:World) (x:Int) (R':RingM) (M':DiskM) (e:Ending) (w':World):Prop :=
 e = .returned (.tuple #[.agg signed0C.toArray,.int .i64 x])/\IsRing w' r d R' S/\Apart B d M' w'/\Kept (fun k=>¬ B k\/k=r) w w'
abbrev signW (w:World) (size:Int) (root:By):World:=(w.alloc (.cells (headC size root).toArray 32)).alloc (.cells signed0C.toArray 63)
theorem signW_head (w:World) (size:Int) (root:By):Blk (signW w size root) w.heap.size (headC size root) 32:=(head_blk w size root).alloc _
theorem signW_res (w:World) (size:Int) (root:By):Blk (signW w size root) (w.heap.size+1) signed0C 63:=by
 have:=Blk.new (w.alloc (.cells (headC size root).toArray 32)) signed0C 63
 rw[World.size_alloc]at this
 exact this
theorem signW_kept (w:World) (size:Int) (root:By):Kept (fun _=>False) w (signW w size root):=((Kept.refl _ _).alloc _).alloc _
theorem signed0_len:signed0C.length=36:=signedC_len (by simp)
theorem info_signed0:(Tryz.prog.info? 63).map (·.size)=some signed0C.length:=by rw[signed0_len];exact info_signed
theorem signedC_one {size:Int} {root:By} {i:Int} {sig:ByteArray} {v:Value} (hv:v.oneCell'=true):∀ u∈signedC size root i sig v,u.oneCell'=true:=by
 intro u hu
 unfold signedC at hu
 rcases List.mem_append.1 hu with hu|hu
 ·exact head_oneCell u hu
 ·simp only[List.mem_cons,List.not_mem_nil,or_false]at hu
  rcases hu with rfl|rfl|rfl
  ·rfl
  ·rfl
  ·exact hv
theorem signed0_one:signed0C.toArray.all (·.oneCell')=true:=all_oneCell_toArray (signedC_one rfl)
theorem sign_store {w1:World} {C:List Value} (h:Blk w1 (w.heap.size+1) C 63) (hC:C.length=36):w1.there (w.heap.size+1) 0 signed0C.toArray.size/\Blk (w1.setCells (w.heap.size+1) 0 signed0C) (w.heap.size+1) signed0C 63:=by
 have h0:=signed0_len
 refine⟨h.there 0 _ (by rw[List.size_toArray];omega),?_⟩
 have:=h.setCells 0 signed0C (by omega)
 rw[splice_whole (by omega)]at this
 exact this
abbrev ownW (w:World) (B:Nat->Prop) (k:Nat):Prop:=B k\/k=w.heap.size\/k=w.heap.size+1
theorem Apart.signW (hd:Apart B d M w) (size:Int) (root:By):Apart (ownW w B) d M (signW w size root) :=
 hd.grow (signW_kept w size root) (fun _ _=>False.elim) (fun k q=>by
  have hz:(Proofs.YtdmedbhbefdnkaaGreatDoor.signW w size root).heap.size=w.heap.size+2:=by rw[World.size_alloc,World.size_alloc]
  rw[hz]
  rcases q with q|q|q
  ·exact Or.inl q
  ·exact Or.inr (by omega)
  ·exact Or.inr (by omega))
theorem sign_no {w1:World} {x:Int} {R':RingM} {M':DiskM} {size:Int} {root:By} (hr:IsRing w1 r d R' S) (ha:Apart (ownW w B) d M' w1) (hB:∀ k,B k->k<w.heap.size) (hS:∀ k,S k->B k) (hk:Kept (fun k=>¬ ownW w B k\/k=r) (signW w size root) w1) :
  SignNo B S r d w x R' M' (.returned (.tuple #[.agg signed0C.toArray,.int .i64 x])) (w1.setCells (w.heap.size+1) 0 signed0C):=by
 have k2:=kept_setCells w1 (w.heap.size+1) 0 signed0C
 refine⟨rfl,hr.kept k2 (fun k q e=>by have:=hB k (hS k q);omega),(ha.turn k2 (fun k e=>Or.inr (Or.inr e))).fewer (fun k=>Or.inl),?_⟩
 refine(((signW_kept w size root).mono (fun _ _=>False.elim)).then_ hk (fun i hi q=>?_)).then_ k2 (fun i hi e=>by omega)
 exact q.imp (fun n b=>n (Or.inl b)) id
theorem sign_down (h:IsRing w r d R S) (hd:Apart B d M w) (hS:∀ k,S k->B k) (size:Int) (root:By) (ho:R.over M=true) :
  Calls Tryz.prog 21 #[.pointer (some ⟨r,0,none⟩),headV size root] w (SignNo B S r d w 61 { R with dead:=true } M):=by
 have hrl:=h.lt
 have hBl:=fun k (q:B k)=>hd.lt q
 have HN:=Lib.hid (ring_none (h.same (signW_kept w size root)))
 have hdn:=ring_down (h.same (signW_kept w size root)) (hd.signW size root)
 rw[ho]at hdn
 have HD:=Lib.hid hdn
 have HH:=Lib.hid (And.intro (hd.signW size root) (And.intro hS (And.intro hBl (hS r h.own))))
 clear hdn h hd hS hBl
 go_enter Tryz.func21,Tryz.ntmps21
 go_wp2_with (first|(go_at_call 63;refine HN.out.mono ?_;rintro e w' ⟨rfl,rfl⟩)|(go_at_call 64;refine HD.out.mono ?_;rintro e w1 ⟨rfl,hr1,hk1⟩;have HQ:=Lib.hid (sign_store ((signW_res w size root).kept hk1 (by omega)) signed0_len))|((with_reducible show wpList _ _ _ (⟨none,.store _ (.tmp 4) _,_,_,_,_⟩::_) _ _);refine wpList_store_mid rfl 63 _ _ rfl (w.heap.size+1) 0 signed0C.toArray rfl rfl ?hth ?hi ?h1 ?_))
 case hth=>exact HQ.out.1
 case hi=>exact(by rw[List.size_toArray];exact info_signed0)
 case h1=>exact signed0_one
 refine bodyPost_ret (HQ.out.2.result2 rfl rfl Tryz.underlying63 rfl info_signed0) rfl ?_
 exact sign_no hr1 (HH.out.1.turn hk1 (fun k e=>by rw[e];exact Or.inl HH.out.2.2.2)) HH.out.2.2.1 HH.out.2.1 (hk1.mono (fun _ _=>Or.inr))
theorem dead_same (hb:R.dead=false) : { R with dead:=false } = R:=by cases R;simp_all
theorem over_not (ho:R.over M=false):R.dead=false/\M.down=false/\M.starts=R.starts:=by
 unfold RingM.over at ho
 simp only[Bool.or_eq_false_iff,decide_eq_false_iff_not,ne_eq,Decidable.not_not]at ho
 exact⟨ho.1.1,ho.1.2,ho.2⟩
theorem sign_refused (h:IsRing w r d R S) (hd:Apart B d M w) (hS:∀ k,S k->B k) (size:Int) (root:By) (hroot:root.length=32) (ho:R.over M=false) (i:Int) (fr:Bool) (x:Int) (hx:nextF R.signed size root=(i,fr,x)) (hx0:x≠0) :
  Calls Tryz.prog 21 #[.pointer (some ⟨r,0,none⟩),headV size root] w (SignNo B S r d w x R M):=by
 have hrl:=h.lt
 have hBl:=fun k (q:B k)=>hd.lt q
 have HN:=Lib.hid (ring_none (h.same (signW_kept w size root)))
 have hdn:=ring_down (h.same (signW_kept w size root)) (hd.signW size root)
 have hds:=dead_same (over_not ho).1
 rw[ho]at hdn
 have HD:=Lib.hid hdn
 have HE:=Lib.hid hds
 have hnx:=fun w' (hr':IsRing w' r d R S)=>next_any hr' size root hroot
 rw[hx]at hnx
 unfold NextPost at hnx
 simp only at hnx
 have HX:=Lib.hid hnx
 have HI:=Lib.hid (show(Tryz.prog.info? 32).map (·.size)=some (headC size root).length by rw[headC_len hroot];exact info_head)
 have HH:=Lib.hid (And.intro (hd.signW size root) (And.intro hS (And.intro hBl (hS r h.own))))
 have y1:(x==0)=false:=by simpa using hx0
 have y2:decide (x=0)=false:=decide_eq_false hx0
 clear hdn h hd hS hBl hds hnx hx hx0
 go_enter Tryz.func21,Tryz.ntmps21
 go_wp2_with (first|(go_at_call 63;refine HN.out.mono ?_;rintro e w' ⟨rfl,rfl⟩)|(go_at_call 64;refine HD.out.mono ?_;rintro e w1 ⟨rfl,hr1,hk1⟩;rw[HE.out]at hr1;have hb1:=(signW_head w size root).kept hk1 (by omega))|((with_reducible show wpList _ _ _ (⟨some 20,_,_,_,_,_⟩::_) _ _);refine wpList_load_mid rfl 32 _ rfl w.heap.size 0 rfl (headC size root) _ hb1.range0 Tryz.underlying32 rfl HI.out ?_)|(go_at_call 65;refine(HX.out _ hr1).mono ?_;rintro e w2 ⟨rfl,hk2⟩;have HQ:=Lib.hid (sign_store (((signW_res w size root).kept hk1 (by omega)).kept hk2 id) signed0_len))|((with_reducible show wpList _ _ _ (⟨none,.store _ (.tmp 4) _,_,_,_,_⟩::_) _ _);refine wpList_store_mid rfl 63 _ _ rfl (w.heap.size+1) 0 signed0C.toArray rfl rfl ?hth ?hi ?h1 ?_))
 case hth=>exact HQ.out.1
 case hi=>exact(by rw[List.size_toArray];exact info_signed0)
 case h1=>exact signed0_one
 refine bodyPost_ret (HQ.out.2.result2 rfl rfl Tryz.underlying63 rfl info_signed0) rfl ?_
 exact sign_no (hr1.same hk2) ((HH.out.1.turn hk1 (fun k e=>by rw[e];exact Or.inl HH.out.2.2.2)).same hk2) HH.out.2.2.1 HH.out.2.1 ((hk1.mono (fun _ _=>Or.inr)).trans (hk2.mono (fun _ _=>False.elim)))
theorem sign_fails (h:IsRing w r d R S) (hd:Apart B d M w) (hS:∀ k,S k->B k) (size:Nat) (root:By) (hz:size<=4096) (hroot:root.length=32) (ho:R.over M=false) (i:Int) (hx:nextF R.signed (size:Int) root=(i,true,0)) (x:Int) (M':DiskM) (hkr:M.keepR (size,root)=(x,M')) (hx0:x≠0)
  (hc:M.files.length+M.loose.length<300000000) (ht:Tab w) (hTS:¬ S 0/\¬ S 1) :
  Calls Tryz.prog 21 #[.pointer (some ⟨r,0,none⟩),headV (size:Int) root] w (SignNo B S r d w x { R with dead:=decide (x=61) } M'):=by
 have hrl:=h.lt
 have hBl:=fun k (q:B k)=>hd.lt q
 have HN:=Lib.hid (ring_none (h.same (signW_kept w size root)))
 have hdn:=ring_down (h.same (signW_kept w size root)) (hd.signW size root)
 have hds:=dead_same (over_not ho).1
 rw[ho]at hdn
 have HD:=Lib.hid hdn
 have HE:=Lib.hid hds
 have hnx:=fun w' (hr':IsRing w' r d R S)=>next_any hr' (size:Int) root hroot
 rw[hx]at hnx
 unfold NextPost at hnx
 simp only at hnx
 have HX:=Lib.hid hnx
 have hkp:=fun w' (hr':IsRing w' r d R S) (hd':Apart (ownW w B) d M w') ht'=>keep_any hr' hd' (fun k q=>Or.inl (hS k q)) (over_not ho).1 size root hz hroot hc ht'
 rw[hkr]at hkp
 have HK:=Lib.hid hkp
 have HI:=Lib.hid (show(Tryz.prog.info? 32).map (·.size)=some (headC (size:Int) root).length by rw[headC_len hroot];exact info_head)
 have HH:=Lib.hid (And.intro (hd.signW size root) (And.intro hS (And.intro hBl (hS r h.own))))
 have HT:=Lib.hid (fun w' (k:Kept (· = r) (signW w (size:Int) root) w')=>(ht.same (signW_kept w (size:Int) root)).kept k (fun e=>hTS.1 (by rw[e];exact h.own)) (fun e=>hTS.2 (by rw[e];exact h.own)))
 have y1:(x==0)=false:=by simpa using hx0
 have y2:decide (x=0)=false:=decide_eq_false hx0
 clear hdn h hd hS hBl hds hnx hx hx0 hkp
 go_enter Tryz.func21,Tryz.ntmps21
 go_wp2_with (first|(go_at_call 63;refine HN.out.mono ?_;rintro e w' ⟨rfl,rfl⟩)|(go_at_call 64;refine HD.out.mono ?_;rintro e w1 ⟨rfl,hr1,hk1⟩;rw[HE.out]at hr1;have hb1:=(signW_head w (size:Int) root).kept hk1 (by omega))|((with_reducible show wpList _ _ _ (⟨some 20,_,_,_,_,_⟩::_) _ _);refine wpList_load_mid rfl 32 _ rfl w.heap.size 0 rfl (headC (size:Int) root) _ hb1.range0 Tryz.underlying32 rfl HI.out ?_)|(go_at_call 65;refine(HX.out _ hr1).mono ?_;rintro e w2 ⟨rfl,hk2⟩;have hb2:=hb1.kept hk2 id;have ha2:=Lib.hid ((HH.out.1.turn hk1 (fun k e=>by rw[e];exact Or.inl HH.out.2.2.2)).same hk2))|((with_reducible show wpList _ _ _ (⟨some 31,_,_,_,_,_⟩::_) _ _);refine wpList_load_mid rfl 32 _ rfl w.heap.size 0 rfl (headC (size:Int) root) _ hb2.range0 Tryz.underlying32 rfl HI.out ?_)|(go_at_call 66;refine(HK.out _ (hr1.same hk2) ha2.out ((HT.out _ hk1).same hk2)).mono ?_;rintro e w3 ⟨rfl,hr3,ha3,hk3⟩;have HQ:=Lib.hid (sign_store ((((signW_res w (size:Int) root).kept hk1 (by omega)).kept hk2 id).kept hk3 (fun q=>q.elim (fun n=>n (Or.inr (Or.inr rfl))) (fun e=>by omega))) signed0_len))|((with_reducible show wpList _ _ _ (⟨none,.store _ (.tmp 4) _,_,_,_,_⟩::_) _ _);refine wpList_store_mid rfl 63 _ _ rfl (w.heap.size+1) 0 signed0C.toArray rfl rfl ?hth ?hi ?h1 ?_))
 case hth=>exact HQ.out.1
 case hi=>exact(by rw[List.size_toArray];exact info_signed0)
 case h1=>exact signed0_one
 refine bodyPost_ret (HQ.out.2.result2 rfl rfl Tryz.underlying63 rfl info_signed0) rfl ?_
 exact sign_no hr3 ha3 HH.out.2.2.1 HH.out.2.1 (((hk1.mono (fun _ _=>Or.inr)).trans (hk2.mono (fun _ _=>False.elim))).trans hk3)
end
abbrev SgS (wA w':World) (r t hb:Nat) (C:List Value):Prop:=w'.cell? ⟨r,1,none⟩=some (.pointer (some ⟨t,0,none⟩))/\w'.rangeAt hb 0 C/\Kept (fun _=>False) wA w'
theorem sgS_next {wA w1 w2:World} {r t hb:Nat} {C:List Value} (h:SgS wA w1 r t hb C) (hl:hb<wA.heap.size) (k:Kept (fun _=>False) w1 w2):SgS wA w2 r t hb C :=
 ⟨k.cell h.1 id,rangeAt_kept h.2.1 k (Nat.lt_of_lt_of_le hl h.2.2.size) id,h.2.2.trans k⟩
theorem sg_alloc {wA w1:World} (h:Kept (fun _=>False) wA w1):Blk (w1.alloc (.cells [.int .i64 0,.string ⟨#[]⟩,.slice none 0 0].toArray 61)) w1.heap.size [.int .i64 0,.string ⟨#[]⟩,.slice none 0 0] 61/\wA.heap.size<=w1.heap.size:=⟨Blk.new _ _ _,h.size⟩
theorem sgS_set {wA w1:World} {r t hb sb:Nat} {C:List Value} (h:SgS wA w1 r t hb C) (hl:hb<wA.heap.size) (hs:wA.heap.size<=sb) (a b c:Value) (hr:r<wA.heap.size):SgS wA (((w1.setCell ⟨sb,0,none⟩ a).setCell ⟨sb,1,none⟩ b).setCell ⟨sb,2,none⟩ c) r t hb C:=by
 have k:Kept (· = sb) w1 (((w1.setCell ⟨sb,0,none⟩ a).setCell ⟨sb,1,none⟩ b).setCell ⟨sb,2,none⟩ c):=((kept_cell w1 sb 0 a).trans (kept_cell _ sb 1 b)).trans (kept_cell _ sb 2 c)
 exact⟨k.cell h.1 (by show ¬ r=sb;omega),rangeAt_kept h.2.1 k (Nat.lt_of_lt_of_le hl h.2.2.size) (by omega),h.2.2.then_ k (fun i hi e=>by omega)⟩
theorem sg_row {wA w1 w2:World} {v:Value} {xs:List Value} (hk:Kept (fun _=>False) wA w1) (hrow:Row w2 30 32 v xs) (hown:∀ k,v.ownBlock=some k->w1.heap.size<=k):Row w2 30 32 v xs/\∀ k,v.ownBlock=some k->wA.heap.size<=k:=⟨hrow,fun k hk'=>Nat.le_trans hk.size (hown k hk')⟩
theorem sg_rowa {w1:World} {v:Value} {xs:List Value} {n:Nat} (h:Row w1 30 32 v xs/\∀ k,v.ownBlock=some k->n<=k) (o:Obj):Row (w1.alloc o) 30 32 v xs/\∀ k,v.ownBlock=some k->n<=k:=⟨h.1.alloc o,h.2⟩
theorem sg_rows {w1:World} {v:Value} {xs:List Value} {n sb:Nat} {c:List Value} (h:Row w1 30 32 v xs/\∀ k,v.ownBlock=some k->n<=k) (hsb:Blk w1 sb c 61) (x y z:Value) :
  Row (((w1.setCell ⟨sb,0,none⟩ x).setCell ⟨sb,1,none⟩ y).setCell ⟨sb,2,none⟩ z) 30 32 v xs/\∀ k,v.ownBlock=some k->n<=k:=by
 have k:Kept (· = sb) w1 (((w1.setCell ⟨sb,0,none⟩ x).setCell ⟨sb,1,none⟩ y).setCell ⟨sb,2,none⟩ z):=((kept_cell w1 sb 0 x).trans (kept_cell _ sb 1 y)).trans (kept_cell _ sb 2 z)
 exact⟨h.1.kept k (fun q hq e=>h.1.ne_blk hq hsb (by decide) e),h.2⟩
theorem sign_fin {w1:World} {b:Nat} {Y:List Value} (h:Blk w1 b signed0C 63) (hY:Y.length=36):w1.there b 0 Y.length/\Blk (w1.setCells b 0 Y) b Y 63:=by
 have h0:=signed0_len
 refine⟨h.there 0 _ (by omega),?_⟩
 have:=h.setCells 0 Y (by omega)
 rw[splice_whole (by omega)]at this
 exact this
theorem info_sized {Y:List Value} (hY:Y.length=36):(Tryz.prog.info? 63).map (·.size)=some Y.length:=by rw[hY];exact info_signed
theorem sign_one {size:Int} {root:By} {C Y:List Value} {i:Int} {s:ByteArray} {pa:Option Addr} {pn pc:Nat} (hY:Y=C++[.int .i64 i,.string s,.slice pa pn pc]) (hC:headC size root=C):∀ x∈Y,x.oneCell'=true:=by
 rw[hY,<- hC]
 exact signedC_one (size:=size) (root:=root) rfl
theorem sign_build (C:List Value) (hC:C.length=33) (a b c:Value):∃ X Y:List Value,C.zipIdx.foldl (fun (cs:Array Value) (x:Value × Nat)=>cs.setIfInBounds x.snd x.fst) (((.int .i64 0::zeros 32)++[.int .i64 0,.string ⟨#[]⟩,.slice none 0 0]:List Value)).toArray=X.toArray/\X.length=36/\((X.set 33 a).set 34 b).set 35 c=Y/\Hid (Y=C++[a,b,c]):=by
 have hz:((.int .i64 0::zeros 32)++[.int .i64 0,.string ⟨#[]⟩,.slice none 0 0]:List Value).length=36:=by rw[List.length_append,List.length_cons,zeros_len];rfl
 have e:splice ((.int .i64 0::zeros 32)++[.int .i64 0,.string ⟨#[]⟩,.slice none 0 0]:List Value) 0 C=C++[.int .i64 0,.string ⟨#[]⟩,.slice none 0 0]:=by
  unfold splice
  rw[List.take_zero,List.nil_append,hC,List.drop_append_of_le_length (by rw[List.length_cons,zeros_len];omega),List.drop_eq_nil_of_le (by rw[List.length_cons,zeros_len];omega),List.nil_append]
 refine⟨C++[.int .i64 0,.string ⟨#[]⟩,.slice none 0 0],_,?_,by rw[List.length_append,hC];rfl,rfl,Lib.hid ?_⟩
 ·rw[foldl_zip C _ 0 (by omega),e]
 ·rw[List.set_append,if_neg (by omega),List.set_append,if_neg (by omega),List.set_append,if_neg (by omega),hC]
  rfl
section
variable {w : World} {r d : Nat} {R : RingM} {S B : Nat → Prop} {M : DiskM}
def SignYes (B S:Nat->Prop) (r d:Nat) (w:World) (size:Nat) (root:By) (i:Nat) (R':RingM) (M':DiskM) (e:Ending) (w':World):Prop :=
 ∃ v S',e = .returned (.tuple #[signedV (size:Int) root (i:Int) ⟨(signF R'.seed.data.toList i (digestF size root)).toArray⟩ v,.int .i64 0])/\Row w' 30 32 v (hcells (pathF (leavesF R'.seed.data.toList) i))/\(∀ k,v.ownBlock=some k->w.heap.size<=k/\¬ S' k) /\
  IsRing w' r d R' S'/\(∀ k,S' k->S k\/w.heap.size<=k)/\Apart (fun k=>B k\/S' k\/v.ownBlock=some k) d M' w'/\Kept (fun k=>¬ B k\/S k) w w'
theorem sign_yes {size:Nat} {root:By} {i:Nat} {wA wF:World} {R':RingM} {S':Nat->Prop} {M':DiskM} {C Y:List Value} {SG:By} {DG:By} {v:Value} (hrA:IsRing wA r d R' S') (hS':∀ k,S' k->S k\/w.heap.size+2<=k) (hSB:∀ k,S k->B k) (hBl:∀ k,B k->k<w.heap.size)
  (haA:Apart (fun k=>ownW w B k\/S' k) d M' wA) (kA:Kept (fun k=>¬ ownW w B k\/S k) (signW w (size:Int) root) wA) (kF:Kept (fun _=>False) wA wF) (hrow:Row wF 30 32 v (hcells (pathF (leavesF R'.seed.data.toList) i))/\∀ k,v.ownBlock=some k->wA.heap.size<=k)
  (hY:Y=C++[.int .i64 (i:Int),.string ⟨SG.toArray⟩,v]) (hC:headC (size:Int) root=C) (hSG:signF R'.seed.data.toList i DG=SG) (hDG:digestF size root=DG) :
  SignYes B S r d w size root i R' M' (.returned (.tuple #[.agg Y.toArray,.int .i64 0])) (wF.setCells (w.heap.size+1) 0 Y):=by
 have kS:=kept_setCells wF (w.heap.size+1) 0 Y
 have hsz:w.heap.size+2<=wA.heap.size:=by
  have:=kA.size
  have hz:(signW w (size:Int) root).heap.size=w.heap.size+2:=by rw[World.size_alloc,World.size_alloc]
  omega
 have hne:∀ k,S' k->k≠w.heap.size+1:=fun k hk e=>by
  rcases hS' k hk with q|q
  ·have:=hBl k (hSB k q);omega
  ·omega
 have kG:Kept (· = w.heap.size+1) wA (wF.setCells (w.heap.size+1) 0 Y):=(kF.mono (fun _ _=>False.elim)).then_ kS (fun _ _ e=>e)
 refine⟨v,S',?_,hrow.1.kept kS (fun k hk e=>by have:=hrow.2 k hk;omega),fun k hk=>⟨by have:=hrow.2 k hk;omega,fun q=>by have:=haA.lt (Or.inr q);have:=hrow.2 k hk;omega⟩,hrA.kept kG hne,fun k hk=>(hS' k hk).imp id (fun q=>by omega),?_,?_⟩
 ·rw[hY,<- hC,<- hSG,<- hDG];rfl
 ·refine haA.grow kG (fun k _ e=>Or.inl (Or.inr (Or.inr e))) (fun k hk=>?_)
  rcases hk with q|q|q
  ·exact Or.inl (Or.inl (Or.inl q))
  ·exact Or.inl (Or.inr q)
  ·exact Or.inr ⟨hrow.2 k q,(hrow.1.kept kS (fun k hk e=>by have:=hrow.2 k hk;omega)).lt q⟩
 ·refine(((signW_kept w (size:Int) root).mono (fun _ _=>False.elim)).then_ kA (fun j hj q=>q.imp (fun n b=>n (Or.inl b)) id)).then_ kG (fun j hj e=>by omega)
theorem sign_again (h:IsRing w r d R S) (hd:Apart B d M w) (hS:∀ k,S k->B k) (size:Nat) (root:By) (hz:size<=4096) (hroot:root.length=32) (ho:R.over M=false) (i:Nat) (hi:i<8) (hx:nextF R.signed (size:Int) root=((i:Int),false,0))
  (ht:Tab w) (hTS:¬ S 0/\¬ S 1) :
  Calls Tryz.prog 21 #[.pointer (some ⟨r,0,none⟩),headV (size:Int) root] w (SignYes B S r d w size root i R M):=by
 have hrl:=h.lt
 have hBl:=fun k (q:B k)=>hd.lt q
 have HN:=Lib.hid (ring_none (h.same (signW_kept w size root)))
 have hdn:=ring_down (h.same (signW_kept w size root)) (hd.signW size root)
 have hds:=dead_same (over_not ho).1
 rw[ho]at hdn
 have HD:=Lib.hid hdn
 have HE:=Lib.hid hds
 have hnx:=fun w' (hr':IsRing w' r d R S)=>next_any hr' (size:Int) root hroot
 rw[hx]at hnx
 unfold NextPost at hnx
 simp only at hnx
 have HX:=Lib.hid hnx
 have HH:=Lib.hid (And.intro (hd.signW size root) (And.intro hS (And.intro hBl (hS r h.own))))
 have HT:=Lib.hid (fun w' (k:Kept (· = r) (signW w (size:Int) root) w')=>(ht.same (signW_kept w (size:Int) root)).kept k (fun e=>hTS.1 (by rw[e];exact h.own)) (fun e=>hTS.2 (by rw[e];exact h.own)))
 have HI0:=Lib.hid (show(Tryz.prog.info? 32).map (·.size)=some (headC (size:Int) root).length by rw[headC_len hroot];exact info_head)
 have HDI:=Lib.hid (fun w' ht'=>digest_any w' size root hz hroot ht')
 have hDl:=digestF_len size root
 clear hdn hd hS hBl hds hnx hx h
 go_enter Tryz.func21,Tryz.ntmps21
 go_wp2_with (first|(go_at_call 63;refine HN.out.mono ?_;rintro e w' ⟨rfl,rfl⟩)|(go_at_call 64;refine HD.out.mono ?_;rintro e w1 ⟨rfl,hr1,hk1⟩;rw[HE.out]at hr1;have hb1:=(signW_head w (size:Int) root).kept hk1 (by omega))|((with_reducible show wpList _ _ _ (⟨some 20,_,_,_,_,_⟩::_) _ _);refine wpList_load_mid rfl 32 _ rfl w.heap.size 0 rfl (headC (size:Int) root) _ hb1.range0 Tryz.underlying32 rfl HI0.out ?_)|(go_at_call 65;refine(HX.out _ hr1).mono ?_;rintro e wA ⟨rfl,hk2⟩))
 have hrA:=hr1.same hk2
 have hbA:=hb1.kept hk2 id
 have hzA:=((signW_res w (size:Int) root).kept hk1 (by omega)).kept hk2 id
 have haA:=(HH.out.1.turn hk1 (fun k e=>by rw[e];exact Or.inl HH.out.2.2.2)).same hk2
 have htA:=(HT.out _ hk1).same hk2
 have kA:Kept (· = r) (signW w (size:Int) root) wA:=hk1.then_ hk2 (fun _ _=>False.elim)
 obtain⟨⟨t,vv,hrb,htree,-,-,-⟩,-,-,-,hsh⟩:=id hrA
 have hrlA:=hrA.lt
 have hhb:w.heap.size<wA.heap.size:=hbA.lt
 have HTS:=Lib.hid (fun w' (k:Kept (fun _=>False) wA w')=>treeSign_any (htree.kept k id) i (digestF size root) hsh hi hDl (htA.same k))
 have HTB:=Lib.hid (fun w' (k:Kept (fun _=>False) wA w')=>htA.same k)
 have HFIN:=Lib.hid (And.intro hrA (And.intro hbA (And.intro hzA (And.intro haA kA))))
 obtain⟨SG,hSG⟩:∃ SG,signF R.seed.data.toList i (digestF size root)=SG:=⟨_,rfl⟩
 rw[hSG]at HTS
 have HSG:=Lib.hid hSG
 obtain⟨C,hC⟩:∃ C,headC (size:Int) root=C:=⟨_,rfl⟩
 have HCC:=Lib.hid hC
 have SA:SgS wA wA.drew r t w.heap.size C:=⟨(hrb.drew).cell (i:=1) rfl,by rw[<- hC];exact(hbA.drew).range0,(Kept.refl _ _).drew⟩
 have HI:Hid ((Tryz.prog.info? 32).map (·.size)=some C.length):=by rw[<- hC];exact HI0
 have HLC:=Lib.hid (show C.length=33 by rw[<- hC];exact headC_len hroot)
 have HDG:=Lib.hid (fun w' ht'=>(by rw[<- hC];exact HDI.out w' ht':Calls Tryz.prog 68 #[.agg C.toArray] w' fun e w''=>e = .returned (hashV (digestF size root))/\Kept (fun _=>False) w' w''))
 generalize hDG:digestF size root=DG at *
 have HDG2:=Lib.hid hDG
 clear hDG hSG hrA hbA hzA haA htA kA hrb htree hsh hr1 hb1 hC
 refine wp_region_held_drew (S:=(fun w'=>SgS wA w' r t w.heap.size C)) (by kernel_rfl) SA (fun hH0=>?_)
 refine ti 0 hH0 ?_
 refine ti 1 hH0 ?_
 refine ti 2 hH0 ?_
 refine ti 3 hH0 ?_
 refine ti 4 hH0 ?_
 refine tky 5 rfl (fun _ _ _ h=>h) (yieldsIf_load_mid (by rfl) _ _ rfl (w.heap.size) (0) rfl (C) _ (fun w q=>q.2.1) Tryz.underlying32 rfl HI.out) hH0 ?_
 refine wpAnyH_ready (rs:=[6,11]) (by kernel_rfl) (by simp) ?_
 refine AllReadyH.cons (o:=⟨some 54,.call { callee := .value (.func 68),args := #[.tmp 53],argTypes := #[32] },30,"keyring.go:140", #[⟨5,.data⟩],none⟩) rfl (fun K hK=>?_) ?_
 ·go_simp
  refine(HDG.out _ (HTB.out _ hH0.2.2)).mono ?_
  rintro e w3 ⟨rfl,hk3⟩
  try have hsb:=hsb.kept hk3 id
  refine hK.out _ _ (sgS_next hH0 hhb hk3) (fun hH1=>?_)
  clear hK K
  try simp only[lyA,lyB,lyC,lyD]
  refine wpAnyH_ready (rs:=[7,11]) (by kernel_rfl) (by simp) ?_
  refine AllReadyH.cons (o:=⟨some 55,.call { callee := .value (.func 67),args := #[.tmp 51,.tmp 52,.tmp 54],argTypes := #[92,3,30] },114,"keyring.go:140", #[⟨3,.data⟩,⟨4,.data⟩,⟨6,.data⟩,⟨6,.chain⟩],none⟩) rfl (fun K hK=>?_) ?_
  ·go_simp
   refine(HTS.out _ hH1.2.2).mono ?_
   rintro e w4 ⟨v,rfl,hrow4,hown4,hk4⟩
   obtain⟨pa,pn,pc,rfl,-⟩:=hrow4.form (by omega)
   have HR4:=Lib.hid (sg_row hH1.2.2 hrow4 hown4)
   try have hsb:=hsb.kept hk4 id
   refine hK.out _ _ (sgS_next hH1 hhb hk4) (fun hH2=>?_)
   clear hK K
   try simp only[lyA,lyB,lyC,lyD]
   refine ti 8 hH2 ?_
   refine ti 9 hH2 ?_
   refine ti 10 hH2 ?_
   refine rd1 11 (fun K hK=>?_)
   go_simp
   obtain⟨hsb,hsl⟩:=sg_alloc hH2.2.2
   try change Blk (World.drew (World.alloc wA (.cells [.int .i64 0,.string ⟨#[]⟩,.slice none 0 0].toArray 61))) wA.heap.size _ _ at hsb
   try change wA.heap.size<=wA.heap.size at hsl
   try have HR4:=Lib.hid (sg_rowa HR4.out (.cells [.int .i64 0,.string ⟨#[]⟩,.slice none 0 0].toArray 61))
   refine hK.out _ _ (sgS_next hH2 hhb ((Kept.refl _ _).alloc _)) (fun hH3=>?_)
   clear hK K
   try simp only[lyA,lyB,lyC,lyD]
   first|generalize World.alloc _ _=wS at hsb HR4 hH3 ⊢ | generalize World.alloc _ _=wS at hsb hH3 ⊢
   refine rd1 12 (fun K hK=>?_)
   try replace hsb:Blk w4 wA.heap.size [.int .i64 0,.string ⟨#[]⟩,.slice none 0 0] 61:=hsb
   have q0:=hsb.cell (i:=0) rfl
   have q1:=hsb.cell (i:=1) rfl
   have q2:=hsb.cell (i:=2) rfl
   have f0:=hsb.free 0
   have f1:=hsb.free 1
   have f2:=hsb.free 2
   go_simp
   have HR5:=Lib.hid (sg_rows HR4.out hsb (.int .i64 (i:Int)) (.string ⟨SG.toArray⟩) (.slice pa pn pc))
   have HSB:Hid (Blk _ _ [.int .i64 (i:Int),.string ⟨SG.toArray⟩,.slice pa pn pc] 61):=Lib.hid (((hsb.set 0 (.int .i64 (i:Int))).set 1 (.string ⟨SG.toArray⟩)).set 2 (.slice pa pn pc))
   refine hK.out _ _ (sgS_set hH3 hhb hsl _ _ _ hrlA) (fun hH4=>?_)
   clear hK K
   try simp only[lyA,lyB,lyC,lyD]
   refine rd1 13 (fun K hK=>?_)
   go_simp
   refine hK.out _ _ (hH4) (fun hH5=>?_)
   clear hK K
   try simp only[lyA,lyB,lyC,lyD]
   refine dn ?_
   generalize World.setCell (World.setCell (World.setCell _ _ _) _ _) _ _=wF at HSB HR5 hH5 ⊢
   have kF:=hH5.2.2
   have rF:=hH5.2.1
   have s0:=HSB.out.cell (i:=0) rfl
   have s1:=HSB.out.cell (i:=1) rfl
   have s2:=HSB.out.cell (i:=2) rfl
   have lC:C.length=33:=HLC.out
   obtain⟨X,Y,hfA,lX,hfB,HY⟩:=sign_build C lC (.int .i64 (i:Int)) (.string ⟨SG.toArray⟩) (.slice pa pn pc)
   simp only[zeros,List.replicate,List.cons_append,List.nil_append]at hfA
   have lY:Hid (Y.length=36):=Lib.hid (by rw[HY.out,List.length_append,lC];rfl)
   have HZF:=Lib.hid (sign_fin (HFIN.out.2.2.1.kept kF id) lY.out)
   go_wp2_with (first|((with_reducible show wpList _ _ _ (⟨some 58,_,_,_,_,_⟩::_) _ _);refine wpList_load_mid rfl 32 _ rfl w.heap.size 0 rfl C _ rF Tryz.underlying32 rfl HI.out ?_)|((with_reducible show wpList _ _ _ (⟨none,.store _ (.tmp 4) _,_,_,_,_⟩::_) _ _);refine wpList_store_mid rfl 63 _ _ rfl (w.heap.size+1) 0 Y.toArray rfl rfl ?htw1 ?hiw1 ?h1w1 ?_))
   case htw1=>exact HZF.out.1
   case hiw1=>first|exact info_sized lY.out|simpa using info_sized lY.out
   case h1w1=>first|exact sign_one HY.out HCC.out|exact all_oneCell_toArray (sign_one HY.out HCC.out)
   refine bodyPost_ret (HZF.out.2.result2 rfl rfl Tryz.underlying63 rfl (info_sized lY.out)) rfl ?_
   exact sign_yes (S':=S) HFIN.out.1 (fun k hk=>Or.inl hk) HH.out.2.1 HH.out.2.2.1 (HFIN.out.2.2.2.1.fewer (fun k q=>q.elim id (fun q=>Or.inl (HH.out.2.1 k q)))) (HFIN.out.2.2.2.2.mono (fun k _ e=>Or.inr (by rw[e];exact HFIN.out.1.own))) kF HR5.out HY.out HCC.out HSG.out HDG2.out
  refine AllReadyH.cons (o:=⟨some 9,.alloc 61,0,"keyring.go:140", #[],none⟩) rfl (fun K hK=>?_) AllReadyH.nil
  go_simp
  obtain⟨hsb,hsl⟩:=sg_alloc hH1.2.2
  try change Blk (World.drew (World.alloc wA (.cells [.int .i64 0,.string ⟨#[]⟩,.slice none 0 0].toArray 61))) wA.heap.size _ _ at hsb
  try change wA.heap.size<=wA.heap.size at hsl
  try have HR4:=Lib.hid (sg_rowa HR4.out (.cells [.int .i64 0,.string ⟨#[]⟩,.slice none 0 0].toArray 61))
  refine hK.out _ _ (sgS_next hH1 hhb ((Kept.refl _ _).alloc _)) (fun hH2=>?_)
  clear hK K
  try simp only[lyA,lyB,lyC,lyD]
  first|generalize World.alloc _ _=wS at hsb HR4 hH2 ⊢ | generalize World.alloc _ _=wS at hsb hH2 ⊢
  refine rd1 7 (fun K hK=>?_)
  go_simp
  refine(HTS.out _ hH2.2.2).mono ?_
  rintro e w4 ⟨v,rfl,hrow4,hown4,hk4⟩
  obtain⟨pa,pn,pc,rfl,-⟩:=hrow4.form (by omega)
  have HR4:=Lib.hid (sg_row hH2.2.2 hrow4 hown4)
  try have hsb:=hsb.kept hk4 id
  refine hK.out _ _ (sgS_next hH2 hhb hk4) (fun hH3=>?_)
  clear hK K
  try simp only[lyA,lyB,lyC,lyD]
  refine ti 8 hH3 ?_
  refine ti 9 hH3 ?_
  refine ti 10 hH3 ?_
  refine rd1 12 (fun K hK=>?_)
  try replace hsb:Blk w4 wA.heap.size [.int .i64 0,.string ⟨#[]⟩,.slice none 0 0] 61:=hsb
  have q0:=hsb.cell (i:=0) rfl
  have q1:=hsb.cell (i:=1) rfl
  have q2:=hsb.cell (i:=2) rfl
  have f0:=hsb.free 0
  have f1:=hsb.free 1
  have f2:=hsb.free 2
  go_simp
  have HR5:=Lib.hid (sg_rows HR4.out hsb (.int .i64 (i:Int)) (.string ⟨SG.toArray⟩) (.slice pa pn pc))
  have HSB:Hid (Blk _ _ [.int .i64 (i:Int),.string ⟨SG.toArray⟩,.slice pa pn pc] 61):=Lib.hid (((hsb.set 0 (.int .i64 (i:Int))).set 1 (.string ⟨SG.toArray⟩)).set 2 (.slice pa pn pc))
  refine hK.out _ _ (sgS_set hH3 hhb hsl _ _ _ hrlA) (fun hH4=>?_)
  clear hK K
  try simp only[lyA,lyB,lyC,lyD]
  refine rd1 13 (fun K hK=>?_)
  go_simp
  refine hK.out _ _ (hH4) (fun hH5=>?_)
  clear hK K
  try simp only[lyA,lyB,lyC,lyD]
  refine dn ?_
  generalize World.setCell (World.setCell (World.setCell _ _ _) _ _) _ _=wF at HSB HR5 hH5 ⊢
  have kF:=hH5.2.2
  have rF:=hH5.2.1
  have s0:=HSB.out.cell (i:=0) rfl
  have s1:=HSB.out.cell (i:=1) rfl
  have s2:=HSB.out.cell (i:=2) rfl
  have lC:C.length=33:=HLC.out
  obtain⟨X,Y,hfA,lX,hfB,HY⟩:=sign_build C lC (.int .i64 (i:Int)) (.string ⟨SG.toArray⟩) (.slice pa pn pc)
  simp only[zeros,List.replicate,List.cons_append,List.nil_append]at hfA
  have lY:Hid (Y.length=36):=Lib.hid (by rw[HY.out,List.length_append,lC];rfl)
  have HZF:=Lib.hid (sign_fin (HFIN.out.2.2.1.kept kF id) lY.out)
  go_wp2_with (first|((with_reducible show wpList _ _ _ (⟨some 58,_,_,_,_,_⟩::_) _ _);refine wpList_load_mid rfl 32 _ rfl w.heap.size 0 rfl C _ rF Tryz.underlying32 rfl HI.out ?_)|((with_reducible show wpList _ _ _ (⟨none,.store _ (.tmp 4) _,_,_,_,_⟩::_) _ _);refine wpList_store_mid rfl 63 _ _ rfl (w.heap.size+1) 0 Y.toArray rfl rfl ?htw2 ?hiw2 ?h1w2 ?_))
  case htw2=>exact HZF.out.1
  case hiw2=>first|exact info_sized lY.out|simpa using info_sized lY.out
  case h1w2=>first|exact sign_one HY.out HCC.out|exact all_oneCell_toArray (sign_one HY.out HCC.out)
  refine bodyPost_ret (HZF.out.2.result2 rfl rfl Tryz.underlying63 rfl (info_sized lY.out)) rfl ?_
  exact sign_yes (S':=S) HFIN.out.1 (fun k hk=>Or.inl hk) HH.out.2.1 HH.out.2.2.1 (HFIN.out.2.2.2.1.fewer (fun k q=>q.elim id (fun q=>Or.inl (HH.out.2.1 k q)))) (HFIN.out.2.2.2.2.mono (fun k _ e=>Or.inr (by rw[e];exact HFIN.out.1.own))) kF HR5.out HY.out HCC.out HSG.out HDG2.out
 refine AllReadyH.cons (o:=⟨some 9,.alloc 61,0,"keyring.go:140", #[],none⟩) rfl (fun K hK=>?_) AllReadyH.nil
 go_simp
 obtain⟨hsb,hsl⟩:=sg_alloc hH0.2.2
 try change Blk (World.drew (World.alloc wA (.cells [.int .i64 0,.string ⟨#[]⟩,.slice none 0 0].toArray 61))) wA.heap.size _ _ at hsb
 try change wA.heap.size<=wA.heap.size at hsl
 try have HR4:=Lib.hid (sg_rowa HR4.out (.cells [.int .i64 0,.string ⟨#[]⟩,.slice none 0 0].toArray 61))
 refine hK.out _ _ (sgS_next hH0 hhb ((Kept.refl _ _).alloc _)) (fun hH1=>?_)
 clear hK K
 try simp only[lyA,lyB,lyC,lyD]
 first|generalize World.alloc _ _=wS at hsb HR4 hH1 ⊢ | generalize World.alloc _ _=wS at hsb hH1 ⊢
 refine rd1 6 (fun K hK=>?_)
 go_simp
 refine(HDG.out _ (HTB.out _ hH1.2.2)).mono ?_
 rintro e w3 ⟨rfl,hk3⟩
 try have hsb:=hsb.kept hk3 id
 refine hK.out _ _ (sgS_next hH1 hhb hk3) (fun hH2=>?_)
 clear hK K
 try simp only[lyA,lyB,lyC,lyD]
 refine rd1 7 (fun K hK=>?_)
 go_simp
 refine(HTS.out _ hH2.2.2).mono ?_
 rintro e w4 ⟨v,rfl,hrow4,hown4,hk4⟩
 obtain⟨pa,pn,pc,rfl,-⟩:=hrow4.form (by omega)
 have HR4:=Lib.hid (sg_row hH2.2.2 hrow4 hown4)
 try have hsb:=hsb.kept hk4 id
 refine hK.out _ _ (sgS_next hH2 hhb hk4) (fun hH3=>?_)
 clear hK K
 try simp only[lyA,lyB,lyC,lyD]
 refine ti 8 hH3 ?_
 refine ti 9 hH3 ?_
 refine ti 10 hH3 ?_
 refine rd1 12 (fun K hK=>?_)
 try replace hsb:Blk w4 wA.heap.size [.int .i64 0,.string ⟨#[]⟩,.slice none 0 0] 61:=hsb
 have q0:=hsb.cell (i:=0) rfl
 have q1:=hsb.cell (i:=1) rfl
 have q2:=hsb.cell (i:=2) rfl
 have f0:=hsb.free 0
 have f1:=hsb.free 1
 have f2:=hsb.free 2
 go_simp
 have HR5:=Lib.hid (sg_rows HR4.out hsb (.int .i64 (i:Int)) (.string ⟨SG.toArray⟩) (.slice pa pn pc))
 have HSB:Hid (Blk _ _ [.int .i64 (i:Int),.string ⟨SG.toArray⟩,.slice pa pn pc] 61):=Lib.hid (((hsb.set 0 (.int .i64 (i:Int))).set 1 (.string ⟨SG.toArray⟩)).set 2 (.slice pa pn pc))
 refine hK.out _ _ (sgS_set hH3 hhb hsl _ _ _ hrlA) (fun hH4=>?_)
 clear hK K
 try simp only[lyA,lyB,lyC,lyD]
 refine rd1 13 (fun K hK=>?_)
 go_simp
 refine hK.out _ _ (hH4) (fun hH5=>?_)
 clear hK K
 try simp only[lyA,lyB,lyC,lyD]
 refine dn ?_
 generalize World.setCell (World.setCell (World.setCell _ _ _) _ _) _ _=wF at HSB HR5 hH5 ⊢
 have kF:=hH5.2.2
 have rF:=hH5.2.1
 have s0:=HSB.out.cell (i:=0) rfl
 have s1:=HSB.out.cell (i:=1) rfl
 have s2:=HSB.out.cell (i:=2) rfl
 have lC:C.length=33:=HLC.out
 obtain⟨X,Y,hfA,lX,hfB,HY⟩:=sign_build C lC (.int .i64 (i:Int)) (.string ⟨SG.toArray⟩) (.slice pa pn pc)
 simp only[zeros,List.replicate,List.cons_append,List.nil_append]at hfA
 have lY:Hid (Y.length=36):=Lib.hid (by rw[HY.out,List.length_append,lC];rfl)
 have HZF:=Lib.hid (sign_fin (HFIN.out.2.2.1.kept kF id) lY.out)
 go_wp2_with (first|((with_reducible show wpList _ _ _ (⟨some 58,_,_,_,_,_⟩::_) _ _);refine wpList_load_mid rfl 32 _ rfl w.heap.size 0 rfl C _ rF Tryz.underlying32 rfl HI.out ?_)|((with_reducible show wpList _ _ _ (⟨none,.store _ (.tmp 4) _,_,_,_,_⟩::_) _ _);refine wpList_store_mid rfl 63 _ _ rfl (w.heap.size+1) 0 Y.toArray rfl rfl ?htw3 ?hiw3 ?h1w3 ?_))
 case htw3=>exact HZF.out.1
 case hiw3=>first|exact info_sized lY.out|simpa using info_sized lY.out
 case h1w3=>first|exact sign_one HY.out HCC.out|exact all_oneCell_toArray (sign_one HY.out HCC.out)
 refine bodyPost_ret (HZF.out.2.result2 rfl rfl Tryz.underlying63 rfl (info_sized lY.out)) rfl ?_
 exact sign_yes (S':=S) HFIN.out.1 (fun k hk=>Or.inl hk) HH.out.2.1 HH.out.2.2.1 (HFIN.out.2.2.2.1.fewer (fun k q=>q.elim id (fun q=>Or.inl (HH.out.2.1 k q)))) (HFIN.out.2.2.2.2.mono (fun k _ e=>Or.inr (by rw[e];exact HFIN.out.1.own))) kF HR5.out HY.out HCC.out HSG.out HDG2.out
end
end Go.Proofs.YtdmedbhbefdnkaaGreatDoor
