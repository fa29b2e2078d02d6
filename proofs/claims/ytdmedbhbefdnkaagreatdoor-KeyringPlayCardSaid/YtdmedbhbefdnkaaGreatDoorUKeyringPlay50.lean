/- RK7 RE6 RE13 RE14 RE15 RE16 -/
import Derived.Test.YtdmedbhbefdnkaaGreatDoorUKeyringPlay49
import Derived.Test.YtdmedbhbefdnkaaGreatDoorUKeyringPlay43
set_option linter.unusedVariables false
set_option linter.unusedSimpArgs false
set_option maxRecDepth 100000
set_option maxHeartbeats 16000000
namespace Go.Proofs.YtdmedbhbefdnkaaGreatDoor
open Go.RowKit
theorem Blk.cellsT {w:World} {b:Nat} {c:List Value} {t:TypeId} (h:Blk w b c t):CellsT w b t:=⟨_,_,h⟩
section
variable {w W W' : World} {r q : Nat} {M M2 : DiskM} {x y : Value} {c : List Value}
abbrev rringC (r:Nat) (seed:ByteArray) (ks vs:Value) (st:Int) (dead:Bool):List Value:=[.pointer (some ⟨r,0,none⟩),.string seed,ks,vs,.int .i64 st,.bool dead]
structure IsRRing (w:World) (q r:Nat) (R:RingM) (ks vs:Value):Prop where
 blk:Blk w q (rringC r R.seed ks vs R.starts R.dead) 97
 keys:Row w 30 32 ks (hcells (leavesF R.seed.data.toList))
 signed:Row w 32 33 vs (hdC R.signed)
 oks:∀ x∈R.signed,HdOk x
 few:R.signed.length<=8
 short:R.seed.size<=1000
def rrOwn (q:Nat) (ks vs:Value) (k:Nat):Prop:=k=q\/ks.ownBlock=some k\/vs.ownBlock=some k
theorem IsRRing.kept {S:Nat->Prop} {R:RingM} {ks vs:Value} (h:IsRRing w q r R ks vs) (hk:Kept S w W) (hS:∀ k,rrOwn q ks vs k->¬ S k):IsRRing W q r R ks vs :=
 ⟨h.blk.kept hk (hS q (Or.inl rfl)),h.keys.kept hk (fun k e=>hS k (Or.inr (Or.inl e))),h.signed.kept hk (fun k e=>hS k (Or.inr (Or.inr e))),h.oks,h.few,h.short⟩
theorem IsRRing.lt {R:RingM} {ks vs:Value} (h:IsRRing w q r R ks vs) {k:Nat} (hk:rrOwn q ks vs k):k<w.heap.size:=by
 rcases hk with rfl|hk|hk
 ·exact h.blk.lt
 ·exact h.keys.lt hk
 ·exact h.signed.lt hk
end
section
variable {w : World} {r : Nat} {M : DiskM} {x y : Value}
theorem openR_up (hd:M.down=false):M.openR=M.mend:=by unfold DiskM.openR;rw[if_neg (by rw[hd];simp)]
end
section
variable {w W W' : World} {r q : Nat} {M M2 : DiskM} {x y : Value} {c : List Value}
theorem RefAtF.cellsT (h:RefAtF w r M x y) {k:Nat} (hk:refOwn r x y k):∃ t,CellsT w k t/\(t=82\/t=87\/t=3):=by
 obtain⟨R,h1,h2⟩:=h
 rcases hk with rfl|hk|hk
 ·exact⟨_,h1.blk.cellsT,Or.inl rfl⟩
 ·exact⟨_,h1.files.cellsT hk,Or.inr (Or.inl rfl)⟩
 ·exact⟨_,h1.loose.cellsT hk,Or.inr (Or.inr rfl)⟩
theorem RefAtF.other (h:RefAtF w r M x y) {k:Nat} {t:TypeId} (ht:CellsT w k t) (h1:t≠82) (h2:t≠87) (h3:t≠3):¬ refOwn r x y k:=by
 intro hk
 obtain⟨t',h4,h5⟩:=h.cellsT hk
 obtain rfl:=h4.same ht
 rcases h5 with h5|h5|h5
 ·exact h1 h5
 ·exact h2 h5
 ·exact h3 h5
theorem IsRRing.apartF {R:RingM} {ks vs:Value} (h:IsRRing w q r R ks vs) (hr:RefAtF w r M x y) {k:Nat} (hk:rrOwn q ks vs k):¬ refOwn r x y k:=by
 rcases hk with rfl|hk|hk
 ·exact hr.other h.blk.cellsT (by decide) (by decide) (by decide)
 ·exact hr.other (h.keys.cellsT hk) (by decide) (by decide) (by decide)
 ·exact hr.other (h.signed.cellsT hk) (by decide) (by decide) (by decide)
def RROpenToF (w:World) (r:Nat) (x y:Value) (st:Int) (seed:ByteArray) (z:Int × List Hd × DiskM) (e:Ending) (w':World):Prop :=
 (z.1≠0/\e = .returned (.tuple #[.pointer none,.int .i64 z.1])/\RefGoF w r x y z.2.2 w') \/
 (z.1=0/\∃ q ks vs,e = .returned (.tuple #[.pointer (some ⟨q,0,none⟩),.int .i64 0])/\IsRRing w' q r ⟨seed,z.2.1,st,false⟩ ks vs/\(∀ k,rrOwn q ks vs k->w.heap.size<=k)/\RefGoF w r x y z.2.2 w')
structure RGoF (w W:World) (r q:Nat) (x y:Value) (M:DiskM) (c:List Value):Prop where
 go:RefGoF w r x y M W
 blk:Blk W q c 97
 ge:w.heap.size<=q
 rl:r<w.heap.size
theorem RGoF.kept (h:RGoF w W r q x y M c):Kept (· = r) w W:=by obtain⟨_,_,_,h2,_⟩:=h.go;exact h2
theorem RGoF.same (h:RGoF w W r q x y M c) (hk:Kept (fun _=>False) W W'):RGoF w W' r q x y M c:=by
 obtain⟨x1,y1,h1,h2,h3,h4⟩:=h.go
 exact⟨⟨x1,y1,h1.keep hk (fun _ _=>id),h2.trans (hk.mono (fun _ _=>False.elim)),h3,h4⟩,h.blk.kept hk id,h.ge,h.rl⟩
theorem RGoF.does (h:RGoF w W r q x y M c):∃ x1 y1,RefAtF W r M x1 y1/\∀ M2 W',RefGoF W r x1 y1 M2 W'->RGoF w W' r q x y M2 c/\Kept (· = r) W W':=by
 obtain⟨x1,y1,h1,h2,h3,h4⟩:=h.go
 refine⟨x1,y1,h1,fun M2 W' hq=>?_⟩
 have hk:Kept (· = r) W W':=by obtain⟨_,_,_,g2,_⟩:=hq;exact g2
 have h5:=h.ge
 have h6:=h.rl
 exact⟨⟨RefGoF.thru h2 h3 h4 hq,h.blk.kept hk (by omega),h.ge,h.rl⟩,hk⟩
theorem RGoF.set (h:RGoF w W r q x y M c) (i:Nat) (v:Value):RGoF w (W.setCell ⟨q,i,none⟩ v) r q x y M (c.set i v)/\Kept (· = q) W (W.setCell ⟨q,i,none⟩ v):=by
 obtain⟨x1,y1,h1,h2,h3,h4⟩:=h.go
 have hk:=kept_cell W q i v
 have h5:=h.ge
 have hn:∀ k,refOwn r x1 y1 k->k≠q:=fun k ho e=>by subst e;exact h1.other h.blk.cellsT (by decide) (by decide) (by decide) ho
 refine⟨⟨⟨x1,y1,h1.keep hk hn,h2.then_ hk (fun k hk e=>by have:k=q:=e;omega),h3,h4⟩,h.blk.set i v,h.ge,h.rl⟩,hk⟩
theorem RGoF.start (h:RefAtF w r M x y) (seed:ByteArray) (st:Int):RGoF w (w.alloc (.cells #[.pointer (some ⟨r,0,none⟩),.string seed,.slice none 0 0,.slice none 0 0,.int .i64 st,.bool false] 97)) r w.heap.size x y M (rringC r seed (.slice none 0 0) (.slice none 0 0) st false):=by
 have hk:Kept (fun _=>False) w (w.alloc (.cells #[.pointer (some ⟨r,0,none⟩),.string seed,.slice none 0 0,.slice none 0 0,.int .i64 st,.bool false] 97)):=(Kept.refl _ _).alloc _
 exact⟨⟨x,y,h.keep hk (fun _ _=>id),hk.mono (fun _ _=>False.elim),fun _=>Or.inl,fun _=>Or.inl⟩,Blk.new w _ _,Nat.le_refl _,h.lt (Or.inl rfl)⟩
end
section
variable {w : World} {r : Nat} {M : DiskM} {x y : Value}
theorem rropenF_up (h:RefAtF w r M x y) (hd:M.down=false) (hc:M.files.length+M.loose.length<300000000) (seed:ByteArray) (hseed:seed.size<=1000) :
  Calls Tryz.prog 15 #[.pointer (some ⟨r,0,none⟩),.string seed] w (RROpenToF w r x y M.starts seed M.openR):=by
 have hris:=(let ⟨R,_,h2⟩:=h;h2.ok.rise:AM.Rise M.files)
 have hlenb:∀ b,AM.get M.files 990=some b->b.length<=1048576:=fun b hg=>by
  obtain⟨R,_,hrel⟩:=h
  have q1:=DiskM.len_le_total hrel.ok hg
  have q2:=hrel.ok.room
  have q3:=hrel.ok.cap1
  omega
 have HS0:=Lib.hid (RGoF.start h seed M.starts)
 have hst:∃ a c,x = .slice a M.files.length c:=by obtain⟨a,c,e,_⟩:=h.cells;exact⟨a,c,e⟩
 have c3:w.cell? ⟨r,3,none⟩=some (.bool false):=by obtain⟨_,_,_,_,c3,_⟩:=h.cells;rw[c3,hd]
 have c4:w.cell? ⟨r,4,none⟩=some (.int .i64 M.starts):=by obtain⟨_,_,_,_,_,c4,_⟩:=h.cells;exact c4
 have HAT:=Lib.hid h
 have HLB:=Lib.hid hlenb
 have HD:=Lib.hid (openR_up hd)
 clear h hd hlenb hst
 go_enter Tryz.func15,Tryz.ntmps15
 go_upto_region 5 with fail
 generalize hW0:World.alloc _ _=W0
 obtain⟨q,hq⟩:∃ q,w.heap.size=q:=⟨_,rfl⟩
 have HG0:Hid (RGoF w W0 r q x y M (rringC r seed (.slice none 0 0) (.slice none 0 0) M.starts false)):=by rw[<- hW0,<- hq];exact HS0
 have HK0:Hid (Kept (fun _=>False) w W0):=by rw[<- hW0];exact Lib.hid ((Kept.refl _ _).alloc _)
 simp only[hq]
 clear HS0 hW0 hq c3 c4
 have HAT0:=Lib.hid (HAT.out.keep HK0.out (fun _ _=>id))
 have HF:=Lib.hid (find_atf HAT0.out 990)
 rcases find_get hris 990 with⟨g1,g2⟩|⟨i,b,g1,g2,g3⟩
 ·rw[g2]at HF
  obtain⟨e1,M1,hcr⟩:∃ e1 M1,M.create 990=(e1,M1):=⟨_,_,rfl⟩
  have HEQ0:=Lib.hid (show M.openR=if e1≠0 then(e1,[],M1)else(M1.sync.1,[],M1.sync.2) by rw[HD.out];unfold DiskM.mend;rw[g1];simp only[hcr])
  obtain⟨x1,y1,hat1,hdo1⟩:=HG0.out.does
  have HCR:=Lib.hid (create_atf hat1 990 (by omega) hc hcr)
  have HDO1:=Lib.hid hdo1
  clear hris g1 g2 hcr hat1 hdo1 hc HD HLB HAT0 HAT
  go_upto_region 16 with (first
   | (go_at_call 42;refine HF.out.mono ?_;rintro e' w1 ⟨rfl,rfl⟩)
   | (go_at_call 11;refine HCR.out.mono ?_;rintro e' w2 ⟨rfl,hg2⟩;obtain⟨hG2,hk2⟩:=HDO1.out _ _ hg2;have HG:=Lib.hid hG2;have HK2:=Lib.hid hk2;clear hg2 hG2 hk2))
  clear HF HCR HDO1 HG0
  by_cases h01:e1=0
  ·subst h01
   have HEQ:Hid (M.openR=(M1.sync.1,[],M1.sync.2)):=Lib.hid (by rw[HEQ0.out,if_neg (by simp)])
   have HV:=Lib.hid (show Row w2 32 33 (.slice none 0 0) (hdC [])/\(∀ k,(Value.slice none 0 0).ownBlock=some k->w.heap.size<=k)/\(∀ x∈([]:List Hd),HdOk x)/\([]:List Hd).length<=8 from⟨Row.nil _ _ _,fun k q=>by simp[Value.ownBlock]at q,(fun _ h=>nomatch h),by simp⟩)
   clear HEQ0
   obtain⟨x2,y2,hat2,hdo2⟩:=HG.out.does
   obtain⟨e2,M2,hsy⟩:∃ e2 M2,M1.sync=(e2,M2):=⟨_,_,rfl⟩
   have HSY:=Lib.hid (sync_atf hat2 hsy)
   have HDO2:=Lib.hid hdo2
   have HEQ2:=Lib.hid (show M.openR=(e2,[],M2) by rw[HEQ.out,hsy])
   clear hat2 hdo2 hsy HEQ
   by_cases h02:e2=0
   ·subst h02
    go_upto_region 20 with (go_at_call 46;refine HSY.out.mono ?_;rintro e' w8 ⟨rfl,hg8⟩;obtain⟨hG8,hk8⟩:=HDO2.out _ _ hg8;have H8:=Lib.hid (And.intro hG8 hk8);clear hg8 hG8 hk8)
    have HLV:=Lib.hid (fun W=>rleaves_any W seed hseed)
    have hcf:=fun (W:World) (hk:Kept (fun _=>False) w8 W)=>And.intro ((H8.out.1.blk.kept hk id).cell (i:=2) rfl) ((H8.out.1.blk.kept hk id).free 2)
    have HCF:=Lib.hid hcf
    clear hcf HSY HDO2
    go_upto_region 21 with (go_at_call 47;refine(HLV.out _).mono ?_;rintro e' w9 ⟨ks,rfl,hn9⟩;obtain⟨ka,kn,kc,rfl,-⟩:=hn9.row.form (by omega);obtain⟨c29,f29⟩:=HCF.out _ hn9.kept;have H9:=Lib.hid hn9;clear hn9)
    generalize hW10:World.setCell _ _ _=W10
    have HEND:=Lib.hid (show RROpenToF w r x y M.starts seed M.openR (.returned (.tuple #[.pointer (some ⟨q,0,none⟩),.int .i64 0])) W10 from by
     rw[<- hW10]
     have hs:=(H8.out.1.same H9.out.kept).set 2 (.slice ka kn kc)
     have hkq:=hs.2
     have hwq:=HG.out.ge
     have hz8:=H8.out.2.size
     have hzW:w.heap.size<=w2.heap.size:=HG.out.kept.size
     have hvr:=((HV.out.1.kept H8.out.2 (fun k e=>by have:=HV.out.2.1 k e;have:=HG.out.rl;omega)).kept H9.out.kept (fun _ _=>id))
     have hb9:=H8.out.1.blk.kept H9.out.kept id
     rw[HEQ2.out]
     refine Or.inr ⟨rfl,q,_,(.slice none 0 0),rfl,⟨hs.1.blk,H9.out.row.kept hkq (fun k e e2=>H9.out.row.ne_blk e hb9 (by decide) e2),hvr.kept hkq (fun k e e2=>hvr.ne_blk e hb9 (by decide) e2),HV.out.2.2.1,HV.out.2.2.2,hseed⟩,?_,hs.1.go⟩
     rintro k (rfl|e|e)
     ·exact hwq
     ·have:=H9.out.own k e;omega
     ·exact HV.out.2.1 k e)
    clear hW10 H8 H9 HV HG HEQ2 HCF HLV c29 f29
    go_wp2_with fail
    go_ret2
    exact HEND.out
   ·have H02:=Lib.hid h02
    have u1:(e2==0)=false:=beq_eq_false_iff_ne.2 h02
    have u2:(e2 != 0)=true:=by rw[bne,u1];rfl
    clear h02
    go_wp2_with (go_at_call 46;refine HSY.out.mono ?_;rintro e' w8 ⟨rfl,hg8⟩;obtain⟨hG8,hk8⟩:=HDO2.out _ _ hg8;have H8:=Lib.hid (And.intro hG8 hk8);clear hg8 hG8 hk8)
    go_ret2
    rw[HEQ2.out]
    exact Or.inl ⟨H02.out,rfl,H8.out.1.go⟩
  ·have H01:=Lib.hid h01
   have HEQ:Hid (M.openR=(e1,[],M1)):=Lib.hid (by rw[HEQ0.out,if_pos h01])
   clear HEQ0
   clear h01
   have u1:((e1:Int)==0)=false:=beq_eq_false_iff_ne.2 H01.out
   have u2:((e1:Int)!=0)=true:=by rw[bne,u1];rfl
   go_wp2_with fail
   go_ret2
   rw[HEQ.out]
   exact Or.inl ⟨H01.out,rfl,HG.out.go⟩
 ·have hbl:=HLB.out b g1
  rw[g2]at HF
  have y0:decide ((i:Int)<0)=false:=decide_eq_false (by omega)
  have hcell:W0.cell? ⟨r,1,none⟩=some x/\∃ a c g,x = .slice a M.files.length c/\a=some ⟨g,0,none⟩/\W0.cell? ⟨g,i*2+1,none⟩=some (.string (strB b)):=by
   obtain⟨a,c,e,k1,-,-,-,-,k6⟩:=HAT0.out.cells
   obtain⟨g,ea,-,k7⟩:=k6 i _ g3
   exact⟨k1,a,c,g,e,ea,k7⟩
  obtain⟨cx,a,c,g,rfl,rfl,ct⟩:=hcell
  have hil:i<M.files.length:=(List.getElem?_eq_some_iff.1 g3).1
  have hwl:=wholeF_len b
  have hwle:=wholeF_le b
  have hwh:=fun W=>rwhole_any W b (by omega)
  obtain⟨ps,rest,hps⟩:∃ ps rest,wholeF b=(ps,rest):=⟨_,_,rfl⟩
  have HEQ0:=Lib.hid (show M.openR=match readH ps with
   | none=>(63,[],M)
   | some l=>if rest.length=0 then(M.sync.1,l,M.sync.2)
    else if(M.truncate 990 ((b.length-rest.length:Nat):Int)).1≠0 then((M.truncate 990 ((b.length-rest.length:Nat):Int)).1,[],(M.truncate 990 ((b.length-rest.length:Nat):Int)).2)
    else((M.truncate 990 ((b.length-rest.length:Nat):Int)).2.sync.1,l,(M.truncate 990 ((b.length-rest.length:Nat):Int)).2.sync.2)from by
   rw[HD.out]
   unfold DiskM.mend
   rw[g1]
   simp only[hps]
   cases readH ps<;>rfl)
  rw[hps]at hwl hwle hwh
  simp only at hwl hwle hwh
  have HSA:=Lib.hid (fun W v (hrow:Row W 9 1 v (strV ps))=>rsays_any W v ps hrow hwle (by omega))
  have HWH:=Lib.hid hwh
  obtain⟨bs,hbs⟩:∃ bs,strB b=bs:=⟨_,rfl⟩
  have hbz:bs.size=b.length:=by rw[<- hbs];exact strB_size b
  rw[hbs]at ct HWH
  obtain⟨en,hen⟩:∃ en:Nat,b.length-rest.length=en:=⟨_,rfl⟩
  rw[hen]at HWH HEQ0
  have HN:=Lib.hid (show bs.size=b.length/\rest.length<=b.length/\b.length-rest.length=en from⟨hbz,by omega,hen⟩)
  have HIL:=Lib.hid hil
  clear hris g1 g2 g3 hwl hwle hwh hps hbs hbz hen HD HLB HAT HAT0
  go_upto_region 11 with (first
   | (go_at_call 42;refine HF.out.mono ?_;rintro e' w1 ⟨rfl,rfl⟩)
   | (go_at_call 43;refine(HWH.out _).mono ?_;rintro e' w1 ⟨sa,sn,sc,rfl,hn1⟩;have H1:=Lib.hid hn1;clear hn1)
   | (go_at_call 44;refine(HSA.out _ _ H1.out.1).mono ?_;rintro e' w2 ⟨vs,rfl,hv1,hv2,hv3⟩;have H2:=Lib.hid (And.intro hv1 (And.intro hv2 hv3));clear hv1 hv2 hv3))
  clear HF HWH HSA cx ct y0 hil
  have HG2:=Lib.hid ((HG0.out.same H1.out.2.2).same H2.out.2.2)
  have hz1:w.heap.size<=w1.heap.size:=by have:=HG0.out.kept.size;have:=H1.out.2.2.size;omega
  cases hr:readH ps with
  | none =>
   rw[show(none:Option (List Hd)).isSome=false from rfl]
   have HEQ:Hid (M.openR=(63,[],M)):=Lib.hid (by have:=HEQ0.out;rw[hr]at this;exact this)
   clear hr HEQ0 H1 H2 hz1 HN HIL
   go_wp2_with fail
   go_ret2
   rw[HEQ.out]
   exact Or.inl ⟨(by decide:(63:Int)≠0),rfl,HG2.out.go⟩
  | some l =>
   rw[show(some l:Option (List Hd)).isSome=true from rfl]
   have hok:=readH_ok hr
   obtain⟨va,vn,vc,rfl,-⟩:=(H2.out.1 l hr).form (by omega)
   have HEQ1:=Lib.hid (show M.openR=if rest.length=0 then(M.sync.1,l,M.sync.2)
    else if(M.truncate 990 (en:Int)).1≠0 then((M.truncate 990 (en:Int)).1,[],(M.truncate 990 (en:Int)).2)
    else((M.truncate 990 (en:Int)).2.sync.1,l,(M.truncate 990 (en:Int)).2.sync.2)from by have:=HEQ0.out;rw[hr]at this;exact this)
   have HV2:=Lib.hid (show Row w2 32 33 (.slice va vn vc) (hdC l)/\(∀ k,(Value.slice va vn vc).ownBlock=some k->w.heap.size<=k)/\(∀ x∈l,HdOk x)/\l.length<=8 from⟨H2.out.1 l hr,fun k e=>Nat.le_trans hz1 (H2.out.2.1 k e),hok.1,hok.2⟩)
   have c33:=HG2.out.blk.cell (i:=3) rfl
   have f33:=HG2.out.blk.free 3
   clear hr HEQ0 H1 H2 hok HG0 HK0 hz1
   go_upto_region 14 with fail
   generalize hW3:World.setCell _ _ _=W3
   have hs3:=HG2.out.set 3 (.slice va vn vc)
   rw[hW3]at hs3
   have HG3:=Lib.hid hs3.1
   have HV3:=Lib.hid (show Row W3 32 33 (.slice va vn vc) (hdC l)/\(∀ k,(Value.slice va vn vc).ownBlock=some k->w.heap.size<=k)/\(∀ x∈l,HdOk x)/\l.length<=8 from⟨HV2.out.1.kept hs3.2 (fun k e e2=>HV2.out.1.ne_blk e HG2.out.blk (by decide) e2),HV2.out.2⟩)
   clear hW3 hs3 HV2 HG2 c33 f33
   by_cases h0:rest.length=0
   ·have y1:decide ((en:Int)<(bs.size:Int))=false:=decide_eq_false (by have:=HN.out;omega)
    have y2:decide (en<bs.size)=false:=decide_eq_false (by have:=HN.out;omega)
    have HEQ:Hid (M.openR=(M.sync.1,l,M.sync.2)):=Lib.hid (by rw[HEQ1.out,if_pos h0])
    have HG:=HG3
    have HV:=HV3
    clear HG3 HV3 HEQ1 h0 HN HIL
    go_upto_region 16 with fail
    clear y1 y2
    obtain⟨x2,y2,hat2,hdo2⟩:=HG.out.does
    obtain⟨e2,M2,hsy⟩:∃ e2 M2,M.sync=(e2,M2):=⟨_,_,rfl⟩
    have HSY:=Lib.hid (sync_atf hat2 hsy)
    have HDO2:=Lib.hid hdo2
    have HEQ2:=Lib.hid (show M.openR=(e2,l,M2) by rw[HEQ.out,hsy])
    clear hat2 hdo2 hsy HEQ
    by_cases h02:e2=0
    ·subst h02
     go_upto_region 20 with (go_at_call 46;refine HSY.out.mono ?_;rintro e' w8 ⟨rfl,hg8⟩;obtain⟨hG8,hk8⟩:=HDO2.out _ _ hg8;have H8:=Lib.hid (And.intro hG8 hk8);clear hg8 hG8 hk8)
     have HLV:=Lib.hid (fun W=>rleaves_any W seed hseed)
     have hcf:=fun (W:World) (hk:Kept (fun _=>False) w8 W)=>And.intro ((H8.out.1.blk.kept hk id).cell (i:=2) rfl) ((H8.out.1.blk.kept hk id).free 2)
     have HCF:=Lib.hid hcf
     clear hcf HSY HDO2
     go_upto_region 21 with (go_at_call 47;refine(HLV.out _).mono ?_;rintro e' w9 ⟨ks,rfl,hn9⟩;obtain⟨ka,kn,kc,rfl,-⟩:=hn9.row.form (by omega);obtain⟨c29,f29⟩:=HCF.out _ hn9.kept;have H9:=Lib.hid hn9;clear hn9)
     generalize hW10:World.setCell _ _ _=W10
     have HEND:=Lib.hid (show RROpenToF w r (.slice (some ⟨g,0,none⟩) M.files.length c) y M.starts seed M.openR (.returned (.tuple #[.pointer (some ⟨q,0,none⟩),.int .i64 0])) W10 from by
      rw[<- hW10]
      have hs:=(H8.out.1.same H9.out.kept).set 2 (.slice ka kn kc)
      have hkq:=hs.2
      have hwq:=HG.out.ge
      have hz8:=H8.out.2.size
      have hzW:w.heap.size<=W3.heap.size:=HG.out.kept.size
      have hvr:=((HV.out.1.kept H8.out.2 (fun k e=>by have:=HV.out.2.1 k e;have:=HG.out.rl;omega)).kept H9.out.kept (fun _ _=>id))
      have hb9:=H8.out.1.blk.kept H9.out.kept id
      rw[HEQ2.out]
      refine Or.inr ⟨rfl,q,_,(.slice va vn vc),rfl,⟨hs.1.blk,H9.out.row.kept hkq (fun k e e2=>H9.out.row.ne_blk e hb9 (by decide) e2),hvr.kept hkq (fun k e e2=>hvr.ne_blk e hb9 (by decide) e2),HV.out.2.2.1,HV.out.2.2.2,hseed⟩,?_,hs.1.go⟩
      rintro k (rfl|e|e)
      ·exact hwq
      ·have:=H9.out.own k e;omega
      ·exact HV.out.2.1 k e)
     clear hW10 H8 H9 HV HG HEQ2 HCF HLV c29 f29
     go_wp2_with fail
     go_ret2
     exact HEND.out
    ·have H02:=Lib.hid h02
     have u1:(e2==0)=false:=beq_eq_false_iff_ne.2 h02
     have u2:(e2 != 0)=true:=by rw[bne,u1];rfl
     clear h02
     go_wp2_with (go_at_call 46;refine HSY.out.mono ?_;rintro e' w8 ⟨rfl,hg8⟩;obtain⟨hG8,hk8⟩:=HDO2.out _ _ hg8;have H8:=Lib.hid (And.intro hG8 hk8);clear hg8 hG8 hk8)
     go_ret2
     rw[HEQ2.out]
     exact Or.inl ⟨H02.out,rfl,H8.out.1.go⟩
   ·have y1:decide ((en:Int)<(bs.size:Int))=true:=decide_eq_true (by have:=HN.out;omega)
    have y2:decide (en<bs.size)=true:=decide_eq_true (by have:=HN.out;omega)
    obtain⟨x1,y1',hat1,hdo1⟩:=HG3.out.does
    obtain⟨e1,M1,htr⟩:∃ e1 M1,M.truncate 990 (en:Int)=(e1,M1):=⟨_,_,rfl⟩
    have HEQ2:=Lib.hid (show M.openR=if e1≠0 then(e1,[],M1)else(M1.sync.1,l,M1.sync.2) by rw[HEQ1.out,if_neg h0,htr])
    have HTR:=Lib.hid (truncate_atf hat1 990 (en:Int) (by have:=HN.out;omega) htr)
    have HDO1:=Lib.hid hdo1
    clear HEQ1 h0 hat1 hdo1 htr
    go_upto_region 16 with (go_at_call 45;refine HTR.out.mono ?_;rintro e' w4 ⟨rfl,hg4⟩;obtain⟨hG4,hk4⟩:=HDO1.out _ _ hg4;have HG:=Lib.hid hG4;have HV:=Lib.hid (show Row w4 32 33 (.slice va vn vc) (hdC l)/\(∀ k,(Value.slice va vn vc).ownBlock=some k->w.heap.size<=k)/\(∀ x∈l,HdOk x)/\l.length<=8 from⟨HV3.out.1.kept hk4 (fun k e e2=>by have:=HV3.out.2.1 k e;have:=HG3.out.rl;omega),HV3.out.2⟩);clear hg4 hG4 hk4)
    clear HTR HDO1 HG3 HV3 y1 y2 HN HIL
    by_cases h01:e1=0
    ·subst h01
     have HEQ:Hid (M.openR=(M1.sync.1,l,M1.sync.2)):=Lib.hid (by rw[HEQ2.out,if_neg (by simp)])
     clear HEQ2
     obtain⟨x2,y2,hat2,hdo2⟩:=HG.out.does
     obtain⟨e2,M2,hsy⟩:∃ e2 M2,M1.sync=(e2,M2):=⟨_,_,rfl⟩
     have HSY:=Lib.hid (sync_atf hat2 hsy)
     have HDO2:=Lib.hid hdo2
     have HEQ2:=Lib.hid (show M.openR=(e2,l,M2) by rw[HEQ.out,hsy])
     clear hat2 hdo2 hsy HEQ
     by_cases h02:e2=0
     ·subst h02
      go_upto_region 20 with (go_at_call 46;refine HSY.out.mono ?_;rintro e' w8 ⟨rfl,hg8⟩;obtain⟨hG8,hk8⟩:=HDO2.out _ _ hg8;have H8:=Lib.hid (And.intro hG8 hk8);clear hg8 hG8 hk8)
      have HLV:=Lib.hid (fun W=>rleaves_any W seed hseed)
      have hcf:=fun (W:World) (hk:Kept (fun _=>False) w8 W)=>And.intro ((H8.out.1.blk.kept hk id).cell (i:=2) rfl) ((H8.out.1.blk.kept hk id).free 2)
      have HCF:=Lib.hid hcf
      clear hcf HSY HDO2
      go_upto_region 21 with (go_at_call 47;refine(HLV.out _).mono ?_;rintro e' w9 ⟨ks,rfl,hn9⟩;obtain⟨ka,kn,kc,rfl,-⟩:=hn9.row.form (by omega);obtain⟨c29,f29⟩:=HCF.out _ hn9.kept;have H9:=Lib.hid hn9;clear hn9)
      generalize hW10:World.setCell _ _ _=W10
      have HEND:=Lib.hid (show RROpenToF w r (.slice (some ⟨g,0,none⟩) M.files.length c) y M.starts seed M.openR (.returned (.tuple #[.pointer (some ⟨q,0,none⟩),.int .i64 0])) W10 from by
       rw[<- hW10]
       have hs:=(H8.out.1.same H9.out.kept).set 2 (.slice ka kn kc)
       have hkq:=hs.2
       have hwq:=HG.out.ge
       have hz8:=H8.out.2.size
       have hzW:w.heap.size<=w4.heap.size:=HG.out.kept.size
       have hvr:=((HV.out.1.kept H8.out.2 (fun k e=>by have:=HV.out.2.1 k e;have:=HG.out.rl;omega)).kept H9.out.kept (fun _ _=>id))
       have hb9:=H8.out.1.blk.kept H9.out.kept id
       rw[HEQ2.out]
       refine Or.inr ⟨rfl,q,_,(.slice va vn vc),rfl,⟨hs.1.blk,H9.out.row.kept hkq (fun k e e2=>H9.out.row.ne_blk e hb9 (by decide) e2),hvr.kept hkq (fun k e e2=>hvr.ne_blk e hb9 (by decide) e2),HV.out.2.2.1,HV.out.2.2.2,hseed⟩,?_,hs.1.go⟩
       rintro k (rfl|e|e)
       ·exact hwq
       ·have:=H9.out.own k e;omega
       ·exact HV.out.2.1 k e)
      clear hW10 H8 H9 HV HG HEQ2 HCF HLV c29 f29
      go_wp2_with fail
      go_ret2
      exact HEND.out
     ·have H02:=Lib.hid h02
      have u1:(e2==0)=false:=beq_eq_false_iff_ne.2 h02
      have u2:(e2 != 0)=true:=by rw[bne,u1];rfl
      clear h02
      go_wp2_with (go_at_call 46;refine HSY.out.mono ?_;rintro e' w8 ⟨rfl,hg8⟩;obtain⟨hG8,hk8⟩:=HDO2.out _ _ hg8;have H8:=Lib.hid (And.intro hG8 hk8);clear hg8 hG8 hk8)
      go_ret2
      rw[HEQ2.out]
      exact Or.inl ⟨H02.out,rfl,H8.out.1.go⟩
    ·have H01:=Lib.hid h01
     have HEQ:Hid (M.openR=(e1,[],M1)):=Lib.hid (by rw[HEQ2.out,if_pos h01])
     clear HEQ2
     clear h01
     have u1:((e1:Int)==0)=false:=beq_eq_false_iff_ne.2 H01.out
     have u2:((e1:Int)!=0)=true:=by rw[bne,u1];rfl
     go_wp2_with fail
     go_ret2
     rw[HEQ.out]
     exact Or.inl ⟨H01.out,rfl,HG.out.go⟩
end
section
variable {w W W' : World} {r q : Nat} {M M' : DiskM} {R R' : RingM} {x y ks vs : Value}
def RRGo (w:World) (r q:Nat) (x y ks vs:Value) (M:DiskM) (R:RingM) (W:World):Prop :=
 ∃ x' y' vs',RefAtF W r M x' y'/\IsRRing W q r R ks vs'/\Kept (fun k=>k=r\/k=q) w W/\(∀ k,x'.ownBlock=some k->x.ownBlock=some k\/w.heap.size<=k)/\(∀ k,y'.ownBlock=some k->y.ownBlock=some k\/w.heap.size<=k)/\(∀ k,vs'.ownBlock=some k->vs.ownBlock=some k\/w.heap.size<=k)
theorem RRGo.self (h:RefAtF w r M x y) (hq:IsRRing w q r R ks vs):RRGo w r q x y ks vs M R w:=⟨x,y,vs,h,hq,Kept.refl _ _,fun _=>Or.inl,fun _=>Or.inl,fun _=>Or.inl⟩
theorem RRGo.same (h:RRGo w r q x y ks vs M R W) (hk:Kept (fun _=>False) W W'):RRGo w r q x y ks vs M R W':=by
 obtain⟨x1,y1,v1,h1,h2,h3,h4⟩:=h
 exact⟨x1,y1,v1,h1.keep hk (fun _ _=>id),h2.kept hk (fun _ _=>id),h3.trans (hk.mono (fun _ _=>False.elim)),h4⟩
theorem RRGo.kept (h:RRGo w r q x y ks vs M R W):Kept (fun k=>k=r\/k=q) w W:=by obtain⟨x1,y1,v1,h1,h2,h3,h4⟩:=h;exact h3
theorem IsRRing.ne (h:IsRRing W q r R ks vs) (hr:RefAtF W r M x y) {k:Nat} (hk:rrOwn q ks vs k):k≠r:=fun e=>h.apartF hr hk (Or.inl e)
theorem RRGo.disk (h:RRGo w r q x y ks vs M R W):∃ x1 y1,RefAtF W r M x1 y1/\∀ M2 W',RefGoF W r x1 y1 M2 W'->RRGo w r q x y ks vs M2 R W':=by
 obtain⟨x1,y1,v1,h1,h2,h3,h4,h5,h6⟩:=h
 refine⟨x1,y1,h1,fun M2 W' hg=>?_⟩
 obtain⟨x2,y2,g1,g2,g3,g4⟩:=hg
 have hz:=h3.size
 refine⟨x2,y2,v1,g1,h2.kept g2 (fun k hk=>h2.ne h1 hk),h3.trans (g2.mono (fun k _ e=>Or.inl e)),fun k e=>?_,fun k e=>?_,h6⟩
 ·rcases g3 k e with e|e
  ·exact h4 k e
  ·exact Or.inr (by omega)
 ·rcases g4 k e with e|e
  ·exact h5 k e
  ·exact Or.inr (by omega)
theorem IsRRing.dead (h:IsRRing W q r R ks vs) (b:Bool):IsRRing (W.setCell ⟨q,5,none⟩ (.bool b)) q r { R with dead:=b } ks vs:=by
 have hk:=kept_cell W q 5 (.bool b)
 exact⟨h.blk.set 5 (.bool b),h.keys.kept hk (fun k e e2=>h.keys.ne_blk e h.blk (by decide) e2),h.signed.kept hk (fun k e e2=>h.signed.ne_blk e h.blk (by decide) e2),h.oks,h.few,h.short⟩
theorem RRGo.dead (h:RRGo w r q x y ks vs M R W) (b:Bool):RRGo w r q x y ks vs M { R with dead:=b } (W.setCell ⟨q,5,none⟩ (.bool b)):=by
 obtain⟨x1,y1,v1,h1,h2,h3,h4⟩:=h
 have hk:=kept_cell W q 5 (.bool b)
 exact⟨x1,y1,v1,h1.keep hk (fun k hk e=>h2.apartF h1 (Or.inl e) hk),h2.dead b,h3.trans (hk.mono (fun k _ e=>Or.inr e)),h4⟩
theorem RRGo.cells (h:RRGo w r q x y ks vs M R W):W.cell? ⟨q,0,none⟩=some (.pointer (some ⟨r,0,none⟩))/\W.cell? ⟨q,4,none⟩=some (.int .i64 R.starts)/\W.cell? ⟨q,5,none⟩=some (.bool R.dead)/\W.frozen? ⟨q,5,none⟩=false/\W.cell? ⟨r,3,none⟩=some (.bool M.down)/\W.cell? ⟨r,4,none⟩=some (.int .i64 M.starts):=by
 obtain⟨x1,y1,v1,h1,h2,h3,h4⟩:=h
 obtain⟨a,c,-,-,c3,c4,-⟩:=h1.cells
 exact⟨h2.blk.cell (i:=0) rfl,h2.blk.cell (i:=4) rfl,h2.blk.cell (i:=5) rfl,h2.blk.free 5,c3,c4⟩
end
def rsOps1:Array Oper:=#[
 ⟨some 12,.move (.tmp 0),44,"ref.go:80", #[],none⟩,
 ⟨some 13,.move (.tmp 0),44,"ref.go:80", #[],none⟩,
 ⟨some 14,.nilCheck (.tmp 13),0,"ref.go:80", #[⟨1,.data⟩],none⟩,
 ⟨some 15,.fieldAddr 97 (.tmp 14) 5,0,"ref.go:80", #[⟨2,.data⟩],none⟩,
 ⟨some 16,.load 4 (.tmp 15),4,"ref.go:80", #[⟨3,.data⟩],none⟩,
 ⟨some 17,.move (.tmp 16),4,"ref.go:80", #[⟨4,.data⟩],none⟩,
 ⟨some 18,.move (.tmp 0),44,"ref.go:80", #[⟨5,.guard⟩],some (5,false)⟩,
 ⟨some 19,.nilCheck (.tmp 18),0,"ref.go:80", #[⟨6,.data⟩,⟨5,.guard⟩],some (5,false)⟩,
 ⟨some 20,.fieldAddr 97 (.tmp 19) 0,0,"ref.go:80", #[⟨7,.data⟩,⟨5,.guard⟩],some (5,false)⟩,
 ⟨some 21,.load 36 (.tmp 20),36,"ref.go:80", #[⟨8,.data⟩,⟨5,.guard⟩],some (5,false)⟩,
 ⟨some 22,.nilCheck (.tmp 21),0,"ref.go:80", #[⟨9,.data⟩,⟨5,.guard⟩],some (5,false)⟩,
 ⟨some 23,.fieldAddr 82 (.tmp 22) 3,0,"ref.go:80", #[⟨10,.data⟩,⟨5,.guard⟩],some (5,false)⟩,
 ⟨some 24,.load 4 (.tmp 23),4,"ref.go:80", #[⟨11,.data⟩,⟨5,.guard⟩],some (5,false)⟩,
 ⟨some 25,.pick (.tmp 17) (.const (.bool true)) (.tmp 24),4,"ref.go:80", #[⟨5,.data⟩,⟨12,.data⟩],none⟩,
 ⟨some 26,.move (.tmp 25),4,"ref.go:80", #[⟨13,.data⟩,⟨5,.chain⟩],none⟩,
 ⟨some 27,.move (.tmp 0),44,"ref.go:80", #[⟨14,.guard⟩],some (14,false)⟩,
 ⟨some 28,.nilCheck (.tmp 27),0,"ref.go:80", #[⟨15,.data⟩,⟨14,.guard⟩],some (14,false)⟩,
 ⟨some 29,.fieldAddr 97 (.tmp 28) 0,0,"ref.go:80", #[⟨16,.data⟩,⟨14,.guard⟩],some (14,false)⟩,
 ⟨some 30,.load 36 (.tmp 29),36,"ref.go:80", #[⟨17,.data⟩,⟨14,.guard⟩],some (14,false)⟩,
 ⟨some 31,.nilCheck (.tmp 30),0,"ref.go:80", #[⟨18,.data⟩,⟨14,.guard⟩],some (14,false)⟩,
 ⟨some 32,.fieldAddr 82 (.tmp 31) 4,0,"ref.go:80", #[⟨19,.data⟩,⟨14,.guard⟩],some (14,false)⟩,
 ⟨some 33,.load 3 (.tmp 32),3,"ref.go:80", #[⟨20,.data⟩,⟨14,.guard⟩],some (14,false)⟩,
 ⟨some 34,.move (.tmp 0),44,"ref.go:80", #[⟨14,.guard⟩],some (14,false)⟩,
 ⟨some 35,.nilCheck (.tmp 34),0,"ref.go:80", #[⟨22,.data⟩,⟨14,.guard⟩],some (14,false)⟩,
 ⟨some 36,.fieldAddr 97 (.tmp 35) 4,0,"ref.go:80", #[⟨23,.data⟩,⟨14,.guard⟩],some (14,false)⟩,
 ⟨some 37,.load 3 (.tmp 36),3,"ref.go:80", #[⟨24,.data⟩,⟨14,.guard⟩],some (14,false)⟩,
 ⟨some 38,.binOp .neq 3 (.tmp 33) (.tmp 37) 3,4,"ref.go:80", #[⟨21,.data⟩,⟨25,.data⟩,⟨14,.guard⟩],some (14,false)⟩,
 ⟨some 39,.pick (.tmp 26) (.const (.bool true)) (.tmp 38),4,"ref.go:80", #[⟨14,.data⟩,⟨26,.data⟩],none⟩,
 ⟨some 40,.nilCheck (.tmp 12),0,"ref.go:80", #[⟨0,.data⟩,⟨0,.phase⟩,⟨1,.phase⟩,⟨2,.phase⟩,⟨3,.phase⟩,⟨4,.phase⟩,⟨5,.phase⟩,⟨6,.phase⟩,⟨7,.phase⟩,⟨8,.phase⟩,⟨9,.phase⟩,⟨10,.phase⟩,⟨11,.phase⟩,⟨12,.phase⟩,⟨13,.phase⟩,⟨14,.phase⟩,⟨15,.phase⟩,⟨16,.phase⟩,⟨17,.phase⟩,⟨18,.phase⟩,⟨19,.phase⟩,⟨20,.phase⟩,⟨21,.phase⟩,⟨22,.phase⟩,⟨23,.phase⟩,⟨24,.phase⟩,⟨25,.phase⟩,⟨26,.phase⟩,⟨27,.phase⟩],none⟩,
 ⟨some 41,.fieldAddr 97 (.tmp 40) 5,0,"ref.go:80", #[⟨28,.data⟩,⟨0,.phase⟩,⟨1,.phase⟩,⟨2,.phase⟩,⟨3,.phase⟩,⟨4,.phase⟩,⟨5,.phase⟩,⟨6,.phase⟩,⟨7,.phase⟩,⟨8,.phase⟩,⟨9,.phase⟩,⟨10,.phase⟩,⟨11,.phase⟩,⟨12,.phase⟩,⟨13,.phase⟩,⟨14,.phase⟩,⟨15,.phase⟩,⟨16,.phase⟩,⟨17,.phase⟩,⟨18,.phase⟩,⟨19,.phase⟩,⟨20,.phase⟩,⟨21,.phase⟩,⟨22,.phase⟩,⟨23,.phase⟩,⟨24,.phase⟩,⟨25,.phase⟩,⟨26,.phase⟩,⟨27,.phase⟩],none⟩,
 ⟨none,.store 4 (.tmp 41) (.tmp 39),0,"ref.go:80", #[⟨29,.data⟩,⟨27,.data⟩,⟨14,.chain⟩,⟨0,.phase⟩,⟨1,.phase⟩,⟨2,.phase⟩,⟨3,.phase⟩,⟨4,.phase⟩,⟨5,.phase⟩,⟨6,.phase⟩,⟨7,.phase⟩,⟨8,.phase⟩,⟨9,.phase⟩,⟨10,.phase⟩,⟨11,.phase⟩,⟨12,.phase⟩,⟨13,.phase⟩,⟨14,.phase⟩,⟨15,.phase⟩,⟨16,.phase⟩,⟨17,.phase⟩,⟨18,.phase⟩,⟨19,.phase⟩,⟨20,.phase⟩,⟨21,.phase⟩,⟨22,.phase⟩,⟨23,.phase⟩,⟨24,.phase⟩,⟨25,.phase⟩,⟨26,.phase⟩,⟨27,.phase⟩],none⟩]
theorem rs_r1a {W:World} {q r:Nat} {m0 m1:Int} {b1:Bool} {Q:Exit->Act->World->Prop} {u1 u2 u3 u4 u5 u6 u7 u8 u9 u10 u11 u12 u13 u14 u15 u16 u17 u18 u19 u20 u21 u22 u23 u24 u25 u26 u27 u28 u29 u30 u31 u32 u33 u34 u35 u36 u37 u38 u39 u40 u41 u42 u43 u44 u45 u46 u47 u48 u49 u50 u51 u52 u53 u54 u55 u56 u57 u58 u59 u60 u61 u62 u63 u64 u65 u66 u67 u68 u69 u70 u71 u72 u73 u74 u75 u76 u77 u78 u79 u80 u81 u82 u83 u84 u85 u86 u87 u88 u89 u90 u91 u92 u93 u94 u95 u96 u97 u98 u99 u100 u101 u102 u103 u104 u105 u106 u107 u108 u109 u110 u111 u112 u113 u114 u115 u116 u117 u118 u119 u120 u121 u122 u123 u124 u125 u126 u127 u128 u129 u130 u131 u132 u133 u134 u135 u136 u137 u138 u139 u140 u141 u142 u143 u144 u145 u146 u147 u148 u149 u150 u151 u152 u153 u154 u155 u156 u157 u158 u159 u160:Value} (c0:W.drew.cell? ⟨q,0,none⟩=some (.pointer (some ⟨r,0,none⟩))) (c4:W.drew.cell? ⟨q,4,none⟩=some (.int .i64 m0)) (c5:W.drew.cell? ⟨q,5,none⟩=some (.bool true)) (f5:W.drew.frozen? ⟨q,5,none⟩=false) (d3:W.drew.cell? ⟨r,3,none⟩=some (.bool b1)) (d4:W.drew.cell? ⟨r,4,none⟩=some (.int .i64 m1))
  (HP:∀ c a (k:Nat) v w,Q (.panic c) (Act.put a (some k) v) w->Q (.panic c) a w) (HQ:∀ (v12 v13 v14 v15 v16 v17 v18 v19 v20 v21 v22 v23 v24 v25 v26 v27 v28 v29 v30 v31 v32 v33 v34 v35 v36 v37 v38 v39 v40 v41:Value) (w':World),(fun w'=>w'=W.drew.setCell ⟨q,5,none⟩ (.bool true)) w'->Q .normal ⟨List.toArray ((.pointer (some ⟨q,0,none⟩))::u1::u2::u3::u4::u5::u6::u7::u8::u9::u10::u11::v12::v13::v14::v15::v16::v17::v18::v19::v20::v21::v22::v23::v24::v25::v26::v27::v28::v29::v30::v31::v32::v33::v34::v35::v36::v37::v38::v39::v40::v41::u42::u43::u44::u45::u46::u47::u48::u49::u50::u51::u52::u53::u54::u55::u56::u57::u58::u59::u60::u61::u62::u63::u64::u65::u66::u67::u68::u69::u70::u71::u72::u73::u74::u75::u76::u77::u78::u79::u80::u81::u82::u83::u84::u85::u86::u87::u88::u89::u90::u91::u92::u93::u94::u95::u96::u97::u98::u99::u100::u101::u102::u103::u104::u105::u106::u107::u108::u109::u110::u111::u112::u113::u114::u115::u116::u117::u118::u119::u120::u121::u122::u123::u124::u125::u126::u127::u128::u129::u130::u131::u132::u133::u134::u135::u136::u137::u138::u139::u140::u141::u142::u143::u144::u145::u146::u147::u148::u149::u150::u151::u152::u153::u154::u155::u156::u157::u158::u159::u160::[]),[]⟩ w') :
  Code.wp Tryz.prog (Code.region 1 rsOps1 true) Q ⟨List.toArray ((.pointer (some ⟨q,0,none⟩))::u1::u2::u3::u4::u5::u6::u7::u8::u9::u10::u11::u12::u13::u14::u15::u16::u17::u18::u19::u20::u21::u22::u23::u24::u25::u26::u27::u28::u29::u30::u31::u32::u33::u34::u35::u36::u37::u38::u39::u40::u41::u42::u43::u44::u45::u46::u47::u48::u49::u50::u51::u52::u53::u54::u55::u56::u57::u58::u59::u60::u61::u62::u63::u64::u65::u66::u67::u68::u69::u70::u71::u72::u73::u74::u75::u76::u77::u78::u79::u80::u81::u82::u83::u84::u85::u86::u87::u88::u89::u90::u91::u92::u93::u94::u95::u96::u97::u98::u99::u100::u101::u102::u103::u104::u105::u106::u107::u108::u109::u110::u111::u112::u113::u114::u115::u116::u117::u118::u119::u120::u121::u122::u123::u124::u125::u126::u127::u128::u129::u130::u131::u132::u133::u134::u135::u136::u137::u138::u139::u140::u141::u142::u143::u144::u145::u146::u147::u148::u149::u150::u151::u152::u153::u154::u155::u156::u157::u158::u159::u160::[]),[]⟩ W:=by
 have HQ:=Lib.hid HQ
 unfold rsOps1
 refine wp_region_tail 30 (by kernel_rfl) (by kernel_rfl) ?_
 simp only[List.take_succ_cons,List.take_zero,List.drop_succ_cons,List.drop_zero]
 generalize World.drew W=W0 at *
 refine StH.out ?_
 repeat (refine StH.step (fun K hK=>?_);go_simp;refine hK.out _ ?_;clear hK K)
 refine StH.nil ?_
 go_wp2_with fail
 rfl
theorem rs_r1b {W:World} {q r:Nat} {m0 m1:Int} {b1:Bool} {Q:Exit->Act->World->Prop} {u1 u2 u3 u4 u5 u6 u7 u8 u9 u10 u11 u12 u13 u14 u15 u16 u17 u18 u19 u20 u21 u22 u23 u24 u25 u26 u27 u28 u29 u30 u31 u32 u33 u34 u35 u36 u37 u38 u39 u40 u41 u42 u43 u44 u45 u46 u47 u48 u49 u50 u51 u52 u53 u54 u55 u56 u57 u58 u59 u60 u61 u62 u63 u64 u65 u66 u67 u68 u69 u70 u71 u72 u73 u74 u75 u76 u77 u78 u79 u80 u81 u82 u83 u84 u85 u86 u87 u88 u89 u90 u91 u92 u93 u94 u95 u96 u97 u98 u99 u100 u101 u102 u103 u104 u105 u106 u107 u108 u109 u110 u111 u112 u113 u114 u115 u116 u117 u118 u119 u120 u121 u122 u123 u124 u125 u126 u127 u128 u129 u130 u131 u132 u133 u134 u135 u136 u137 u138 u139 u140 u141 u142 u143 u144 u145 u146 u147 u148 u149 u150 u151 u152 u153 u154 u155 u156 u157 u158 u159 u160:Value} (c0:W.drew.cell? ⟨q,0,none⟩=some (.pointer (some ⟨r,0,none⟩))) (c4:W.drew.cell? ⟨q,4,none⟩=some (.int .i64 m0)) (c5:W.drew.cell? ⟨q,5,none⟩=some (.bool false)) (f5:W.drew.frozen? ⟨q,5,none⟩=false) (d3:W.drew.cell? ⟨r,3,none⟩=some (.bool true)) (d4:W.drew.cell? ⟨r,4,none⟩=some (.int .i64 m1))
  (HP:∀ c a (k:Nat) v w,Q (.panic c) (Act.put a (some k) v) w->Q (.panic c) a w) (HQ:∀ (v12 v13 v14 v15 v16 v17 v18 v19 v20 v21 v22 v23 v24 v25 v26 v27 v28 v29 v30 v31 v32 v33 v34 v35 v36 v37 v38 v39 v40 v41:Value) (w':World),(fun w'=>w'=W.drew.setCell ⟨q,5,none⟩ (.bool true)) w'->Q .normal ⟨List.toArray ((.pointer (some ⟨q,0,none⟩))::u1::u2::u3::u4::u5::u6::u7::u8::u9::u10::u11::v12::v13::v14::v15::v16::v17::v18::v19::v20::v21::v22::v23::v24::v25::v26::v27::v28::v29::v30::v31::v32::v33::v34::v35::v36::v37::v38::v39::v40::v41::u42::u43::u44::u45::u46::u47::u48::u49::u50::u51::u52::u53::u54::u55::u56::u57::u58::u59::u60::u61::u62::u63::u64::u65::u66::u67::u68::u69::u70::u71::u72::u73::u74::u75::u76::u77::u78::u79::u80::u81::u82::u83::u84::u85::u86::u87::u88::u89::u90::u91::u92::u93::u94::u95::u96::u97::u98::u99::u100::u101::u102::u103::u104::u105::u106::u107::u108::u109::u110::u111::u112::u113::u114::u115::u116::u117::u118::u119::u120::u121::u122::u123::u124::u125::u126::u127::u128::u129::u130::u131::u132::u133::u134::u135::u136::u137::u138::u139::u140::u141::u142::u143::u144::u145::u146::u147::u148::u149::u150::u151::u152::u153::u154::u155::u156::u157::u158::u159::u160::[]),[]⟩ w') :
  Code.wp Tryz.prog (Code.region 1 rsOps1 true) Q ⟨List.toArray ((.pointer (some ⟨q,0,none⟩))::u1::u2::u3::u4::u5::u6::u7::u8::u9::u10::u11::u12::u13::u14::u15::u16::u17::u18::u19::u20::u21::u22::u23::u24::u25::u26::u27::u28::u29::u30::u31::u32::u33::u34::u35::u36::u37::u38::u39::u40::u41::u42::u43::u44::u45::u46::u47::u48::u49::u50::u51::u52::u53::u54::u55::u56::u57::u58::u59::u60::u61::u62::u63::u64::u65::u66::u67::u68::u69::u70::u71::u72::u73::u74::u75::u76::u77::u78::u79::u80::u81::u82::u83::u84::u85::u86::u87::u88::u89::u90::u91::u92::u93::u94::u95::u96::u97::u98::u99::u100::u101::u102::u103::u104::u105::u106::u107::u108::u109::u110::u111::u112::u113::u114::u115::u116::u117::u118::u119::u120::u121::u122::u123::u124::u125::u126::u127::u128::u129::u130::u131::u132::u133::u134::u135::u136::u137::u138::u139::u140::u141::u142::u143::u144::u145::u146::u147::u148::u149::u150::u151::u152::u153::u154::u155::u156::u157::u158::u159::u160::[]),[]⟩ W:=by
 have HQ:=Lib.hid HQ
 unfold rsOps1
 refine wp_region_tail 30 (by kernel_rfl) (by kernel_rfl) ?_
 simp only[List.take_succ_cons,List.take_zero,List.drop_succ_cons,List.drop_zero]
 generalize World.drew W=W0 at *
 refine StH.out ?_
 repeat (refine StH.step (fun K hK=>?_);go_simp;refine hK.out _ ?_;clear hK K)
 refine StH.nil ?_
 go_wp2_with fail
 rfl
theorem rs_r1c {W:World} {q r:Nat} {m0 m1:Int} {b1:Bool} {Q:Exit->Act->World->Prop} {u1 u2 u3 u4 u5 u6 u7 u8 u9 u10 u11 u12 u13 u14 u15 u16 u17 u18 u19 u20 u21 u22 u23 u24 u25 u26 u27 u28 u29 u30 u31 u32 u33 u34 u35 u36 u37 u38 u39 u40 u41 u42 u43 u44 u45 u46 u47 u48 u49 u50 u51 u52 u53 u54 u55 u56 u57 u58 u59 u60 u61 u62 u63 u64 u65 u66 u67 u68 u69 u70 u71 u72 u73 u74 u75 u76 u77 u78 u79 u80 u81 u82 u83 u84 u85 u86 u87 u88 u89 u90 u91 u92 u93 u94 u95 u96 u97 u98 u99 u100 u101 u102 u103 u104 u105 u106 u107 u108 u109 u110 u111 u112 u113 u114 u115 u116 u117 u118 u119 u120 u121 u122 u123 u124 u125 u126 u127 u128 u129 u130 u131 u132 u133 u134 u135 u136 u137 u138 u139 u140 u141 u142 u143 u144 u145 u146 u147 u148 u149 u150 u151 u152 u153 u154 u155 u156 u157 u158 u159 u160:Value} (c0:W.drew.cell? ⟨q,0,none⟩=some (.pointer (some ⟨r,0,none⟩))) (c4:W.drew.cell? ⟨q,4,none⟩=some (.int .i64 m0)) (c5:W.drew.cell? ⟨q,5,none⟩=some (.bool false)) (f5:W.drew.frozen? ⟨q,5,none⟩=false) (d3:W.drew.cell? ⟨r,3,none⟩=some (.bool false)) (d4:W.drew.cell? ⟨r,4,none⟩=some (.int .i64 m1)) (hne:(m1 != m0)=true)
  (HP:∀ c a (k:Nat) v w,Q (.panic c) (Act.put a (some k) v) w->Q (.panic c) a w) (HQ:∀ (v12 v13 v14 v15 v16 v17 v18 v19 v20 v21 v22 v23 v24 v25 v26 v27 v28 v29 v30 v31 v32 v33 v34 v35 v36 v37 v38 v39 v40 v41:Value) (w':World),(fun w'=>w'=W.drew.setCell ⟨q,5,none⟩ (.bool true)) w'->Q .normal ⟨List.toArray ((.pointer (some ⟨q,0,none⟩))::u1::u2::u3::u4::u5::u6::u7::u8::u9::u10::u11::v12::v13::v14::v15::v16::v17::v18::v19::v20::v21::v22::v23::v24::v25::v26::v27::v28::v29::v30::v31::v32::v33::v34::v35::v36::v37::v38::v39::v40::v41::u42::u43::u44::u45::u46::u47::u48::u49::u50::u51::u52::u53::u54::u55::u56::u57::u58::u59::u60::u61::u62::u63::u64::u65::u66::u67::u68::u69::u70::u71::u72::u73::u74::u75::u76::u77::u78::u79::u80::u81::u82::u83::u84::u85::u86::u87::u88::u89::u90::u91::u92::u93::u94::u95::u96::u97::u98::u99::u100::u101::u102::u103::u104::u105::u106::u107::u108::u109::u110::u111::u112::u113::u114::u115::u116::u117::u118::u119::u120::u121::u122::u123::u124::u125::u126::u127::u128::u129::u130::u131::u132::u133::u134::u135::u136::u137::u138::u139::u140::u141::u142::u143::u144::u145::u146::u147::u148::u149::u150::u151::u152::u153::u154::u155::u156::u157::u158::u159::u160::[]),[]⟩ w') :
  Code.wp Tryz.prog (Code.region 1 rsOps1 true) Q ⟨List.toArray ((.pointer (some ⟨q,0,none⟩))::u1::u2::u3::u4::u5::u6::u7::u8::u9::u10::u11::u12::u13::u14::u15::u16::u17::u18::u19::u20::u21::u22::u23::u24::u25::u26::u27::u28::u29::u30::u31::u32::u33::u34::u35::u36::u37::u38::u39::u40::u41::u42::u43::u44::u45::u46::u47::u48::u49::u50::u51::u52::u53::u54::u55::u56::u57::u58::u59::u60::u61::u62::u63::u64::u65::u66::u67::u68::u69::u70::u71::u72::u73::u74::u75::u76::u77::u78::u79::u80::u81::u82::u83::u84::u85::u86::u87::u88::u89::u90::u91::u92::u93::u94::u95::u96::u97::u98::u99::u100::u101::u102::u103::u104::u105::u106::u107::u108::u109::u110::u111::u112::u113::u114::u115::u116::u117::u118::u119::u120::u121::u122::u123::u124::u125::u126::u127::u128::u129::u130::u131::u132::u133::u134::u135::u136::u137::u138::u139::u140::u141::u142::u143::u144::u145::u146::u147::u148::u149::u150::u151::u152::u153::u154::u155::u156::u157::u158::u159::u160::[]),[]⟩ W:=by
 have HQ:=Lib.hid HQ
 unfold rsOps1
 refine wp_region_tail 30 (by kernel_rfl) (by kernel_rfl) ?_
 simp only[List.take_succ_cons,List.take_zero,List.drop_succ_cons,List.drop_zero]
 generalize World.drew W=W0 at *
 refine StH.out ?_
 repeat (refine StH.step (fun K hK=>?_);go_simp;refine hK.out _ ?_;clear hK K)
 refine StH.nil ?_
 go_wp2_with fail
 rfl
theorem rs_r1d {W:World} {q r:Nat} {m0 m1:Int} {b1:Bool} {Q:Exit->Act->World->Prop} {u1 u2 u3 u4 u5 u6 u7 u8 u9 u10 u11 u12 u13 u14 u15 u16 u17 u18 u19 u20 u21 u22 u23 u24 u25 u26 u27 u28 u29 u30 u31 u32 u33 u34 u35 u36 u37 u38 u39 u40 u41 u42 u43 u44 u45 u46 u47 u48 u49 u50 u51 u52 u53 u54 u55 u56 u57 u58 u59 u60 u61 u62 u63 u64 u65 u66 u67 u68 u69 u70 u71 u72 u73 u74 u75 u76 u77 u78 u79 u80 u81 u82 u83 u84 u85 u86 u87 u88 u89 u90 u91 u92 u93 u94 u95 u96 u97 u98 u99 u100 u101 u102 u103 u104 u105 u106 u107 u108 u109 u110 u111 u112 u113 u114 u115 u116 u117 u118 u119 u120 u121 u122 u123 u124 u125 u126 u127 u128 u129 u130 u131 u132 u133 u134 u135 u136 u137 u138 u139 u140 u141 u142 u143 u144 u145 u146 u147 u148 u149 u150 u151 u152 u153 u154 u155 u156 u157 u158 u159 u160:Value} (c0:W.drew.cell? ⟨q,0,none⟩=some (.pointer (some ⟨r,0,none⟩))) (c4:W.drew.cell? ⟨q,4,none⟩=some (.int .i64 m0)) (c5:W.drew.cell? ⟨q,5,none⟩=some (.bool false)) (f5:W.drew.frozen? ⟨q,5,none⟩=false) (d3:W.drew.cell? ⟨r,3,none⟩=some (.bool false)) (d4:W.drew.cell? ⟨r,4,none⟩=some (.int .i64 m0)) (hne:(m0 != m0)=false)
  (HP:∀ c a (k:Nat) v w,Q (.panic c) (Act.put a (some k) v) w->Q (.panic c) a w) (HQ:∀ (v12 v13 v14 v15 v16 v17 v18 v19 v20 v21 v22 v23 v24 v25 v26 v27 v28 v29 v30 v31 v32 v33 v34 v35 v36 v37 v38 v39 v40 v41:Value) (w':World),(fun w'=>w'=W.drew.setCell ⟨q,5,none⟩ (.bool false)) w'->Q .normal ⟨List.toArray ((.pointer (some ⟨q,0,none⟩))::u1::u2::u3::u4::u5::u6::u7::u8::u9::u10::u11::v12::v13::v14::v15::v16::v17::v18::v19::v20::v21::v22::v23::v24::v25::v26::v27::v28::v29::v30::v31::v32::v33::v34::v35::v36::v37::v38::v39::v40::v41::u42::u43::u44::u45::u46::u47::u48::u49::u50::u51::u52::u53::u54::u55::u56::u57::u58::u59::u60::u61::u62::u63::u64::u65::u66::u67::u68::u69::u70::u71::u72::u73::u74::u75::u76::u77::u78::u79::u80::u81::u82::u83::u84::u85::u86::u87::u88::u89::u90::u91::u92::u93::u94::u95::u96::u97::u98::u99::u100::u101::u102::u103::u104::u105::u106::u107::u108::u109::u110::u111::u112::u113::u114::u115::u116::u117::u118::u119::u120::u121::u122::u123::u124::u125::u126::u127::u128::u129::u130::u131::u132::u133::u134::u135::u136::u137::u138::u139::u140::u141::u142::u143::u144::u145::u146::u147::u148::u149::u150::u151::u152::u153::u154::u155::u156::u157::u158::u159::u160::[]),[]⟩ w') :
  Code.wp Tryz.prog (Code.region 1 rsOps1 true) Q ⟨List.toArray ((.pointer (some ⟨q,0,none⟩))::u1::u2::u3::u4::u5::u6::u7::u8::u9::u10::u11::u12::u13::u14::u15::u16::u17::u18::u19::u20::u21::u22::u23::u24::u25::u26::u27::u28::u29::u30::u31::u32::u33::u34::u35::u36::u37::u38::u39::u40::u41::u42::u43::u44::u45::u46::u47::u48::u49::u50::u51::u52::u53::u54::u55::u56::u57::u58::u59::u60::u61::u62::u63::u64::u65::u66::u67::u68::u69::u70::u71::u72::u73::u74::u75::u76::u77::u78::u79::u80::u81::u82::u83::u84::u85::u86::u87::u88::u89::u90::u91::u92::u93::u94::u95::u96::u97::u98::u99::u100::u101::u102::u103::u104::u105::u106::u107::u108::u109::u110::u111::u112::u113::u114::u115::u116::u117::u118::u119::u120::u121::u122::u123::u124::u125::u126::u127::u128::u129::u130::u131::u132::u133::u134::u135::u136::u137::u138::u139::u140::u141::u142::u143::u144::u145::u146::u147::u148::u149::u150::u151::u152::u153::u154::u155::u156::u157::u158::u159::u160::[]),[]⟩ W:=by
 have HQ:=Lib.hid HQ
 unfold rsOps1
 refine wp_region_tail 30 (by kernel_rfl) (by kernel_rfl) ?_
 simp only[List.take_succ_cons,List.take_zero,List.drop_succ_cons,List.drop_zero]
 generalize World.drew W=W0 at *
 refine StH.out ?_
 repeat (refine StH.step (fun K hK=>?_);go_simp;refine hK.out _ ?_;clear hK K)
 refine StH.nil ?_
 go_wp2_with fail
 rfl
def rsOps7:Array Oper:=#[
 ⟨some 61,.move (.tmp 6),3,"ref.go:88", #[],none⟩,
 ⟨some 62,.binOp .gtr 3 (.tmp 61) (.const (.int .i64 0)) 3,4,"ref.go:88", #[⟨0,.data⟩],none⟩,
 ⟨some 63,.move (.tmp 62),4,"ref.go:88", #[⟨1,.data⟩],none⟩,
 ⟨some 64,.move (.tmp 0),44,"ref.go:88", #[⟨2,.guard⟩],some (2,true)⟩,
 ⟨some 65,.nilCheck (.tmp 64),0,"ref.go:88", #[⟨3,.data⟩,⟨2,.guard⟩],some (2,true)⟩,
 ⟨some 66,.fieldAddr 97 (.tmp 65) 3,0,"ref.go:88", #[⟨4,.data⟩,⟨2,.guard⟩],some (2,true)⟩,
 ⟨some 67,.load 22 (.tmp 66),22,"ref.go:88", #[⟨5,.data⟩,⟨2,.guard⟩],some (2,true)⟩,
 ⟨some 68,.move (.tmp 6),3,"ref.go:88", #[⟨2,.guard⟩],some (2,true)⟩,
 ⟨some 69,.binOp .sub 3 (.tmp 68) (.const (.int .i64 1)) 3,3,"ref.go:88", #[⟨7,.data⟩,⟨2,.guard⟩],some (2,true)⟩,
 ⟨some 70,.indexAddr 22 (.tmp 67) (.tmp 69),0,"ref.go:88", #[⟨6,.data⟩,⟨8,.data⟩,⟨2,.guard⟩],some (2,true)⟩,
 ⟨some 71,.load 32 (.tmp 70),32,"ref.go:88", #[⟨9,.data⟩,⟨2,.guard⟩],some (2,true)⟩,
 ⟨some 72,.load 32 (.tmp 3),32,"ref.go:88", #[⟨2,.guard⟩],some (2,true)⟩,
 ⟨some 73,.binOp .eql 32 (.tmp 71) (.tmp 72) 32,4,"ref.go:88", #[⟨10,.data⟩,⟨11,.data⟩,⟨2,.guard⟩],some (2,true)⟩,
 ⟨some 74,.pick (.tmp 63) (.tmp 73) (.const (.bool false)),4,"ref.go:88", #[⟨2,.data⟩,⟨12,.data⟩],none⟩]
theorem rs_r7a {W:World} {q hb:Nat} {Q:Exit->Act->World->Prop} {u1 u2 u4 u5 u7 u8 u9 u10 u11 u12 u13 u14 u15 u16 u17 u18 u19 u20 u21 u22 u23 u24 u25 u26 u27 u28 u29 u30 u31 u32 u33 u34 u35 u36 u37 u38 u39 u40 u41 u42 u43 u44 u45 u46 u47 u48 u49 u50 u51 u52 u53 u54 u55 u56 u57 u58 u59 u60 u61 u62 u63 u64 u65 u66 u67 u68 u69 u70 u71 u72 u73 u74 u75 u76 u77 u78 u79 u80 u81 u82 u83 u84 u85 u86 u87 u88 u89 u90 u91 u92 u93 u94 u95 u96 u97 u98 u99 u100 u101 u102 u103 u104 u105 u106 u107 u108 u109 u110 u111 u112 u113 u114 u115 u116 u117 u118 u119 u120 u121 u122 u123 u124 u125 u126 u127 u128 u129 u130 u131 u132 u133 u134 u135 u136 u137 u138 u139 u140 u141 u142 u143 u144 u145 u146 u147 u148 u149 u150 u151 u152 u153 u154 u155 u156 u157 u158 u159 u160:Value}  (SA:(fun w'=>Kept (fun _=>False) W w') W.drew)
  (HP:∀ c a (k:Nat) v w,Q (.panic c) (Act.put a (some k) v) w->Q (.panic c) a w) (HQ:∀ (v61 v62 v63 v64 v65 v66 v67 v68 v69 v70 v71 v72 v73:Value) (w':World),(fun w'=>Kept (fun _=>False) W w') w'->Q .normal ⟨List.toArray ((.pointer (some ⟨q,0,none⟩))::u1::u2::(.pointer (some ⟨hb,0,none⟩))::u4::u5::(.int .i64 0)::u7::u8::u9::u10::u11::u12::u13::u14::u15::u16::u17::u18::u19::u20::u21::u22::u23::u24::u25::u26::u27::u28::u29::u30::u31::u32::u33::u34::u35::u36::u37::u38::u39::u40::u41::u42::u43::u44::u45::u46::u47::u48::u49::u50::u51::u52::u53::u54::u55::u56::u57::u58::u59::u60::v61::v62::v63::v64::v65::v66::v67::v68::v69::v70::v71::v72::v73::(.bool false)::u75::u76::u77::u78::u79::u80::u81::u82::u83::u84::u85::u86::u87::u88::u89::u90::u91::u92::u93::u94::u95::u96::u97::u98::u99::u100::u101::u102::u103::u104::u105::u106::u107::u108::u109::u110::u111::u112::u113::u114::u115::u116::u117::u118::u119::u120::u121::u122::u123::u124::u125::u126::u127::u128::u129::u130::u131::u132::u133::u134::u135::u136::u137::u138::u139::u140::u141::u142::u143::u144::u145::u146::u147::u148::u149::u150::u151::u152::u153::u154::u155::u156::u157::u158::u159::u160::[]),[]⟩ w') :
  Code.wp Tryz.prog (Code.region 7 rsOps7 true) Q ⟨List.toArray ((.pointer (some ⟨q,0,none⟩))::u1::u2::(.pointer (some ⟨hb,0,none⟩))::u4::u5::(.int .i64 0)::u7::u8::u9::u10::u11::u12::u13::u14::u15::u16::u17::u18::u19::u20::u21::u22::u23::u24::u25::u26::u27::u28::u29::u30::u31::u32::u33::u34::u35::u36::u37::u38::u39::u40::u41::u42::u43::u44::u45::u46::u47::u48::u49::u50::u51::u52::u53::u54::u55::u56::u57::u58::u59::u60::u61::u62::u63::u64::u65::u66::u67::u68::u69::u70::u71::u72::u73::u74::u75::u76::u77::u78::u79::u80::u81::u82::u83::u84::u85::u86::u87::u88::u89::u90::u91::u92::u93::u94::u95::u96::u97::u98::u99::u100::u101::u102::u103::u104::u105::u106::u107::u108::u109::u110::u111::u112::u113::u114::u115::u116::u117::u118::u119::u120::u121::u122::u123::u124::u125::u126::u127::u128::u129::u130::u131::u132::u133::u134::u135::u136::u137::u138::u139::u140::u141::u142::u143::u144::u145::u146::u147::u148::u149::u150::u151::u152::u153::u154::u155::u156::u157::u158::u159::u160::[]),[]⟩ W:=by
 have HQ:=Lib.hid HQ
 unfold rsOps7
 refine wp_region_held_drew (S:=(fun w'=>Kept (fun _=>False) W w')) (by kernel_rfl) SA (fun hH0=>?_)
 refine tl 0 (v:=?_) rfl (fun _ _ _ h=>HP _ _ _ _ _ h) (Or.inl ⟨by rfl,fun w hSw=>?_⟩) hH0 ?_
 rotate_left 1
 ·(try dsimp only at hSw);go_simp;(try with_reducible rfl)
 try simp only[Act.put,List.setIfInBounds_toArray,List.set_cons_zero,List.set_cons_succ]
 refine tl 1 (v:=?_) rfl (fun _ _ _ h=>HP _ _ _ _ _ h) (Or.inl ⟨by rfl,fun w hSw=>?_⟩) hH0 ?_
 rotate_left 1
 ·(try dsimp only at hSw);go_simp;(try with_reducible rfl)
 try simp only[Act.put,List.setIfInBounds_toArray,List.set_cons_zero,List.set_cons_succ]
 refine tl 2 (v:=?_) rfl (fun _ _ _ h=>HP _ _ _ _ _ h) (Or.inl ⟨by rfl,fun w hSw=>?_⟩) hH0 ?_
 rotate_left 1
 ·(try dsimp only at hSw);go_simp;(try with_reducible rfl)
 try simp only[Act.put,List.setIfInBounds_toArray,List.set_cons_zero,List.set_cons_succ]
 refine tl 3 (v:=undef) rfl (fun _ _ _ h=>HP _ _ _ _ _ h) (Or.inr ⟨by rfl,rfl⟩) hH0 ?_
 try simp only[Act.put,List.setIfInBounds_toArray,List.set_cons_zero,List.set_cons_succ]
 refine tl 4 (v:=undef) rfl (fun _ _ _ h=>HP _ _ _ _ _ h) (Or.inr ⟨by rfl,rfl⟩) hH0 ?_
 try simp only[Act.put,List.setIfInBounds_toArray,List.set_cons_zero,List.set_cons_succ]
 refine tl 5 (v:=undef) rfl (fun _ _ _ h=>HP _ _ _ _ _ h) (Or.inr ⟨by rfl,rfl⟩) hH0 ?_
 try simp only[Act.put,List.setIfInBounds_toArray,List.set_cons_zero,List.set_cons_succ]
 refine tl 6 (v:=undef) rfl (fun _ _ _ h=>HP _ _ _ _ _ h) (Or.inr ⟨by rfl,rfl⟩) hH0 ?_
 try simp only[Act.put,List.setIfInBounds_toArray,List.set_cons_zero,List.set_cons_succ]
 refine tl 7 (v:=undef) rfl (fun _ _ _ h=>HP _ _ _ _ _ h) (Or.inr ⟨by rfl,rfl⟩) hH0 ?_
 try simp only[Act.put,List.setIfInBounds_toArray,List.set_cons_zero,List.set_cons_succ]
 refine tl 8 (v:=undef) rfl (fun _ _ _ h=>HP _ _ _ _ _ h) (Or.inr ⟨by rfl,rfl⟩) hH0 ?_
 try simp only[Act.put,List.setIfInBounds_toArray,List.set_cons_zero,List.set_cons_succ]
 refine tl 9 (v:=undef) rfl (fun _ _ _ h=>HP _ _ _ _ _ h) (Or.inr ⟨by rfl,rfl⟩) hH0 ?_
 try simp only[Act.put,List.setIfInBounds_toArray,List.set_cons_zero,List.set_cons_succ]
 refine tl 10 (v:=undef) rfl (fun _ _ _ h=>HP _ _ _ _ _ h) (Or.inr ⟨by rfl,rfl⟩) hH0 ?_
 try simp only[Act.put,List.setIfInBounds_toArray,List.set_cons_zero,List.set_cons_succ]
 refine tl 11 (v:=undef) rfl (fun _ _ _ h=>HP _ _ _ _ _ h) (Or.inr ⟨by rfl,rfl⟩) hH0 ?_
 try simp only[Act.put,List.setIfInBounds_toArray,List.set_cons_zero,List.set_cons_succ]
 refine tl 12 (v:=undef) rfl (fun _ _ _ h=>HP _ _ _ _ _ h) (Or.inr ⟨by rfl,rfl⟩) hH0 ?_
 try simp only[Act.put,List.setIfInBounds_toArray,List.set_cons_zero,List.set_cons_succ]
 refine tl 13 (v:=?_) rfl (fun _ _ _ h=>HP _ _ _ _ _ h) (Or.inl ⟨by rfl,fun w hSw=>?_⟩) hH0 ?_
 rotate_left 1
 ·(try dsimp only at hSw);go_simp;(try with_reducible rfl)
 try simp only[Act.put,List.setIfInBounds_toArray,List.set_cons_zero,List.set_cons_succ]
 refine dn ?_
 exact HQ.out _ _ _ _ _ _ _ _ _ _ _ _ _ _ hH0
theorem rs_r7b {W:World} {q hb gl m vc:Nat} {bb:Bool} {AA C:List Value} {Q:Exit->Act->World->Prop} {u1 u2 u4 u5 u7 u8 u9 u10 u11 u12 u13 u14 u15 u16 u17 u18 u19 u20 u21 u22 u23 u24 u25 u26 u27 u28 u29 u30 u31 u32 u33 u34 u35 u36 u37 u38 u39 u40 u41 u42 u43 u44 u45 u46 u47 u48 u49 u50 u51 u52 u53 u54 u55 u56 u57 u58 u59 u60 u61 u62 u63 u64 u65 u66 u67 u68 u69 u70 u71 u72 u73 u74 u75 u76 u77 u78 u79 u80 u81 u82 u83 u84 u85 u86 u87 u88 u89 u90 u91 u92 u93 u94 u95 u96 u97 u98 u99 u100 u101 u102 u103 u104 u105 u106 u107 u108 u109 u110 u111 u112 u113 u114 u115 u116 u117 u118 u119 u120 u121 u122 u123 u124 u125 u126 u127 u128 u129 u130 u131 u132 u133 u134 u135 u136 u137 u138 u139 u140 u141 u142 u143 u144 u145 u146 u147 u148 u149 u150 u151 u152 u153 u154 u155 u156 u157 u158 u159 u160:Value} (hia:(Tryz.prog.info? 32).map (·.size)=some AA.length) (hic:(Tryz.prog.info? 32).map (·.size)=some C.length) (heq:∀ w',(binOp .eql 32 (.agg AA.toArray) (.agg C.toArray)).run Tryz.prog w' = .ok (.bool bb) w') (q1:IntKind.i64.wrap (((m+1:Nat):Int)-1)=(m:Int)) (q1':IntKind.i64.wrap ((m:Int)+1-1)=(m:Int)) (q1b:IntKind.i64.wrap (m:Int)=(m:Int)) (q2:m<m+1) (q4:(m:Int)<(m:Int)+1) (q3:decide ((0:Int)<((m+1:Nat):Int))=true) (q3':decide ((0:Int)<(m:Int)+1)=true) (SA:(fun w'=>w'.cell? ⟨q,3,none⟩=some (.slice (some ⟨gl,0,none⟩) (m+1) vc)/\w'.rangeAt gl (m*33) AA/\w'.rangeAt hb 0 C/\Kept (fun _=>False) W w') W.drew)
  (HP:∀ c a (k:Nat) v w,Q (.panic c) (Act.put a (some k) v) w->Q (.panic c) a w) (HQ:∀ (v61 v62 v63 v64 v65 v66 v67 v68 v69 v70 v71 v72 v73:Value) (w':World),(fun w'=>w'.cell? ⟨q,3,none⟩=some (.slice (some ⟨gl,0,none⟩) (m+1) vc)/\w'.rangeAt gl (m*33) AA/\w'.rangeAt hb 0 C/\Kept (fun _=>False) W w') w'->Q .normal ⟨List.toArray ((.pointer (some ⟨q,0,none⟩))::u1::u2::(.pointer (some ⟨hb,0,none⟩))::u4::u5::(.int .i64 ((m+1:Nat):Int))::u7::u8::u9::u10::u11::u12::u13::u14::u15::u16::u17::u18::u19::u20::u21::u22::u23::u24::u25::u26::u27::u28::u29::u30::u31::u32::u33::u34::u35::u36::u37::u38::u39::u40::u41::u42::u43::u44::u45::u46::u47::u48::u49::u50::u51::u52::u53::u54::u55::u56::u57::u58::u59::u60::v61::v62::v63::v64::v65::v66::v67::v68::v69::v70::v71::v72::v73::(.bool bb)::u75::u76::u77::u78::u79::u80::u81::u82::u83::u84::u85::u86::u87::u88::u89::u90::u91::u92::u93::u94::u95::u96::u97::u98::u99::u100::u101::u102::u103::u104::u105::u106::u107::u108::u109::u110::u111::u112::u113::u114::u115::u116::u117::u118::u119::u120::u121::u122::u123::u124::u125::u126::u127::u128::u129::u130::u131::u132::u133::u134::u135::u136::u137::u138::u139::u140::u141::u142::u143::u144::u145::u146::u147::u148::u149::u150::u151::u152::u153::u154::u155::u156::u157::u158::u159::u160::[]),[]⟩ w') :
  Code.wp Tryz.prog (Code.region 7 rsOps7 true) Q ⟨List.toArray ((.pointer (some ⟨q,0,none⟩))::u1::u2::(.pointer (some ⟨hb,0,none⟩))::u4::u5::(.int .i64 ((m+1:Nat):Int))::u7::u8::u9::u10::u11::u12::u13::u14::u15::u16::u17::u18::u19::u20::u21::u22::u23::u24::u25::u26::u27::u28::u29::u30::u31::u32::u33::u34::u35::u36::u37::u38::u39::u40::u41::u42::u43::u44::u45::u46::u47::u48::u49::u50::u51::u52::u53::u54::u55::u56::u57::u58::u59::u60::u61::u62::u63::u64::u65::u66::u67::u68::u69::u70::u71::u72::u73::u74::u75::u76::u77::u78::u79::u80::u81::u82::u83::u84::u85::u86::u87::u88::u89::u90::u91::u92::u93::u94::u95::u96::u97::u98::u99::u100::u101::u102::u103::u104::u105::u106::u107::u108::u109::u110::u111::u112::u113::u114::u115::u116::u117::u118::u119::u120::u121::u122::u123::u124::u125::u126::u127::u128::u129::u130::u131::u132::u133::u134::u135::u136::u137::u138::u139::u140::u141::u142::u143::u144::u145::u146::u147::u148::u149::u150::u151::u152::u153::u154::u155::u156::u157::u158::u159::u160::[]),[]⟩ W:=by
 have HQ:=Lib.hid HQ
 unfold rsOps7
 refine wp_region_held_drew (S:=(fun w'=>w'.cell? ⟨q,3,none⟩=some (.slice (some ⟨gl,0,none⟩) (m+1) vc)/\w'.rangeAt gl (m*33) AA/\w'.rangeAt hb 0 C/\Kept (fun _=>False) W w')) (by kernel_rfl) SA (fun hH0=>?_)
 refine tl 0 (v:=?_) rfl (fun _ _ _ h=>HP _ _ _ _ _ h) (Or.inl ⟨by rfl,fun w hSw=>?_⟩) hH0 ?_
 rotate_left 1
 ·(try dsimp only at hSw);go_simp;(try with_reducible rfl)
 try simp only[Act.put,List.setIfInBounds_toArray,List.set_cons_zero,List.set_cons_succ]
 refine tl 1 (v:=?_) rfl (fun _ _ _ h=>HP _ _ _ _ _ h) (Or.inl ⟨by rfl,fun w hSw=>?_⟩) hH0 ?_
 rotate_left 1
 ·(try dsimp only at hSw);go_simp;(try with_reducible rfl)
 try simp only[Act.put,List.setIfInBounds_toArray,List.set_cons_zero,List.set_cons_succ]
 refine tl 2 (v:=?_) rfl (fun _ _ _ h=>HP _ _ _ _ _ h) (Or.inl ⟨by rfl,fun w hSw=>?_⟩) hH0 ?_
 rotate_left 1
 ·(try dsimp only at hSw);go_simp;(try with_reducible rfl)
 try simp only[Act.put,List.setIfInBounds_toArray,List.set_cons_zero,List.set_cons_succ]
 refine tl 3 (v:=?_) rfl (fun _ _ _ h=>HP _ _ _ _ _ h) (Or.inl ⟨by rfl,fun w hSw=>?_⟩) hH0 ?_
 rotate_left 1
 ·(try dsimp only at hSw);go_simp;(try with_reducible rfl)
 try simp only[Act.put,List.setIfInBounds_toArray,List.set_cons_zero,List.set_cons_succ]
 refine tl 4 (v:=?_) rfl (fun _ _ _ h=>HP _ _ _ _ _ h) (Or.inl ⟨by rfl,fun w hSw=>?_⟩) hH0 ?_
 rotate_left 1
 ·(try dsimp only at hSw);go_simp;(try with_reducible rfl)
 try simp only[Act.put,List.setIfInBounds_toArray,List.set_cons_zero,List.set_cons_succ]
 refine tl 5 (v:=?_) rfl (fun _ _ _ h=>HP _ _ _ _ _ h) (Or.inl ⟨by rfl,fun w hSw=>?_⟩) hH0 ?_
 rotate_left 1
 ·(try dsimp only at hSw);go_simp;(try with_reducible rfl)
 try simp only[Act.put,List.setIfInBounds_toArray,List.set_cons_zero,List.set_cons_succ]
 refine tl 6 (v:=?_) rfl (fun _ _ _ h=>HP _ _ _ _ _ h) (Or.inl ⟨by rfl,fun w hSw=>?_⟩) hH0 ?_
 rotate_left 1
 ·obtain⟨s0,s1,s2,s3⟩:=hSw;go_simp;(try with_reducible rfl)
 try simp only[Act.put,List.setIfInBounds_toArray,List.set_cons_zero,List.set_cons_succ]
 refine tl 7 (v:=?_) rfl (fun _ _ _ h=>HP _ _ _ _ _ h) (Or.inl ⟨by rfl,fun w hSw=>?_⟩) hH0 ?_
 rotate_left 1
 ·(try dsimp only at hSw);go_simp;(try with_reducible rfl)
 try simp only[Act.put,List.setIfInBounds_toArray,List.set_cons_zero,List.set_cons_succ]
 refine tl 8 (v:=?_) rfl (fun _ _ _ h=>HP _ _ _ _ _ h) (Or.inl ⟨by rfl,fun w hSw=>?_⟩) hH0 ?_
 rotate_left 1
 ·(try dsimp only at hSw);go_simp;(try with_reducible rfl)
 try simp only[Act.put,List.setIfInBounds_toArray,List.set_cons_zero,List.set_cons_succ]
 refine tl 9 (v:=?_) rfl (fun _ _ _ h=>HP _ _ _ _ _ h) (Or.inl ⟨by rfl,fun w hSw=>?_⟩) hH0 ?_
 rotate_left 1
 ·(try dsimp only at hSw);go_simp;(try with_reducible rfl)
 try simp only[Act.put,List.setIfInBounds_toArray,List.set_cons_zero,List.set_cons_succ]
 refine wpAnyH_take (i:=10) (oi:=⟨some 71,.load 32 (.tmp 70),32,"ref.go:88", #[⟨9,.data⟩,⟨2,.guard⟩],some (2,true)⟩) (v := .agg (AA).toArray) rfl (by kernel_rfl) (by kernel_rfl) (by kernel_rfl) (fun _ _ _ h=>HP _ _ _ _ _ h) (yieldsIf_load_mid (by rfl) _ _ rfl (gl) (m*33) rfl (AA) _ (fun w h=>h.2.1) Tryz.underlying32 rfl hia) hH0 ?_
 try simp only[Act.put,List.setIfInBounds_toArray,List.set_cons_zero,List.set_cons_succ]
 refine wpAnyH_take (i:=11) (oi:=⟨some 72,.load 32 (.tmp 3),32,"ref.go:88", #[⟨2,.guard⟩],some (2,true)⟩) (v := .agg (C).toArray) rfl (by kernel_rfl) (by kernel_rfl) (by kernel_rfl) (fun _ _ _ h=>HP _ _ _ _ _ h) (yieldsIf_load_mid (by rfl) _ _ rfl (hb) (0) rfl (C) _ (fun w h=>h.2.2.1) Tryz.underlying32 rfl hic) hH0 ?_
 try simp only[Act.put,List.setIfInBounds_toArray,List.set_cons_zero,List.set_cons_succ]
 refine tl 12 (v:=?_) rfl (fun _ _ _ h=>HP _ _ _ _ _ h) (Or.inl ⟨by rfl,fun w hSw=>?_⟩) hH0 ?_
 rotate_left 1
 ·(try dsimp only at hSw);go_simp;(try with_reducible rfl)
 try simp only[Act.put,List.setIfInBounds_toArray,List.set_cons_zero,List.set_cons_succ]
 refine tl 13 (v:=?_) rfl (fun _ _ _ h=>HP _ _ _ _ _ h) (Or.inl ⟨by rfl,fun w hSw=>?_⟩) hH0 ?_
 rotate_left 1
 ·(try dsimp only at hSw);go_simp;(try with_reducible rfl)
 try simp only[Act.put,List.setIfInBounds_toArray,List.set_cons_zero,List.set_cons_succ]
 refine dn ?_
 exact HQ.out _ _ _ _ _ _ _ _ _ _ _ _ _ _ hH0
def rsOps9:Array Oper:=#[
 ⟨some 77,.move (.tmp 6),3,"ref.go:91", #[],none⟩,
 ⟨some 78,.binOp .gtr 3 (.tmp 77) (.const (.int .i64 0)) 3,4,"ref.go:91", #[⟨0,.data⟩],none⟩,
 ⟨some 79,.move (.tmp 78),4,"ref.go:91", #[⟨1,.data⟩],none⟩,
 ⟨some 80,.fieldAddr 32 (.tmp 3) 0,0,"ref.go:91", #[⟨2,.guard⟩],some (2,true)⟩,
 ⟨some 81,.load 3 (.tmp 80),3,"ref.go:91", #[⟨3,.data⟩,⟨2,.guard⟩],some (2,true)⟩,
 ⟨some 82,.move (.tmp 0),44,"ref.go:91", #[⟨2,.guard⟩],some (2,true)⟩,
 ⟨some 83,.nilCheck (.tmp 82),0,"ref.go:91", #[⟨5,.data⟩,⟨2,.guard⟩],some (2,true)⟩,
 ⟨some 84,.fieldAddr 97 (.tmp 83) 3,0,"ref.go:91", #[⟨6,.data⟩,⟨2,.guard⟩],some (2,true)⟩,
 ⟨some 85,.load 22 (.tmp 84),22,"ref.go:91", #[⟨7,.data⟩,⟨2,.guard⟩],some (2,true)⟩,
 ⟨some 86,.move (.tmp 6),3,"ref.go:91", #[⟨2,.guard⟩],some (2,true)⟩,
 ⟨some 87,.binOp .sub 3 (.tmp 86) (.const (.int .i64 1)) 3,3,"ref.go:91", #[⟨9,.data⟩,⟨2,.guard⟩],some (2,true)⟩,
 ⟨some 88,.indexAddr 22 (.tmp 85) (.tmp 87),0,"ref.go:91", #[⟨8,.data⟩,⟨10,.data⟩,⟨2,.guard⟩],some (2,true)⟩,
 ⟨some 89,.fieldAddr 32 (.tmp 88) 0,0,"ref.go:91", #[⟨11,.data⟩,⟨2,.guard⟩],some (2,true)⟩,
 ⟨some 90,.load 3 (.tmp 89),3,"ref.go:91", #[⟨12,.data⟩,⟨2,.guard⟩],some (2,true)⟩,
 ⟨some 91,.binOp .leq 3 (.tmp 81) (.tmp 90) 3,4,"ref.go:91", #[⟨4,.data⟩,⟨13,.data⟩,⟨2,.guard⟩],some (2,true)⟩,
 ⟨some 92,.pick (.tmp 79) (.tmp 91) (.const (.bool false)),4,"ref.go:91", #[⟨2,.data⟩,⟨14,.data⟩],none⟩]
theorem rs_r9a {W:World} {q hb:Nat} {Q:Exit->Act->World->Prop} {u1 u2 u4 u5 u7 u8 u9 u10 u11 u12 u13 u14 u15 u16 u17 u18 u19 u20 u21 u22 u23 u24 u25 u26 u27 u28 u29 u30 u31 u32 u33 u34 u35 u36 u37 u38 u39 u40 u41 u42 u43 u44 u45 u46 u47 u48 u49 u50 u51 u52 u53 u54 u55 u56 u57 u58 u59 u60 u61 u62 u63 u64 u65 u66 u67 u68 u69 u70 u71 u72 u73 u74 u75 u76 u77 u78 u79 u80 u81 u82 u83 u84 u85 u86 u87 u88 u89 u90 u91 u92 u93 u94 u95 u96 u97 u98 u99 u100 u101 u102 u103 u104 u105 u106 u107 u108 u109 u110 u111 u112 u113 u114 u115 u116 u117 u118 u119 u120 u121 u122 u123 u124 u125 u126 u127 u128 u129 u130 u131 u132 u133 u134 u135 u136 u137 u138 u139 u140 u141 u142 u143 u144 u145 u146 u147 u148 u149 u150 u151 u152 u153 u154 u155 u156 u157 u158 u159 u160:Value}  (SA:(fun w'=>Kept (fun _=>False) W w') W.drew)
  (HP:∀ c a (k:Nat) v w,Q (.panic c) (Act.put a (some k) v) w->Q (.panic c) a w) (HQ:∀ (v77 v78 v79 v80 v81 v82 v83 v84 v85 v86 v87 v88 v89 v90 v91:Value) (w':World),(fun w'=>Kept (fun _=>False) W w') w'->Q .normal ⟨List.toArray ((.pointer (some ⟨q,0,none⟩))::u1::u2::(.pointer (some ⟨hb,0,none⟩))::u4::u5::(.int .i64 0)::u7::u8::u9::u10::u11::u12::u13::u14::u15::u16::u17::u18::u19::u20::u21::u22::u23::u24::u25::u26::u27::u28::u29::u30::u31::u32::u33::u34::u35::u36::u37::u38::u39::u40::u41::u42::u43::u44::u45::u46::u47::u48::u49::u50::u51::u52::u53::u54::u55::u56::u57::u58::u59::u60::u61::u62::u63::u64::u65::u66::u67::u68::u69::u70::u71::u72::u73::u74::u75::u76::v77::v78::v79::v80::v81::v82::v83::v84::v85::v86::v87::v88::v89::v90::v91::(.bool false)::u93::u94::u95::u96::u97::u98::u99::u100::u101::u102::u103::u104::u105::u106::u107::u108::u109::u110::u111::u112::u113::u114::u115::u116::u117::u118::u119::u120::u121::u122::u123::u124::u125::u126::u127::u128::u129::u130::u131::u132::u133::u134::u135::u136::u137::u138::u139::u140::u141::u142::u143::u144::u145::u146::u147::u148::u149::u150::u151::u152::u153::u154::u155::u156::u157::u158::u159::u160::[]),[]⟩ w') :
  Code.wp Tryz.prog (Code.region 9 rsOps9 true) Q ⟨List.toArray ((.pointer (some ⟨q,0,none⟩))::u1::u2::(.pointer (some ⟨hb,0,none⟩))::u4::u5::(.int .i64 0)::u7::u8::u9::u10::u11::u12::u13::u14::u15::u16::u17::u18::u19::u20::u21::u22::u23::u24::u25::u26::u27::u28::u29::u30::u31::u32::u33::u34::u35::u36::u37::u38::u39::u40::u41::u42::u43::u44::u45::u46::u47::u48::u49::u50::u51::u52::u53::u54::u55::u56::u57::u58::u59::u60::u61::u62::u63::u64::u65::u66::u67::u68::u69::u70::u71::u72::u73::u74::u75::u76::u77::u78::u79::u80::u81::u82::u83::u84::u85::u86::u87::u88::u89::u90::u91::u92::u93::u94::u95::u96::u97::u98::u99::u100::u101::u102::u103::u104::u105::u106::u107::u108::u109::u110::u111::u112::u113::u114::u115::u116::u117::u118::u119::u120::u121::u122::u123::u124::u125::u126::u127::u128::u129::u130::u131::u132::u133::u134::u135::u136::u137::u138::u139::u140::u141::u142::u143::u144::u145::u146::u147::u148::u149::u150::u151::u152::u153::u154::u155::u156::u157::u158::u159::u160::[]),[]⟩ W:=by
 have HQ:=Lib.hid HQ
 unfold rsOps9
 refine wp_region_held_drew (S:=(fun w'=>Kept (fun _=>False) W w')) (by kernel_rfl) SA (fun hH0=>?_)
 refine tl 0 (v:=?_) rfl (fun _ _ _ h=>HP _ _ _ _ _ h) (Or.inl ⟨by rfl,fun w hSw=>?_⟩) hH0 ?_
 rotate_left 1
 ·(try dsimp only at hSw);go_simp;(try with_reducible rfl)
 try simp only[Act.put,List.setIfInBounds_toArray,List.set_cons_zero,List.set_cons_succ]
 refine tl 1 (v:=?_) rfl (fun _ _ _ h=>HP _ _ _ _ _ h) (Or.inl ⟨by rfl,fun w hSw=>?_⟩) hH0 ?_
 rotate_left 1
 ·(try dsimp only at hSw);go_simp;(try with_reducible rfl)
 try simp only[Act.put,List.setIfInBounds_toArray,List.set_cons_zero,List.set_cons_succ]
 refine tl 2 (v:=?_) rfl (fun _ _ _ h=>HP _ _ _ _ _ h) (Or.inl ⟨by rfl,fun w hSw=>?_⟩) hH0 ?_
 rotate_left 1
 ·(try dsimp only at hSw);go_simp;(try with_reducible rfl)
 try simp only[Act.put,List.setIfInBounds_toArray,List.set_cons_zero,List.set_cons_succ]
 refine tl 3 (v:=undef) rfl (fun _ _ _ h=>HP _ _ _ _ _ h) (Or.inr ⟨by rfl,rfl⟩) hH0 ?_
 try simp only[Act.put,List.setIfInBounds_toArray,List.set_cons_zero,List.set_cons_succ]
 refine tl 4 (v:=undef) rfl (fun _ _ _ h=>HP _ _ _ _ _ h) (Or.inr ⟨by rfl,rfl⟩) hH0 ?_
 try simp only[Act.put,List.setIfInBounds_toArray,List.set_cons_zero,List.set_cons_succ]
 refine tl 5 (v:=undef) rfl (fun _ _ _ h=>HP _ _ _ _ _ h) (Or.inr ⟨by rfl,rfl⟩) hH0 ?_
 try simp only[Act.put,List.setIfInBounds_toArray,List.set_cons_zero,List.set_cons_succ]
 refine tl 6 (v:=undef) rfl (fun _ _ _ h=>HP _ _ _ _ _ h) (Or.inr ⟨by rfl,rfl⟩) hH0 ?_
 try simp only[Act.put,List.setIfInBounds_toArray,List.set_cons_zero,List.set_cons_succ]
 refine tl 7 (v:=undef) rfl (fun _ _ _ h=>HP _ _ _ _ _ h) (Or.inr ⟨by rfl,rfl⟩) hH0 ?_
 try simp only[Act.put,List.setIfInBounds_toArray,List.set_cons_zero,List.set_cons_succ]
 refine tl 8 (v:=undef) rfl (fun _ _ _ h=>HP _ _ _ _ _ h) (Or.inr ⟨by rfl,rfl⟩) hH0 ?_
 try simp only[Act.put,List.setIfInBounds_toArray,List.set_cons_zero,List.set_cons_succ]
 refine tl 9 (v:=undef) rfl (fun _ _ _ h=>HP _ _ _ _ _ h) (Or.inr ⟨by rfl,rfl⟩) hH0 ?_
 try simp only[Act.put,List.setIfInBounds_toArray,List.set_cons_zero,List.set_cons_succ]
 refine tl 10 (v:=undef) rfl (fun _ _ _ h=>HP _ _ _ _ _ h) (Or.inr ⟨by rfl,rfl⟩) hH0 ?_
 try simp only[Act.put,List.setIfInBounds_toArray,List.set_cons_zero,List.set_cons_succ]
 refine tl 11 (v:=undef) rfl (fun _ _ _ h=>HP _ _ _ _ _ h) (Or.inr ⟨by rfl,rfl⟩) hH0 ?_
 try simp only[Act.put,List.setIfInBounds_toArray,List.set_cons_zero,List.set_cons_succ]
 refine tl 12 (v:=undef) rfl (fun _ _ _ h=>HP _ _ _ _ _ h) (Or.inr ⟨by rfl,rfl⟩) hH0 ?_
 try simp only[Act.put,List.setIfInBounds_toArray,List.set_cons_zero,List.set_cons_succ]
 refine tl 13 (v:=undef) rfl (fun _ _ _ h=>HP _ _ _ _ _ h) (Or.inr ⟨by rfl,rfl⟩) hH0 ?_
 try simp only[Act.put,List.setIfInBounds_toArray,List.set_cons_zero,List.set_cons_succ]
 refine tl 14 (v:=undef) rfl (fun _ _ _ h=>HP _ _ _ _ _ h) (Or.inr ⟨by rfl,rfl⟩) hH0 ?_
 try simp only[Act.put,List.setIfInBounds_toArray,List.set_cons_zero,List.set_cons_succ]
 refine tl 15 (v:=?_) rfl (fun _ _ _ h=>HP _ _ _ _ _ h) (Or.inl ⟨by rfl,fun w hSw=>?_⟩) hH0 ?_
 rotate_left 1
 ·(try dsimp only at hSw);go_simp;(try with_reducible rfl)
 try simp only[Act.put,List.setIfInBounds_toArray,List.set_cons_zero,List.set_cons_succ]
 refine dn ?_
 exact HQ.out _ _ _ _ _ _ _ _ _ _ _ _ _ _ _ _ hH0
theorem rs_r9b {W:World} {q hb gl m vc:Nat} {size y:Int} {bb:Bool} {Q:Exit->Act->World->Prop} {u1 u2 u4 u5 u7 u8 u9 u10 u11 u12 u13 u14 u15 u16 u17 u18 u19 u20 u21 u22 u23 u24 u25 u26 u27 u28 u29 u30 u31 u32 u33 u34 u35 u36 u37 u38 u39 u40 u41 u42 u43 u44 u45 u46 u47 u48 u49 u50 u51 u52 u53 u54 u55 u56 u57 u58 u59 u60 u61 u62 u63 u64 u65 u66 u67 u68 u69 u70 u71 u72 u73 u74 u75 u76 u77 u78 u79 u80 u81 u82 u83 u84 u85 u86 u87 u88 u89 u90 u91 u92 u93 u94 u95 u96 u97 u98 u99 u100 u101 u102 u103 u104 u105 u106 u107 u108 u109 u110 u111 u112 u113 u114 u115 u116 u117 u118 u119 u120 u121 u122 u123 u124 u125 u126 u127 u128 u129 u130 u131 u132 u133 u134 u135 u136 u137 u138 u139 u140 u141 u142 u143 u144 u145 u146 u147 u148 u149 u150 u151 u152 u153 u154 u155 u156 u157 u158 u159 u160:Value} (hle:decide (size<=y)=bb) (q1:IntKind.i64.wrap (((m+1:Nat):Int)-1)=(m:Int)) (q1':IntKind.i64.wrap ((m:Int)+1-1)=(m:Int)) (q1b:IntKind.i64.wrap (m:Int)=(m:Int)) (q2:m<m+1) (q4:(m:Int)<(m:Int)+1) (q3:decide ((0:Int)<((m+1:Nat):Int))=true) (q3':decide ((0:Int)<(m:Int)+1)=true) (SA:(fun w'=>w'.cell? ⟨hb,0,none⟩=some (.int .i64 size)/\w'.cell? ⟨q,3,none⟩=some (.slice (some ⟨gl,0,none⟩) (m+1) vc)/\w'.cell? ⟨gl,m*33,none⟩=some (.int .i64 y)/\Kept (fun _=>False) W w') W.drew)
  (HP:∀ c a (k:Nat) v w,Q (.panic c) (Act.put a (some k) v) w->Q (.panic c) a w) (HQ:∀ (v77 v78 v79 v80 v81 v82 v83 v84 v85 v86 v87 v88 v89 v90 v91:Value) (w':World),(fun w'=>w'.cell? ⟨hb,0,none⟩=some (.int .i64 size)/\w'.cell? ⟨q,3,none⟩=some (.slice (some ⟨gl,0,none⟩) (m+1) vc)/\w'.cell? ⟨gl,m*33,none⟩=some (.int .i64 y)/\Kept (fun _=>False) W w') w'->Q .normal ⟨List.toArray ((.pointer (some ⟨q,0,none⟩))::u1::u2::(.pointer (some ⟨hb,0,none⟩))::u4::u5::(.int .i64 ((m+1:Nat):Int))::u7::u8::u9::u10::u11::u12::u13::u14::u15::u16::u17::u18::u19::u20::u21::u22::u23::u24::u25::u26::u27::u28::u29::u30::u31::u32::u33::u34::u35::u36::u37::u38::u39::u40::u41::u42::u43::u44::u45::u46::u47::u48::u49::u50::u51::u52::u53::u54::u55::u56::u57::u58::u59::u60::u61::u62::u63::u64::u65::u66::u67::u68::u69::u70::u71::u72::u73::u74::u75::u76::v77::v78::v79::v80::v81::v82::v83::v84::v85::v86::v87::v88::v89::v90::v91::(.bool bb)::u93::u94::u95::u96::u97::u98::u99::u100::u101::u102::u103::u104::u105::u106::u107::u108::u109::u110::u111::u112::u113::u114::u115::u116::u117::u118::u119::u120::u121::u122::u123::u124::u125::u126::u127::u128::u129::u130::u131::u132::u133::u134::u135::u136::u137::u138::u139::u140::u141::u142::u143::u144::u145::u146::u147::u148::u149::u150::u151::u152::u153::u154::u155::u156::u157::u158::u159::u160::[]),[]⟩ w') :
  Code.wp Tryz.prog (Code.region 9 rsOps9 true) Q ⟨List.toArray ((.pointer (some ⟨q,0,none⟩))::u1::u2::(.pointer (some ⟨hb,0,none⟩))::u4::u5::(.int .i64 ((m+1:Nat):Int))::u7::u8::u9::u10::u11::u12::u13::u14::u15::u16::u17::u18::u19::u20::u21::u22::u23::u24::u25::u26::u27::u28::u29::u30::u31::u32::u33::u34::u35::u36::u37::u38::u39::u40::u41::u42::u43::u44::u45::u46::u47::u48::u49::u50::u51::u52::u53::u54::u55::u56::u57::u58::u59::u60::u61::u62::u63::u64::u65::u66::u67::u68::u69::u70::u71::u72::u73::u74::u75::u76::u77::u78::u79::u80::u81::u82::u83::u84::u85::u86::u87::u88::u89::u90::u91::u92::u93::u94::u95::u96::u97::u98::u99::u100::u101::u102::u103::u104::u105::u106::u107::u108::u109::u110::u111::u112::u113::u114::u115::u116::u117::u118::u119::u120::u121::u122::u123::u124::u125::u126::u127::u128::u129::u130::u131::u132::u133::u134::u135::u136::u137::u138::u139::u140::u141::u142::u143::u144::u145::u146::u147::u148::u149::u150::u151::u152::u153::u154::u155::u156::u157::u158::u159::u160::[]),[]⟩ W:=by
 have HQ:=Lib.hid HQ
 unfold rsOps9
 refine wp_region_held_drew (S:=(fun w'=>w'.cell? ⟨hb,0,none⟩=some (.int .i64 size)/\w'.cell? ⟨q,3,none⟩=some (.slice (some ⟨gl,0,none⟩) (m+1) vc)/\w'.cell? ⟨gl,m*33,none⟩=some (.int .i64 y)/\Kept (fun _=>False) W w')) (by kernel_rfl) SA (fun hH0=>?_)
 refine tl 0 (v:=?_) rfl (fun _ _ _ h=>HP _ _ _ _ _ h) (Or.inl ⟨by rfl,fun w hSw=>?_⟩) hH0 ?_
 rotate_left 1
 ·(try dsimp only at hSw);go_simp;(try with_reducible rfl)
 try simp only[Act.put,List.setIfInBounds_toArray,List.set_cons_zero,List.set_cons_succ]
 refine tl 1 (v:=?_) rfl (fun _ _ _ h=>HP _ _ _ _ _ h) (Or.inl ⟨by rfl,fun w hSw=>?_⟩) hH0 ?_
 rotate_left 1
 ·(try dsimp only at hSw);go_simp;(try with_reducible rfl)
 try simp only[Act.put,List.setIfInBounds_toArray,List.set_cons_zero,List.set_cons_succ]
 refine tl 2 (v:=?_) rfl (fun _ _ _ h=>HP _ _ _ _ _ h) (Or.inl ⟨by rfl,fun w hSw=>?_⟩) hH0 ?_
 rotate_left 1
 ·(try dsimp only at hSw);go_simp;(try with_reducible rfl)
 try simp only[Act.put,List.setIfInBounds_toArray,List.set_cons_zero,List.set_cons_succ]
 refine tl 3 (v:=?_) rfl (fun _ _ _ h=>HP _ _ _ _ _ h) (Or.inl ⟨by rfl,fun w hSw=>?_⟩) hH0 ?_
 rotate_left 1
 ·(try dsimp only at hSw);go_simp;(try with_reducible rfl)
 try simp only[Act.put,List.setIfInBounds_toArray,List.set_cons_zero,List.set_cons_succ]
 refine tl 4 (v:=?_) rfl (fun _ _ _ h=>HP _ _ _ _ _ h) (Or.inl ⟨by rfl,fun w hSw=>?_⟩) hH0 ?_
 rotate_left 1
 ·obtain⟨s0,s1,s2,s3⟩:=hSw;go_simp;(try with_reducible rfl)
 try simp only[Act.put,List.setIfInBounds_toArray,List.set_cons_zero,List.set_cons_succ]
 refine tl 5 (v:=?_) rfl (fun _ _ _ h=>HP _ _ _ _ _ h) (Or.inl ⟨by rfl,fun w hSw=>?_⟩) hH0 ?_
 rotate_left 1
 ·(try dsimp only at hSw);go_simp;(try with_reducible rfl)
 try simp only[Act.put,List.setIfInBounds_toArray,List.set_cons_zero,List.set_cons_succ]
 refine tl 6 (v:=?_) rfl (fun _ _ _ h=>HP _ _ _ _ _ h) (Or.inl ⟨by rfl,fun w hSw=>?_⟩) hH0 ?_
 rotate_left 1
 ·(try dsimp only at hSw);go_simp;(try with_reducible rfl)
 try simp only[Act.put,List.setIfInBounds_toArray,List.set_cons_zero,List.set_cons_succ]
 refine tl 7 (v:=?_) rfl (fun _ _ _ h=>HP _ _ _ _ _ h) (Or.inl ⟨by rfl,fun w hSw=>?_⟩) hH0 ?_
 rotate_left 1
 ·(try dsimp only at hSw);go_simp;(try with_reducible rfl)
 try simp only[Act.put,List.setIfInBounds_toArray,List.set_cons_zero,List.set_cons_succ]
 refine tl 8 (v:=?_) rfl (fun _ _ _ h=>HP _ _ _ _ _ h) (Or.inl ⟨by rfl,fun w hSw=>?_⟩) hH0 ?_
 rotate_left 1
 ·obtain⟨s0,s1,s2,s3⟩:=hSw;go_simp;(try with_reducible rfl)
 try simp only[Act.put,List.setIfInBounds_toArray,List.set_cons_zero,List.set_cons_succ]
 refine tl 9 (v:=?_) rfl (fun _ _ _ h=>HP _ _ _ _ _ h) (Or.inl ⟨by rfl,fun w hSw=>?_⟩) hH0 ?_
 rotate_left 1
 ·(try dsimp only at hSw);go_simp;(try with_reducible rfl)
 try simp only[Act.put,List.setIfInBounds_toArray,List.set_cons_zero,List.set_cons_succ]
 refine tl 10 (v:=?_) rfl (fun _ _ _ h=>HP _ _ _ _ _ h) (Or.inl ⟨by rfl,fun w hSw=>?_⟩) hH0 ?_
 rotate_left 1
 ·(try dsimp only at hSw);go_simp;(try with_reducible rfl)
 try simp only[Act.put,List.setIfInBounds_toArray,List.set_cons_zero,List.set_cons_succ]
 refine tl 11 (v:=?_) rfl (fun _ _ _ h=>HP _ _ _ _ _ h) (Or.inl ⟨by rfl,fun w hSw=>?_⟩) hH0 ?_
 rotate_left 1
 ·(try dsimp only at hSw);go_simp;(try with_reducible rfl)
 try simp only[Act.put,List.setIfInBounds_toArray,List.set_cons_zero,List.set_cons_succ]
 refine tl 12 (v:=?_) rfl (fun _ _ _ h=>HP _ _ _ _ _ h) (Or.inl ⟨by rfl,fun w hSw=>?_⟩) hH0 ?_
 rotate_left 1
 ·(try dsimp only at hSw);go_simp;(try with_reducible rfl)
 try simp only[Act.put,List.setIfInBounds_toArray,List.set_cons_zero,List.set_cons_succ]
 refine tl 13 (v:=?_) rfl (fun _ _ _ h=>HP _ _ _ _ _ h) (Or.inl ⟨by rfl,fun w hSw=>?_⟩) hH0 ?_
 rotate_left 1
 ·obtain⟨s0,s1,s2,s3⟩:=hSw;go_simp;(try with_reducible rfl)
 try simp only[Act.put,List.setIfInBounds_toArray,List.set_cons_zero,List.set_cons_succ]
 refine tl 14 (v:=?_) rfl (fun _ _ _ h=>HP _ _ _ _ _ h) (Or.inl ⟨by rfl,fun w hSw=>?_⟩) hH0 ?_
 rotate_left 1
 ·(try dsimp only at hSw);go_simp;(try with_reducible rfl)
 try simp only[Act.put,List.setIfInBounds_toArray,List.set_cons_zero,List.set_cons_succ]
 refine tl 15 (v:=?_) rfl (fun _ _ _ h=>HP _ _ _ _ _ h) (Or.inl ⟨by rfl,fun w hSw=>?_⟩) hH0 ?_
 rotate_left 1
 ·(try dsimp only at hSw);go_simp;(try with_reducible rfl)
 try simp only[Act.put,List.setIfInBounds_toArray,List.set_cons_zero,List.set_cons_succ]
 refine dn ?_
 exact HQ.out _ _ _ _ _ _ _ _ _ _ _ _ _ _ _ _ hH0
theorem heads_copy {W:World} {v:Value} {L:List Hd} (hrow:Row W 32 33 v (hdC L)) (h32:∀ x∈L,x.2.length=32) (hl:L.length<=1000) :
  ∃ a n c w',(Builtin.append_ #[22,22] 22 #[.slice none 0 0,v]).run Tryz.prog W = .ok (.slice a n c) w'/\Row w' 32 33 (.slice a n c) (hdC L)/\Kept (fun _=>False) W w'/\∀ k,(Value.slice a n c).ownBlock=some k->W.heap.size<=k:=by
 obtain⟨i0,hi,hz0,hz1,hz2⟩:=info_parts info_head3
 obtain⟨v',w',hr,hrow2,hk,ho⟩:=(Row.nil W 32 33).append_view (P:=Tryz.prog) (t:=22) hrow.view Tryz.underlying22 hi hz0 hz1 (by show(Value.int .i64 0::zeros 32).toArray.size=33;rw[List.size_toArray,List.length_cons,zeros_len]) (by omega) (by omega) (fun u hu=>by
  unfold hdC at hu
  obtain⟨y,_,hy⟩:=List.mem_flatMap.1 hu
  exact head_oneCell u hy) (by rw[hdC_len h32];simp;omega) 22
 rw[List.nil_append]at hrow2
 obtain⟨a,n,c,rfl,-⟩:=hrow2.form (by omega)
 refine⟨a,n,c,w',hr,hrow2,hk.mono (fun k _ e=>by simp[Value.ownBlock]at e),fun k e=>?_⟩
 rcases ho k e with q|q
 ·simp[Value.ownBlock]at q
 ·exact q
theorem heads_put {W:World} {v:Value} {L:List Hd} {b:Nat} (hrow:Row W 32 33 v (hdC L)) (h32:∀ x∈L,x.2.length=32) (hl:L.length<=1000) (h:Hd) (hh:h.2.length=32) (hb:Blk W b (headC (h.1:Int) h.2) 32) :
  ∃ a n c w',(Builtin.append_ #[22,22] 22 #[v,.slice (some ⟨b,0,none⟩) 1 1]).run Tryz.prog W = .ok (.slice a n c) w'/\Row w' 32 33 (.slice a n c) (hdC (L++[h]))/\Kept (fun k=>v.ownBlock=some k) W w'/\∀ k,(Value.slice a n c).ownBlock=some k->v.ownBlock=some k\/W.heap.size<=k:=by
 obtain⟨i0,hi,hz0,hz1,hz2⟩:=info_parts info_head3
 have hlen:=headC_len (size:=(h.1:Int)) hh
 obtain⟨v',w',hr,hrow2,hk,ho⟩:=hrow.append_cells (P:=Tryz.prog) (t:=22) Tryz.underlying22 hi hz0 hz1 (by show(Value.int .i64 0::zeros 32).toArray.size=33;rw[List.size_toArray,List.length_cons,zeros_len]) (by omega) (by omega) ⟨b,0,none⟩ 1 1 (headC (h.1:Int) h.2) (by rw[hlen]) (fun j u hu=>by rw[addr0_add];exact hb.cell hu) head_oneCell (by omega) (by rw[hdC_len h32,hlen];omega) 22
 rw[<- hdC_snoc]at hrow2
 obtain⟨a,n,c,rfl,-⟩:=hrow2.form (by omega)
 exact⟨a,n,c,w',hr,hrow2,hk,ho⟩
abbrev S20 (W w':World) (q hb:Nat) (C:List Value):Prop:=w'.rangeAt hb 0 C/\Kept (· = q) W w'
theorem s20_next {W w1 w2:World} {q hb:Nat} {C:List Value} (h:S20 W w1 q hb C) (hl:hb<W.heap.size) (k:Kept (fun _=>False) w1 w2):S20 W w2 q hb C:=⟨rangeAt_kept h.1 k (Nat.lt_of_lt_of_le hl h.2.size) id,h.2.then_ k (fun _ _=>False.elim)⟩
theorem s20_set {W w1:World} {q hb:Nat} {C:List Value} (h:S20 W w1 q hb C) (hl:hb<W.heap.size) (hne:hb≠q) (i:Nat) (v:Value):S20 W (w1.setCell ⟨q,i,none⟩ v) q hb C:=⟨rangeAt_kept h.1 (kept_cell w1 q i v) (Nat.lt_of_lt_of_le hl h.2.size) hne,h.2.then_ (kept_cell w1 q i v) (fun _ _ e=>e)⟩
abbrev S21 (W w':World) (q hb:Nat) (seed:ByteArray) (ks:Value) (C:List Value):Prop:=w'.cell? ⟨q,1,none⟩=some (.string seed)/\w'.cell? ⟨q,2,none⟩=some ks/\w'.rangeAt hb 0 C/\Kept (fun _=>False) W w'
theorem s21_next {W w1 w2:World} {q hb:Nat} {seed:ByteArray} {ks:Value} {C:List Value} (h:S21 W w1 q hb seed ks C) (hl:hb<W.heap.size) (k:Kept (fun _=>False) w1 w2):S21 W w2 q hb seed ks C:=⟨k.cell h.1 id,k.cell h.2.1 id,rangeAt_kept h.2.2.1 k (Nat.lt_of_lt_of_le hl h.2.2.2.size) id,h.2.2.2.trans k⟩
theorem s21_set {W w1:World} {q hb sb:Nat} {seed:ByteArray} {ks:Value} {C:List Value} (h:S21 W w1 q hb seed ks C) (hl:hb<W.heap.size) (hs:W.heap.size<=sb) (hq:q<W.heap.size) (a b c:Value):S21 W (((w1.setCell ⟨sb,0,none⟩ a).setCell ⟨sb,1,none⟩ b).setCell ⟨sb,2,none⟩ c) q hb seed ks C:=by
 have k:Kept (· = sb) w1 (((w1.setCell ⟨sb,0,none⟩ a).setCell ⟨sb,1,none⟩ b).setCell ⟨sb,2,none⟩ c):=((kept_cell w1 sb 0 a).trans (kept_cell _ sb 1 b)).trans (kept_cell _ sb 2 c)
 exact⟨k.cell h.1 (by show ¬ q=sb;omega),k.cell h.2.1 (by show ¬ q=sb;omega),rangeAt_kept h.2.2.1 k (Nat.lt_of_lt_of_le hl h.2.2.2.size) (by omega),h.2.2.2.then_ k (fun i hi e=>by omega)⟩
def rsOps20:Array Oper:=#[
 ⟨some 131,.move (.tmp 0),44,"ref.go:106", #[],none⟩,
 ⟨some 132,.move (.tmp 0),44,"ref.go:106", #[],none⟩,
 ⟨some 133,.nilCheck (.tmp 132),0,"ref.go:106", #[⟨1,.data⟩],none⟩,
 ⟨some 134,.fieldAddr 97 (.tmp 133) 3,0,"ref.go:106", #[⟨2,.data⟩],none⟩,
 ⟨some 135,.load 22 (.tmp 134),22,"ref.go:106", #[⟨3,.data⟩],none⟩,
 ⟨some 136,.call { callee := .builtin .append,args := #[.const (.slice none 0 0),.tmp 135],argTypes := #[22,22] },22,"ref.go:106", #[⟨4,.data⟩],none⟩,
 ⟨some 137,.load 32 (.tmp 3),32,"ref.go:106", #[],none⟩,
 ⟨some 138,.buildSlice 22 1 #[(0,.tmp 137)],22,"ref.go:106", #[⟨6,.data⟩],none⟩,
 ⟨some 139,.call { callee := .builtin .append,args := #[.tmp 136,.tmp 138],argTypes := #[22,22] },22,"ref.go:106", #[⟨5,.data⟩,⟨7,.data⟩,⟨5,.chain⟩],none⟩,
 ⟨some 140,.nilCheck (.tmp 131),0,"ref.go:106", #[⟨0,.data⟩,⟨0,.phase⟩,⟨1,.phase⟩,⟨2,.phase⟩,⟨3,.phase⟩,⟨4,.phase⟩,⟨5,.phase⟩,⟨6,.phase⟩,⟨7,.phase⟩,⟨8,.phase⟩],none⟩,
 ⟨some 141,.fieldAddr 97 (.tmp 140) 3,0,"ref.go:106", #[⟨9,.data⟩,⟨0,.phase⟩,⟨1,.phase⟩,⟨2,.phase⟩,⟨3,.phase⟩,⟨4,.phase⟩,⟨5,.phase⟩,⟨6,.phase⟩,⟨7,.phase⟩,⟨8,.phase⟩],none⟩,
 ⟨none,.store 22 (.tmp 141) (.tmp 139),0,"ref.go:106", #[⟨10,.data⟩,⟨8,.data⟩,⟨8,.chain⟩,⟨0,.phase⟩,⟨1,.phase⟩,⟨2,.phase⟩,⟨3,.phase⟩,⟨4,.phase⟩,⟨5,.phase⟩,⟨6,.phase⟩,⟨7,.phase⟩,⟨8,.phase⟩],none⟩]
theorem rs_r20 {W:World} {q hb:Nat} {h:Hd} {L:List Hd} {v:Value} {cq:List Value} {tq:TypeId} {Q:Exit->Act->World->Prop} {u1 u2 u4 u5 u6 u7 u8 u9 u10 u11 u12 u13 u14 u15 u16 u17 u18 u19 u20 u21 u22 u23 u24 u25 u26 u27 u28 u29 u30 u31 u32 u33 u34 u35 u36 u37 u38 u39 u40 u41 u42 u43 u44 u45 u46 u47 u48 u49 u50 u51 u52 u53 u54 u55 u56 u57 u58 u59 u60 u61 u62 u63 u64 u65 u66 u67 u68 u69 u70 u71 u72 u73 u74 u75 u76 u77 u78 u79 u80 u81 u82 u83 u84 u85 u86 u87 u88 u89 u90 u91 u92 u93 u94 u95 u96 u97 u98 u99 u100 u101 u102 u103 u104 u105 u106 u107 u108 u109 u110 u111 u112 u113 u114 u115 u116 u117 u118 u119 u120 u121 u122 u123 u124 u125 u126 u127 u128 u129 u130 u131 u132 u133 u134 u135 u136 u137 u138 u139 u140 u141 u142 u143 u144 u145 u146 u147 u148 u149 u150 u151 u152 u153 u154 u155 u156 u157 u158 u159 u160:Value} (hrow:Row W 32 33 v (hdC L)) (h32:∀ x∈L,x.2.length=32) (hl:L.length<=1000) (hh:h.2.length=32) (hrg:W.rangeAt hb 0 (headC (h.1:Int) h.2)) (hhb:hb<W.heap.size) (hne:hb≠q) (hc3:W.cell? ⟨q,3,none⟩=some v) (hq:Blk W q cq tq)
  (HP:∀ c a (k:Nat) v w,Q (.panic c) (Act.put a (some k) v) w->Q (.panic c) a w) (HQ:∀ (v131 v132 v133 v134 v135 v136 v137 v138 v139 v140 v141:Value) (w':World),(fun w'=>∃ v' w7,w'=w7.setCell ⟨q,3,none⟩ v'/\Row w7 32 33 v' (hdC (L++[h]))/\(∀ k,v'.ownBlock=some k->W.heap.size<=k)/\Kept (fun _=>False) W w7) w'->Q .normal ⟨List.toArray ((.pointer (some ⟨q,0,none⟩))::u1::u2::(.pointer (some ⟨hb,0,none⟩))::u4::u5::u6::u7::u8::u9::u10::u11::u12::u13::u14::u15::u16::u17::u18::u19::u20::u21::u22::u23::u24::u25::u26::u27::u28::u29::u30::u31::u32::u33::u34::u35::u36::u37::u38::u39::u40::u41::u42::u43::u44::u45::u46::u47::u48::u49::u50::u51::u52::u53::u54::u55::u56::u57::u58::u59::u60::u61::u62::u63::u64::u65::u66::u67::u68::u69::u70::u71::u72::u73::u74::u75::u76::u77::u78::u79::u80::u81::u82::u83::u84::u85::u86::u87::u88::u89::u90::u91::u92::u93::u94::u95::u96::u97::u98::u99::u100::u101::u102::u103::u104::u105::u106::u107::u108::u109::u110::u111::u112::u113::u114::u115::u116::u117::u118::u119::u120::u121::u122::u123::u124::u125::u126::u127::u128::u129::u130::v131::v132::v133::v134::v135::v136::v137::v138::v139::v140::v141::u142::u143::u144::u145::u146::u147::u148::u149::u150::u151::u152::u153::u154::u155::u156::u157::u158::u159::u160::[]),[]⟩ w') :
  Code.wp Tryz.prog (Code.region 20 rsOps20 true) Q ⟨List.toArray ((.pointer (some ⟨q,0,none⟩))::u1::u2::(.pointer (some ⟨hb,0,none⟩))::u4::u5::u6::u7::u8::u9::u10::u11::u12::u13::u14::u15::u16::u17::u18::u19::u20::u21::u22::u23::u24::u25::u26::u27::u28::u29::u30::u31::u32::u33::u34::u35::u36::u37::u38::u39::u40::u41::u42::u43::u44::u45::u46::u47::u48::u49::u50::u51::u52::u53::u54::u55::u56::u57::u58::u59::u60::u61::u62::u63::u64::u65::u66::u67::u68::u69::u70::u71::u72::u73::u74::u75::u76::u77::u78::u79::u80::u81::u82::u83::u84::u85::u86::u87::u88::u89::u90::u91::u92::u93::u94::u95::u96::u97::u98::u99::u100::u101::u102::u103::u104::u105::u106::u107::u108::u109::u110::u111::u112::u113::u114::u115::u116::u117::u118::u119::u120::u121::u122::u123::u124::u125::u126::u127::u128::u129::u130::u131::u132::u133::u134::u135::u136::u137::u138::u139::u140::u141::u142::u143::u144::u145::u146::u147::u148::u149::u150::u151::u152::u153::u154::u155::u156::u157::u158::u159::u160::[]),[]⟩ W:=by
 have HQ:=Lib.hid HQ
 unfold rsOps20
 obtain⟨C,hC⟩:∃ C,headC (h.1:Int) h.2=C:=⟨_,rfl⟩
 have hf2:=fold_head (size:=(h.1:Int)) hh
 rw[hC]at hf2 hrg
 simp only[zeros,List.replicate]at hf2
 have HFO:=Lib.hid hf2
 have lC:C.length=33:=by rw[<- hC];exact headC_len hh
 have HI:=Lib.hid (show(Tryz.prog.info? 32).map (·.size)=some C.length by rw[lC];exact info_head)
 have hk0:Kept (fun _=>False) W W.drew:=(Kept.refl _ _).drew
 have hk0q:Kept (· = q) W W.drew:=hk0.mono (fun _ _=>False.elim)
 have hrow0:=hrow.kept hk0 (fun _ _=>id)
 have c30:=hk0.cell hc3 id
 obtain⟨a1,n1,c1,w1,r1,row1,k1,o1⟩:=heads_copy hrow0 h32 hl
 have hkA:Kept (fun _=>False) W.drew (W.drew.alloc (.cells C.toArray 32)):=(Kept.refl _ _).alloc _
 obtain⟨a3,n3,c3,w3,r3,row3,k3,o3⟩:=heads_copy (hrow0.kept hkA (fun _ _=>id)) h32 hl
 have hbA:Blk (w1.alloc (.cells C.toArray 32)) w1.heap.size (headC (h.1:Int) h.2) 32:=by rw[hC];exact Blk.new w1 C 32
 have hbB:Blk w3 W.drew.heap.size (headC (h.1:Int) h.2) 32:=by rw[hC];exact(Blk.new W.drew C 32).kept k3 id
 have kal:Kept (fun _=>False) w1 (w1.alloc (.cells C.toArray 32)):=(Kept.refl _ _).alloc _
 obtain⟨a2,n2,c2,w2,r2,row2,k2,o2⟩:=heads_put (row1.kept kal (fun _ _=>id)) h32 hl h hh hbA
 obtain⟨a4,n4,c4,w4,r4,row4,k4,o4⟩:=heads_put row3 h32 hl h hh hbB
 have hz0:=hk0.size
 have hzA:=k1.size
 have hzB:=k3.size
 have hzB0:=hkA.size
 have hzC:=kal.size
 have kA:Kept (fun _=>False) W w2:=((hk0.trans k1).trans kal).then_ k2 (fun i hi e=>by have:=o1 i e;omega)
 have kB:Kept (fun _=>False) W w4:=((hk0.trans hkA).trans k3).then_ k4 (fun i hi e=>by have:=o3 i e;omega)
 have oA:∀ k,(Value.slice a2 n2 c2).ownBlock=some k->W.heap.size<=k:=fun k e=>by
  rcases o2 k e with z|z
  ·have:=o1 k z;omega
  ·omega
 have oB:∀ k,(Value.slice a4 n4 c4).ownBlock=some k->W.heap.size<=k:=fun k e=>by
  rcases o4 k e with z|z
  ·have:=o3 k z;omega
  ·omega
 have HC3:=Lib.hid c30
 have HC3b:=Lib.hid (hkA.cell c30 id)
 have HA1:=Lib.hid (And.intro r1 trivial)
 have HB1:=Lib.hid (And.intro r3 trivial)
 have HA2:=Lib.hid (show _/\w2.cell? ⟨q,3,none⟩=some v/\w2.frozen? ⟨q,3,none⟩=false/\Row w2 32 33 (.slice a2 n2 c2) (hdC (L++[h]))/\(∀ k,(Value.slice a2 n2 c2).ownBlock=some k->W.heap.size<=k)/\Kept (fun _=>False) W w2 from⟨r2,kA.cell hc3 id,(hq.kept kA id).free 3,row2,oA,kA⟩)
 have HB2:=Lib.hid (show _/\w4.cell? ⟨q,3,none⟩=some v/\w4.frozen? ⟨q,3,none⟩=false/\Row w4 32 33 (.slice a4 n4 c4) (hdC (L++[h]))/\(∀ k,(Value.slice a4 n4 c4).ownBlock=some k->W.heap.size<=k)/\Kept (fun _=>False) W w4 from⟨r4,kB.cell hc3 id,(hq.kept kB id).free 3,row4,oB,kB⟩)
 have hSof:∀ X,Kept (fun _=>False) W X->S20 W X q hb C:=fun X hk=>⟨rangeAt_kept hrg hk hhb id,hk.mono (fun _ _=>False.elim)⟩
 have HS20:=Lib.hid (show ∀ X,(X=w1\/X=w3\/X=w2\/X=w4)->S20 W X q hb C from by
  rintro X (rfl|rfl|rfl|rfl)
  ·exact hSof _ (hk0.trans k1)
  ·exact hSof _ ((hk0.trans hkA).trans k3)
  ·exact hSof _ kA
  ·exact hSof _ kB)
 have SA:S20 W W.drew q hb C:=hSof _ hk0
 obtain⟨va,vn,vc,rfl,-⟩:=hrow.form (by omega)
 clear r1 r2 r3 r4 row1 row2 row3 row4 k1 k2 k3 k4 o1 o2 o3 o4 kA kB oA oB hbA hbB kal hkA hSof hrow0 c30 hrg hc3 hf2 hk0 hk0q hrow h32 hq
 refine wp_region_held_drew (S:=(fun w'=>S20 W w' q hb C)) (by kernel_rfl) SA (fun hH0=>?_)
 generalize World.drew W=W0 at *
 refine tk 0 rfl (HP · · _ _ ·) hH0 ?_
 refine tk 1 rfl (HP · · _ _ ·) hH0 ?_
 refine tk 2 rfl (HP · · _ _ ·) hH0 ?_
 refine tk 3 rfl (HP · · _ _ ·) hH0 ?_
 refine tky 6 rfl (HP · · _ _ ·) (yieldsIf_load_mid (by rfl) _ _ rfl (hb) (0) rfl (C) _ (fun w z=>z.1) Tryz.underlying32 rfl HI.out) hH0 ?_
 refine wpAnyH_ready (rs:=[4,7]) (by kernel_rfl) (by simp) ?_
 refine AllReadyH.cons (o:=⟨some 135,.load 22 (.tmp 134),22,"ref.go:106", #[⟨3,.data⟩],none⟩) rfl (fun K hK=>?_) ?_
 ·have c3x:=HC3.out
  have c3y:=HC3b.out
  go_simp
  refine hK.out _ _ (hH0) (fun hH1=>?_)
  clear hK K
  try simp only[lyA,lyB,lyC,lyD]
  refine wpAnyH_ready (rs:=[5,7]) (by kernel_rfl) (by simp) ?_
  refine AllReadyH.cons (o:=⟨some 136,.call { callee := .builtin .append,args := #[.const (.slice none 0 0),.tmp 135],argTypes := #[22,22] },22,"ref.go:106", #[⟨4,.data⟩],none⟩) rfl (fun K hK=>?_) ?_
  ·first|(refine step_append_run rfl _ _ 22 22 rfl _ _ rfl rfl _ _ HA1.out.1 ?_;clear HA1 HB1 HB2)|(refine step_append_run rfl _ _ 22 22 rfl _ _ rfl rfl _ _ HB1.out.1 ?_;clear HB1)
   refine hK.out _ _ (HS20.out _ (by first|exact Or.inl rfl|exact Or.inr (Or.inl rfl))) (fun hH2=>?_)
   clear hK K
   try simp only[lyA,lyB,lyC,lyD]
   refine rd1 7 (fun K hK=>?_)
   have hfo:=HFO.out
   go_simp
   refine hK.out _ _ (s20_next hH2 hhb ((Kept.refl _ _).alloc _)) (fun hH3=>?_)
   clear hK K
   try simp only[lyA,lyB,lyC,lyD]
   first|clear HA1 HA2|skip
   refine rd1 8 (fun K hK=>?_)
   first|refine step_append_run rfl _ _ 22 22 rfl _ _ rfl rfl _ _ HA2.out.1 ?_|refine step_append_run rfl _ _ 22 22 rfl _ _ rfl rfl _ _ HB2.out.1 ?_
   refine hK.out _ _ (HS20.out _ (by first|exact Or.inr (Or.inr (Or.inl rfl))|exact Or.inr (Or.inr (Or.inr rfl)))) (fun hH4=>?_)
   clear hK K
   try simp only[lyA,lyB,lyC,lyD]
   refine tk 9 rfl (HP · · _ _ ·) hH4 ?_
   refine tk 10 rfl (HP · · _ _ ·) hH4 ?_
   refine rd1 11 (fun K hK=>?_)
   try have c8a:=HA2.out.2.1
   try have f8a:=HA2.out.2.2.1
   try have c8b:=HB2.out.2.1
   try have f8b:=HB2.out.2.2.1
   go_simp
   refine hK.out _ _ (s20_set hH4 hhb hne _ _) (fun hH5=>?_)
   clear hK K
   try simp only[lyA,lyB,lyC,lyD]
   refine dn ?_
   first
    | exact HQ.out _ _ _ _ _ _ _ _ _ _ _ _ ⟨_,_,rfl,HA2.out.2.2.2⟩
    | exact HQ.out _ _ _ _ _ _ _ _ _ _ _ _ ⟨_,_,rfl,HB2.out.2.2.2⟩
  refine AllReadyH.cons (o:=⟨some 138,.buildSlice 22 1 #[(0,.tmp 137)],22,"ref.go:106", #[⟨6,.data⟩],none⟩) rfl (fun K hK=>?_) AllReadyH.nil
  have hfo:=HFO.out
  go_simp
  refine hK.out _ _ (s20_next hH1 hhb ((Kept.refl _ _).alloc _)) (fun hH2=>?_)
  clear hK K
  try simp only[lyA,lyB,lyC,lyD]
  first|clear HA1 HA2|skip
  refine rd1 5 (fun K hK=>?_)
  first|(refine step_append_run rfl _ _ 22 22 rfl _ _ rfl rfl _ _ HA1.out.1 ?_;clear HA1 HB1 HB2)|(refine step_append_run rfl _ _ 22 22 rfl _ _ rfl rfl _ _ HB1.out.1 ?_;clear HB1)
  refine hK.out _ _ (HS20.out _ (by first|exact Or.inl rfl|exact Or.inr (Or.inl rfl))) (fun hH3=>?_)
  clear hK K
  try simp only[lyA,lyB,lyC,lyD]
  refine rd1 8 (fun K hK=>?_)
  first|refine step_append_run rfl _ _ 22 22 rfl _ _ rfl rfl _ _ HA2.out.1 ?_|refine step_append_run rfl _ _ 22 22 rfl _ _ rfl rfl _ _ HB2.out.1 ?_
  refine hK.out _ _ (HS20.out _ (by first|exact Or.inr (Or.inr (Or.inl rfl))|exact Or.inr (Or.inr (Or.inr rfl)))) (fun hH4=>?_)
  clear hK K
  try simp only[lyA,lyB,lyC,lyD]
  refine tk 9 rfl (HP · · _ _ ·) hH4 ?_
  refine tk 10 rfl (HP · · _ _ ·) hH4 ?_
  refine rd1 11 (fun K hK=>?_)
  try have c8a:=HA2.out.2.1
  try have f8a:=HA2.out.2.2.1
  try have c8b:=HB2.out.2.1
  try have f8b:=HB2.out.2.2.1
  go_simp
  refine hK.out _ _ (s20_set hH4 hhb hne _ _) (fun hH5=>?_)
  clear hK K
  try simp only[lyA,lyB,lyC,lyD]
  refine dn ?_
  first
   | exact HQ.out _ _ _ _ _ _ _ _ _ _ _ _ ⟨_,_,rfl,HA2.out.2.2.2⟩
   | exact HQ.out _ _ _ _ _ _ _ _ _ _ _ _ ⟨_,_,rfl,HB2.out.2.2.2⟩
 refine AllReadyH.cons (o:=⟨some 138,.buildSlice 22 1 #[(0,.tmp 137)],22,"ref.go:106", #[⟨6,.data⟩],none⟩) rfl (fun K hK=>?_) AllReadyH.nil
 have hfo:=HFO.out
 go_simp
 refine hK.out _ _ (s20_next hH0 hhb ((Kept.refl _ _).alloc _)) (fun hH1=>?_)
 clear hK K
 try simp only[lyA,lyB,lyC,lyD]
 first|clear HA1 HA2|skip
 refine rd1 4 (fun K hK=>?_)
 have c3x:=HC3.out
 have c3y:=HC3b.out
 go_simp
 refine hK.out _ _ (hH1) (fun hH2=>?_)
 clear hK K
 try simp only[lyA,lyB,lyC,lyD]
 refine rd1 5 (fun K hK=>?_)
 first|(refine step_append_run rfl _ _ 22 22 rfl _ _ rfl rfl _ _ HA1.out.1 ?_;clear HA1 HB1 HB2)|(refine step_append_run rfl _ _ 22 22 rfl _ _ rfl rfl _ _ HB1.out.1 ?_;clear HB1)
 refine hK.out _ _ (HS20.out _ (by first|exact Or.inl rfl|exact Or.inr (Or.inl rfl))) (fun hH3=>?_)
 clear hK K
 try simp only[lyA,lyB,lyC,lyD]
 refine rd1 8 (fun K hK=>?_)
 first|refine step_append_run rfl _ _ 22 22 rfl _ _ rfl rfl _ _ HA2.out.1 ?_|refine step_append_run rfl _ _ 22 22 rfl _ _ rfl rfl _ _ HB2.out.1 ?_
 refine hK.out _ _ (HS20.out _ (by first|exact Or.inr (Or.inr (Or.inl rfl))|exact Or.inr (Or.inr (Or.inr rfl)))) (fun hH4=>?_)
 clear hK K
 try simp only[lyA,lyB,lyC,lyD]
 refine tk 9 rfl (HP · · _ _ ·) hH4 ?_
 refine tk 10 rfl (HP · · _ _ ·) hH4 ?_
 refine rd1 11 (fun K hK=>?_)
 try have c8a:=HA2.out.2.1
 try have f8a:=HA2.out.2.2.1
 try have c8b:=HB2.out.2.1
 try have f8b:=HB2.out.2.2.1
 go_simp
 refine hK.out _ _ (s20_set hH4 hhb hne _ _) (fun hH5=>?_)
 clear hK K
 try simp only[lyA,lyB,lyC,lyD]
 refine dn ?_
 first
  | exact HQ.out _ _ _ _ _ _ _ _ _ _ _ _ ⟨_,_,rfl,HA2.out.2.2.2⟩
  | exact HQ.out _ _ _ _ _ _ _ _ _ _ _ _ ⟨_,_,rfl,HB2.out.2.2.2⟩
def rsOps21:Array Oper:=#[
 ⟨some 143,.move (.tmp 0),44,"ref.go:108", #[],none⟩,
 ⟨some 144,.nilCheck (.tmp 143),0,"ref.go:108", #[⟨0,.data⟩],none⟩,
 ⟨some 145,.fieldAddr 97 (.tmp 144) 1,0,"ref.go:108", #[⟨1,.data⟩],none⟩,
 ⟨some 146,.load 9 (.tmp 145),9,"ref.go:108", #[⟨2,.data⟩],none⟩,
 ⟨some 147,.move (.tmp 0),44,"ref.go:108", #[],none⟩,
 ⟨some 148,.nilCheck (.tmp 147),0,"ref.go:108", #[⟨4,.data⟩],none⟩,
 ⟨some 149,.fieldAddr 97 (.tmp 148) 2,0,"ref.go:108", #[⟨5,.data⟩],none⟩,
 ⟨some 150,.load 59 (.tmp 149),59,"ref.go:108", #[⟨6,.data⟩],none⟩,
 ⟨some 151,.move (.tmp 6),3,"ref.go:108", #[],none⟩,
 ⟨some 152,.load 32 (.tmp 3),32,"ref.go:108", #[],none⟩,
 ⟨some 153,.call { callee := .value (.func 95),args := #[.tmp 152],argTypes := #[32] },30,"ref.go:108", #[⟨9,.data⟩],none⟩,
 ⟨some 154,.call { callee := .value (.func 94),args := #[.tmp 146,.tmp 150,.tmp 151,.tmp 153],argTypes := #[9,59,3,30] },114,"ref.go:108", #[⟨3,.data⟩,⟨7,.data⟩,⟨8,.data⟩,⟨10,.data⟩,⟨10,.chain⟩],none⟩,
 ⟨some 142,.move (.tmp 154),114,"ref.go:108", #[⟨11,.data⟩],none⟩,
 ⟨some 155,.extract (.tmp 142) 0,61,"ref.go:108", #[⟨12,.data⟩],none⟩,
 ⟨some 156,.extract (.tmp 142) 1,25,"ref.go:108", #[⟨12,.data⟩,⟨16,.gcOnly .lateStores⟩],none⟩,
 ⟨some 10,.alloc 61,0,"ref.go:108", #[],none⟩,
 ⟨none,.store 61 (.tmp 10) (.tmp 155),0,"ref.go:108", #[⟨15,.data⟩,⟨13,.data⟩,⟨11,.chain⟩,⟨0,.phase⟩,⟨1,.phase⟩,⟨2,.phase⟩,⟨3,.phase⟩,⟨4,.phase⟩,⟨5,.phase⟩,⟨6,.phase⟩,⟨7,.phase⟩,⟨8,.phase⟩,⟨9,.phase⟩,⟨10,.phase⟩,⟨11,.phase⟩,⟨12,.phase⟩,⟨13,.phase⟩,⟨14,.textOnly .lateStores⟩,⟨15,.phase⟩],none⟩,
 ⟨some 11,.assign (.tmp 156),25,"ref.go:108", #[⟨14,.data⟩,⟨16,.chain⟩,⟨0,.phase⟩,⟨1,.phase⟩,⟨2,.phase⟩,⟨3,.phase⟩,⟨4,.phase⟩,⟨5,.phase⟩,⟨6,.phase⟩,⟨7,.phase⟩,⟨8,.phase⟩,⟨9,.phase⟩,⟨10,.phase⟩,⟨11,.phase⟩,⟨12,.phase⟩,⟨13,.phase⟩,⟨14,.phase⟩,⟨15,.phase⟩,⟨16,.phase⟩],none⟩]
theorem rs_r21 {W:World} {q hb i:Nat} {seed:ByteArray} {ka:Option Addr} {kn kc:Nat} {C:List Value} {DG SG:By} {P:List By} {Q:Exit->Act->World->Prop} {u1 u2 u4 u5 u7 u8 u9 u10 u11 u12 u13 u14 u15 u16 u17 u18 u19 u20 u21 u22 u23 u24 u25 u26 u27 u28 u29 u30 u31 u32 u33 u34 u35 u36 u37 u38 u39 u40 u41 u42 u43 u44 u45 u46 u47 u48 u49 u50 u51 u52 u53 u54 u55 u56 u57 u58 u59 u60 u61 u62 u63 u64 u65 u66 u67 u68 u69 u70 u71 u72 u73 u74 u75 u76 u77 u78 u79 u80 u81 u82 u83 u84 u85 u86 u87 u88 u89 u90 u91 u92 u93 u94 u95 u96 u97 u98 u99 u100 u101 u102 u103 u104 u105 u106 u107 u108 u109 u110 u111 u112 u113 u114 u115 u116 u117 u118 u119 u120 u121 u122 u123 u124 u125 u126 u127 u128 u129 u130 u131 u132 u133 u134 u135 u136 u137 u138 u139 u140 u141 u142 u143 u144 u145 u146 u147 u148 u149 u150 u151 u152 u153 u154 u155 u156 u157 u158 u159 u160:Value} (hc1:W.cell? ⟨q,1,none⟩=some (.string seed)) (hc2:W.cell? ⟨q,2,none⟩=some (.slice ka kn kc)) (hrg:W.rangeAt hb 0 C) (hhb:hb<W.heap.size) (hql:q<W.heap.size) (hic:(Tryz.prog.info? 32).map (·.size)=some C.length) (hdg:∀ w',Kept (fun _=>False) W w'->Calls Tryz.prog 95 #[.agg C.toArray] w' fun e w''=>e = .returned (hashV DG)/\Kept (fun _=>False) w' w'') (hts:∀ w',Kept (fun _=>False) W w'->Calls Tryz.prog 94 #[.string seed,.slice ka kn kc,.int .i64 (i:Int),hashV DG] w' fun e w''=>∃ v',e = .returned (.tuple #[.agg #[.int .i64 (i:Int),.string ⟨SG.toArray⟩,v'],.int .i64 0])/\NewH w' v' P w'')
  (HP:∀ c a (k:Nat) v w,Q (.panic c) (Act.put a (some k) v) w->Q (.panic c) a w) (HQ:∀ (v143 v144 v145 v146 v147 v148 v149 v150 v151 v152 v153 v154 v142 v155 v156 v10:Value) (w':World),(fun w'=>∃ sb pa pn pc,v10 = .pointer (some ⟨sb,0,none⟩)/\W.heap.size<=sb/\Blk w' sb [.int .i64 (i:Int),.string ⟨SG.toArray⟩,.slice pa pn pc] 61/\Row w' 30 32 (.slice pa pn pc) (hcells P)/\(∀ k,(Value.slice pa pn pc).ownBlock=some k->W.heap.size<=k)/\Kept (fun _=>False) W w') w'->Q .normal ⟨List.toArray ((.pointer (some ⟨q,0,none⟩))::u1::u2::(.pointer (some ⟨hb,0,none⟩))::u4::u5::(.int .i64 (i:Int))::u7::u8::u9::v10::(.int .i64 0)::u12::u13::u14::u15::u16::u17::u18::u19::u20::u21::u22::u23::u24::u25::u26::u27::u28::u29::u30::u31::u32::u33::u34::u35::u36::u37::u38::u39::u40::u41::u42::u43::u44::u45::u46::u47::u48::u49::u50::u51::u52::u53::u54::u55::u56::u57::u58::u59::u60::u61::u62::u63::u64::u65::u66::u67::u68::u69::u70::u71::u72::u73::u74::u75::u76::u77::u78::u79::u80::u81::u82::u83::u84::u85::u86::u87::u88::u89::u90::u91::u92::u93::u94::u95::u96::u97::u98::u99::u100::u101::u102::u103::u104::u105::u106::u107::u108::u109::u110::u111::u112::u113::u114::u115::u116::u117::u118::u119::u120::u121::u122::u123::u124::u125::u126::u127::u128::u129::u130::u131::u132::u133::u134::u135::u136::u137::u138::u139::u140::u141::v142::v143::v144::v145::v146::v147::v148::v149::v150::v151::v152::v153::v154::v155::v156::u157::u158::u159::u160::[]),[]⟩ w') :
  Code.wp Tryz.prog (Code.region 21 rsOps21 true) Q ⟨List.toArray ((.pointer (some ⟨q,0,none⟩))::u1::u2::(.pointer (some ⟨hb,0,none⟩))::u4::u5::(.int .i64 (i:Int))::u7::u8::u9::u10::u11::u12::u13::u14::u15::u16::u17::u18::u19::u20::u21::u22::u23::u24::u25::u26::u27::u28::u29::u30::u31::u32::u33::u34::u35::u36::u37::u38::u39::u40::u41::u42::u43::u44::u45::u46::u47::u48::u49::u50::u51::u52::u53::u54::u55::u56::u57::u58::u59::u60::u61::u62::u63::u64::u65::u66::u67::u68::u69::u70::u71::u72::u73::u74::u75::u76::u77::u78::u79::u80::u81::u82::u83::u84::u85::u86::u87::u88::u89::u90::u91::u92::u93::u94::u95::u96::u97::u98::u99::u100::u101::u102::u103::u104::u105::u106::u107::u108::u109::u110::u111::u112::u113::u114::u115::u116::u117::u118::u119::u120::u121::u122::u123::u124::u125::u126::u127::u128::u129::u130::u131::u132::u133::u134::u135::u136::u137::u138::u139::u140::u141::u142::u143::u144::u145::u146::u147::u148::u149::u150::u151::u152::u153::u154::u155::u156::u157::u158::u159::u160::[]),[]⟩ W:=by
 have HQ:=Lib.hid HQ
 have HDG:=Lib.hid hdg
 have HTS:=Lib.hid hts
 unfold rsOps21
 have SA:S21 W W.drew q hb seed (.slice ka kn kc) C:=⟨((Kept.refl (fun _=>False) W).drew).cell hc1 id,((Kept.refl (fun _=>False) W).drew).cell hc2 id,rangeAt_kept hrg (Kept.refl (fun _=>False) W).drew hhb id,(Kept.refl _ _).drew⟩
 clear hdg hts hc1 hc2 hrg
 refine wp_region_held_drew (S:=(fun w'=>S21 W w' q hb seed (.slice ka kn kc) C)) (by kernel_rfl) SA (fun hH0=>?_)
 generalize World.drew W=W0 at *
 refine tk 0 rfl (HP · · _ _ ·) hH0 ?_
 refine tk 1 rfl (HP · · _ _ ·) hH0 ?_
 refine tk 2 rfl (HP · · _ _ ·) hH0 ?_
 refine tl 3 (v:=?_) rfl (fun _ _ _ h=>HP _ _ _ _ _ h) (Or.inl ⟨by rfl,fun w hSw=>?_⟩) hH0 ?_
 rotate_left 1
 ·obtain⟨s1,s2,s3,s4⟩:=hSw;go_simp;(try with_reducible rfl)
 try simp only[lyA,lyB,lyC,lyD]
 refine tk 4 rfl (HP · · _ _ ·) hH0 ?_
 refine tk 5 rfl (HP · · _ _ ·) hH0 ?_
 refine tk 6 rfl (HP · · _ _ ·) hH0 ?_
 refine tl 7 (v:=?_) rfl (fun _ _ _ h=>HP _ _ _ _ _ h) (Or.inl ⟨by rfl,fun w hSw=>?_⟩) hH0 ?_
 rotate_left 1
 ·obtain⟨s1,s2,s3,s4⟩:=hSw;go_simp;(try with_reducible rfl)
 try simp only[lyA,lyB,lyC,lyD]
 refine tk 8 rfl (HP · · _ _ ·) hH0 ?_
 refine tky 9 rfl (HP · · _ _ ·) (yieldsIf_load_mid (by rfl) _ _ rfl (hb) (0) rfl (C) _ (fun w z=>z.2.2.1) Tryz.underlying32 rfl hic) hH0 ?_
 refine wpAnyH_ready (rs:=[10,15]) (by kernel_rfl) (by simp) ?_
 refine AllReadyH.cons (o:=⟨some 153,.call { callee := .value (.func 95),args := #[.tmp 152],argTypes := #[32] },30,"ref.go:108", #[⟨9,.data⟩],none⟩) rfl (fun K hK=>?_) ?_
 ·go_simp
  refine(HDG.out _ hH0.2.2.2).mono ?_
  rintro e w3 ⟨rfl,hk3⟩
  try have hsb:=hsb.kept hk3 id
  refine hK.out _ _ (s21_next hH0 hhb hk3) (fun hH1=>?_)
  clear hK K
  try simp only[lyA,lyB,lyC,lyD]
  refine wpAnyH_ready (rs:=[11,15]) (by kernel_rfl) (by simp) ?_
  refine AllReadyH.cons (o:=⟨some 154,.call { callee := .value (.func 94),args := #[.tmp 146,.tmp 150,.tmp 151,.tmp 153],argTypes := #[9,59,3,30] },114,"ref.go:108", #[⟨3,.data⟩,⟨7,.data⟩,⟨8,.data⟩,⟨10,.data⟩,⟨10,.chain⟩],none⟩) rfl (fun K hK=>?_) ?_
  ·go_simp
   refine(HTS.out _ hH1.2.2.2).mono ?_
   rintro e w4 ⟨v,rfl,hn4⟩
   obtain⟨pa,pn,pc,rfl,-⟩:=hn4.row.form (by omega)
   have hk4:=hn4.kept
   have HR4:=Lib.hid (sg_row hH1.2.2.2 hn4.row hn4.own)
   try have hsb:=hsb.kept hk4 id
   refine hK.out _ _ (s21_next hH1 hhb hk4) (fun hH2=>?_)
   clear hK K
   try simp only[lyA,lyB,lyC,lyD]
   refine tk 12 rfl (HP · · _ _ ·) hH2 ?_
   refine tk 13 rfl (HP · · _ _ ·) hH2 ?_
   refine tk 14 rfl (HP · · _ _ ·) hH2 ?_
   refine rd1 15 (fun K hK=>?_)
   go_simp
   obtain⟨hsb,hsl⟩:=sg_alloc hH2.2.2.2
   try have HR4:=Lib.hid (sg_rowa HR4.out (.cells [.int .i64 0,.string ⟨#[]⟩,.slice none 0 0].toArray 61))
   refine hK.out _ _ (s21_next hH2 hhb ((Kept.refl _ _).alloc _)) (fun hH3=>?_)
   clear hK K
   try simp only[lyA,lyB,lyC,lyD]
   first|generalize World.alloc _ _=wS at hsb HR4 hH3 ⊢ | generalize World.alloc _ _=wS at hsb hH3 ⊢
   refine rd1 16 (fun K hK=>?_)
   have q0:=hsb.cell (i:=0) rfl
   have q1:=hsb.cell (i:=1) rfl
   have q2:=hsb.cell (i:=2) rfl
   have f0:=hsb.free 0
   have f1:=hsb.free 1
   have f2:=hsb.free 2
   go_simp
   have HR5:=Lib.hid (sg_rows HR4.out hsb (.int .i64 (i:Int)) (.string ⟨SG.toArray⟩) (.slice pa pn pc))
   have HSB:Hid (Blk _ _ [.int .i64 (i:Int),.string ⟨SG.toArray⟩,.slice pa pn pc] 61):=Lib.hid (((hsb.set 0 (.int .i64 (i:Int))).set 1 (.string ⟨SG.toArray⟩)).set 2 (.slice pa pn pc))
   refine hK.out _ _ (s21_set hH3 hhb hsl hql _ _ _) (fun hH4=>?_)
   clear hK K
   try simp only[lyA,lyB,lyC,lyD]
   refine tk 17 rfl (HP · · _ _ ·) hH4 ?_
   refine dn ?_
   generalize World.setCell (World.setCell (World.setCell _ _ _) _ _) _ _=wF at HSB HR5 hH4 ⊢
   refine HQ.out _ _ _ _ _ _ _ _ _ _ _ _ _ _ _ _ _ ?_
   exact⟨_,pa,pn,pc,rfl,hsl,HSB.out,HR5.out.1,HR5.out.2,hH4.2.2.2⟩
  refine AllReadyH.cons (o:=⟨some 10,.alloc 61,0,"ref.go:108", #[],none⟩) rfl (fun K hK=>?_) AllReadyH.nil
  go_simp
  obtain⟨hsb,hsl⟩:=sg_alloc hH1.2.2.2
  try have HR4:=Lib.hid (sg_rowa HR4.out (.cells [.int .i64 0,.string ⟨#[]⟩,.slice none 0 0].toArray 61))
  refine hK.out _ _ (s21_next hH1 hhb ((Kept.refl _ _).alloc _)) (fun hH2=>?_)
  clear hK K
  try simp only[lyA,lyB,lyC,lyD]
  first|generalize World.alloc _ _=wS at hsb HR4 hH2 ⊢ | generalize World.alloc _ _=wS at hsb hH2 ⊢
  refine rd1 11 (fun K hK=>?_)
  go_simp
  refine(HTS.out _ hH2.2.2.2).mono ?_
  rintro e w4 ⟨v,rfl,hn4⟩
  obtain⟨pa,pn,pc,rfl,-⟩:=hn4.row.form (by omega)
  have hk4:=hn4.kept
  have HR4:=Lib.hid (sg_row hH2.2.2.2 hn4.row hn4.own)
  try have hsb:=hsb.kept hk4 id
  refine hK.out _ _ (s21_next hH2 hhb hk4) (fun hH3=>?_)
  clear hK K
  try simp only[lyA,lyB,lyC,lyD]
  refine tk 12 rfl (HP · · _ _ ·) hH3 ?_
  refine tk 13 rfl (HP · · _ _ ·) hH3 ?_
  refine tk 14 rfl (HP · · _ _ ·) hH3 ?_
  refine rd1 16 (fun K hK=>?_)
  have q0:=hsb.cell (i:=0) rfl
  have q1:=hsb.cell (i:=1) rfl
  have q2:=hsb.cell (i:=2) rfl
  have f0:=hsb.free 0
  have f1:=hsb.free 1
  have f2:=hsb.free 2
  go_simp
  have HR5:=Lib.hid (sg_rows HR4.out hsb (.int .i64 (i:Int)) (.string ⟨SG.toArray⟩) (.slice pa pn pc))
  have HSB:Hid (Blk _ _ [.int .i64 (i:Int),.string ⟨SG.toArray⟩,.slice pa pn pc] 61):=Lib.hid (((hsb.set 0 (.int .i64 (i:Int))).set 1 (.string ⟨SG.toArray⟩)).set 2 (.slice pa pn pc))
  refine hK.out _ _ (s21_set hH3 hhb hsl hql _ _ _) (fun hH4=>?_)
  clear hK K
  try simp only[lyA,lyB,lyC,lyD]
  refine tk 17 rfl (HP · · _ _ ·) hH4 ?_
  refine dn ?_
  generalize World.setCell (World.setCell (World.setCell _ _ _) _ _) _ _=wF at HSB HR5 hH4 ⊢
  refine HQ.out _ _ _ _ _ _ _ _ _ _ _ _ _ _ _ _ _ ?_
  exact⟨_,pa,pn,pc,rfl,hsl,HSB.out,HR5.out.1,HR5.out.2,hH4.2.2.2⟩
 refine AllReadyH.cons (o:=⟨some 10,.alloc 61,0,"ref.go:108", #[],none⟩) rfl (fun K hK=>?_) AllReadyH.nil
 go_simp
 obtain⟨hsb,hsl⟩:=sg_alloc hH0.2.2.2
 try have HR4:=Lib.hid (sg_rowa HR4.out (.cells [.int .i64 0,.string ⟨#[]⟩,.slice none 0 0].toArray 61))
 refine hK.out _ _ (s21_next hH0 hhb ((Kept.refl _ _).alloc _)) (fun hH1=>?_)
 clear hK K
 try simp only[lyA,lyB,lyC,lyD]
 first|generalize World.alloc _ _=wS at hsb HR4 hH1 ⊢ | generalize World.alloc _ _=wS at hsb hH1 ⊢
 refine rd1 10 (fun K hK=>?_)
 go_simp
 refine(HDG.out _ hH1.2.2.2).mono ?_
 rintro e w3 ⟨rfl,hk3⟩
 try have hsb:=hsb.kept hk3 id
 refine hK.out _ _ (s21_next hH1 hhb hk3) (fun hH2=>?_)
 clear hK K
 try simp only[lyA,lyB,lyC,lyD]
 refine rd1 11 (fun K hK=>?_)
 go_simp
 refine(HTS.out _ hH2.2.2.2).mono ?_
 rintro e w4 ⟨v,rfl,hn4⟩
 obtain⟨pa,pn,pc,rfl,-⟩:=hn4.row.form (by omega)
 have hk4:=hn4.kept
 have HR4:=Lib.hid (sg_row hH2.2.2.2 hn4.row hn4.own)
 try have hsb:=hsb.kept hk4 id
 refine hK.out _ _ (s21_next hH2 hhb hk4) (fun hH3=>?_)
 clear hK K
 try simp only[lyA,lyB,lyC,lyD]
 refine tk 12 rfl (HP · · _ _ ·) hH3 ?_
 refine tk 13 rfl (HP · · _ _ ·) hH3 ?_
 refine tk 14 rfl (HP · · _ _ ·) hH3 ?_
 refine rd1 16 (fun K hK=>?_)
 have q0:=hsb.cell (i:=0) rfl
 have q1:=hsb.cell (i:=1) rfl
 have q2:=hsb.cell (i:=2) rfl
 have f0:=hsb.free 0
 have f1:=hsb.free 1
 have f2:=hsb.free 2
 go_simp
 have HR5:=Lib.hid (sg_rows HR4.out hsb (.int .i64 (i:Int)) (.string ⟨SG.toArray⟩) (.slice pa pn pc))
 have HSB:Hid (Blk _ _ [.int .i64 (i:Int),.string ⟨SG.toArray⟩,.slice pa pn pc] 61):=Lib.hid (((hsb.set 0 (.int .i64 (i:Int))).set 1 (.string ⟨SG.toArray⟩)).set 2 (.slice pa pn pc))
 refine hK.out _ _ (s21_set hH3 hhb hsl hql _ _ _) (fun hH4=>?_)
 clear hK K
 try simp only[lyA,lyB,lyC,lyD]
 refine tk 17 rfl (HP · · _ _ ·) hH4 ?_
 refine dn ?_
 generalize World.setCell (World.setCell (World.setCell _ _ _) _ _) _ _=wF at HSB HR5 hH4 ⊢
 refine HQ.out _ _ _ _ _ _ _ _ _ _ _ _ _ _ _ _ _ ?_
 exact⟨_,pa,pn,pc,rfl,hsl,HSB.out,HR5.out.1,HR5.out.2,hH4.2.2.2⟩
def lastEq (L:List Hd) (size:Int) (root:By):Bool:=match L.getLast? with|none=>false|some h=>decide ((h.1:Int)=size/\h.2=root)
def lastGe (L:List Hd) (size:Int):Bool:=match L.getLast? with|none=>false|some h=>decide (size<=(h.1:Int))
theorem nextF_eq (L:List Hd) {size:Int} (h1:¬ (size<1\/4096<size)) (root:By):nextF L size root=if lastEq L size root=true then(((L.length-1:Nat):Int),false,0)else if lastGe L size=true then(0,false,83)else if 8<=L.length then(0,false,85)else((L.length:Int),true,0):=by
 unfold nextF lastEq lastGe
 rw[if_neg h1]
 cases hg:L.getLast? with
 | none =>
  obtain rfl:L=[]:=List.getLast?_eq_none_iff.1 hg
  simp
 | some h=>simp
theorem last_split {L:List Hd} (h:0<L.length):∃ m a,L.length=m+1/\L[m]? = some a/\L.getLast? = some a:=by
 refine⟨L.length-1,L[L.length-1],by omega,List.getElem?_eq_getElem (by omega),?_⟩
 rw[List.getLast?_eq_getElem?]
 exact List.getElem?_eq_getElem (by omega)
theorem last_at {W:World} {v:Value} {L:List Hd} (hrow:Row W 32 33 v (hdC L)) (h32:∀ x∈L,x.2.length=32) {m:Nat} {a:Hd} (hm:L.length=m+1) (ha:L[m]? = some a):∃ gl vc,v = .slice (some ⟨gl,0,none⟩) (m+1) vc/\gl<W.heap.size/\W.rangeAt gl (m*33) (headC (a.1:Int) a.2)/\W.cell? ⟨gl,m*33,none⟩=some (.int .i64 (a.1:Int)):=by
 obtain⟨va,vn,vc,rfl,hn,-,hcl⟩:=hrow.form (by omega)
 rw[hdC_len h32]at hn
 obtain rfl:vn=m+1:=by omega
 obtain⟨gl,rfl,hgl,hc⟩:=hcl (by omega)
 have hrg:W.rangeAt gl (m*33) (headC (a.1:Int) a.2):=by
  intro j u hu
  have e:=hdC_at h32 m ha
  rw[<- e]at hu
  have hj:j<33:=by have:=(List.getElem?_eq_some_iff.1 hu).1;rw[List.length_take]at this;omega
  rw[List.getElem?_take,if_pos hj,List.getElem?_drop]at hu
  exact hc _ _ hu
 exact⟨gl,vc,rfl,hrow.lt hgl,hrg,hrg 0 (.int .i64 (a.1:Int)) rfl⟩
theorem rs_r7 {W:World} {q hb:Nat} {L:List Hd} {v:Value} {size:Int} {root:By} {Q:Exit->Act->World->Prop} {u1 u2 u4 u5 u7 u8 u9 u10 u11 u12 u13 u14 u15 u16 u17 u18 u19 u20 u21 u22 u23 u24 u25 u26 u27 u28 u29 u30 u31 u32 u33 u34 u35 u36 u37 u38 u39 u40 u41 u42 u43 u44 u45 u46 u47 u48 u49 u50 u51 u52 u53 u54 u55 u56 u57 u58 u59 u60 u61 u62 u63 u64 u65 u66 u67 u68 u69 u70 u71 u72 u73 u74 u75 u76 u77 u78 u79 u80 u81 u82 u83 u84 u85 u86 u87 u88 u89 u90 u91 u92 u93 u94 u95 u96 u97 u98 u99 u100 u101 u102 u103 u104 u105 u106 u107 u108 u109 u110 u111 u112 u113 u114 u115 u116 u117 u118 u119 u120 u121 u122 u123 u124 u125 u126 u127 u128 u129 u130 u131 u132 u133 u134 u135 u136 u137 u138 u139 u140 u141 u142 u143 u144 u145 u146 u147 u148 u149 u150 u151 u152 u153 u154 u155 u156 u157 u158 u159 u160:Value} (hrow:Row W 32 33 v (hdC L)) (h32:∀ x∈L,x.2.length=32) (hl:L.length<=8) (hroot:root.length=32) (hc3:W.cell? ⟨q,3,none⟩=some v) (hrg:W.rangeAt hb 0 (headC size root)) (hhb:hb<W.heap.size)
  (HP:∀ c a (k:Nat) v w,Q (.panic c) (Act.put a (some k) v) w->Q (.panic c) a w) (HQ:∀ (v61 v62 v63 v64 v65 v66 v67 v68 v69 v70 v71 v72 v73:Value) (w':World),(fun w'=>Kept (fun _=>False) W w') w'->Q .normal ⟨List.toArray ((.pointer (some ⟨q,0,none⟩))::u1::u2::(.pointer (some ⟨hb,0,none⟩))::u4::u5::(.int .i64 (L.length:Int))::u7::u8::u9::u10::u11::u12::u13::u14::u15::u16::u17::u18::u19::u20::u21::u22::u23::u24::u25::u26::u27::u28::u29::u30::u31::u32::u33::u34::u35::u36::u37::u38::u39::u40::u41::u42::u43::u44::u45::u46::u47::u48::u49::u50::u51::u52::u53::u54::u55::u56::u57::u58::u59::u60::v61::v62::v63::v64::v65::v66::v67::v68::v69::v70::v71::v72::v73::(.bool (lastEq L size root))::u75::u76::u77::u78::u79::u80::u81::u82::u83::u84::u85::u86::u87::u88::u89::u90::u91::u92::u93::u94::u95::u96::u97::u98::u99::u100::u101::u102::u103::u104::u105::u106::u107::u108::u109::u110::u111::u112::u113::u114::u115::u116::u117::u118::u119::u120::u121::u122::u123::u124::u125::u126::u127::u128::u129::u130::u131::u132::u133::u134::u135::u136::u137::u138::u139::u140::u141::u142::u143::u144::u145::u146::u147::u148::u149::u150::u151::u152::u153::u154::u155::u156::u157::u158::u159::u160::[]),[]⟩ w') :
  Code.wp Tryz.prog (Code.region 7 rsOps7 true) Q ⟨List.toArray ((.pointer (some ⟨q,0,none⟩))::u1::u2::(.pointer (some ⟨hb,0,none⟩))::u4::u5::(.int .i64 (L.length:Int))::u7::u8::u9::u10::u11::u12::u13::u14::u15::u16::u17::u18::u19::u20::u21::u22::u23::u24::u25::u26::u27::u28::u29::u30::u31::u32::u33::u34::u35::u36::u37::u38::u39::u40::u41::u42::u43::u44::u45::u46::u47::u48::u49::u50::u51::u52::u53::u54::u55::u56::u57::u58::u59::u60::u61::u62::u63::u64::u65::u66::u67::u68::u69::u70::u71::u72::u73::u74::u75::u76::u77::u78::u79::u80::u81::u82::u83::u84::u85::u86::u87::u88::u89::u90::u91::u92::u93::u94::u95::u96::u97::u98::u99::u100::u101::u102::u103::u104::u105::u106::u107::u108::u109::u110::u111::u112::u113::u114::u115::u116::u117::u118::u119::u120::u121::u122::u123::u124::u125::u126::u127::u128::u129::u130::u131::u132::u133::u134::u135::u136::u137::u138::u139::u140::u141::u142::u143::u144::u145::u146::u147::u148::u149::u150::u151::u152::u153::u154::u155::u156::u157::u158::u159::u160::[]),[]⟩ W:=by
 rcases Nat.eq_zero_or_pos L.length with h0|h0
 ·obtain rfl:=List.eq_nil_of_length_eq_zero h0
  exact rs_r7a ((Kept.refl _ _).drew) HP (fun v61 v62 v63 v64 v65 v66 v67 v68 v69 v70 v71 v72 v73 w' hk=>HQ v61 v62 v63 v64 v65 v66 v67 v68 v69 v70 v71 v72 v73 w' hk)
 ·obtain⟨m,a,hm,ha,hgt⟩:=last_split h0
  have ha32:=h32 a (List.mem_of_getElem? ha)
  obtain⟨gl,vc,rfl,hgl,hra,hca⟩:=last_at hrow h32 hm ha
  have hbb:lastEq L size root=decide ((a.1:Int)=size/\a.2=root):=by unfold lastEq;rw[hgt]
  rw[hm]at HQ ⊢
  rw[hbb]at HQ
  have q1:IntKind.i64.wrap (((m+1:Nat):Int)-1)=(m:Int):=by rw[show((m+1:Nat):Int)-1=(m:Int) by omega];exact IntWalk.i64_in _ (by omega)
  have q1':IntKind.i64.wrap ((m:Int)+1-1)=(m:Int):=by rw[show(m:Int)+1-1=(m:Int) by omega];exact IntWalk.i64_in _ (by omega)
  have q1b:IntKind.i64.wrap (m:Int)=(m:Int):=IntWalk.i64_in _ (by omega)
  have hk0:Kept (fun _=>False) W W.drew:=(Kept.refl _ _).drew
  exact rs_r7b (bb:=decide ((a.1:Int)=size/\a.2=root)) (AA:=headC (a.1:Int) a.2) (C:=headC size root) (by rw[headC_len ha32];exact info_head) (by rw[headC_len hroot];exact info_head) (fun w'=>eql_head w' (a.1:Int) size a.2 root ha32 hroot) q1 q1' q1b (Nat.lt_succ_self m) (by omega) (decide_eq_true (by omega)) (decide_eq_true (by omega)) ⟨hk0.cell hc3 id,rangeAt_kept hra hk0 hgl id,rangeAt_kept hrg hk0 hhb id,hk0⟩ HP (fun v61 v62 v63 v64 v65 v66 v67 v68 v69 v70 v71 v72 v73 w' hk=>HQ v61 v62 v63 v64 v65 v66 v67 v68 v69 v70 v71 v72 v73 w' hk.2.2.2)
theorem rs_r9 {W:World} {q hb:Nat} {L:List Hd} {v:Value} {size:Int} {root:By} {Q:Exit->Act->World->Prop} {u1 u2 u4 u5 u7 u8 u9 u10 u11 u12 u13 u14 u15 u16 u17 u18 u19 u20 u21 u22 u23 u24 u25 u26 u27 u28 u29 u30 u31 u32 u33 u34 u35 u36 u37 u38 u39 u40 u41 u42 u43 u44 u45 u46 u47 u48 u49 u50 u51 u52 u53 u54 u55 u56 u57 u58 u59 u60 u61 u62 u63 u64 u65 u66 u67 u68 u69 u70 u71 u72 u73 u74 u75 u76 u77 u78 u79 u80 u81 u82 u83 u84 u85 u86 u87 u88 u89 u90 u91 u92 u93 u94 u95 u96 u97 u98 u99 u100 u101 u102 u103 u104 u105 u106 u107 u108 u109 u110 u111 u112 u113 u114 u115 u116 u117 u118 u119 u120 u121 u122 u123 u124 u125 u126 u127 u128 u129 u130 u131 u132 u133 u134 u135 u136 u137 u138 u139 u140 u141 u142 u143 u144 u145 u146 u147 u148 u149 u150 u151 u152 u153 u154 u155 u156 u157 u158 u159 u160:Value} (hrow:Row W 32 33 v (hdC L)) (h32:∀ x∈L,x.2.length=32) (hl:L.length<=8) (hroot:root.length=32) (hc3:W.cell? ⟨q,3,none⟩=some v) (hrg:W.rangeAt hb 0 (headC size root)) (hhb:hb<W.heap.size)
  (HP:∀ c a (k:Nat) v w,Q (.panic c) (Act.put a (some k) v) w->Q (.panic c) a w) (HQ:∀ (v77 v78 v79 v80 v81 v82 v83 v84 v85 v86 v87 v88 v89 v90 v91:Value) (w':World),(fun w'=>Kept (fun _=>False) W w') w'->Q .normal ⟨List.toArray ((.pointer (some ⟨q,0,none⟩))::u1::u2::(.pointer (some ⟨hb,0,none⟩))::u4::u5::(.int .i64 (L.length:Int))::u7::u8::u9::u10::u11::u12::u13::u14::u15::u16::u17::u18::u19::u20::u21::u22::u23::u24::u25::u26::u27::u28::u29::u30::u31::u32::u33::u34::u35::u36::u37::u38::u39::u40::u41::u42::u43::u44::u45::u46::u47::u48::u49::u50::u51::u52::u53::u54::u55::u56::u57::u58::u59::u60::u61::u62::u63::u64::u65::u66::u67::u68::u69::u70::u71::u72::u73::u74::u75::u76::v77::v78::v79::v80::v81::v82::v83::v84::v85::v86::v87::v88::v89::v90::v91::(.bool (lastGe L size))::u93::u94::u95::u96::u97::u98::u99::u100::u101::u102::u103::u104::u105::u106::u107::u108::u109::u110::u111::u112::u113::u114::u115::u116::u117::u118::u119::u120::u121::u122::u123::u124::u125::u126::u127::u128::u129::u130::u131::u132::u133::u134::u135::u136::u137::u138::u139::u140::u141::u142::u143::u144::u145::u146::u147::u148::u149::u150::u151::u152::u153::u154::u155::u156::u157::u158::u159::u160::[]),[]⟩ w') :
  Code.wp Tryz.prog (Code.region 9 rsOps9 true) Q ⟨List.toArray ((.pointer (some ⟨q,0,none⟩))::u1::u2::(.pointer (some ⟨hb,0,none⟩))::u4::u5::(.int .i64 (L.length:Int))::u7::u8::u9::u10::u11::u12::u13::u14::u15::u16::u17::u18::u19::u20::u21::u22::u23::u24::u25::u26::u27::u28::u29::u30::u31::u32::u33::u34::u35::u36::u37::u38::u39::u40::u41::u42::u43::u44::u45::u46::u47::u48::u49::u50::u51::u52::u53::u54::u55::u56::u57::u58::u59::u60::u61::u62::u63::u64::u65::u66::u67::u68::u69::u70::u71::u72::u73::u74::u75::u76::u77::u78::u79::u80::u81::u82::u83::u84::u85::u86::u87::u88::u89::u90::u91::u92::u93::u94::u95::u96::u97::u98::u99::u100::u101::u102::u103::u104::u105::u106::u107::u108::u109::u110::u111::u112::u113::u114::u115::u116::u117::u118::u119::u120::u121::u122::u123::u124::u125::u126::u127::u128::u129::u130::u131::u132::u133::u134::u135::u136::u137::u138::u139::u140::u141::u142::u143::u144::u145::u146::u147::u148::u149::u150::u151::u152::u153::u154::u155::u156::u157::u158::u159::u160::[]),[]⟩ W:=by
 rcases Nat.eq_zero_or_pos L.length with h0|h0
 ·obtain rfl:=List.eq_nil_of_length_eq_zero h0
  exact rs_r9a ((Kept.refl _ _).drew) HP (fun v77 v78 v79 v80 v81 v82 v83 v84 v85 v86 v87 v88 v89 v90 v91 w' hk=>HQ v77 v78 v79 v80 v81 v82 v83 v84 v85 v86 v87 v88 v89 v90 v91 w' hk)
 ·obtain⟨m,a,hm,ha,hgt⟩:=last_split h0
  have ha32:=h32 a (List.mem_of_getElem? ha)
  obtain⟨gl,vc,rfl,hgl,hra,hca⟩:=last_at hrow h32 hm ha
  have hbb:lastGe L size=decide (size<=(a.1:Int)):=by unfold lastGe;rw[hgt]
  rw[hm]at HQ ⊢
  rw[hbb]at HQ
  have q1:IntKind.i64.wrap (((m+1:Nat):Int)-1)=(m:Int):=by rw[show((m+1:Nat):Int)-1=(m:Int) by omega];exact IntWalk.i64_in _ (by omega)
  have q1':IntKind.i64.wrap ((m:Int)+1-1)=(m:Int):=by rw[show(m:Int)+1-1=(m:Int) by omega];exact IntWalk.i64_in _ (by omega)
  have q1b:IntKind.i64.wrap (m:Int)=(m:Int):=IntWalk.i64_in _ (by omega)
  have hk0:Kept (fun _=>False) W W.drew:=(Kept.refl _ _).drew
  exact rs_r9b (bb:=decide (size<=(a.1:Int))) rfl q1 q1' q1b (Nat.lt_succ_self m) (by omega) (decide_eq_true (by omega)) (decide_eq_true (by omega)) ⟨hk0.cell (hrg 0 (.int .i64 size) rfl) id,hk0.cell hc3 id,hk0.cell hca id,hk0⟩ HP (fun v77 v78 v79 v80 v81 v82 v83 v84 v85 v86 v87 v88 v89 v90 v91 w' hk=>HQ v77 v78 v79 v80 v81 v82 v83 v84 v85 v86 v87 v88 v89 v90 v91 w' hk.2.2.2)
section
variable {w W W' : World} {r q : Nat} {M M' : DiskM} {R R' : RingM} {x y ks vs : Value}
def RSNo (w:World) (r q:Nat) (x y ks vs:Value) (code:Int) (R':RingM) (M':DiskM) (e:Ending) (w':World):Prop:=e = .returned (.tuple #[.agg signed0C.toArray,.int .i64 code])/\RRGo w r q x y ks vs M' R' w'
def RSYes (w:World) (r q:Nat) (x y ks vs:Value) (size:Int) (root:By) (i:Nat) (R':RingM) (M':DiskM) (e:Ending) (w':World):Prop :=
 ∃ v,e = .returned (.tuple #[signedV size root (i:Int) ⟨(signF R'.seed.data.toList i (digestF size.toNat root)).toArray⟩ v,.int .i64 0])/\Row w' 30 32 v (hcells (pathF (leavesF R'.seed.data.toList) i))/\(∀ k,v.ownBlock=some k->w.heap.size<=k)/\RRGo w r q x y ks vs M' R' w'
def RSPost (w:World) (r q:Nat) (x y ks vs:Value) (size:Int) (root:By) (z:Int × Nat × RingM × DiskM) (e:Ending) (w':World):Prop :=
 (z.1≠0/\RSNo w r q x y ks vs z.1 z.2.2.1 z.2.2.2 e w')\/(z.1=0/\RSYes w r q x y ks vs size root z.2.1 z.2.2.1 z.2.2.2 e w')
structure SgM (w:World) (r q:Nat) (x y ks vs:Value) (size:Int) (root:By) (M:DiskM) (R:RingM) (W:World):Prop where
 hd:Blk W w.heap.size (headC size root) 32
 rs:Blk W (w.heap.size+1) signed0C 63
 go:RRGo w r q x y ks vs M R W
 rl:r<w.heap.size
 ql:q<w.heap.size
variable {size : Int} {root : By}
theorem SgM.start (h:RefAtF w r M x y) (hq:IsRRing w q r R ks vs) (size:Int) (root:By):SgM w r q x y ks vs size root M R (signW w size root) :=
 ⟨signW_head w size root,signW_res w size root,(RRGo.self h hq).same (signW_kept w size root),h.lt (Or.inl rfl),hq.lt (Or.inl rfl)⟩
theorem SgM.same (h:SgM w r q x y ks vs size root M R W) (hk:Kept (fun _=>False) W W'):SgM w r q x y ks vs size root M R W':=⟨h.hd.kept hk id,h.rs.kept hk id,h.go.same hk,h.rl,h.ql⟩
theorem SgM.dead (h:SgM w r q x y ks vs size root M R W) (b:Bool):SgM w r q x y ks vs size root M { R with dead:=b } (W.setCell ⟨q,5,none⟩ (.bool b)):=by
 have hk:=kept_cell W q 5 (.bool b)
 have:=h.ql
 exact⟨h.hd.kept hk (by omega),h.rs.kept hk (by omega),h.go.dead b,h.rl,h.ql⟩
theorem SgM.disk (h:SgM w r q x y ks vs size root M R W):∃ x1 y1,RefAtF W r M x1 y1/\∀ M2 W',RefGoF W r x1 y1 M2 W'->SgM w r q x y ks vs size root M2 R W':=by
 obtain⟨x1,y1,h1,h2⟩:=h.go.disk
 refine⟨x1,y1,h1,fun M2 W' hg=>?_⟩
 have hk:Kept (· = r) W W':=by obtain⟨_,_,_,g2,_⟩:=hg;exact g2
 have:=h.rl
 exact⟨h.hd.kept hk (by omega),h.rs.kept hk (by omega),h2 M2 W' hg,h.rl,h.ql⟩
theorem SgM.noted (h:SgM w r q x y ks vs size root M R W) {v:Value} {x0:Hd} {w7:World} (hrow:Row w7 32 33 v (hdC (R.signed++[x0]))) (ho:∀ k,v.ownBlock=some k->W.heap.size<=k) (hk:Kept (fun _=>False) W w7) (hx:HdOk x0) (h8:R.signed.length<8):SgM w r q x y ks vs size root M { R with signed:=R.signed++[x0] } (w7.setCell ⟨q,3,none⟩ v):=by
 have h7:=h.same hk
 have hs:=kept_cell w7 q 3 v
 have hql:=h.ql
 obtain⟨x1,y1,v1,g1,g2,g3,g4,g5,g6⟩:=h7.go
 refine⟨h7.hd.kept hs (by omega),h7.rs.kept hs (by omega),⟨x1,y1,v,g1.keep hs (fun k hk e=>g2.apartF g1 (Or.inl e) hk),⟨g2.blk.set 3 v,g2.keys.kept hs (fun k e e2=>g2.keys.ne_blk e g2.blk (by decide) e2),hrow.kept hs (fun k e e2=>hrow.ne_blk e g2.blk (by decide) e2),fun z hz=>?_,?_,g2.short⟩,g3.trans (hs.mono (fun k _ e=>Or.inr e)),g4,g5,fun k e=>Or.inr ?_⟩,h.rl,hql⟩
 ·rcases List.mem_append.1 hz with z1|z1
  ·exact g2.oks z z1
  ·rw[List.mem_singleton.1 z1];exact hx
 ·show(R.signed++[x0]).length<=8
  rw[List.length_append]
  simp only[List.length_cons,List.length_nil]
  omega
 ·have:=ho k e
  have:=h.hd.lt
  omega
theorem SgM.no (h:SgM w r q x y ks vs size root M R W):W.there (w.heap.size+1) 0 signed0C.toArray.size/\Blk (W.setCells (w.heap.size+1) 0 signed0C) (w.heap.size+1) signed0C 63/\RRGo w r q x y ks vs M R (W.setCells (w.heap.size+1) 0 signed0C):=by
 obtain⟨h1,h2⟩:=sign_store h.rs signed0_len
 refine⟨h1,h2,?_⟩
 have hk:=kept_setCells W (w.heap.size+1) 0 signed0C
 have hql:=h.ql
 have hrl:=h.rl
 obtain⟨x1,y1,v1,g1,g2,g3,g4,g5,g6⟩:=h.go
 have e1:∀ k,refOwn r x1 y1 k->k≠w.heap.size+1:=fun k hk e=>by subst e;exact g1.other h.rs.cellsT (by decide) (by decide) (by decide) hk
 have e2:∀ k,rrOwn q ks v1 k->k≠w.heap.size+1:=fun k hk e=>by
  rcases hk with z|z|z
  ·omega
  ·exact g2.keys.ne_blk z h.rs (by decide) e
  ·exact g2.signed.ne_blk z h.rs (by decide) e
 exact⟨x1,y1,v1,g1.keep hk e1,g2.kept hk e2,g3.then_ hk (fun i hi e=>by omega),g4,g5,g6⟩
theorem SgM.yes (h:SgM w r q x y ks vs size root M R W) {Y:List Value} (hY:Y.length=36) {v:Value} {P:List By} (hrow:Row W 30 32 v (hcells P)):W.there (w.heap.size+1) 0 Y.length/\Blk (W.setCells (w.heap.size+1) 0 Y) (w.heap.size+1) Y 63/\RRGo w r q x y ks vs M R (W.setCells (w.heap.size+1) 0 Y)/\Row (W.setCells (w.heap.size+1) 0 Y) 30 32 v (hcells P):=by
 obtain⟨h1,h2⟩:=sign_fin h.rs hY
 refine⟨h1,h2,?_,?_⟩
 ·have hk:=kept_setCells W (w.heap.size+1) 0 Y
  have hql:=h.ql
  have hrl:=h.rl
  obtain⟨x1,y1,v1,g1,g2,g3,g4,g5,g6⟩:=h.go
  have e1:∀ k,refOwn r x1 y1 k->k≠w.heap.size+1:=fun k hk e=>by subst e;exact g1.other h.rs.cellsT (by decide) (by decide) (by decide) hk
  have e2:∀ k,rrOwn q ks v1 k->k≠w.heap.size+1:=fun k hk e=>by
   rcases hk with z|z|z
   ·omega
   ·exact g2.keys.ne_blk z h.rs (by decide) e
   ·exact g2.signed.ne_blk z h.rs (by decide) e
  exact⟨x1,y1,v1,g1.keep hk e1,g2.kept hk e2,g3.then_ hk (fun i hi e=>by omega),g4,g5,g6⟩
 ·exact hrow.kept (kept_setCells W (w.heap.size+1) 0 Y) (fun k e e2=>hrow.ne_blk e h.rs (by decide) e2)
theorem SgM.ring (h:SgM w r q x y ks vs size root M R W):∃ ka kc vs',W.cell? ⟨q,1,none⟩=some (.string R.seed)/\W.cell? ⟨q,2,none⟩=some (.slice ka 8 kc)/\W.cell? ⟨q,3,none⟩=some vs'/\Row W 30 32 (.slice ka 8 kc) (hcells (leavesF R.seed.data.toList))/\Row W 32 33 vs' (hdC R.signed)/\(∀ x∈R.signed,HdOk x)/\R.signed.length<=8/\R.seed.size<=1000/\Blk W q (rringC r R.seed (.slice ka 8 kc) vs' R.starts R.dead) 97:=by
 obtain⟨x1,y1,v1,g1,g2,g3,g4,g5,g6⟩:=h.go
 obtain⟨ka,kn,kc,hks,hn,-⟩:=g2.keys.form (by omega)
 rw[hcells_len (leaves_32 _),leavesF_len]at hn
 obtain rfl:kn=8:=by omega
 subst hks
 exact⟨ka,kc,v1,g2.blk.cell (i:=1) rfl,g2.blk.cell (i:=2) rfl,g2.blk.cell (i:=3) rfl,g2.keys,g2.signed,g2.oks,g2.few,g2.short,g2.blk⟩
end
end Go.Proofs.YtdmedbhbefdnkaaGreatDoor
