/- RingSign3 RingLast Same RingLaw OnceM Fr Ringed -/
import Derived.Test.YtdmedbhbefdnkaaGreatDoorUKeyringPlay46
set_option linter.unusedVariables false
set_option linter.unusedSimpArgs false
set_option maxRecDepth 100000
set_option maxHeartbeats 16000000
namespace Go.Proofs.YtdmedbhbefdnkaaGreatDoor
open Go.RowKit
abbrev S12 (wB w':World) (S:Nat->Prop) (hb:Nat) (C:List Value):Prop:=w'.rangeAt hb 0 C/\Kept S wB w'
theorem s12_alloc {wB w1:World} {S:Nat->Prop} {hb:Nat} {C:List Value} (h:S12 wB w1 S hb C) (o:Obj) (hl:hb<wB.heap.size):S12 wB (w1.alloc o) S hb C:=⟨rangeAt_kept h.1 ((Kept.refl (fun _=>False) w1).alloc o) (Nat.lt_of_lt_of_le hl h.2.size) id,h.2.alloc o⟩
theorem ring_append {wB:World} {r d:Nat} {R:RingM} {S:Nat->Prop} (h:IsRing wB r d R S) (x:Hd) (hx:HdOk x) (h7:R.signed.length<8) :
  ∃ a n c a1 n1 c1 w7,wB.cell? ⟨r,2,none⟩=some (.slice a n c)/\(Builtin.append_ #[22,22] 22 #[.slice a n c,.slice (some ⟨wB.heap.size,0,none⟩) 1 1]).run Tryz.prog (wB.alloc (.cells (headC (x.1:Int) x.2).toArray 32)) = .ok (Value.slice a1 n1 c1) w7 /\
   w7.cell? ⟨r,2,none⟩=some (.slice a n c)/\w7.frozen? ⟨r,2,none⟩=false/\(∀ k,(Value.slice a1 n1 c1).ownBlock=some k->S k\/(wB.heap.size<=k/\k<(w7.setCell ⟨r,2,none⟩ (Value.slice a1 n1 c1)).heap.size))/\IsRing (w7.setCell ⟨r,2,none⟩ (Value.slice a1 n1 c1)) r d { R with signed:=R.signed++[x] } (fun k=>S k\/(Value.slice a1 n1 c1).ownBlock=some k)/\Kept S wB (w7.setCell ⟨r,2,none⟩ (Value.slice a1 n1 c1))/\Kept S wB w7:=by
 obtain⟨⟨t,v,h1,h2,h3,h4,h5⟩,h6,h7',h8,h9⟩:=h
 obtain⟨a,n,c,rfl,-⟩:=h3.form (by omega)
 obtain⟨v',w7,hr,hrow,hk,hown⟩:=append_head1 h3 (fun y hy=>(h7' y hy).2.2) x hx.2.2 (by omega)
 obtain⟨a1,n1,c1,rfl,-⟩:=hrow.form (by omega)
 have hk7:Kept S wB w7:=hk.mono (fun k _ q=>h5 k q)
 have b1:=h1.kept hk (fun q=>h3.ne_blk q h1 (by decide) rfl)
 have kc:=kept_cell w7 r 2 (Value.slice a1 n1 c1)
 refine⟨a,n,c,a1,n1,c1,w7,h1.cell (i:=2) rfl,hr,b1.cell (i:=2) rfl,b1.free 2,fun k q=>(hown k q).imp (h5 k) (fun o=>⟨o,Nat.lt_of_lt_of_le (hrow.lt q) kc.size⟩),⟨⟨t,_,b1.set 2 (Value.slice a1 n1 c1),(h2.kept hk (fun q=>h3.ne_blk q h2.1 (by decide) rfl)).kept kc ?_,hrow.kept kc (fun k q e=>hrow.ne_blk q b1 (by decide) e),Or.inl h4,fun k q=>Or.inr q⟩,Or.inl h6,fun y hy=>?_,?_,h9⟩,hk7.trans (kc.mono (fun k _ e=>by rw[e];exact h6)),hk7⟩
 ·rintro rfl
  have:=(h2.kept hk (fun q=>h3.ne_blk q h2.1 (by decide) rfl)).1
  unfold Blk at this b1
  rw[this]at b1
  simp at b1
 ·rcases List.mem_append.1 hy with q|q
  ·exact h7' y q
  ·rw[List.mem_singleton.1 q];exact hx
 ·rw[List.length_append]
  show R.signed.length+1<=8
  omega
section
variable {w : World} {r d : Nat} {R : RingM} {S B : Nat → Prop} {M : DiskM}
theorem sign_fresh (h:IsRing w r d R S) (hd:Apart B d M w) (hS:∀ k,S k->B k) (size:Nat) (root:By) (hz:size<=4096) (hroot:root.length=32) (ho:R.over M=false) (hz1:1<=size) (i:Nat) (hi:i<8) (hil:R.signed.length=i) (hx:nextF R.signed (size:Int) root=((i:Int),true,0)) (M':DiskM) (hkr:M.keepR (size,root)=(0,M')) (hc:M.files.length+M.loose.length<300000000) (hKB:Keeps B)
  (ht:Tab w) (hTS:¬ S 0/\¬ S 1) :
  Calls Tryz.prog 21 #[.pointer (some ⟨r,0,none⟩),headV (size:Int) root] w (SignYes B S r d w size root i { R with signed:=R.signed++[(size,root)] } M'):=by
 have hrl:=h.lt
 have hBl:=fun k (q:B k)=>hd.lt q
 have HN:=Lib.hid (ring_none (h.same (signW_kept w size root)))
 have hdn:=ring_down (h.same (signW_kept w size root)) (hd.signW size root)
 have hds:=dead_same (over_not ho).1
 rw[ho]at hdn
 have HD:=Lib.hid hdn
 have HE:=Lib.hid hds
 have hnx:=fun w' (hr':IsRing w' r d R S)=>next_any hr' (size:Int) root hroot
 rw[hx]at hnx
 unfold NextPost at hnx
 simp only at hnx
 have HX:=Lib.hid hnx
 have HH:=Lib.hid (And.intro (hd.signW size root) (And.intro hS (And.intro hBl (hS r h.own))))
 have HT:=Lib.hid (fun w' (k:Kept (· = r) (signW w (size:Int) root) w')=>(ht.same (signW_kept w (size:Int) root)).kept k (fun e=>hTS.1 (by rw[e];exact h.own)) (fun e=>hTS.2 (by rw[e];exact h.own)))
 have HI0:=Lib.hid (show(Tryz.prog.info? 32).map (·.size)=some (headC (size:Int) root).length by rw[headC_len hroot];exact info_head)
 have HDI:=Lib.hid (fun w' ht'=>digest_any w' size root hz hroot ht')
 have hDl:=digestF_len size root
 have hkp:=fun w' (hr':IsRing w' r d R S) (hd':Apart (ownW w B) d M w') ht'=>keep_any hr' hd' (fun k q=>Or.inl (hS k q)) (over_not ho).1 size root hz hroot hc ht'
 rw[hkr]at hkp
 have hds61 : { R with dead:=decide ((0:Int)=61) } = R:=dead_same (over_not ho).1
 have HK:=Lib.hid hkp
 have HE61:=Lib.hid hds61
 have HTS0:=Lib.hid hTS
 clear hdn hd hS hBl hds hnx hx h hkp hkr hds61
 go_enter Tryz.func21,Tryz.ntmps21
 go_wp2_with (first|(go_at_call 63;refine HN.out.mono ?_;rintro e w' ⟨rfl,rfl⟩)|(go_at_call 64;refine HD.out.mono ?_;rintro e w1 ⟨rfl,hr1,hk1⟩;rw[HE.out]at hr1;have hb1:=(signW_head w (size:Int) root).kept hk1 (by omega))|((with_reducible show wpList _ _ _ (⟨some 20,_,_,_,_,_⟩::_) _ _);refine wpList_load_mid rfl 32 _ rfl w.heap.size 0 rfl (headC (size:Int) root) _ hb1.range0 Tryz.underlying32 rfl HI0.out ?_)|(go_at_call 65;refine(HX.out _ hr1).mono ?_;rintro e w2 ⟨rfl,hk2⟩;have hb2:=hb1.kept hk2 id;have ha2:=Lib.hid ((HH.out.1.turn hk1 (fun k e=>by rw[e];exact Or.inl HH.out.2.2.2)).same hk2))|((with_reducible show wpList _ _ _ (⟨some 31,_,_,_,_,_⟩::_) _ _);refine wpList_load_mid rfl 32 _ rfl w.heap.size 0 rfl (headC (size:Int) root) _ hb2.range0 Tryz.underlying32 rfl HI0.out ?_)|(go_at_call 66;refine(HK.out _ (hr1.same hk2) ha2.out ((HT.out _ hk1).same hk2)).mono ?_;rintro e wB ⟨rfl,hr3,ha3,hk3⟩))
 have hrB:IsRing wB r d R S:=by rw[<- HE61.out];exact hr3
 have hS:=HH.out.2.1
 have hBl:=HH.out.2.2.1
 have nS:∀ k,w.heap.size<=k->¬ S k:=fun k hk q=>by have:=hBl k (hS k q);omega
 have kB:Kept (fun k=>¬ ownW w B k\/S k) (signW w (size:Int) root) wB:=((hk1.mono (fun k _ e=>Or.inr (by rw[e];exact hrB.own))).trans (hk2.mono (fun _ _=>False.elim))).trans (hk3.mono (fun k _ e=>e.imp id (fun q=>by rw[q];exact hrB.own)))
 have hbB:=(hb2.kept hk3 (fun q=>q.elim (fun n=>n (Or.inr (Or.inl rfl))) (fun e=>by omega)))
 have hzB:=(((signW_res w (size:Int) root).kept hk1 (by omega)).kept hk2 id).kept hk3 (fun q=>q.elim (fun n=>n (Or.inr (Or.inr rfl))) (fun e=>by omega))
 have htB:Tab wB:=(ht.same (signW_kept w (size:Int) root)).kept kB (fun q=>q.elim (fun n=>n (Or.inl hKB.1)) HTS0.out.1) (fun q=>q.elim (fun n=>n (Or.inl hKB.2)) HTS0.out.2)
 obtain⟨a0,n0,c0,a1,n1,c1,w7,hc2,hr1,hc7,hf7,hS',hrA,kS,kS7⟩:=ring_append (hrB.same (Kept.refl _ _).drew) (size,root) ⟨hz1,hz,hroot⟩ (by omega)
 obtain⟨C,hC⟩:∃ C,headC (size:Int) root=C:=⟨_,rfl⟩
 have hf2:=fold_head (size:=(size:Int)) hroot
 rw[hC]at hf2
 simp only[zeros,List.replicate]at hf2
 have lC:C.length=33:=by rw[<- hC];exact headC_len hroot
 have HI:Hid ((Tryz.prog.info? 32).map (·.size)=some C.length):=by rw[<- hC];exact HI0
 have SB:S12 wB wB.drew S w.heap.size C:=⟨by rw[<- hC];exact(hbB.drew).range0,(Kept.refl _ _).drew⟩
 have hr1:(Builtin.append_ #[22,22] 22 #[.slice a0 n0 c0,.slice (some ⟨wB.heap.size,0,none⟩) 1 1]).run Tryz.prog (wB.alloc (.cells C.toArray 32)).drew = .ok (Value.slice a1 n1 c1) w7:=by rw[<- hC];exact hr1
 have hrng:w7.rangeAt w.heap.size 0 C:=by rw[<- hC];exact((hbB.drew).kept kS7 (nS _ (Nat.le_refl _))).range0
 have HS7:=Lib.hid (fun (wx:World) (_:S12 wB wx S w.heap.size C)=>(⟨hrng,((Kept.refl (fun _=>False) wB).drew.mono (fun _ _=>False.elim)).trans kS7⟩:S12 wB w7 S w.heap.size C))
 have HS8:=Lib.hid (⟨rangeAt_kept hrng (kept_cell w7 r 2 (Value.slice a1 n1 c1)) (Nat.lt_of_lt_of_le hbB.lt kS7.size) (by omega),((Kept.refl (fun _=>False) wB).drew.mono (fun _ _=>False.elim)).trans kS⟩:S12 wB (w7.setCell ⟨r,2,none⟩ (Value.slice a1 n1 c1)) S w.heap.size C)
 have HC7:=Lib.hid (And.intro hc7 hf7)
 have hbl:=hbB.lt
 have HSB2:=Lib.hid (show w.heap.size+2<=wB.heap.size from hzB.lt)
 have hc3:wB.cell? ⟨r,2,none⟩=some (.slice a0 n0 c0):=hc2
 have hc4:(wB.alloc (.cells C.toArray 32)).cell? ⟨r,2,none⟩=some (.slice a0 n0 c0):=((Kept.refl (fun _=>False) wB).alloc _).cell hc3 id
 have hFIN:IsRing (w7.setCell ⟨r,2,none⟩ (Value.slice a1 n1 c1)) r d { R with signed:=R.signed++[(size,root)] } (fun k=>S k\/(Value.slice a1 n1 c1).ownBlock=some k)/\Kept S wB (w7.setCell ⟨r,2,none⟩ (Value.slice a1 n1 c1))/\(∀ k,(Value.slice a1 n1 c1).ownBlock=some k->S k\/(wB.heap.size<=k/\k<(w7.setCell ⟨r,2,none⟩ (Value.slice a1 n1 c1)).heap.size)):=⟨hrA,((Kept.refl (fun _=>False) wB).drew.mono (fun _ _=>False.elim)).trans kS,hS'⟩
 have HFA:=Lib.hid hFIN
 have HBB:=Lib.hid (And.intro hbB (And.intro hzB (And.intro ha3 (And.intro kB htB))))
 clear hrA kS kS7 hrng hFIN hS' hrB hbB hzB kB htB hb2 hb1 hc7 hf7
 refine wp_region_held_drew (S:=(fun w'=>S12 wB w' S w.heap.size C)) (by kernel_rfl) SB (fun hH0=>?_)
 refine ti 0 hH0 ?_
 refine ti 1 hH0 ?_
 refine ti 2 hH0 ?_
 refine ti 3 hH0 ?_
 refine tky 5 rfl (fun _ _ _ h=>h) (yieldsIf_load_mid (by rfl) _ _ rfl (w.heap.size) (0) rfl (C) _ (fun w q=>q.1) Tryz.underlying32 rfl HI.out) hH0 ?_
 refine wpAnyH_ready (rs:=[4,6]) (by kernel_rfl) (by simp) ?_
 refine AllReadyH.cons (o:=⟨some 41,.load 22 (.tmp 40),22,"keyring.go:138", #[⟨3,.data⟩],none⟩) rfl (fun K hK=>?_) ?_
 ·go_simp
  refine hK.out _ _ (hH0) (fun hH1=>?_)
  clear hK K
  try simp only[lyA,lyB,lyC,lyD]
  refine rd1 6 (fun K hK=>?_)
  go_simp
  refine hK.out _ _ (s12_alloc hH1 _ hbl) (fun hH2=>?_)
  clear hK K
  try simp only[lyA,lyB,lyC,lyD]
  refine rd1 7 (fun K hK=>?_)
  refine step_append_run rfl _ _ 22 22 rfl _ _ rfl rfl _ _ hr1 ?_
  refine hK.out _ _ (HS7.out _ hH2) (fun hH3=>?_)
  clear hK K
  try simp only[lyA,lyB,lyC,lyD]
  refine ti 8 hH3 ?_
  refine ti 9 hH3 ?_
  refine rd1 10 (fun K hK=>?_)
  have q7:=HC7.out.1
  have f7:=HC7.out.2
  go_simp
  refine hK.out _ _ (HS8.out) (fun hH4=>?_)
  clear hK K
  try simp only[lyA,lyB,lyC,lyD]
  refine dn ?_
  go_wp2_with fail
  generalize World.setCell w7 _ (Value.slice a1 n1 c1)=wA at HFA ⊢
  have hrA:=HFA.out.1
  have kS:=HFA.out.2.1
  have HFA2:=Lib.hid HFA.out.2.2
  have HSZ:=Lib.hid (show w.heap.size+2<=wB.heap.size from HSB2.out)
  have hbA:Blk wA w.heap.size (headC (size:Int) root) 32:=HBB.out.1.kept kS (nS _ (Nat.le_refl _))
  have hzA:=HBB.out.2.1.kept kS (nS _ (by omega))
  have htA:=HBB.out.2.2.2.2.kept kS HTS0.out.1 HTS0.out.2
  have kA:Kept (fun k=>¬ ownW w B k\/S k) (signW w (size:Int) root) wA:=HBB.out.2.2.2.1.then_ kS (fun k _ q=>Or.inr q)
  have haA:Apart (fun k=>ownW w B k\/(S k\/(Value.slice a1 n1 c1).ownBlock=some k)) d M' wA:=HBB.out.2.2.1.grow kS (fun k _ q=>Or.inl (hS k q)) (fun k q=>q.elim Or.inl (fun q=>q.elim (fun q=>Or.inl (Or.inl (hS k q))) (fun q=>(HFA.out.2.2 k q).elim (fun q=>Or.inl (Or.inl (hS k q))) Or.inr)))
  obtain⟨⟨t,vv,hrb,htree,-,-,-⟩,-,-,-,hsh⟩:=id hrA
  have hrlA:=hrA.lt
  have hhb:w.heap.size<wA.heap.size:=hbA.lt
  have HTS:=Lib.hid (fun w' (k:Kept (fun _=>False) wA w')=>treeSign_any (htree.kept k id) i (digestF size root) hsh hi hDl (htA.same k))
  have HTB:=Lib.hid (fun w' (k:Kept (fun _=>False) wA w')=>htA.same k)
  have HFIN:=Lib.hid (And.intro hrA (And.intro hbA (And.intro hzA (And.intro haA kA))))
  obtain⟨SG,hSG⟩:∃ SG,signF R.seed.data.toList i (digestF size root)=SG:=⟨_,rfl⟩
  rw[hSG]at HTS
  have HSG:=Lib.hid hSG
  obtain⟨C,hC⟩:∃ C,headC (size:Int) root=C:=⟨_,rfl⟩
  have HCC:=Lib.hid hC
  have SA:SgS wA wA.drew r t w.heap.size C:=⟨(hrb.drew).cell (i:=1) rfl,by rw[<- hC];exact(hbA.drew).range0,(Kept.refl _ _).drew⟩
  have HI:Hid ((Tryz.prog.info? 32).map (·.size)=some C.length):=by rw[<- hC];exact HI0
  have HLC:=Lib.hid (show C.length=33 by rw[<- hC];exact headC_len hroot)
  have HDG:=Lib.hid (fun w' ht'=>(by rw[<- hC];exact HDI.out w' ht':Calls Tryz.prog 68 #[.agg C.toArray] w' fun e w''=>e = .returned (hashV (digestF size root))/\Kept (fun _=>False) w' w''))
  generalize hDG:digestF size root=DG at *
  have HDG2:=Lib.hid hDG
  clear hDG hSG hrA hbA hzA haA htA kA hrb htree hsh hC
  refine wp_region_held_drew (S:=(fun w'=>SgS wA w' r t w.heap.size C)) (by kernel_rfl) SA (fun hH0=>?_)
  refine ti 0 hH0 ?_
  refine ti 1 hH0 ?_
  refine ti 2 hH0 ?_
  refine ti 3 hH0 ?_
  refine ti 4 hH0 ?_
  refine tky 5 rfl (fun _ _ _ h=>h) (yieldsIf_load_mid (by rfl) _ _ rfl (w.heap.size) (0) rfl (C) _ (fun w q=>q.2.1) Tryz.underlying32 rfl HI.out) hH0 ?_
  refine wpAnyH_ready (rs:=[6,11]) (by kernel_rfl) (by simp) ?_
  refine AllReadyH.cons (o:=⟨some 54,.call { callee := .value (.func 68),args := #[.tmp 53],argTypes := #[32] },30,"keyring.go:140", #[⟨5,.data⟩],none⟩) rfl (fun K hK=>?_) ?_
  ·go_simp
   refine(HDG.out _ (HTB.out _ hH0.2.2)).mono ?_
   rintro e w3 ⟨rfl,hk3⟩
   try have hsb:=hsb.kept hk3 id
   refine hK.out _ _ (sgS_next hH0 hhb hk3) (fun hH1=>?_)
   clear hK K
   try simp only[lyA,lyB,lyC,lyD]
   refine wpAnyH_ready (rs:=[7,11]) (by kernel_rfl) (by simp) ?_
   refine AllReadyH.cons (o:=⟨some 55,.call { callee := .value (.func 67),args := #[.tmp 51,.tmp 52,.tmp 54],argTypes := #[92,3,30] },114,"keyring.go:140", #[⟨3,.data⟩,⟨4,.data⟩,⟨6,.data⟩,⟨6,.chain⟩],none⟩) rfl (fun K hK=>?_) ?_
   ·go_simp
    refine(HTS.out _ hH1.2.2).mono ?_
    rintro e w4 ⟨v,rfl,hrow4,hown4,hk4⟩
    obtain⟨pa,pn,pc,rfl,-⟩:=hrow4.form (by omega)
    have HR4:=Lib.hid (sg_row hH1.2.2 hrow4 hown4)
    try have hsb:=hsb.kept hk4 id
    refine hK.out _ _ (sgS_next hH1 hhb hk4) (fun hH2=>?_)
    clear hK K
    try simp only[lyA,lyB,lyC,lyD]
    refine ti 8 hH2 ?_
    refine ti 9 hH2 ?_
    refine ti 10 hH2 ?_
    refine rd1 11 (fun K hK=>?_)
    go_simp
    obtain⟨hsb,hsl⟩:=sg_alloc hH2.2.2
    try change Blk (World.drew (World.alloc wA (.cells [.int .i64 0,.string ⟨#[]⟩,.slice none 0 0].toArray 61))) wA.heap.size _ _ at hsb
    try change wA.heap.size<=wA.heap.size at hsl
    try have HR4:=Lib.hid (sg_rowa HR4.out (.cells [.int .i64 0,.string ⟨#[]⟩,.slice none 0 0].toArray 61))
    refine hK.out _ _ (sgS_next hH2 hhb ((Kept.refl _ _).alloc _)) (fun hH3=>?_)
    clear hK K
    try simp only[lyA,lyB,lyC,lyD]
    first|generalize World.alloc _ _=wS at hsb HR4 hH3 ⊢ | generalize World.alloc _ _=wS at hsb hH3 ⊢
    refine rd1 12 (fun K hK=>?_)
    try replace hsb:Blk w4 wA.heap.size [.int .i64 0,.string ⟨#[]⟩,.slice none 0 0] 61:=hsb
    have q0:=hsb.cell (i:=0) rfl
    have q1:=hsb.cell (i:=1) rfl
    have q2:=hsb.cell (i:=2) rfl
    have f0:=hsb.free 0
    have f1:=hsb.free 1
    have f2:=hsb.free 2
    go_simp
    have HR5:=Lib.hid (sg_rows HR4.out hsb (.int .i64 (i:Int)) (.string ⟨SG.toArray⟩) (.slice pa pn pc))
    have HSB:Hid (Blk _ _ [.int .i64 (i:Int),.string ⟨SG.toArray⟩,.slice pa pn pc] 61):=Lib.hid (((hsb.set 0 (.int .i64 (i:Int))).set 1 (.string ⟨SG.toArray⟩)).set 2 (.slice pa pn pc))
    refine hK.out _ _ (sgS_set hH3 hhb hsl _ _ _ hrlA) (fun hH4=>?_)
    clear hK K
    try simp only[lyA,lyB,lyC,lyD]
    refine rd1 13 (fun K hK=>?_)
    go_simp
    refine hK.out _ _ (hH4) (fun hH5=>?_)
    clear hK K
    try simp only[lyA,lyB,lyC,lyD]
    refine dn ?_
    generalize World.setCell (World.setCell (World.setCell _ _ _) _ _) _ _=wF at HSB HR5 hH5 ⊢
    have kF:=hH5.2.2
    have rF:=hH5.2.1
    have s0:=HSB.out.cell (i:=0) rfl
    have s1:=HSB.out.cell (i:=1) rfl
    have s2:=HSB.out.cell (i:=2) rfl
    have lC:C.length=33:=HLC.out
    obtain⟨X,Y,hfA,lX,hfB,HY⟩:=sign_build C lC (.int .i64 (i:Int)) (.string ⟨SG.toArray⟩) (.slice pa pn pc)
    simp only[zeros,List.replicate,List.cons_append,List.nil_append]at hfA
    have lY:Hid (Y.length=36):=Lib.hid (by rw[HY.out,List.length_append,lC];rfl)
    have HZF:=Lib.hid (sign_fin (HFIN.out.2.2.1.kept kF id) lY.out)
    go_wp2_with (first|((with_reducible show wpList _ _ _ (⟨some 58,_,_,_,_,_⟩::_) _ _);refine wpList_load_mid rfl 32 _ rfl w.heap.size 0 rfl C _ rF Tryz.underlying32 rfl HI.out ?_)|((with_reducible show wpList _ _ _ (⟨none,.store _ (.tmp 4) _,_,_,_,_⟩::_) _ _);refine wpList_store_mid rfl 63 _ _ rfl (w.heap.size+1) 0 Y.toArray rfl rfl ?htv01 ?hiv01 ?h1v01 ?_))
    case htv01=>exact HZF.out.1
    case hiv01=>first|exact info_sized lY.out|simpa using info_sized lY.out
    case h1v01=>first|exact sign_one HY.out HCC.out|exact all_oneCell_toArray (sign_one HY.out HCC.out)
    refine bodyPost_ret (HZF.out.2.result2 rfl rfl Tryz.underlying63 rfl (info_sized lY.out)) rfl ?_
    exact sign_yes (S':=fun k=>S k\/(Value.slice a1 n1 c1).ownBlock=some k) HFIN.out.1 (fun k hk=>hk.elim Or.inl (fun q=>(HFA2.out k q).imp id (fun o=>by have:=HSZ.out;omega))) HH.out.2.1 HH.out.2.2.1 HFIN.out.2.2.2.1 HFIN.out.2.2.2.2 kF HR5.out HY.out HCC.out HSG.out HDG2.out
   refine AllReadyH.cons (o:=⟨some 9,.alloc 61,0,"keyring.go:140", #[],none⟩) rfl (fun K hK=>?_) AllReadyH.nil
   go_simp
   obtain⟨hsb,hsl⟩:=sg_alloc hH1.2.2
   try change Blk (World.drew (World.alloc wA (.cells [.int .i64 0,.string ⟨#[]⟩,.slice none 0 0].toArray 61))) wA.heap.size _ _ at hsb
   try change wA.heap.size<=wA.heap.size at hsl
   try have HR4:=Lib.hid (sg_rowa HR4.out (.cells [.int .i64 0,.string ⟨#[]⟩,.slice none 0 0].toArray 61))
   refine hK.out _ _ (sgS_next hH1 hhb ((Kept.refl _ _).alloc _)) (fun hH2=>?_)
   clear hK K
   try simp only[lyA,lyB,lyC,lyD]
   first|generalize World.alloc _ _=wS at hsb HR4 hH2 ⊢ | generalize World.alloc _ _=wS at hsb hH2 ⊢
   refine rd1 7 (fun K hK=>?_)
   go_simp
   refine(HTS.out _ hH2.2.2).mono ?_
   rintro e w4 ⟨v,rfl,hrow4,hown4,hk4⟩
   obtain⟨pa,pn,pc,rfl,-⟩:=hrow4.form (by omega)
   have HR4:=Lib.hid (sg_row hH2.2.2 hrow4 hown4)
   try have hsb:=hsb.kept hk4 id
   refine hK.out _ _ (sgS_next hH2 hhb hk4) (fun hH3=>?_)
   clear hK K
   try simp only[lyA,lyB,lyC,lyD]
   refine ti 8 hH3 ?_
   refine ti 9 hH3 ?_
   refine ti 10 hH3 ?_
   refine rd1 12 (fun K hK=>?_)
   try replace hsb:Blk w4 wA.heap.size [.int .i64 0,.string ⟨#[]⟩,.slice none 0 0] 61:=hsb
   have q0:=hsb.cell (i:=0) rfl
   have q1:=hsb.cell (i:=1) rfl
   have q2:=hsb.cell (i:=2) rfl
   have f0:=hsb.free 0
   have f1:=hsb.free 1
   have f2:=hsb.free 2
   go_simp
   have HR5:=Lib.hid (sg_rows HR4.out hsb (.int .i64 (i:Int)) (.string ⟨SG.toArray⟩) (.slice pa pn pc))
   have HSB:Hid (Blk _ _ [.int .i64 (i:Int),.string ⟨SG.toArray⟩,.slice pa pn pc] 61):=Lib.hid (((hsb.set 0 (.int .i64 (i:Int))).set 1 (.string ⟨SG.toArray⟩)).set 2 (.slice pa pn pc))
   refine hK.out _ _ (sgS_set hH3 hhb hsl _ _ _ hrlA) (fun hH4=>?_)
   clear hK K
   try simp only[lyA,lyB,lyC,lyD]
   refine rd1 13 (fun K hK=>?_)
   go_simp
   refine hK.out _ _ (hH4) (fun hH5=>?_)
   clear hK K
   try simp only[lyA,lyB,lyC,lyD]
   refine dn ?_
   generalize World.setCell (World.setCell (World.setCell _ _ _) _ _) _ _=wF at HSB HR5 hH5 ⊢
   have kF:=hH5.2.2
   have rF:=hH5.2.1
   have s0:=HSB.out.cell (i:=0) rfl
   have s1:=HSB.out.cell (i:=1) rfl
   have s2:=HSB.out.cell (i:=2) rfl
   have lC:C.length=33:=HLC.out
   obtain⟨X,Y,hfA,lX,hfB,HY⟩:=sign_build C lC (.int .i64 (i:Int)) (.string ⟨SG.toArray⟩) (.slice pa pn pc)
   simp only[zeros,List.replicate,List.cons_append,List.nil_append]at hfA
   have lY:Hid (Y.length=36):=Lib.hid (by rw[HY.out,List.length_append,lC];rfl)
   have HZF:=Lib.hid (sign_fin (HFIN.out.2.2.1.kept kF id) lY.out)
   go_wp2_with (first|((with_reducible show wpList _ _ _ (⟨some 58,_,_,_,_,_⟩::_) _ _);refine wpList_load_mid rfl 32 _ rfl w.heap.size 0 rfl C _ rF Tryz.underlying32 rfl HI.out ?_)|((with_reducible show wpList _ _ _ (⟨none,.store _ (.tmp 4) _,_,_,_,_⟩::_) _ _);refine wpList_store_mid rfl 63 _ _ rfl (w.heap.size+1) 0 Y.toArray rfl rfl ?htv02 ?hiv02 ?h1v02 ?_))
   case htv02=>exact HZF.out.1
   case hiv02=>first|exact info_sized lY.out|simpa using info_sized lY.out
   case h1v02=>first|exact sign_one HY.out HCC.out|exact all_oneCell_toArray (sign_one HY.out HCC.out)
   refine bodyPost_ret (HZF.out.2.result2 rfl rfl Tryz.underlying63 rfl (info_sized lY.out)) rfl ?_
   exact sign_yes (S':=fun k=>S k\/(Value.slice a1 n1 c1).ownBlock=some k) HFIN.out.1 (fun k hk=>hk.elim Or.inl (fun q=>(HFA2.out k q).imp id (fun o=>by have:=HSZ.out;omega))) HH.out.2.1 HH.out.2.2.1 HFIN.out.2.2.2.1 HFIN.out.2.2.2.2 kF HR5.out HY.out HCC.out HSG.out HDG2.out
  refine AllReadyH.cons (o:=⟨some 9,.alloc 61,0,"keyring.go:140", #[],none⟩) rfl (fun K hK=>?_) AllReadyH.nil
  go_simp
  obtain⟨hsb,hsl⟩:=sg_alloc hH0.2.2
  try change Blk (World.drew (World.alloc wA (.cells [.int .i64 0,.string ⟨#[]⟩,.slice none 0 0].toArray 61))) wA.heap.size _ _ at hsb
  try change wA.heap.size<=wA.heap.size at hsl
  try have HR4:=Lib.hid (sg_rowa HR4.out (.cells [.int .i64 0,.string ⟨#[]⟩,.slice none 0 0].toArray 61))
  refine hK.out _ _ (sgS_next hH0 hhb ((Kept.refl _ _).alloc _)) (fun hH1=>?_)
  clear hK K
  try simp only[lyA,lyB,lyC,lyD]
  first|generalize World.alloc _ _=wS at hsb HR4 hH1 ⊢ | generalize World.alloc _ _=wS at hsb hH1 ⊢
  refine rd1 6 (fun K hK=>?_)
  go_simp
  refine(HDG.out _ (HTB.out _ hH1.2.2)).mono ?_
  rintro e w3 ⟨rfl,hk3⟩
  try have hsb:=hsb.kept hk3 id
  refine hK.out _ _ (sgS_next hH1 hhb hk3) (fun hH2=>?_)
  clear hK K
  try simp only[lyA,lyB,lyC,lyD]
  refine rd1 7 (fun K hK=>?_)
  go_simp
  refine(HTS.out _ hH2.2.2).mono ?_
  rintro e w4 ⟨v,rfl,hrow4,hown4,hk4⟩
  obtain⟨pa,pn,pc,rfl,-⟩:=hrow4.form (by omega)
  have HR4:=Lib.hid (sg_row hH2.2.2 hrow4 hown4)
  try have hsb:=hsb.kept hk4 id
  refine hK.out _ _ (sgS_next hH2 hhb hk4) (fun hH3=>?_)
  clear hK K
  try simp only[lyA,lyB,lyC,lyD]
  refine ti 8 hH3 ?_
  refine ti 9 hH3 ?_
  refine ti 10 hH3 ?_
  refine rd1 12 (fun K hK=>?_)
  try replace hsb:Blk w4 wA.heap.size [.int .i64 0,.string ⟨#[]⟩,.slice none 0 0] 61:=hsb
  have q0:=hsb.cell (i:=0) rfl
  have q1:=hsb.cell (i:=1) rfl
  have q2:=hsb.cell (i:=2) rfl
  have f0:=hsb.free 0
  have f1:=hsb.free 1
  have f2:=hsb.free 2
  go_simp
  have HR5:=Lib.hid (sg_rows HR4.out hsb (.int .i64 (i:Int)) (.string ⟨SG.toArray⟩) (.slice pa pn pc))
  have HSB:Hid (Blk _ _ [.int .i64 (i:Int),.string ⟨SG.toArray⟩,.slice pa pn pc] 61):=Lib.hid (((hsb.set 0 (.int .i64 (i:Int))).set 1 (.string ⟨SG.toArray⟩)).set 2 (.slice pa pn pc))
  refine hK.out _ _ (sgS_set hH3 hhb hsl _ _ _ hrlA) (fun hH4=>?_)
  clear hK K
  try simp only[lyA,lyB,lyC,lyD]
  refine rd1 13 (fun K hK=>?_)
  go_simp
  refine hK.out _ _ (hH4) (fun hH5=>?_)
  clear hK K
  try simp only[lyA,lyB,lyC,lyD]
  refine dn ?_
  generalize World.setCell (World.setCell (World.setCell _ _ _) _ _) _ _=wF at HSB HR5 hH5 ⊢
  have kF:=hH5.2.2
  have rF:=hH5.2.1
  have s0:=HSB.out.cell (i:=0) rfl
  have s1:=HSB.out.cell (i:=1) rfl
  have s2:=HSB.out.cell (i:=2) rfl
  have lC:C.length=33:=HLC.out
  obtain⟨X,Y,hfA,lX,hfB,HY⟩:=sign_build C lC (.int .i64 (i:Int)) (.string ⟨SG.toArray⟩) (.slice pa pn pc)
  simp only[zeros,List.replicate,List.cons_append,List.nil_append]at hfA
  have lY:Hid (Y.length=36):=Lib.hid (by rw[HY.out,List.length_append,lC];rfl)
  have HZF:=Lib.hid (sign_fin (HFIN.out.2.2.1.kept kF id) lY.out)
  go_wp2_with (first|((with_reducible show wpList _ _ _ (⟨some 58,_,_,_,_,_⟩::_) _ _);refine wpList_load_mid rfl 32 _ rfl w.heap.size 0 rfl C _ rF Tryz.underlying32 rfl HI.out ?_)|((with_reducible show wpList _ _ _ (⟨none,.store _ (.tmp 4) _,_,_,_,_⟩::_) _ _);refine wpList_store_mid rfl 63 _ _ rfl (w.heap.size+1) 0 Y.toArray rfl rfl ?htv03 ?hiv03 ?h1v03 ?_))
  case htv03=>exact HZF.out.1
  case hiv03=>first|exact info_sized lY.out|simpa using info_sized lY.out
  case h1v03=>first|exact sign_one HY.out HCC.out|exact all_oneCell_toArray (sign_one HY.out HCC.out)
  refine bodyPost_ret (HZF.out.2.result2 rfl rfl Tryz.underlying63 rfl (info_sized lY.out)) rfl ?_
  exact sign_yes (S':=fun k=>S k\/(Value.slice a1 n1 c1).ownBlock=some k) HFIN.out.1 (fun k hk=>hk.elim Or.inl (fun q=>(HFA2.out k q).imp id (fun o=>by have:=HSZ.out;omega))) HH.out.2.1 HH.out.2.2.1 HFIN.out.2.2.2.1 HFIN.out.2.2.2.2 kF HR5.out HY.out HCC.out HSG.out HDG2.out
 refine AllReadyH.cons (o:=⟨some 43,.buildSlice 22 1 #[(0,.tmp 42)],22,"keyring.go:138", #[⟨5,.data⟩],none⟩) rfl (fun K hK=>?_) AllReadyH.nil
 go_simp
 refine hK.out _ _ (s12_alloc hH0 _ hbl) (fun hH1=>?_)
 clear hK K
 try simp only[lyA,lyB,lyC,lyD]
 refine rd1 4 (fun K hK=>?_)
 go_simp
 refine hK.out _ _ (hH1) (fun hH2=>?_)
 clear hK K
 try simp only[lyA,lyB,lyC,lyD]
 refine rd1 7 (fun K hK=>?_)
 refine step_append_run rfl _ _ 22 22 rfl _ _ rfl rfl _ _ hr1 ?_
 refine hK.out _ _ (HS7.out _ hH2) (fun hH3=>?_)
 clear hK K
 try simp only[lyA,lyB,lyC,lyD]
 refine ti 8 hH3 ?_
 refine ti 9 hH3 ?_
 refine rd1 10 (fun K hK=>?_)
 have q7:=HC7.out.1
 have f7:=HC7.out.2
 go_simp
 refine hK.out _ _ (HS8.out) (fun hH4=>?_)
 clear hK K
 try simp only[lyA,lyB,lyC,lyD]
 refine dn ?_
 go_wp2_with fail
 generalize World.setCell w7 _ (Value.slice a1 n1 c1)=wA at HFA ⊢
 have hrA:=HFA.out.1
 have kS:=HFA.out.2.1
 have HFA2:=Lib.hid HFA.out.2.2
 have HSZ:=Lib.hid (show w.heap.size+2<=wB.heap.size from HSB2.out)
 have hbA:Blk wA w.heap.size (headC (size:Int) root) 32:=HBB.out.1.kept kS (nS _ (Nat.le_refl _))
 have hzA:=HBB.out.2.1.kept kS (nS _ (by omega))
 have htA:=HBB.out.2.2.2.2.kept kS HTS0.out.1 HTS0.out.2
 have kA:Kept (fun k=>¬ ownW w B k\/S k) (signW w (size:Int) root) wA:=HBB.out.2.2.2.1.then_ kS (fun k _ q=>Or.inr q)
 have haA:Apart (fun k=>ownW w B k\/(S k\/(Value.slice a1 n1 c1).ownBlock=some k)) d M' wA:=HBB.out.2.2.1.grow kS (fun k _ q=>Or.inl (hS k q)) (fun k q=>q.elim Or.inl (fun q=>q.elim (fun q=>Or.inl (Or.inl (hS k q))) (fun q=>(HFA.out.2.2 k q).elim (fun q=>Or.inl (Or.inl (hS k q))) Or.inr)))
 obtain⟨⟨t,vv,hrb,htree,-,-,-⟩,-,-,-,hsh⟩:=id hrA
 have hrlA:=hrA.lt
 have hhb:w.heap.size<wA.heap.size:=hbA.lt
 have HTS:=Lib.hid (fun w' (k:Kept (fun _=>False) wA w')=>treeSign_any (htree.kept k id) i (digestF size root) hsh hi hDl (htA.same k))
 have HTB:=Lib.hid (fun w' (k:Kept (fun _=>False) wA w')=>htA.same k)
 have HFIN:=Lib.hid (And.intro hrA (And.intro hbA (And.intro hzA (And.intro haA kA))))
 obtain⟨SG,hSG⟩:∃ SG,signF R.seed.data.toList i (digestF size root)=SG:=⟨_,rfl⟩
 rw[hSG]at HTS
 have HSG:=Lib.hid hSG
 obtain⟨C,hC⟩:∃ C,headC (size:Int) root=C:=⟨_,rfl⟩
 have HCC:=Lib.hid hC
 have SA:SgS wA wA.drew r t w.heap.size C:=⟨(hrb.drew).cell (i:=1) rfl,by rw[<- hC];exact(hbA.drew).range0,(Kept.refl _ _).drew⟩
 have HI:Hid ((Tryz.prog.info? 32).map (·.size)=some C.length):=by rw[<- hC];exact HI0
 have HLC:=Lib.hid (show C.length=33 by rw[<- hC];exact headC_len hroot)
 have HDG:=Lib.hid (fun w' ht'=>(by rw[<- hC];exact HDI.out w' ht':Calls Tryz.prog 68 #[.agg C.toArray] w' fun e w''=>e = .returned (hashV (digestF size root))/\Kept (fun _=>False) w' w''))
 generalize hDG:digestF size root=DG at *
 have HDG2:=Lib.hid hDG
 clear hDG hSG hrA hbA hzA haA htA kA hrb htree hsh hC
 refine wp_region_held_drew (S:=(fun w'=>SgS wA w' r t w.heap.size C)) (by kernel_rfl) SA (fun hH0=>?_)
 refine ti 0 hH0 ?_
 refine ti 1 hH0 ?_
 refine ti 2 hH0 ?_
 refine ti 3 hH0 ?_
 refine ti 4 hH0 ?_
 refine tky 5 rfl (fun _ _ _ h=>h) (yieldsIf_load_mid (by rfl) _ _ rfl (w.heap.size) (0) rfl (C) _ (fun w q=>q.2.1) Tryz.underlying32 rfl HI.out) hH0 ?_
 refine wpAnyH_ready (rs:=[6,11]) (by kernel_rfl) (by simp) ?_
 refine AllReadyH.cons (o:=⟨some 54,.call { callee := .value (.func 68),args := #[.tmp 53],argTypes := #[32] },30,"keyring.go:140", #[⟨5,.data⟩],none⟩) rfl (fun K hK=>?_) ?_
 ·go_simp
  refine(HDG.out _ (HTB.out _ hH0.2.2)).mono ?_
  rintro e w3 ⟨rfl,hk3⟩
  try have hsb:=hsb.kept hk3 id
  refine hK.out _ _ (sgS_next hH0 hhb hk3) (fun hH1=>?_)
  clear hK K
  try simp only[lyA,lyB,lyC,lyD]
  refine wpAnyH_ready (rs:=[7,11]) (by kernel_rfl) (by simp) ?_
  refine AllReadyH.cons (o:=⟨some 55,.call { callee := .value (.func 67),args := #[.tmp 51,.tmp 52,.tmp 54],argTypes := #[92,3,30] },114,"keyring.go:140", #[⟨3,.data⟩,⟨4,.data⟩,⟨6,.data⟩,⟨6,.chain⟩],none⟩) rfl (fun K hK=>?_) ?_
  ·go_simp
   refine(HTS.out _ hH1.2.2).mono ?_
   rintro e w4 ⟨v,rfl,hrow4,hown4,hk4⟩
   obtain⟨pa,pn,pc,rfl,-⟩:=hrow4.form (by omega)
   have HR4:=Lib.hid (sg_row hH1.2.2 hrow4 hown4)
   try have hsb:=hsb.kept hk4 id
   refine hK.out _ _ (sgS_next hH1 hhb hk4) (fun hH2=>?_)
   clear hK K
   try simp only[lyA,lyB,lyC,lyD]
   refine ti 8 hH2 ?_
   refine ti 9 hH2 ?_
   refine ti 10 hH2 ?_
   refine rd1 11 (fun K hK=>?_)
   go_simp
   obtain⟨hsb,hsl⟩:=sg_alloc hH2.2.2
   try change Blk (World.drew (World.alloc wA (.cells [.int .i64 0,.string ⟨#[]⟩,.slice none 0 0].toArray 61))) wA.heap.size _ _ at hsb
   try change wA.heap.size<=wA.heap.size at hsl
   try have HR4:=Lib.hid (sg_rowa HR4.out (.cells [.int .i64 0,.string ⟨#[]⟩,.slice none 0 0].toArray 61))
   refine hK.out _ _ (sgS_next hH2 hhb ((Kept.refl _ _).alloc _)) (fun hH3=>?_)
   clear hK K
   try simp only[lyA,lyB,lyC,lyD]
   first|generalize World.alloc _ _=wS at hsb HR4 hH3 ⊢ | generalize World.alloc _ _=wS at hsb hH3 ⊢
   refine rd1 12 (fun K hK=>?_)
   try replace hsb:Blk w4 wA.heap.size [.int .i64 0,.string ⟨#[]⟩,.slice none 0 0] 61:=hsb
   have q0:=hsb.cell (i:=0) rfl
   have q1:=hsb.cell (i:=1) rfl
   have q2:=hsb.cell (i:=2) rfl
   have f0:=hsb.free 0
   have f1:=hsb.free 1
   have f2:=hsb.free 2
   go_simp
   have HR5:=Lib.hid (sg_rows HR4.out hsb (.int .i64 (i:Int)) (.string ⟨SG.toArray⟩) (.slice pa pn pc))
   have HSB:Hid (Blk _ _ [.int .i64 (i:Int),.string ⟨SG.toArray⟩,.slice pa pn pc] 61):=Lib.hid (((hsb.set 0 (.int .i64 (i:Int))).set 1 (.string ⟨SG.toArray⟩)).set 2 (.slice pa pn pc))
   refine hK.out _ _ (sgS_set hH3 hhb hsl _ _ _ hrlA) (fun hH4=>?_)
   clear hK K
   try simp only[lyA,lyB,lyC,lyD]
   refine rd1 13 (fun K hK=>?_)
   go_simp
   refine hK.out _ _ (hH4) (fun hH5=>?_)
   clear hK K
   try simp only[lyA,lyB,lyC,lyD]
   refine dn ?_
   generalize World.setCell (World.setCell (World.setCell _ _ _) _ _) _ _=wF at HSB HR5 hH5 ⊢
   have kF:=hH5.2.2
   have rF:=hH5.2.1
   have s0:=HSB.out.cell (i:=0) rfl
   have s1:=HSB.out.cell (i:=1) rfl
   have s2:=HSB.out.cell (i:=2) rfl
   have lC:C.length=33:=HLC.out
   obtain⟨X,Y,hfA,lX,hfB,HY⟩:=sign_build C lC (.int .i64 (i:Int)) (.string ⟨SG.toArray⟩) (.slice pa pn pc)
   simp only[zeros,List.replicate,List.cons_append,List.nil_append]at hfA
   have lY:Hid (Y.length=36):=Lib.hid (by rw[HY.out,List.length_append,lC];rfl)
   have HZF:=Lib.hid (sign_fin (HFIN.out.2.2.1.kept kF id) lY.out)
   go_wp2_with (first|((with_reducible show wpList _ _ _ (⟨some 58,_,_,_,_,_⟩::_) _ _);refine wpList_load_mid rfl 32 _ rfl w.heap.size 0 rfl C _ rF Tryz.underlying32 rfl HI.out ?_)|((with_reducible show wpList _ _ _ (⟨none,.store _ (.tmp 4) _,_,_,_,_⟩::_) _ _);refine wpList_store_mid rfl 63 _ _ rfl (w.heap.size+1) 0 Y.toArray rfl rfl ?htv11 ?hiv11 ?h1v11 ?_))
   case htv11=>exact HZF.out.1
   case hiv11=>first|exact info_sized lY.out|simpa using info_sized lY.out
   case h1v11=>first|exact sign_one HY.out HCC.out|exact all_oneCell_toArray (sign_one HY.out HCC.out)
   refine bodyPost_ret (HZF.out.2.result2 rfl rfl Tryz.underlying63 rfl (info_sized lY.out)) rfl ?_
   exact sign_yes (S':=fun k=>S k\/(Value.slice a1 n1 c1).ownBlock=some k) HFIN.out.1 (fun k hk=>hk.elim Or.inl (fun q=>(HFA2.out k q).imp id (fun o=>by have:=HSZ.out;omega))) HH.out.2.1 HH.out.2.2.1 HFIN.out.2.2.2.1 HFIN.out.2.2.2.2 kF HR5.out HY.out HCC.out HSG.out HDG2.out
  refine AllReadyH.cons (o:=⟨some 9,.alloc 61,0,"keyring.go:140", #[],none⟩) rfl (fun K hK=>?_) AllReadyH.nil
  go_simp
  obtain⟨hsb,hsl⟩:=sg_alloc hH1.2.2
  try change Blk (World.drew (World.alloc wA (.cells [.int .i64 0,.string ⟨#[]⟩,.slice none 0 0].toArray 61))) wA.heap.size _ _ at hsb
  try change wA.heap.size<=wA.heap.size at hsl
  try have HR4:=Lib.hid (sg_rowa HR4.out (.cells [.int .i64 0,.string ⟨#[]⟩,.slice none 0 0].toArray 61))
  refine hK.out _ _ (sgS_next hH1 hhb ((Kept.refl _ _).alloc _)) (fun hH2=>?_)
  clear hK K
  try simp only[lyA,lyB,lyC,lyD]
  first|generalize World.alloc _ _=wS at hsb HR4 hH2 ⊢ | generalize World.alloc _ _=wS at hsb hH2 ⊢
  refine rd1 7 (fun K hK=>?_)
  go_simp
  refine(HTS.out _ hH2.2.2).mono ?_
  rintro e w4 ⟨v,rfl,hrow4,hown4,hk4⟩
  obtain⟨pa,pn,pc,rfl,-⟩:=hrow4.form (by omega)
  have HR4:=Lib.hid (sg_row hH2.2.2 hrow4 hown4)
  try have hsb:=hsb.kept hk4 id
  refine hK.out _ _ (sgS_next hH2 hhb hk4) (fun hH3=>?_)
  clear hK K
  try simp only[lyA,lyB,lyC,lyD]
  refine ti 8 hH3 ?_
  refine ti 9 hH3 ?_
  refine ti 10 hH3 ?_
  refine rd1 12 (fun K hK=>?_)
  try replace hsb:Blk w4 wA.heap.size [.int .i64 0,.string ⟨#[]⟩,.slice none 0 0] 61:=hsb
  have q0:=hsb.cell (i:=0) rfl
  have q1:=hsb.cell (i:=1) rfl
  have q2:=hsb.cell (i:=2) rfl
  have f0:=hsb.free 0
  have f1:=hsb.free 1
  have f2:=hsb.free 2
  go_simp
  have HR5:=Lib.hid (sg_rows HR4.out hsb (.int .i64 (i:Int)) (.string ⟨SG.toArray⟩) (.slice pa pn pc))
  have HSB:Hid (Blk _ _ [.int .i64 (i:Int),.string ⟨SG.toArray⟩,.slice pa pn pc] 61):=Lib.hid (((hsb.set 0 (.int .i64 (i:Int))).set 1 (.string ⟨SG.toArray⟩)).set 2 (.slice pa pn pc))
  refine hK.out _ _ (sgS_set hH3 hhb hsl _ _ _ hrlA) (fun hH4=>?_)
  clear hK K
  try simp only[lyA,lyB,lyC,lyD]
  refine rd1 13 (fun K hK=>?_)
  go_simp
  refine hK.out _ _ (hH4) (fun hH5=>?_)
  clear hK K
  try simp only[lyA,lyB,lyC,lyD]
  refine dn ?_
  generalize World.setCell (World.setCell (World.setCell _ _ _) _ _) _ _=wF at HSB HR5 hH5 ⊢
  have kF:=hH5.2.2
  have rF:=hH5.2.1
  have s0:=HSB.out.cell (i:=0) rfl
  have s1:=HSB.out.cell (i:=1) rfl
  have s2:=HSB.out.cell (i:=2) rfl
  have lC:C.length=33:=HLC.out
  obtain⟨X,Y,hfA,lX,hfB,HY⟩:=sign_build C lC (.int .i64 (i:Int)) (.string ⟨SG.toArray⟩) (.slice pa pn pc)
  simp only[zeros,List.replicate,List.cons_append,List.nil_append]at hfA
  have lY:Hid (Y.length=36):=Lib.hid (by rw[HY.out,List.length_append,lC];rfl)
  have HZF:=Lib.hid (sign_fin (HFIN.out.2.2.1.kept kF id) lY.out)
  go_wp2_with (first|((with_reducible show wpList _ _ _ (⟨some 58,_,_,_,_,_⟩::_) _ _);refine wpList_load_mid rfl 32 _ rfl w.heap.size 0 rfl C _ rF Tryz.underlying32 rfl HI.out ?_)|((with_reducible show wpList _ _ _ (⟨none,.store _ (.tmp 4) _,_,_,_,_⟩::_) _ _);refine wpList_store_mid rfl 63 _ _ rfl (w.heap.size+1) 0 Y.toArray rfl rfl ?htv12 ?hiv12 ?h1v12 ?_))
  case htv12=>exact HZF.out.1
  case hiv12=>first|exact info_sized lY.out|simpa using info_sized lY.out
  case h1v12=>first|exact sign_one HY.out HCC.out|exact all_oneCell_toArray (sign_one HY.out HCC.out)
  refine bodyPost_ret (HZF.out.2.result2 rfl rfl Tryz.underlying63 rfl (info_sized lY.out)) rfl ?_
  exact sign_yes (S':=fun k=>S k\/(Value.slice a1 n1 c1).ownBlock=some k) HFIN.out.1 (fun k hk=>hk.elim Or.inl (fun q=>(HFA2.out k q).imp id (fun o=>by have:=HSZ.out;omega))) HH.out.2.1 HH.out.2.2.1 HFIN.out.2.2.2.1 HFIN.out.2.2.2.2 kF HR5.out HY.out HCC.out HSG.out HDG2.out
 refine AllReadyH.cons (o:=⟨some 9,.alloc 61,0,"keyring.go:140", #[],none⟩) rfl (fun K hK=>?_) AllReadyH.nil
 go_simp
 obtain⟨hsb,hsl⟩:=sg_alloc hH0.2.2
 try change Blk (World.drew (World.alloc wA (.cells [.int .i64 0,.string ⟨#[]⟩,.slice none 0 0].toArray 61))) wA.heap.size _ _ at hsb
 try change wA.heap.size<=wA.heap.size at hsl
 try have HR4:=Lib.hid (sg_rowa HR4.out (.cells [.int .i64 0,.string ⟨#[]⟩,.slice none 0 0].toArray 61))
 refine hK.out _ _ (sgS_next hH0 hhb ((Kept.refl _ _).alloc _)) (fun hH1=>?_)
 clear hK K
 try simp only[lyA,lyB,lyC,lyD]
 first|generalize World.alloc _ _=wS at hsb HR4 hH1 ⊢ | generalize World.alloc _ _=wS at hsb hH1 ⊢
 refine rd1 6 (fun K hK=>?_)
 go_simp
 refine(HDG.out _ (HTB.out _ hH1.2.2)).mono ?_
 rintro e w3 ⟨rfl,hk3⟩
 try have hsb:=hsb.kept hk3 id
 refine hK.out _ _ (sgS_next hH1 hhb hk3) (fun hH2=>?_)
 clear hK K
 try simp only[lyA,lyB,lyC,lyD]
 refine rd1 7 (fun K hK=>?_)
 go_simp
 refine(HTS.out _ hH2.2.2).mono ?_
 rintro e w4 ⟨v,rfl,hrow4,hown4,hk4⟩
 obtain⟨pa,pn,pc,rfl,-⟩:=hrow4.form (by omega)
 have HR4:=Lib.hid (sg_row hH2.2.2 hrow4 hown4)
 try have hsb:=hsb.kept hk4 id
 refine hK.out _ _ (sgS_next hH2 hhb hk4) (fun hH3=>?_)
 clear hK K
 try simp only[lyA,lyB,lyC,lyD]
 refine ti 8 hH3 ?_
 refine ti 9 hH3 ?_
 refine ti 10 hH3 ?_
 refine rd1 12 (fun K hK=>?_)
 try replace hsb:Blk w4 wA.heap.size [.int .i64 0,.string ⟨#[]⟩,.slice none 0 0] 61:=hsb
 have q0:=hsb.cell (i:=0) rfl
 have q1:=hsb.cell (i:=1) rfl
 have q2:=hsb.cell (i:=2) rfl
 have f0:=hsb.free 0
 have f1:=hsb.free 1
 have f2:=hsb.free 2
 go_simp
 have HR5:=Lib.hid (sg_rows HR4.out hsb (.int .i64 (i:Int)) (.string ⟨SG.toArray⟩) (.slice pa pn pc))
 have HSB:Hid (Blk _ _ [.int .i64 (i:Int),.string ⟨SG.toArray⟩,.slice pa pn pc] 61):=Lib.hid (((hsb.set 0 (.int .i64 (i:Int))).set 1 (.string ⟨SG.toArray⟩)).set 2 (.slice pa pn pc))
 refine hK.out _ _ (sgS_set hH3 hhb hsl _ _ _ hrlA) (fun hH4=>?_)
 clear hK K
 try simp only[lyA,lyB,lyC,lyD]
 refine rd1 13 (fun K hK=>?_)
 go_simp
 refine hK.out _ _ (hH4) (fun hH5=>?_)
 clear hK K
 try simp only[lyA,lyB,lyC,lyD]
 refine dn ?_
 generalize World.setCell (World.setCell (World.setCell _ _ _) _ _) _ _=wF at HSB HR5 hH5 ⊢
 have kF:=hH5.2.2
 have rF:=hH5.2.1
 have s0:=HSB.out.cell (i:=0) rfl
 have s1:=HSB.out.cell (i:=1) rfl
 have s2:=HSB.out.cell (i:=2) rfl
 have lC:C.length=33:=HLC.out
 obtain⟨X,Y,hfA,lX,hfB,HY⟩:=sign_build C lC (.int .i64 (i:Int)) (.string ⟨SG.toArray⟩) (.slice pa pn pc)
 simp only[zeros,List.replicate,List.cons_append,List.nil_append]at hfA
 have lY:Hid (Y.length=36):=Lib.hid (by rw[HY.out,List.length_append,lC];rfl)
 have HZF:=Lib.hid (sign_fin (HFIN.out.2.2.1.kept kF id) lY.out)
 go_wp2_with (first|((with_reducible show wpList _ _ _ (⟨some 58,_,_,_,_,_⟩::_) _ _);refine wpList_load_mid rfl 32 _ rfl w.heap.size 0 rfl C _ rF Tryz.underlying32 rfl HI.out ?_)|((with_reducible show wpList _ _ _ (⟨none,.store _ (.tmp 4) _,_,_,_,_⟩::_) _ _);refine wpList_store_mid rfl 63 _ _ rfl (w.heap.size+1) 0 Y.toArray rfl rfl ?htv13 ?hiv13 ?h1v13 ?_))
 case htv13=>exact HZF.out.1
 case hiv13=>first|exact info_sized lY.out|simpa using info_sized lY.out
 case h1v13=>first|exact sign_one HY.out HCC.out|exact all_oneCell_toArray (sign_one HY.out HCC.out)
 refine bodyPost_ret (HZF.out.2.result2 rfl rfl Tryz.underlying63 rfl (info_sized lY.out)) rfl ?_
 exact sign_yes (S':=fun k=>S k\/(Value.slice a1 n1 c1).ownBlock=some k) HFIN.out.1 (fun k hk=>hk.elim Or.inl (fun q=>(HFA2.out k q).imp id (fun o=>by have:=HSZ.out;omega))) HH.out.2.1 HH.out.2.2.1 HFIN.out.2.2.2.1 HFIN.out.2.2.2.2 kF HR5.out HY.out HCC.out HSG.out HDG2.out
end
section
variable {w : World} {r d : Nat} {R : RingM} {S : Nat → Prop}
theorem ring_key (h:IsRing w r d R S) (ht:Tab w) :
  Calls Tryz.prog 24 #[.pointer (some ⟨r,0,none⟩)] w fun e w'=>e = .returned (hashV (rootF (leavesF R.seed.data.toList)))/\Kept (fun _=>False) w w':=by
 have ka:Kept (fun _=>False) w (w.alloc (.cells (zeros 32).toArray 30)):=(Kept.refl _ _).alloc _
 have hn:=ring_none (h.same ka)
 have h':=h.same ka
 obtain⟨⟨t,v,h1,h2,h3,h4,h5⟩,h6,h7,h8,h9⟩:=h'
 have c1:=h1.cell (i:=1) rfl
 have c1b:=c1
 simp only[zeros,List.replicate]at c1b
 have hb:=Blk.new w (zeros 32) 30
 have hroot:=(treeRoot_any h2 (ht.same ka)).mono (R':=fun e w2=>e = .returned (hashV (rootF (leavesF R.seed.data.toList)))/\Hid (Blk w2 w.heap.size (zeros 32) 30/\Kept (fun _=>False) w w2)) (fun e w2 q=>⟨q.1,Lib.hid ⟨hb.kept q.2 id,ka.trans q.2⟩⟩)
 have hl:=rootF_len h2.2.2
 generalize rootF (leavesF R.seed.data.toList)=H at *
 have HN:=Lib.hid hn
 have HR:=Lib.hid hroot
 have HL:=Lib.hid hl
 have HI:=Lib.hid (show(Tryz.prog.info? 30).map (·.size)=some (bytes8 H).length by rw[bytes8_len,hl];exact info_h32)
 clear hn hroot hl h1 h2 h3 h4 h5 h6 h7 h8 h9 hb ka h
 go_enter Tryz.func24,Tryz.ntmps24
 go_wp2_with (first|(go_at_call 63;refine HN.out.mono ?_;rintro e w' ⟨rfl,rfl⟩)|(go_at_call 72;refine HR.out.mono ?_;rintro e w2 ⟨rfl,HB⟩)|((with_reducible show wpList _ _ _ (⟨none,.store _ (.tmp 2) _,_,_,_,_⟩::_) _ _);refine wpList_store_mid rfl 30 _ _ rfl w.heap.size 0 (bytes8 H).toArray rfl rfl ?hth ?hi ?h1 ?_))
 case hth=>exact(hash_stored HB.out.1 (zeros_len 32) HL.out).1
 case hi=>first|exact info_hash HL.out|simpa using info_hash HL.out
 case h1=>first|exact all_oneCell_toArray (fun y hy=>u8_oneCell y hy)|exact fun y hy=>u8_oneCell y hy
 have hst:=hash_stored HB.out.1 (zeros_len 32) HL.out
 refine bodyPost_ret (hst.2.result rfl rfl Tryz.underlying30 rfl HI.out) rfl ⟨rfl,?_⟩
 exact HB.out.2.then_ (kept_setCells _ _ _ _) (fun i hi e=>by omega)
abbrev LastS (wA w':World) (r g m cap b:Nat) (C:List Value):Prop:=w'.cell? ⟨r,2,none⟩=some (.slice (some ⟨g,0,none⟩) (m+1) cap)/\w'.rangeAt g (m*33) C/\(∃ D:List Value,D.length=33/\Blk w' b D 32)/\Kept (· = b) wA w'
theorem lastS_store {wA w1:World} {r g m cap b:Nat} {C:List Value} (hC:C.length=33) (hr:r≠b) (hg:g≠b) (hgl:g<wA.heap.size) (h:LastS wA w1 r g m cap b C):w1.there b 0 C.toArray.size/\LastS wA (w1.setCells b 0 C.toArray.toList) r g m cap b C/\Blk (w1.setCells b 0 C.toArray.toList) b C 32:=by
 obtain⟨h1,h2,⟨D,hD,hb⟩,hk⟩:=h
 have k:=kept_setCells w1 b 0 C
 have hb2:=hb.setCells 0 C (by omega)
 rw[splice_whole (by omega)]at hb2
 exact⟨hb.there 0 _ (by rw[List.size_toArray];omega),⟨k.cell h1 hr,rangeAt_kept h2 k (Nat.lt_of_lt_of_le hgl hk.size) hg,⟨C,hC,hb2⟩,hk.then_ k (fun _ _ e=>e)⟩,hb2⟩
theorem head0_len:(headC 0 zeroRoot).length=33:=headC_len (by simp)
abbrev lastW (w:World):World:=w.alloc (.cells (headC 0 zeroRoot).toArray 32)
theorem ring_last (h:IsRing w r d R S) (m:Nat) (a:Hd) (hm:R.signed[m]? = some a) (hl:R.signed.length=m+1) :
  Calls Tryz.prog 48 #[.pointer (some ⟨r,0,none⟩)] w fun e w'=>e = .returned (.tuple #[headV (a.1:Int) a.2,.bool true])/\Kept (fun _=>False) w w':=by
 have kA:Kept (fun _=>False) w (lastW w):=(Kept.refl _ _).alloc _
 have hu:=ring_used (h.same kA)
 rw[hl]at hu
 have hrl:=h.lt
 have h':=h.same kA
 have ha32:=(h.oks a (List.mem_of_getElem? hm)).2.2
 have hm8:=h.few
 obtain⟨⟨t,v,h1,h2,h3,h4,h5⟩,h6,h7,h8,h9⟩:=h'
 obtain⟨x,n,cap,rfl,hn,_,hx⟩:=h3.form (by omega)
 rw[hdC_len (fun x hx=>(h7 x hx).2.2)]at hn
 obtain rfl:n=m+1:=by omega
 obtain⟨g,rfl,hg,_⟩:=hx (by omega)
 have hgl:=h3.lt hg
 have hr:=h3.rangeAt (m*33) 33
 rw[hdC_at (fun x hx=>(h7 x hx).2.2) m hm]at hr
 have hb:=head_blk w 0 zeroRoot
 have hgw:g≠w.heap.size:=by
  obtain⟨⟨t',v',q1,q2,q3,q4,q5⟩,-⟩:=id h
  have e:v' = .slice (some ⟨g,0,none⟩) (m+1) cap:=by
   have c1:=(q1.kept kA id).cell (i:=2) rfl
   rw[h1.cell (i:=2) rfl]at c1
   exact(Option.some.inj c1).symm
  rw[e]at q3
  have:=q3.lt hg
  omega
 obtain⟨C,hC⟩:∃ C,headC (a.1:Int) a.2=C:=⟨_,rfl⟩
 rw[hC]at hr
 have lC:C.length=33:=by rw[<- hC];exact headC_len ha32
 obtain⟨wA,hwA⟩:∃ wA,wA=lastW w:=⟨_,rfl⟩
 have hu':Calls Tryz.prog 20 #[.pointer (some ⟨r,0,none⟩)] (lastW w) fun e w'=>e = .returned (.int .i64 ((m:Int)+1))/\wA=w':=by rw[hwA];exact hu
 have c2:=h1.cell (i:=2) rfl
 have SA:LastS wA wA.drew r g m cap w.heap.size C:=by rw[hwA];exact⟨c2,hr,⟨_,head0_len,hb.drew⟩,(Kept.refl _ _).drew⟩
 have HT:=Lib.hid (fun w1 (q:LastS wA w1 r g m cap w.heap.size C)=>lastS_store lC (by omega) hgw (by rw[hwA];exact hgl) q)
 have HI:=Lib.hid (show(Tryz.prog.info? 32).map (·.size)=some C.length by rw[lC];exact info_head)
 have HO:Hid (∀ v∈C,v.oneCell'=true):=Lib.hid (by rw[<- hC];exact head_oneCell)
 have HC:=Lib.hid hC
 have HU:=Lib.hid hu'
 have a1:IntKind.i64.wrap (m:Int)=(m:Int):=IntWalk.i64_in _ (by omega)
 have y1:((m:Int)+1==0)=false:=by simp;omega
 have y2:decide ((m:Int)+1=0)=false:=decide_eq_false (by omega)
 have y4:(m:Int)<(m:Int)+1:=by omega
 have HK:=Lib.hid (by rw[hwA];exact kA:Kept (fun _=>False) w wA)
 clear hu hu' h h1 h2 h3 h4 h5 h6 h7 h8 h9 hn hx hg hgl hr hb hgw hC kA hm hl hm8 lC hwA c2
 go_enter Tryz.func48,Tryz.ntmps48
 go_wp2_with (first|(go_at_call 20;refine HU.out.mono ?_;rintro e w' ⟨rfl,rfl⟩))
 refine wp_region_held_drew (S:=(fun w'=>LastS wA w' r g m cap w.heap.size C)) (by kernel_rfl) SA (fun hH0=>?_)
 refine ti 0 hH0 ?_
 refine ti 1 hH0 ?_
 refine ti 2 hH0 ?_
 refine ti 3 hH0 ?_
 refine ti 4 hH0 ?_
 refine ti 5 hH0 ?_
 refine ti 6 hH0 ?_
 refine ti 7 hH0 ?_
 refine ti 8 hH0 ?_
 refine ti 9 hH0 ?_
 refine ti 10 hH0 ?_
 refine tky 11 rfl (fun _ _ _ h=>h) (yieldsIf_load_mid (by rfl) _ _ rfl (g) (m*33) rfl (C) _ (fun w q=>q.2.1) Tryz.underlying32 rfl HI.out) hH0 ?_
 refine rd1 12 (fun K hK=>?_)
 have HBL:=Lib.hid (HT.out _ hH0).2.2
 rw[if_pos (by rfl)]
 refine wp_store_mid _ _ _ rfl w.heap.size 0 C.toArray rfl rfl (HT.out _ hH0).1 (by rw[List.size_toArray];exact HI.out) (all_oneCell_toArray HO.out) ?_
 refine hK.out _ _ ((HT.out _ hH0).2.1) (fun hH1=>?_)
 clear hK K
 try simp only[lyA,lyB,lyC,lyD]
 refine rd1 13 (fun K hK=>?_)
 go_simp
 refine hK.out _ _ (hH1) (fun hH2=>?_)
 clear hK K
 try simp only[lyA,lyB,lyC,lyD]
 refine dn ?_
 go_wp2_with fail
 refine bodyPost_ret (HBL.out.result2 rfl rfl Tryz.underlying32 rfl HI.out) rfl ⟨by rw[<- HC.out];rfl,?_⟩
 exact HK.out.then_ hH2.2.2.2 (fun i hi e=>by omega)
theorem noring_head (w:World):Blk (lastW w) w.heap.size (headC 0 zeroRoot) 32:=head_blk w 0 zeroRoot
theorem last_zero {w1:World} {b:Nat} (h:Blk w1 b (headC 0 zeroRoot) 32):w1.there b 0 (headC 0 zeroRoot).toArray.size/\Blk (w1.setCells b 0 (headC 0 zeroRoot)) b (headC 0 zeroRoot) 32:=by
 have h0:=head0_len
 refine⟨h.there 0 _ (by rw[List.size_toArray];omega),?_⟩
 have:=h.setCells 0 (headC 0 zeroRoot) (by omega)
 rw[splice_whole (by omega)]at this
 exact this
theorem info_head0:(Tryz.prog.info? 32).map (·.size)=some (headC 0 zeroRoot).length:=by rw[head0_len];exact info_head
theorem last_used0 (w:World) (v:Value) (hu:Calls Tryz.prog 20 #[v] (lastW w) fun e w'=>e = .returned (.int .i64 0)/\lastW w=w') :
  Calls Tryz.prog 48 #[v] w fun e w'=>e = .returned (.tuple #[.agg (headC 0 zeroRoot).toArray,.bool false])/\Kept (fun _=>False) w w':=by
 have HU:=Lib.hid hu
 have HB:=Lib.hid (last_zero (noring_head w))
 clear hu
 go_enter Tryz.func48,Tryz.ntmps48
 go_wp2_with (first|(go_at_call 20;refine HU.out.mono ?_;rintro e w' ⟨rfl,rfl⟩)|((with_reducible show wpList _ _ _ (⟨none,.store _ (.tmp 2) _,_,_,_,_⟩::_) _ _);refine wpList_store_mid rfl 32 _ _ rfl w.heap.size 0 (headC 0 zeroRoot).toArray rfl rfl ?hth ?hi ?h1 ?_))
 case hth=>exact HB.out.1
 case hi=>exact(by rw[List.size_toArray];exact info_head0)
 case h1=>exact all_oneCell_toArray head_oneCell
 refine bodyPost_ret (HB.out.2.result2 rfl rfl Tryz.underlying32 rfl info_head0) rfl ⟨rfl,?_⟩
 exact((Kept.refl (fun _=>False) w).alloc _).then_ (kept_setCells _ _ _ _) (fun i hi e=>by omega)
theorem ring_last0 (h:IsRing w r d R S) (hl:R.signed=[]) :
  Calls Tryz.prog 48 #[.pointer (some ⟨r,0,none⟩)] w fun e w'=>e = .returned (.tuple #[.agg (headC 0 zeroRoot).toArray,.bool false])/\Kept (fun _=>False) w w':=by
 have hu:=ring_used (h.same ((Kept.refl (fun _=>False) w).alloc (.cells (headC 0 zeroRoot).toArray 32)))
 rw[hl]at hu
 exact last_used0 w _ hu
end
theorem signed_head_range {w:World} {b:Nat} {size:Int} {root:By} {i:Int} {sig:ByteArray} {v:Value} {t:TypeId} (hr:root.length=32) (h:Blk w b (signedC size root i sig v) t):w.rangeAt b 0 (headC size root):=by
 have hl:=headC_len (size:=size) hr
 have r1:=h.rangeAt 0 33
 have e1:((signedC size root i sig v).drop 0).take 33=headC size root:=by unfold signedC;rw[List.drop_zero,List.take_append_of_le_length (by omega),List.take_of_length_le (by omega)]
 rw[e1]at r1
 exact r1
theorem same_ok (w:World) (size:Int) (root:By) (i:Int) (sig:ByteArray) (a a':Option Addr) (c c' n n':Nat) (L:List By) (hr:root.length=32) (hu:View w 32 (.slice a n c) (hcells L)) (hv:View w 32 (.slice a' n' c') (hcells L)) (h32:∀ x∈L,x.length=32) (hL:L.length<=1000000) (hvl:L.length*32<=1000000000) :
  Calls Tryz.prog 22 #[signedV size root i sig (.slice a n c),signedV size root i sig (.slice a' n' c')] w fun e w'=>e = .returned (.bool true)/\Kept (fun _=>False) w w':=by
 have b0:=(Blk.new w (signedC size root i sig (.slice a n c)) 63).alloc (.cells (signedC size root i sig (.slice a' n' c')).toArray 63)
 have b1:=Blk.new (w.alloc (.cells (signedC size root i sig (.slice a n c)).toArray 63)) (signedC size root i sig (.slice a' n' c')) 63
 rw[World.size_alloc]at b1
 have kW:Kept (fun _=>False) w ((w.alloc (.cells (signedC size root i sig (.slice a n c)).toArray 63)).alloc (.cells (signedC size root i sig (.slice a' n' c')).toArray 63)):=((Kept.refl _ _).alloc _).alloc _
 obtain⟨q0,q1,q2,q3⟩:=signed_at (size:=size) (i:=i) (sig:=sig) (v:=.slice a n c) hr
 obtain⟨p0,p1,p2,p3⟩:=signed_at (size:=size) (i:=i) (sig:=sig) (v:=.slice a' n' c') hr
 have c1:=b0.cell q1
 have c2:=b0.cell q2
 have c3:=b0.cell q3
 have d1:=b1.cell p1
 have d2:=b1.cell p2
 have d3:=b1.cell p3
 have HR0:=Lib.hid (signed_head_range hr b0)
 have HR1:=Lib.hid (signed_head_range hr b1)
 have HI:=Lib.hid (show(Tryz.prog.info? 32).map (·.size)=some (headC size root).length by rw[headC_len hr];exact info_head)
 have heq:=fun w'=>eql_head w' size size root root hr hr
 simp only[true_and,decide_true,and_self]at heq
 have HE:=Lib.hid (equal_ok _ _ _ L (hu.same kW (by omega)) (hv.same kW (by omega)) h32 hL)
 have HK:=Lib.hid kW
 clear q0 q1 q2 q3 p0 p1 p2 p3 b0 b1 hu hv kW
 go_enter Tryz.func22,Tryz.ntmps22
 go_wp2_with (first|((with_reducible show wpList _ _ _ (⟨some 6,_,_,_,_,_⟩::_) _ _);refine wpList_load_mid rfl 32 _ rfl w.heap.size 0 rfl (headC size root) _ HR0.out Tryz.underlying32 rfl HI.out ?_)|((with_reducible show wpList _ _ _ (⟨some 8,_,_,_,_,_⟩::_) _ _);refine wpList_load_mid rfl 32 _ rfl (w.heap.size+1) 0 rfl (headC size root) _ HR1.out Tryz.underlying32 rfl HI.out ?_)|(go_at_call 69;refine HE.out.mono ?_;rintro e w2 ⟨rfl,hk2⟩))
 go_ret
 exact⟨rfl,HK.out.trans hk2⟩
structure Held (w:World) (r d:Nat) (R:RingM) (M:DiskM) (B S:Nat->Prop):Prop where
 ap:Apart B d M w
 ring:IsRing w r d R S
 sub:∀ k,S k->B k
 keep:Keeps B
 off:¬ S 0/\¬ S 1
 tab:Tab w
theorem topF_32 (n:Nat):∀ (l:List By) (i:Nat),l.length<=n->(∀ x∈l,x.length=32)->∀ x∈topF l i,x.length=32:=by
 induction n with
 | zero=>intro l i hl _ x hx;rw[topF_few (by omega)]at hx;cases hx
 | succ n ih =>
  intro l i hl h x hx
  by_cases h2:2<=l.length
  ·have hs:=splitN_in h2
   by_cases hi:i<splitN l.length
   ·rw[topF_low h2 hi]at hx
    rcases List.mem_cons.1 hx with rfl|hx
    ·exact rootF_len (fun y hy=>h y (List.mem_of_mem_drop hy))
    ·exact ih _ _ (by rw[List.length_take];omega) (fun y hy=>h y (List.mem_of_mem_take hy)) x hx
   ·rw[topF_high h2 hi]at hx
    rcases List.mem_cons.1 hx with rfl|hx
    ·exact rootF_len (fun y hy=>h y (List.mem_of_mem_take hy))
    ·exact ih _ _ (by rw[List.length_drop];omega) (fun y hy=>h y (List.mem_of_mem_drop hy)) x hx
  ·rw[topF_few h2]at hx;cases hx
theorem pathF_32 (seed:By) (i:Nat):∀ x∈pathF (leavesF seed) i,x.length=32:=by
 intro x hx
 unfold pathF at hx
 exact topF_32 _ _ i (Nat.le_refl _) (leaves_32 seed) x (List.mem_reverse.1 hx)
theorem head_signed (seed:By) (size:Nat) (root:By) (i:Nat) (hi:i<8):headF (rootF (leavesF seed)) size root i (signF seed i (digestF size root)) (pathF (leavesF seed) i)=0:=by
 have h:=proves_sign seed i hi (digestF size root)
 have hc:checkAns (leafF (recoveredF (signF seed i (digestF size root)) (digestF size root))) (rootF (leavesF seed)) i 8 (pathF (leavesF seed) i)=0:=by
  unfold checkAns
  simp[h,hi]
 unfold headF verifyF
 rw[hc]
 simp
section
variable {w w' : World} {r d : Nat} {R R' : RingM} {M M' : DiskM} {B S : Nat → Prop}
theorem Held.more (h:Held w r d R M B S) (hk:Kept (fun _=>False) w w'):Held w' r d R M (fun k=>B k\/(w.heap.size<=k/\k<w'.heap.size)) S :=
 ⟨h.ap.grow hk (fun _ _=>False.elim) (fun _ q=>q),h.ring.same hk,fun k q=>Or.inl (h.sub k q),⟨Or.inl h.keep.1,Or.inl h.keep.2⟩,h.off,h.tab.same hk⟩
def SignedTo (B S:Nat->Prop) (r d:Nat) (w:World) (size:Nat) (root:By) (i:Nat) (R':RingM) (M':DiskM) (e:Ending) (w':World):Prop :=
 ∃ a c S',e = .returned (.tuple #[signedV (size:Int) root (i:Int) ⟨(signF R'.seed.data.toList i (digestF size root)).toArray⟩ (.slice a 3 c),.int .i64 0])/\Row w' 30 32 (.slice a 3 c) (hcells (pathF (leavesF R'.seed.data.toList) i)) /\
  (∀ k,S' k->S k\/w.heap.size<=k)/\Held w' r d R' M' (fun k=>B k\/S' k\/(Value.slice a 3 c).ownBlock=some k) S'/\Kept (fun k=>¬ B k\/S k) w w'/\∀ k,(Value.slice a 3 c).ownBlock=some k->w.heap.size<=k/\¬ S' k
theorem path_len (L:List By) (hL:L.length=8) (i:Nat) (hi:i<8):(pathF L i).length=3:=(proves_eight L hL i hi).1
theorem tab_lt (h:Tab w):0<w.heap.size/\1<w.heap.size :=
 ⟨World.block_lt_of_cell? w _ (h.first 0 _ rfl),World.block_lt_of_cell? w _ (h.rounds 0 _ rfl)⟩
theorem signed_to {size:Nat} {root:By} {i:Nat} {e:Ending} (h:Held w r d R M B S) (hi:i<8) (hy:SignYes B S r d w size root i R' M' e w'):SignedTo B S r d w size root i R' M' e w':=by
 obtain⟨v,S',rfl,hrow,hown,hr,hS',ha,hk⟩:=hy
 obtain⟨a,n,c,rfl,hn,-⟩:=hrow.form (by omega)
 rw[hcells_len (pathF_32 _ i),path_len _ (leavesF_len _) i hi]at hn
 obtain rfl:n=3:=by omega
 have ht:=tab_lt h.tab
 have hoff:∀ k,k<w.heap.size->¬ S k->¬ S' k:=fun k hl hn q=>(hS' k q).elim hn (fun q=>by omega)
 exact⟨a,c,S',rfl,hrow,hS',⟨ha,hr,fun k q=>Or.inr (Or.inl q),⟨Or.inl h.keep.1,Or.inl h.keep.2⟩,⟨hoff _ ht.1 h.off.1,hoff _ ht.2 h.off.2⟩,h.tab.kept hk (fun q=>q.elim (fun n=>n h.keep.1) h.off.1) (fun q=>q.elim (fun n=>n h.keep.2) h.off.2)⟩,hk,hown⟩
theorem refused_to {x:Int} {e:Ending} (h:Held w r d R M B S) (hn:SignNo B S r d w x R' M' e w'):e = .returned (.tuple #[.agg signed0C.toArray,.int .i64 x])/\Held w' r d R' M' B S/\Kept (fun k=>¬ B k\/k=r) w w':=by
 obtain⟨rfl,hr,ha,hk⟩:=hn
 have ho:∀ k,¬ S k->¬ k=r:=fun k n e=>n (by rw[e];exact h.ring.own)
 exact⟨rfl,⟨ha,hr,h.sub,h.keep,h.off,h.tab.kept hk (fun q=>q.elim (fun n=>n h.keep.1) (ho _ h.off.1)) (fun q=>q.elim (fun n=>n h.keep.2) (ho _ h.off.2))⟩,hk⟩
theorem opened_to {seed:ByteArray} {l:List Hd} {e:Ending} (hB:Keeps B) (ht:Tab w) (ho:OpenPost B d w seed (0,l,M') e w'):∃ rb S,e = .returned (.tuple #[.pointer (some ⟨rb,0,none⟩),.int .i64 0])/\(∀ k,S k->w.heap.size<=k)/\Held w' rb d ⟨seed,l,M'.starts,false⟩ M' (fun k=>B k\/S k) S/\Kept (fun k=>¬ B k) w w':=by
 rcases ho with⟨h0,_⟩|⟨-,rb,S,rfl,hr,hS,ha,hk⟩
 ·exact absurd rfl h0
 ·have hl:=tab_lt ht
  exact⟨rb,S,rfl,hS,⟨ha,hr,fun k q=>Or.inr q,⟨Or.inl hB.1,Or.inl hB.2⟩,⟨fun q=>by have:=hS _ q;omega,fun q=>by have:=hS _ q;omega⟩,ht.apart hk hB⟩,hk⟩
theorem held_fresh (h:Held w r d R M B S) (size:Nat) (root:By) (hz1:1<=size) (hz:size<=4096) (hroot:root.length=32) (ho:R.over M=false) (i:Nat) (hi:i<8) (hil:R.signed.length=i) (hx:nextF R.signed (size:Int) root=((i:Int),true,0)) (M':DiskM) (hkr:M.keepR (size,root)=(0,M')) (hc:M.files.length+M.loose.length<300000000) :
  Calls Tryz.prog 21 #[.pointer (some ⟨r,0,none⟩),headV (size:Int) root] w (SignedTo B S r d w size root i { R with signed:=R.signed++[(size,root)] } M') :=
 (sign_fresh h.ring h.ap h.sub size root hz hroot ho hz1 i hi hil hx M' hkr hc h.keep h.tab h.off).mono fun _ _ q=>signed_to h hi q
theorem held_again (h:Held w r d R M B S) (size:Nat) (root:By) (hz:size<=4096) (hroot:root.length=32) (ho:R.over M=false) (i:Nat) (hi:i<8) (hx:nextF R.signed (size:Int) root=((i:Int),false,0)) :
  Calls Tryz.prog 21 #[.pointer (some ⟨r,0,none⟩),headV (size:Int) root] w (SignedTo B S r d w size root i R M) :=
 (sign_again h.ring h.ap h.sub size root hz hroot ho i hi hx h.tab h.off).mono fun _ _ q=>signed_to h hi q
def SignedAs (B S:Nat->Prop) (r d:Nat) (w:World) (size:Nat) (root:By) (i:Nat) (R':RingM) (M':DiskM) (e:Ending) (w':World):Prop :=
 ∃ a c S' Y,e = .returned (.tuple #[.agg Y.toArray,.int .i64 0])/\Hid (Y=signedC (size:Int) root (i:Int) ⟨(signF R'.seed.data.toList i (digestF size root)).toArray⟩ (.slice a 3 c)/\Y.length=36/\(∀ v∈Y,v.oneCell'=true)/\Row w' 30 32 (.slice a 3 c) (hcells (pathF (leavesF R'.seed.data.toList) i)) /\
  (∀ k,S' k->S k\/w.heap.size<=k)/\Held w' r d R' M' (fun k=>B k\/S' k\/(Value.slice a 3 c).ownBlock=some k) S'/\Kept (fun k=>¬ B k\/S k) w w'/\∀ k,(Value.slice a 3 c).ownBlock=some k->w.heap.size<=k/\¬ S' k)
theorem signed_as {size:Nat} {root:By} {i:Nat} {e:Ending} (hroot:root.length=32) (h:SignedTo B S r d w size root i R' M' e w'):SignedAs B S r d w size root i R' M' e w':=by
 obtain⟨a,c,S',he,h1,h2,h3,h4,h5⟩:=h
 exact⟨a,c,S',_,he,Lib.hid ⟨rfl,signedC_len hroot,signedC_one rfl,h1,h2,h3,h4,h5⟩⟩
def RefusedTo (B S:Nat->Prop) (r d:Nat) (w:World) (x:Int) (R':RingM) (M':DiskM) (e:Ending) (w':World):Prop:=e = .returned (.tuple #[.agg signed0C.toArray,.int .i64 x])/\Held w' r d R' M' B S/\Kept (fun k=>¬ B k\/k=r) w w'
theorem held_refused (h:Held w r d R M B S) (size:Int) (root:By) (hroot:root.length=32) (ho:R.over M=false) (i:Int) (fr:Bool) (x:Int) (hx:nextF R.signed size root=(i,fr,x)) (hx0:x≠0) :
  Calls Tryz.prog 21 #[.pointer (some ⟨r,0,none⟩),headV size root] w (RefusedTo B S r d w x R M) :=
 (sign_refused h.ring h.ap h.sub size root hroot ho i fr x hx hx0).mono fun _ _ q=>refused_to h q
end
theorem frame_room {h:Hd} (hh:HdOk h):(frameF (recordF h)).length<=144:=by have:=recordF_len hh;rw[frameF_len];omega
theorem local_next {w w' w2:World} {B S S' V:Nat->Prop} {b:Nat} {c:List Value} {t:TypeId} (h:Blk w b c t/\¬ S b/\B b) (hk:Kept (fun k=>¬ B k\/S k) w w') (hS:∀ k,S' k->S k\/w.heap.size<=k) (hk2:Kept (fun _=>False) w' w2):Blk w2 b c t/\¬ S' b/\((B b\/S' b\/V b)\/(w'.heap.size<=b/\b<w2.heap.size)):=by
 have hl:=h.1.lt
 exact⟨(h.1.kept hk (fun q=>q.elim (fun n=>n h.2.2) h.2.1)).kept hk2 id,fun q=>(hS _ q).elim h.2.1 (fun q=>by omega),Or.inl (Or.inl h.2.2)⟩
theorem local_refused {w w' w2:World} {B S:Nat->Prop} {r b:Nat} {c:List Value} {t:TypeId} (h:Blk w b c t/\¬ S b/\B b) (hk:Kept (fun k=>¬ B k\/k=r) w w') (hr:S r) (hk2:Kept (fun _=>False) w' w2):Blk w2 b c t/\¬ S b/\(B b\/(w'.heap.size<=b/\b<w2.heap.size)) :=
 ⟨(h.1.kept hk (fun q=>q.elim (fun n=>n h.2.2) (fun e=>h.2.1 (by rw[e];exact hr)))).kept hk2 id,h.2.1,Or.inl h.2.2⟩
theorem local_new {w' w2:World} {r d b:Nat} {R:RingM} {M:DiskM} {B B2 S:Nat->Prop} {c:List Value} {t:TypeId} (_:Held w2 r d R M B2 S) (h:Held w' r d R M B S) (hb:Blk w2 b c t) (hle:w'.heap.size<=b):Blk w2 b c t/\¬ S b/\(B b\/(w'.heap.size<=b/\b<w2.heap.size)) :=
 ⟨hb,fun q=>by have:=h.ap.lt (h.sub _ q);omega,Or.inr ⟨hle,hb.lt⟩⟩
theorem row_new {w' w2:World} {r d:Nat} {R:RingM} {M:DiskM} {B S:Nat->Prop} {v:Value} {xs:List Value} {n:Nat} (_:Held w2 r d R M B S) (h:Row w' 30 32 v xs) (hk:Kept (fun _=>False) w' w2) (ho:∀ k,v.ownBlock=some k->n<=k/\¬ S k) (hB:∀ k,v.ownBlock=some k->B k):Row w2 30 32 v xs/\∀ k,v.ownBlock=some k->¬ S k/\B k :=
 ⟨h.kept hk (fun _ _=>id),fun k q=>⟨(ho k q).2,hB k q⟩⟩
theorem row_next {w w' w2:World} {B S S' V:Nat->Prop} {v:Value} {xs:List Value} (h:Row w 30 32 v xs/\∀ k,v.ownBlock=some k->¬ S k/\B k) (hk:Kept (fun k=>¬ B k\/S k) w w') (hS:∀ k,S' k->S k\/w.heap.size<=k) (hk2:Kept (fun _=>False) w' w2):Row w2 30 32 v xs/\∀ k,v.ownBlock=some k->¬ S' k/\((B k\/S' k\/V k)\/(w'.heap.size<=k/\k<w2.heap.size)) :=
 ⟨(h.1.kept hk (fun k q n=>n.elim (fun n=>n (h.2 k q).2) (h.2 k q).1)).kept hk2 (fun _ _=>id),fun k q=>⟨fun n=>(hS k n).elim (h.2 k q).1 (fun o=>by have:=h.1.lt q;omega),Or.inl (Or.inl (h.2 k q).2)⟩⟩
theorem row_refused {w w' w2:World} {B S:Nat->Prop} {r:Nat} {v:Value} {xs:List Value} (h:Row w 30 32 v xs/\∀ k,v.ownBlock=some k->¬ S k/\B k) (hk:Kept (fun k=>¬ B k\/k=r) w w') (hr:S r) (hk2:Kept (fun _=>False) w' w2):Row w2 30 32 v xs/\∀ k,v.ownBlock=some k->¬ S k/\(B k\/(w'.heap.size<=k/\k<w2.heap.size)) :=
 ⟨(h.1.kept hk (fun k q n=>n.elim (fun n=>n (h.2 k q).2) (fun e=>(h.2 k q).1 (by rw[e];exact hr)))).kept hk2 (fun _ _=>id),fun k q=>⟨(h.2 k q).1,Or.inl (h.2 k q).2⟩⟩
theorem check_of {w:World} {sd:By} {size i:Nat} {root:By} {a:Option Addr} {c:Nat} {Y:List Value} (hY:Y=signedC (size:Int) root (i:Int) ⟨(signF sd i (digestF size root)).toArray⟩ (.slice a 3 c)) (hz:size<=4096) (hroot:root.length=32) (hi:i<8) (hrow:Row w 30 32 (.slice a 3 c) (hcells (pathF (leavesF sd) i))) (ht:Tab w) :
  Calls Tryz.prog 23 #[hashV (rootF (leavesF sd)),.agg Y.toArray] w fun e w2=>e = .returned (.int .i64 0)/\Kept (fun _=>False) w w2:=by
 have h:=headCheck_ok w (rootF (leavesF sd)) size i root ⟨(signF sd i (digestF size root)).toArray⟩ a c (pathF (leavesF sd) i) (rootF_len (leaves_32 _)) hroot hz hi (by show(signF _ _ _).toArray.size=_;simp[signF_len]) hrow.view (pathF_32 _ _) (by rw[path_len _ (leavesF_len _) i hi];omega) (fun b hb=>hrow.lt hb) ht
 have e1:(⟨(signF sd i (digestF size root)).toArray⟩:ByteArray).data.toList=signF sd i (digestF size root):=List.toList_toArray
 rw[e1,head_signed sd size root i hi]at h
 rw[hY]
 exact h
theorem same_of {w:World} {sd:By} {size i:Nat} {root:By} {sig:ByteArray} {a a':Option Addr} {c c':Nat} {Y Y':List Value} (hY:Y=signedC (size:Int) root (i:Int) sig (.slice a 3 c)) (hY':Y'=signedC (size:Int) root (i:Int) sig (.slice a' 3 c')) (hroot:root.length=32) (hi:i<8)
  (hrow:Row w 30 32 (.slice a 3 c) (hcells (pathF (leavesF sd) i))) (hrow':Row w 30 32 (.slice a' 3 c') (hcells (pathF (leavesF sd) i))) :
  Calls Tryz.prog 22 #[.agg Y.toArray,.agg Y'.toArray] w fun e w2=>e = .returned (.bool true)/\Kept (fun _=>False) w w2:=by
 rw[hY,hY']
 exact same_ok w (size:Int) root (i:Int) sig a a' c c' 3 3 _ hroot hrow.view hrow'.view (pathF_32 sd i) (by rw[path_len _ (leavesF_len _) i hi];omega) (by rw[path_len _ (leavesF_len _) i hi];omega)
theorem store_signed (w4:World) {Y:List Value} (hY:Y.length=36):(w4.alloc (.cells signed0C.toArray 63)).there w4.heap.size 0 Y.length/\Blk ((w4.alloc (.cells signed0C.toArray 63)).setCells w4.heap.size 0 Y) w4.heap.size Y 63/\Kept (fun _=>False) w4 ((w4.alloc (.cells signed0C.toArray 63)).setCells w4.heap.size 0 Y):=by
 have h:=sign_fin (Blk.new w4 signed0C 63) hY
 exact⟨h.1,h.2,((Kept.refl (fun _=>False) w4).alloc _).then_ (kept_setCells _ w4.heap.size 0 _) (fun i hi e=>by omega)⟩
abbrev Loc:=Nat × List Value × TypeId
section
variable {w0 w w' : World} {d r b : Nat} {M M' : DiskM} {B B' S Z : Nat → Prop} {Lc Lc' : List Loc} {R R' : RingM} {c c' : List Value} {t : TypeId} {x : Int}
end
theorem ropen0:(DiskM.new 10000).openR=(0,[],oneD [] [] 10000 false 0 false 0 0):=by rfl
theorem two_heads (w:World) (x y:Int):((w.alloc (.cells (headC 0 zeroRoot).toArray 32)).alloc (.cells (headC 0 zeroRoot).toArray 32)).there w.heap.size 0 (headC x zeroRoot).toArray.size /\
  (((w.alloc (.cells (headC 0 zeroRoot).toArray 32)).alloc (.cells (headC 0 zeroRoot).toArray 32)).setCells w.heap.size 0 (headC x zeroRoot)).there (w.heap.size+1) 0 (headC y zeroRoot).toArray.size /\
  Blk ((((w.alloc (.cells (headC 0 zeroRoot).toArray 32)).alloc (.cells (headC 0 zeroRoot).toArray 32)).setCells w.heap.size 0 (headC x zeroRoot)).setCells (w.heap.size+1) 0 (headC y zeroRoot)) w.heap.size (headC x zeroRoot) 32 /\
  Blk ((((w.alloc (.cells (headC 0 zeroRoot).toArray 32)).alloc (.cells (headC 0 zeroRoot).toArray 32)).setCells w.heap.size 0 (headC x zeroRoot)).setCells (w.heap.size+1) 0 (headC y zeroRoot)) (w.heap.size+1) (headC y zeroRoot) 32 /\
  Kept (fun _=>False) w ((((w.alloc (.cells (headC 0 zeroRoot).toArray 32)).alloc (.cells (headC 0 zeroRoot).toArray 32)).setCells w.heap.size 0 (headC x zeroRoot)).setCells (w.heap.size+1) 0 (headC y zeroRoot)):=by
 have l0:∀ z:Int,(headC z zeroRoot).length=33:=fun z=>headC_len (by simp)
 have b0:=(Blk.new w (headC 0 zeroRoot) 32).alloc (.cells (headC 0 zeroRoot).toArray 32)
 have b1:=Blk.new (w.alloc (.cells (headC 0 zeroRoot).toArray 32)) (headC 0 zeroRoot) 32
 rw[World.size_alloc]at b1
 have k1:=kept_setCells ((w.alloc (.cells (headC 0 zeroRoot).toArray 32)).alloc (.cells (headC 0 zeroRoot).toArray 32)) w.heap.size 0 (headC x zeroRoot)
 have c0:=b0.setCells 0 (headC x zeroRoot) (by rw[l0,l0];omega)
 rw[splice_whole (by rw[l0,l0])]at c0
 have c1:=b1.kept k1 (by omega)
 have k2:=kept_setCells (((w.alloc (.cells (headC 0 zeroRoot).toArray 32)).alloc (.cells (headC 0 zeroRoot).toArray 32)).setCells w.heap.size 0 (headC x zeroRoot)) (w.heap.size+1) 0 (headC y zeroRoot)
 have d1:=c1.setCells 0 (headC y zeroRoot) (by rw[l0,l0];omega)
 rw[splice_whole (by rw[l0,l0])]at d1
 refine⟨b0.there 0 _ (by rw[List.size_toArray,l0,l0];omega),c1.there 0 _ (by rw[List.size_toArray,l0,l0];omega),c0.kept k2 (by omega),d1,((((Kept.refl (fun _=>False) w).alloc _).alloc _).then_ k1 (fun i hi e=>by omega)).then_ k2 (fun i hi e=>by omega)⟩
theorem info_headz (z:Int):(Tryz.prog.info? 32).map (·.size)=some (headC z zeroRoot).toArray.size:=by rw[List.size_toArray,headC_len (by simp)];exact info_head
abbrev oneRoot:By:=1::List.replicate 31 0
theorem hd2:HdOk (2,zeroRoot):=⟨by omega,by omega,by simp⟩
theorem hd3:HdOk (3,zeroRoot):=⟨by omega,by omega,by simp⟩
theorem ropen2:∃ left',(oneD (([]++frameF (recordF (2,zeroRoot)))++frameF (recordF (3,zeroRoot))) [] 10000 false 0 false 0 0).openR=(0,[(2,zeroRoot),(3,zeroRoot)],oneD (([]++frameF (recordF (2,zeroRoot)))++frameF (recordF (3,zeroRoot))) [] 10000 false 0 false left' 0):=by
 have hr:Rises 0 [(2,zeroRoot),(3,zeroRoot)]:=⟨hd2,by show 0<2;omega,hd3,by show 2<3;omega,trivial⟩
 have e:([]++frameF (recordF (2,zeroRoot)))++frameF (recordF (3,zeroRoot))=ringFile [(2,zeroRoot),(3,zeroRoot)]:=by simp[ringFile,framesF]
 rw[e]
 have hw:=whole_ring hr.ok cutF_nil
 rcases oneD_mend (cap:=10000) (starts:=0) (keep:=0) (left:=0) (fails:=false) hw (readH_records hr (by decide)) (fun h=>by cases h)with⟨left',h1,_⟩|⟨h1,_⟩
 ·refine⟨left',?_⟩
  rw[List.append_nil]at h1
  unfold DiskM.openR
  rw[if_neg (by simp[oneD])]
  exact h1
 ·cases h1
abbrev S11 (w8 w':World) (b1 b2 b3:Nat) (Y1 Y2 Y3:List Value):Prop:=w'.rangeAt b1 0 Y1/\w'.rangeAt b2 0 Y2/\w'.rangeAt b3 0 Y3/\w'.cell? ⟨b1,33,none⟩=some (.int .i64 0)/\w'.cell? ⟨b3,33,none⟩=some (.int .i64 1)/\Kept (fun _=>False) w8 w'
theorem s11_next {w8 w1 w2:World} {b1 b2 b3:Nat} {Y1 Y2 Y3:List Value} (h:S11 w8 w1 b1 b2 b3 Y1 Y2 Y3) (hl:b1<w8.heap.size/\b2<w8.heap.size/\b3<w8.heap.size) (k:Kept (fun _=>False) w1 w2):S11 w8 w2 b1 b2 b3 Y1 Y2 Y3:=by
 have:=h.2.2.2.2.2.size
 exact⟨rangeAt_kept h.1 k (by omega) id,rangeAt_kept h.2.1 k (by omega) id,rangeAt_kept h.2.2.1 k (by omega) id,k.cell h.2.2.2.1 id,k.cell h.2.2.2.2.1 id,h.2.2.2.2.2.trans k⟩
def Fin0 (w0 w:World) (B S:Nat->Prop):Prop:=Kept (fun _=>False) w0 w/\(∀ k,k<w0.heap.size->B k)/\∀ k,S k->w0.heap.size<=k
theorem Fin0.sign {w0 w w' w2:World} {B S S' V:Nat->Prop} (h:Fin0 w0 w B S) (hk:Kept (fun k=>¬ B k\/S k) w w') (hS:∀ k,S' k->S k\/w.heap.size<=k) (hk2:Kept (fun _=>False) w' w2):Fin0 w0 w2 (fun k=>(B k\/S' k\/V k)\/(w'.heap.size<=k/\k<w2.heap.size)) S':=by
 have:=h.1.size
 exact⟨(h.1.then_ hk (fun i hi e=>e.elim (fun n=>n (h.2.1 i hi)) (fun n=>by have:=h.2.2 i n;omega))).then_ hk2 (fun _ _ e=>e),fun k q=>Or.inl (Or.inl (h.2.1 k q)),fun k q=>(hS k q).elim (h.2.2 k) (fun q=>by omega)⟩
theorem Fin0.refused {w0 w w' w2:World} {B S:Nat->Prop} {r:Nat} (h:Fin0 w0 w B S) (hk:Kept (fun k=>¬ B k\/k=r) w w') (hr:S r) (hk2:Kept (fun _=>False) w' w2):Fin0 w0 w2 (fun k=>B k\/(w'.heap.size<=k/\k<w2.heap.size)) S :=
 ⟨(h.1.then_ hk (fun i hi e=>e.elim (fun n=>n (h.2.1 i hi)) (fun n=>by have:=h.2.2 r hr;omega))).then_ hk2 (fun _ _ e=>e),fun k q=>Or.inl (h.2.1 k q),h.2.2⟩
theorem ringed_any (w:World) (ht:Tab w):Calls Tryz.prog 5 #[] w fun e w'=>e = .returned (.bool true)/\Kept (fun _=>False) w w':=by
 have hKB:Keeps (fun k=>k<w.heap.size):=tab_lt ht
 go_enter Tryz.func5,Tryz.ntmps5
 go_wp2_with fail
 refine(new_ok _ 10000 (by omega) (by omega)).mono ?_
 rintro e w1 hnew
 obtain⟨d,rfl,hA1,k1⟩:=Apart.made _ hnew
 clear hnew
 go_wp2_with fail
 have hop:=open_any hA1 ⟨#[115]⟩ (by decide) (by decide) hKB (ht.same k1)
 rw[ropen0]at hop
 refine hop.mono ?_
 clear hop
 intro e w2 ho
 obtain⟨rb,S1,rfl,hS1,hH1,k2⟩:=opened_to hKB (ht.same k1) ho
 clear ho hA1
 obtain⟨sd,hsd⟩:∃ sd:ByteArray,sd=⟨#[115]⟩:=⟨_,rfl⟩
 rw[<- hsd]at hH1
 have hH1:=Lib.hid hH1
 have HSD:=Lib.hid hsd
 clear hsd
 have hu:=ring_used hH1.out.ring
 change Calls _ _ _ _ (fun e w'=>e = .returned (.int .i64 0)/\w2=w')at hu
 have HU:=Lib.hid hu
 have HF:=Lib.hid (And.intro ht (And.intro hKB (And.intro hS1 (And.intro k1 k2))))
 clear hu ht hKB hS1 k1 k2
 have HW:=Lib.hid (two_heads w2 2 3)
 go_upto_region 6 with (first|(go_at_call 20;refine HU.out.mono ?_;rintro e w' ⟨rfl,rfl⟩)|((with_reducible show wpList _ _ _ (⟨none,.store _ (.tmp 5) _,_,_,_,_⟩::_) _ _);refine wpList_store_mid rfl 32 _ _ rfl w2.heap.size 0 (headC 2 zeroRoot).toArray rfl rfl ?hta ?hia ?h1a ?_)|((with_reducible show wpList _ _ _ (⟨none,.store _ (.tmp 6) _,_,_,_,_⟩::_) _ _);refine wpList_store_mid rfl 32 _ _ rfl (w2.heap.size+1) 0 (headC 3 zeroRoot).toArray rfl rfl ?htb ?hib ?h1b ?_))
 case hta=>exact HW.out.1
 case hia=>exact info_headz 2
 case h1a=>exact all_oneCell_toArray head_oneCell
 case htb=>exact HW.out.2.1
 case hib=>exact info_headz 3
 case h1b=>exact all_oneCell_toArray head_oneCell
 generalize hw3:World.setCells _ (w2.heap.size+1) 0 _=w3
 have hb3:Blk w3 w2.heap.size (headC 2 zeroRoot) 32/\Blk w3 (w2.heap.size+1) (headC 3 zeroRoot) 32/\Kept (fun _=>False) w2 w3:=by rw[<- hw3];exact HW.out.2.2
 have HB3:=Lib.hid hb3
 clear hw3 HW hb3
 have H3:=Lib.hid (hH1.out.more HB3.out.2.2)
 have f3:Fin0 w w3 (fun k=>(k<w.heap.size\/S1 k)\/(w2.heap.size<=k/\k<w3.heap.size)) S1:=by
  obtain⟨-,-,q1,q2,q3⟩:=HF.out
  have:=q2.size
  exact⟨(q2.then_ q3 (fun i hi e=>e hi)).then_ HB3.out.2.2 (fun _ _ e=>e),fun k q=>Or.inl (Or.inl q),fun k q=>by have:=q1 k q;omega⟩
 have F3:=Lib.hid f3
 clear f3 HF
 have HI2:=Lib.hid (show(Tryz.prog.info? 32).map (·.size)=some (headC 2 zeroRoot).length by rw[headC_len (by simp)];exact info_head)
 have HI3:=Lib.hid (show(Tryz.prog.info? 32).map (·.size)=some (headC 3 zeroRoot).length by rw[headC_len (by simp)];exact info_head)
 have hsa:=(held_fresh H3.out 2 zeroRoot (by omega) (by omega) (by simp) rfl 0 (by omega) rfl (by rfl) _ (oneD_keepR (2,zeroRoot) (by have:=frame_room hd2;simp only[List.length_nil];omega)) (by decide)).mono (fun _ _ q=>signed_as (by simp) q)
 have HSa:=Lib.hid hsa
 clear hsa
 go_upto_region 7 with (first|((with_reducible show wpList _ _ _ (⟨some 41,_,_,_,_,_⟩::_) _ _);refine wpList_load_mid rfl 32 _ rfl w2.heap.size 0 rfl (headC 2 zeroRoot) _ HB3.out.1.range0 Tryz.underlying32 rfl HI2.out ?_)|(go_at_call 21;refine HSa.out.mono ?_;rintro e ua ⟨aa,ca,Sa,Ya,rfl,HYa⟩)|((with_reducible show wpList _ _ _ (⟨none,.store _ (.tmp 7) _,_,_,_,_⟩::_) _ _);refine wpList_store_mid rfl 63 _ _ rfl ua.heap.size 0 Ya.toArray rfl rfl ?hta ?hia ?h1a ?_))
 case hta=>first|exact(store_signed ua HYa.out.2.1).1|simpa using(store_signed ua HYa.out.2.1).1
 case hia=>first|exact info_sized HYa.out.2.1|simpa using info_sized HYa.out.2.1
 case h1a=>first|exact all_oneCell_toArray HYa.out.2.2.1|exact HYa.out.2.2.1
 generalize hwa:World.setCells _ ua.heap.size 0 _=w4
 have hba:Blk w4 ua.heap.size Ya 63/\Kept (fun _=>False) ua w4:=by rw[<- hwa];exact(store_signed ua HYa.out.2.1).2
 have HBa:=Lib.hid hba
 clear hwa hba
 have HHa:=Lib.hid (HYa.out.2.2.2.2.2.1.more HBa.out.2)
 have hn1:¬ S1 w2.heap.size:=fun q=>by have:=hH1.out.ap.lt (Or.inr q);omega
 have hn2:¬ S1 (w2.heap.size+1):=fun q=>by have:=hH1.out.ap.lt (Or.inr q);omega
 have F4:=Lib.hid (Fin0.sign (V:=fun k=>(Value.slice aa 3 ca).ownBlock=some k) F3.out HYa.out.2.2.2.2.2.2.1 HYa.out.2.2.2.2.1 HBa.out.2)
 clear F3
 have LA5:=Lib.hid (local_next (V:=fun k=>(Value.slice aa 3 ca).ownBlock=some k) ⟨HB3.out.1,hn1,Or.inr ⟨Nat.le_refl _,HB3.out.1.lt⟩⟩ HYa.out.2.2.2.2.2.2.1 HYa.out.2.2.2.2.1 HBa.out.2)
 have LA6:=Lib.hid (local_next (V:=fun k=>(Value.slice aa 3 ca).ownBlock=some k) ⟨HB3.out.2.1,hn2,Or.inr ⟨by omega,HB3.out.2.1.lt⟩⟩ HYa.out.2.2.2.2.2.2.1 HYa.out.2.2.2.2.1 HBa.out.2)
 have LAa:=Lib.hid (local_new HHa.out HYa.out.2.2.2.2.2.1 HBa.out.1 (Nat.le_refl _))
 have RAa:=Lib.hid (row_new HHa.out HYa.out.2.2.2.1 HBa.out.2 HYa.out.2.2.2.2.2.2.2 (fun k q=>Or.inl (Or.inr (Or.inr q))))
 clear hn1 hn2
 have hsb:=(held_again HHa.out 2 zeroRoot (by omega) (by simp) rfl 0 (by omega) (by rfl)).mono (fun _ _ q=>signed_as (by simp) q)
 have HSb:=Lib.hid hsb
 clear hsb
 go_upto_region 8 with (first|((with_reducible show wpList _ _ _ (⟨some 47,_,_,_,_,_⟩::_) _ _);refine wpList_load_mid rfl 32 _ rfl w2.heap.size 0 rfl (headC 2 zeroRoot) _ LA5.out.1.range0 Tryz.underlying32 rfl HI2.out ?_)|(go_at_call 21;refine HSb.out.mono ?_;rintro e ub ⟨ab,cb,Sb,Yb,rfl,HYb⟩)|((with_reducible show wpList _ _ _ (⟨none,.store _ (.tmp 9) _,_,_,_,_⟩::_) _ _);refine wpList_store_mid rfl 63 _ _ rfl ub.heap.size 0 Yb.toArray rfl rfl ?htb ?hib ?h1b ?_))
 case htb=>first|exact(store_signed ub HYb.out.2.1).1|simpa using(store_signed ub HYb.out.2.1).1
 case hib=>first|exact info_sized HYb.out.2.1|simpa using info_sized HYb.out.2.1
 case h1b=>first|exact all_oneCell_toArray HYb.out.2.2.1|exact HYb.out.2.2.1
 generalize hwb:World.setCells _ ub.heap.size 0 _=w5
 have hbb:Blk w5 ub.heap.size Yb 63/\Kept (fun _=>False) ub w5:=by rw[<- hwb];exact(store_signed ub HYb.out.2.1).2
 have HBb:=Lib.hid hbb
 clear hwb hbb
 have HHb:=Lib.hid (HYb.out.2.2.2.2.2.1.more HBb.out.2)
 have F5:=Lib.hid (Fin0.sign (V:=fun k=>(Value.slice ab 3 cb).ownBlock=some k) F4.out HYb.out.2.2.2.2.2.2.1 HYb.out.2.2.2.2.1 HBb.out.2)
 clear F4
 have LB5:=Lib.hid (local_next (V:=fun k=>(Value.slice ab 3 cb).ownBlock=some k) LA5.out HYb.out.2.2.2.2.2.2.1 HYb.out.2.2.2.2.1 HBb.out.2)
 have LB6:=Lib.hid (local_next (V:=fun k=>(Value.slice ab 3 cb).ownBlock=some k) LA6.out HYb.out.2.2.2.2.2.2.1 HYb.out.2.2.2.2.1 HBb.out.2)
 have LBa:=Lib.hid (local_next (V:=fun k=>(Value.slice ab 3 cb).ownBlock=some k) LAa.out HYb.out.2.2.2.2.2.2.1 HYb.out.2.2.2.2.1 HBb.out.2)
 have LBb:=Lib.hid (local_new HHb.out HYb.out.2.2.2.2.2.1 HBb.out.1 (Nat.le_refl _))
 have RBa:=Lib.hid (row_next (V:=fun k=>(Value.slice ab 3 cb).ownBlock=some k) RAa.out HYb.out.2.2.2.2.2.2.1 HYb.out.2.2.2.2.1 HBb.out.2)
 have RBb:=Lib.hid (row_new HHb.out HYb.out.2.2.2.1 HBb.out.2 HYb.out.2.2.2.2.2.2.2 (fun k q=>Or.inl (Or.inr (Or.inr q))))
 have hsc:=held_refused HHb.out 2 oneRoot (by simp) rfl 0 false 83 (by rfl) (by omega)
 have HSc:=Lib.hid hsc
 clear hsc
 go_upto_region 9 with (first|(go_at_call 21;refine HSc.out.mono ?_;rintro e uc ⟨rfl,hHc,hkc⟩;have HYc:=Lib.hid (And.intro hHc hkc);clear hHc hkc)|((with_reducible show wpList _ _ _ (⟨none,.store _ (.tmp 11) _,_,_,_,_⟩::_) _ _);refine wpList_store_mid rfl 63 _ _ rfl uc.heap.size 0 signed0C.toArray rfl rfl ?htc ?hic ?h1c ?_))
 case htc=>first|exact(store_signed uc signed0_len).1|simpa using(store_signed uc signed0_len).1
 case hic=>first|exact info_signed0|(rw[List.size_toArray];exact info_signed0)
 case h1c=>exact signed0_one
 generalize hwc:World.setCells _ uc.heap.size 0 _=w6
 have hbc:Blk w6 uc.heap.size signed0C 63/\Kept (fun _=>False) uc w6:=by rw[<- hwc];exact(store_signed uc signed0_len).2
 have HBc:=Lib.hid hbc
 clear hwc hbc
 have HHc:=Lib.hid (HYc.out.1.more HBc.out.2)
 have F6:=Lib.hid (F5.out.refused HYc.out.2 HHb.out.ring.own HBc.out.2)
 clear F5
 have LC5:=Lib.hid (local_refused LB5.out HYc.out.2 HHb.out.ring.own HBc.out.2)
 have LC6:=Lib.hid (local_refused LB6.out HYc.out.2 HHb.out.ring.own HBc.out.2)
 have LCa:=Lib.hid (local_refused LBa.out HYc.out.2 HHb.out.ring.own HBc.out.2)
 have LCb:=Lib.hid (local_refused LBb.out HYc.out.2 HHb.out.ring.own HBc.out.2)
 have RCa:=Lib.hid (row_refused RBa.out HYc.out.2 HHb.out.ring.own HBc.out.2)
 have RCb:=Lib.hid (row_refused RBb.out HYc.out.2 HHb.out.ring.own HBc.out.2)
 have hsd:=(held_fresh HHc.out 3 zeroRoot (by omega) (by omega) (by simp) rfl 1 (by omega) rfl (by rfl) _ (oneD_keepR (3,zeroRoot) (by have:=frame_room hd2;have:=frame_room hd3;rw[List.length_append];simp only[List.length_nil];omega)) (by decide)).mono (fun _ _ q=>signed_as (by simp) q)
 have HSd:=Lib.hid hsd
 clear hsd
 go_upto_region 10 with (first|((with_reducible show wpList _ _ _ (⟨some 60,_,_,_,_,_⟩::_) _ _);refine wpList_load_mid rfl 32 _ rfl (w2.heap.size+1) 0 rfl (headC 3 zeroRoot) _ LC6.out.1.range0 Tryz.underlying32 rfl HI3.out ?_)|(go_at_call 21;refine HSd.out.mono ?_;rintro e ud ⟨ad,cd,Sd,Yd,rfl,HYd⟩)|((with_reducible show wpList _ _ _ (⟨none,.store _ (.tmp 13) _,_,_,_,_⟩::_) _ _);refine wpList_store_mid rfl 63 _ _ rfl ud.heap.size 0 Yd.toArray rfl rfl ?htd ?hid ?h1d ?_))
 case htd=>first|exact(store_signed ud HYd.out.2.1).1|simpa using(store_signed ud HYd.out.2.1).1
 case hid=>first|exact info_sized HYd.out.2.1|simpa using info_sized HYd.out.2.1
 case h1d=>first|exact all_oneCell_toArray HYd.out.2.2.1|exact HYd.out.2.2.1
 generalize hwd:World.setCells _ ud.heap.size 0 _=w7
 have hbd:Blk w7 ud.heap.size Yd 63/\Kept (fun _=>False) ud w7:=by rw[<- hwd];exact(store_signed ud HYd.out.2.1).2
 have HBd:=Lib.hid hbd
 clear hwd hbd
 have HHd:=Lib.hid (HYd.out.2.2.2.2.2.1.more HBd.out.2)
 have F7:=Lib.hid (Fin0.sign (V:=fun k=>(Value.slice ad 3 cd).ownBlock=some k) F6.out HYd.out.2.2.2.2.2.2.1 HYd.out.2.2.2.2.1 HBd.out.2)
 clear F6
 have LDa:=Lib.hid (local_next (V:=fun k=>(Value.slice ad 3 cd).ownBlock=some k) LCa.out HYd.out.2.2.2.2.2.2.1 HYd.out.2.2.2.2.1 HBd.out.2)
 have LDb:=Lib.hid (local_next (V:=fun k=>(Value.slice ad 3 cd).ownBlock=some k) LCb.out HYd.out.2.2.2.2.2.2.1 HYd.out.2.2.2.2.1 HBd.out.2)
 have LDd:=Lib.hid (local_new HHd.out HYd.out.2.2.2.2.2.1 HBd.out.1 (Nat.le_refl _))
 have RDa:=Lib.hid (row_next (V:=fun k=>(Value.slice ad 3 cd).ownBlock=some k) RCa.out HYd.out.2.2.2.2.2.2.1 HYd.out.2.2.2.2.1 HBd.out.2)
 have RDb:=Lib.hid (row_next (V:=fun k=>(Value.slice ad 3 cd).ownBlock=some k) RCb.out HYd.out.2.2.2.2.2.2.1 HYd.out.2.2.2.2.1 HBd.out.2)
 have RDd:=Lib.hid (row_new HHd.out HYd.out.2.2.2.1 HBd.out.2 HYd.out.2.2.2.2.2.2.2 (fun k q=>Or.inl (Or.inr (Or.inr q))))
 obtain⟨left2,hro⟩:=ropen2
 have hop2:=open_any HHd.out.ap ⟨#[115]⟩ (by decide) (by decide) HHd.out.keep HHd.out.tab
 rw[show DiskM.openR _=_ from hro]at hop2
 have HOP:=Lib.hid hop2
 clear hop2 hro
 go_upto_region 11 with (go_at_call 14;refine HOP.out.mono ?_;intro e w8 ho;obtain⟨rn,Sn,rfl,hSn,hHn,k8⟩:=opened_to HHd.out.keep HHd.out.tab ho;rw[<- HSD.out]at hHn;have HHn:=Lib.hid (And.intro hHn k8);clear ho hSn hHn k8)
 have F8:=Lib.hid (F7.out.1.then_ HHn.out.2 (fun i hi e=>e (F7.out.2.1 i hi)))
 clear F7
 have ba:=LDa.out.1.kept HHn.out.2 (fun n=>n LDa.out.2.2)
 have bb:=LDb.out.1.kept HHn.out.2 (fun n=>n LDb.out.2.2)
 have bd:=LDd.out.1.kept HHn.out.2 (fun n=>n LDd.out.2.2)
 have ra:=RDa.out.1.kept HHn.out.2 (fun k q n=>n (RDa.out.2 k q).2)
 have rb':=RDb.out.1.kept HHn.out.2 (fun k q n=>n (RDb.out.2 k q).2)
 have rd:=RDd.out.1.kept HHn.out.2 (fun k q n=>n (RDd.out.2 k q).2)
 have eYa:Ya=signedC ((2:Nat):Int) zeroRoot ((0:Nat):Int) ⟨(signF sd.data.toList 0 (digestF 2 zeroRoot)).toArray⟩ (.slice aa 3 ca):=HYa.out.1
 have eYb:Yb=signedC ((2:Nat):Int) zeroRoot ((0:Nat):Int) ⟨(signF sd.data.toList 0 (digestF 2 zeroRoot)).toArray⟩ (.slice ab 3 cb):=HYb.out.1
 have eYd:Yd=signedC ((3:Nat):Int) zeroRoot ((1:Nat):Int) ⟨(signF sd.data.toList 1 (digestF 3 zeroRoot)).toArray⟩ (.slice ad 3 cd):=HYd.out.1
 have c1:w8.cell? ⟨ua.heap.size,33,none⟩=some (.int .i64 0):=ba.cell (by rw[eYa];exact(signed_at (by simp)).2.1)
 have c2:w8.cell? ⟨ud.heap.size,33,none⟩=some (.int .i64 1):=bd.cell (by rw[eYd];exact(signed_at (by simp)).2.1)
 have hSM:∀ w',Kept (fun _=>False) w8 w'->Calls Tryz.prog 22 #[.agg Ya.toArray,.agg Yb.toArray] w' fun e w2=>e = .returned (.bool true)/\Kept (fun _=>False) w' w2 :=
  fun w' k=>same_of eYa eYb (by simp) (by omega) (ra.kept k (fun _ _=>id)) (rb'.kept k (fun _ _=>id))
 have hUS:∀ w',Kept (fun _=>False) w8 w'->Calls Tryz.prog 20 #[.pointer (some ⟨rn,0,none⟩)] w' fun e w2=>e = .returned (.int .i64 2)/\w'=w2:=fun w' k=>ring_used (HHn.out.1.ring.same k)
 obtain⟨KEY,hKEY⟩:∃ K:By,K=rootF (leavesF sd.data.toList):=⟨_,rfl⟩
 have hKY:∀ w',Kept (fun _=>False) w8 w'->Calls Tryz.prog 24 #[.pointer (some ⟨rn,0,none⟩)] w' fun e w2=>e = .returned (hashV KEY)/\Kept (fun _=>False) w' w2:=by
  intro w' k
  have h:=ring_key (HHn.out.1.ring.same k) (HHn.out.1.tab.same k)
  change Calls _ _ _ _ (fun e w2=>e = .returned (hashV (rootF (leavesF sd.data.toList)))/\Kept (fun _=>False) w' w2)at h
  rw[<- hKEY]at h
  exact h
 have hCK:∀ w',Kept (fun _=>False) w8 w'->Calls Tryz.prog 23 #[hashV KEY,.agg Yd.toArray] w' fun e w2=>e = .returned (.int .i64 0)/\Kept (fun _=>False) w' w2:=by
  intro w' k
  have h:=check_of eYd (by omega) (by simp) (by omega) (rd.kept k (fun _ _=>id)) (HHn.out.1.tab.same k)
  rw[<- hKEY]at h
  exact h
 clear hKEY
 have SA:S11 w8 w8.drew ua.heap.size ub.heap.size ud.heap.size Ya Yb Yd:=⟨ba.drew.range0,bb.drew.range0,bd.drew.range0,c1,c2,(Kept.refl _ _).drew⟩
 have hl:ua.heap.size<w8.heap.size/\ub.heap.size<w8.heap.size/\ud.heap.size<w8.heap.size:=⟨ba.lt,bb.lt,bd.lt⟩
 have HSM:=Lib.hid hSM
 have HUS:=Lib.hid hUS
 have HKY:=Lib.hid hKY
 have HCK:=Lib.hid hCK
 have HIa:=Lib.hid (info_sized HYa.out.2.1)
 have HIb:=Lib.hid (info_sized HYb.out.2.1)
 have HId:=Lib.hid (info_sized HYd.out.2.1)
 clear hSM hUS hKY hCK eYa eYb eYd c1 c2 ba bb bd ra rb' rd
 refine wp_region_held_drew (S:=(fun w'=>S11 w8 w' ua.heap.size ub.heap.size ud.heap.size Ya Yb Yd)) (by kernel_rfl) SA (fun hH0=>?_)
 refine tl 0 (v:=?_) rfl (fun _ _ _ h=>h) (Or.inl ⟨by rfl,fun w hSw=>?_⟩) hH0 ?_
 rotate_left 1
 ·(try simp only[S11]at hSw);go_simp;(try with_reducible rfl)
 try simp only[Act.put,List.setIfInBounds_toArray,List.set_cons_zero,List.set_cons_succ]
 refine tl 1 (v:=?_) rfl (fun _ _ _ h=>h) (Or.inl ⟨by rfl,fun w hSw=>?_⟩) hH0 ?_
 rotate_left 1
 ·(try simp only[S11]at hSw);go_simp;(try with_reducible rfl)
 try simp only[Act.put,List.setIfInBounds_toArray,List.set_cons_zero,List.set_cons_succ]
 refine tl 2 (v:=?_) rfl (fun _ _ _ h=>h) (Or.inl ⟨by rfl,fun w hSw=>?_⟩) hH0 ?_
 rotate_left 1
 ·(try simp only[S11]at hSw);go_simp;(try with_reducible rfl)
 try simp only[Act.put,List.setIfInBounds_toArray,List.set_cons_zero,List.set_cons_succ]
 refine tl 3 (v:=?_) rfl (fun _ _ _ h=>h) (Or.inl ⟨by rfl,fun w hSw=>?_⟩) hH0 ?_
 rotate_left 1
 ·(try simp only[S11]at hSw);go_simp;(try with_reducible rfl)
 try simp only[Act.put,List.setIfInBounds_toArray,List.set_cons_zero,List.set_cons_succ]
 refine tl 4 (v:=?_) rfl (fun _ _ _ h=>h) (Or.inl ⟨by rfl,fun w hSw=>?_⟩) hH0 ?_
 rotate_left 1
 ·(try simp only[S11]at hSw);go_simp;(try with_reducible rfl)
 try simp only[Act.put,List.setIfInBounds_toArray,List.set_cons_zero,List.set_cons_succ]
 refine tl 5 (v:=?_) rfl (fun _ _ _ h=>h) (Or.inl ⟨by rfl,fun w hSw=>?_⟩) hH0 ?_
 rotate_left 1
 ·(try simp only[S11]at hSw);go_simp;(try with_reducible rfl)
 try simp only[Act.put,List.setIfInBounds_toArray,List.set_cons_zero,List.set_cons_succ]
 refine tl 6 (v:=?_) rfl (fun _ _ _ h=>h) (Or.inl ⟨by rfl,fun w hSw=>?_⟩) hH0 ?_
 rotate_left 1
 ·(try simp only[S11]at hSw);go_simp;(try with_reducible rfl)
 try simp only[Act.put,List.setIfInBounds_toArray,List.set_cons_zero,List.set_cons_succ]
 refine tl 7 (v:=?_) rfl (fun _ _ _ h=>h) (Or.inl ⟨by rfl,fun w hSw=>?_⟩) hH0 ?_
 rotate_left 1
 ·(try simp only[S11]at hSw);go_simp;(try with_reducible rfl)
 try simp only[Act.put,List.setIfInBounds_toArray,List.set_cons_zero,List.set_cons_succ]
 refine tl 8 (v:=?_) rfl (fun _ _ _ h=>h) (Or.inl ⟨by rfl,fun w hSw=>?_⟩) hH0 ?_
 rotate_left 1
 ·(try simp only[S11]at hSw);go_simp;(try with_reducible rfl)
 try simp only[Act.put,List.setIfInBounds_toArray,List.set_cons_zero,List.set_cons_succ]
 refine tl 9 (v:=?_) rfl (fun _ _ _ h=>h) (Or.inl ⟨by rfl,fun w hSw=>?_⟩) hH0 ?_
 rotate_left 1
 ·(try simp only[S11]at hSw);go_simp;(try with_reducible rfl)
 try simp only[Act.put,List.setIfInBounds_toArray,List.set_cons_zero,List.set_cons_succ]
 refine tl 10 (v:=?_) rfl (fun _ _ _ h=>h) (Or.inl ⟨by rfl,fun w hSw=>?_⟩) hH0 ?_
 rotate_left 1
 ·(try simp only[S11]at hSw);go_simp;(try with_reducible rfl)
 try simp only[Act.put,List.setIfInBounds_toArray,List.set_cons_zero,List.set_cons_succ]
 refine tl 11 (v:=?_) rfl (fun _ _ _ h=>h) (Or.inl ⟨by rfl,fun w hSw=>?_⟩) hH0 ?_
 rotate_left 1
 ·(try simp only[S11]at hSw);go_simp;(try with_reducible rfl)
 try simp only[Act.put,List.setIfInBounds_toArray,List.set_cons_zero,List.set_cons_succ]
 refine tl 12 (v:=?_) rfl (fun _ _ _ h=>h) (Or.inl ⟨by rfl,fun w hSw=>?_⟩) hH0 ?_
 rotate_left 1
 ·(try simp only[S11]at hSw);go_simp;(try with_reducible rfl)
 try simp only[Act.put,List.setIfInBounds_toArray,List.set_cons_zero,List.set_cons_succ]
 refine wpAnyH_take (i:=13) (oi:=⟨some 82,.load 63 (.tmp 7),63,"outright.go:25", #[⟨12,.guard⟩],some (12,true)⟩) (v := .agg (Ya).toArray) rfl (by kernel_rfl) (by kernel_rfl) (by kernel_rfl) (fun _ _ _ h=>h) (yieldsIf_load_mid (by rfl) _ _ rfl (ua.heap.size) (0) rfl (Ya) _ (fun w q=>q.1) Tryz.underlying63 rfl HIa.out) hH0 ?_
 try simp only[Act.put,List.setIfInBounds_toArray,List.set_cons_zero,List.set_cons_succ]
 refine wpAnyH_take (i:=14) (oi:=⟨some 83,.load 63 (.tmp 9),63,"outright.go:25", #[⟨12,.guard⟩],some (12,true)⟩) (v := .agg (Yb).toArray) rfl (by kernel_rfl) (by kernel_rfl) (by kernel_rfl) (fun _ _ _ h=>h) (yieldsIf_load_mid (by rfl) _ _ rfl (ub.heap.size) (0) rfl (Yb) _ (fun w q=>q.2.1) Tryz.underlying63 rfl HIb.out) hH0 ?_
 try simp only[Act.put,List.setIfInBounds_toArray,List.set_cons_zero,List.set_cons_succ]
 refine wpAnyH_ready (rs:=[15]) (by kernel_rfl) (by simp) ?_
 refine AllReadyH.cons (o:=⟨some 84,.call { callee := .value (.func 22),args := #[.tmp 82,.tmp 83],argTypes := #[63,63] },4,"outright.go:25", #[⟨13,.data⟩,⟨14,.data⟩,⟨12,.chain⟩,⟨12,.guard⟩],some (12,true)⟩) rfl (fun K hK=>?_) AllReadyH.nil
 go_simp
 refine(HSM.out _ hH0.2.2.2.2.2).mono ?_
 rintro e w9 ⟨rfl,hk9⟩
 refine hK.out _ _ (s11_next hH0 hl hk9) (fun hH1=>?_)
 clear hK K
 try simp only[Act.put,List.setIfInBounds_toArray,List.set_cons_zero,List.set_cons_succ]
 refine tl 16 (v:=?_) rfl (fun _ _ _ h=>h) (Or.inl ⟨by rfl,fun w hSw=>?_⟩) hH1 ?_
 rotate_left 1
 ·(try simp only[S11]at hSw);go_simp;(try with_reducible rfl)
 try simp only[Act.put,List.setIfInBounds_toArray,List.set_cons_zero,List.set_cons_succ]
 refine tl 17 (v:=?_) rfl (fun _ _ _ h=>h) (Or.inl ⟨by rfl,fun w hSw=>?_⟩) hH1 ?_
 rotate_left 1
 ·(try simp only[S11]at hSw);go_simp;(try with_reducible rfl)
 try simp only[Act.put,List.setIfInBounds_toArray,List.set_cons_zero,List.set_cons_succ]
 refine tl 18 (v:=?_) rfl (fun _ _ _ h=>h) (Or.inl ⟨by rfl,fun w hSw=>?_⟩) hH1 ?_
 rotate_left 1
 ·(try simp only[S11]at hSw);go_simp;(try with_reducible rfl)
 try simp only[Act.put,List.setIfInBounds_toArray,List.set_cons_zero,List.set_cons_succ]
 refine tl 19 (v:=?_) rfl (fun _ _ _ h=>h) (Or.inl ⟨by rfl,fun w hSw=>?_⟩) hH1 ?_
 rotate_left 1
 ·(try simp only[S11]at hSw);go_simp;(try with_reducible rfl)
 try simp only[Act.put,List.setIfInBounds_toArray,List.set_cons_zero,List.set_cons_succ]
 refine tl 20 (v:=?_) rfl (fun _ _ _ h=>h) (Or.inl ⟨by rfl,fun w hSw=>?_⟩) hH1 ?_
 rotate_left 1
 ·(try simp only[S11]at hSw);go_simp;(try with_reducible rfl)
 try simp only[Act.put,List.setIfInBounds_toArray,List.set_cons_zero,List.set_cons_succ]
 refine tl 21 (v:=?_) rfl (fun _ _ _ h=>h) (Or.inl ⟨by rfl,fun w hSw=>?_⟩) hH1 ?_
 rotate_left 1
 ·(try simp only[S11]at hSw);go_simp;(try with_reducible rfl)
 try simp only[Act.put,List.setIfInBounds_toArray,List.set_cons_zero,List.set_cons_succ]
 refine tl 22 (v:=?_) rfl (fun _ _ _ h=>h) (Or.inl ⟨by rfl,fun w hSw=>?_⟩) hH1 ?_
 rotate_left 1
 ·(try simp only[S11]at hSw);go_simp;(try with_reducible rfl)
 try simp only[Act.put,List.setIfInBounds_toArray,List.set_cons_zero,List.set_cons_succ]
 refine tl 23 (v:=?_) rfl (fun _ _ _ h=>h) (Or.inl ⟨by rfl,fun w hSw=>?_⟩) hH1 ?_
 rotate_left 1
 ·(try simp only[S11]at hSw);go_simp;(try with_reducible rfl)
 try simp only[Act.put,List.setIfInBounds_toArray,List.set_cons_zero,List.set_cons_succ]
 refine tl 24 (v:=?_) rfl (fun _ _ _ h=>h) (Or.inl ⟨by rfl,fun w hSw=>?_⟩) hH1 ?_
 rotate_left 1
 ·(try simp only[S11]at hSw);go_simp;(try with_reducible rfl)
 try simp only[Act.put,List.setIfInBounds_toArray,List.set_cons_zero,List.set_cons_succ]
 refine tl 25 (v:=?_) rfl (fun _ _ _ h=>h) (Or.inl ⟨by rfl,fun w hSw=>?_⟩) hH1 ?_
 rotate_left 1
 ·(try simp only[S11]at hSw);go_simp;(try with_reducible rfl)
 try simp only[Act.put,List.setIfInBounds_toArray,List.set_cons_zero,List.set_cons_succ]
 refine tl 26 (v:=?_) rfl (fun _ _ _ h=>h) (Or.inl ⟨by rfl,fun w hSw=>?_⟩) hH1 ?_
 rotate_left 1
 ·(try simp only[S11]at hSw);go_simp;(try with_reducible rfl)
 try simp only[Act.put,List.setIfInBounds_toArray,List.set_cons_zero,List.set_cons_succ]
 refine tl 27 (v:=?_) rfl (fun _ _ _ h=>h) (Or.inl ⟨by rfl,fun w hSw=>?_⟩) hH1 ?_
 rotate_left 1
 ·(try simp only[S11]at hSw);go_simp;(try with_reducible rfl)
 try simp only[Act.put,List.setIfInBounds_toArray,List.set_cons_zero,List.set_cons_succ]
 refine tl 28 (v:=?_) rfl (fun _ _ _ h=>h) (Or.inl ⟨by rfl,fun w hSw=>?_⟩) hH1 ?_
 rotate_left 1
 ·(try simp only[S11]at hSw);go_simp;(try with_reducible rfl)
 try simp only[Act.put,List.setIfInBounds_toArray,List.set_cons_zero,List.set_cons_succ]
 refine tl 29 (v:=?_) rfl (fun _ _ _ h=>h) (Or.inl ⟨by rfl,fun w hSw=>?_⟩) hH1 ?_
 rotate_left 1
 ·(try simp only[S11]at hSw);go_simp;(try with_reducible rfl)
 try simp only[Act.put,List.setIfInBounds_toArray,List.set_cons_zero,List.set_cons_succ]
 refine tl 30 (v:=?_) rfl (fun _ _ _ h=>h) (Or.inl ⟨by rfl,fun w hSw=>?_⟩) hH1 ?_
 rotate_left 1
 ·(try simp only[S11]at hSw);go_simp;(try with_reducible rfl)
 try simp only[Act.put,List.setIfInBounds_toArray,List.set_cons_zero,List.set_cons_succ]
 refine tl 31 (v:=?_) rfl (fun _ _ _ h=>h) (Or.inl ⟨by rfl,fun w hSw=>?_⟩) hH1 ?_
 rotate_left 1
 ·(try simp only[S11]at hSw);go_simp;(try with_reducible rfl)
 try simp only[Act.put,List.setIfInBounds_toArray,List.set_cons_zero,List.set_cons_succ]
 refine tl 32 (v:=?_) rfl (fun _ _ _ h=>h) (Or.inl ⟨by rfl,fun w hSw=>?_⟩) hH1 ?_
 rotate_left 1
 ·(try simp only[S11]at hSw);go_simp;(try with_reducible rfl)
 try simp only[Act.put,List.setIfInBounds_toArray,List.set_cons_zero,List.set_cons_succ]
 refine tl 33 (v:=?_) rfl (fun _ _ _ h=>h) (Or.inl ⟨by rfl,fun w hSw=>?_⟩) hH1 ?_
 rotate_left 1
 ·(try simp only[S11]at hSw);go_simp;(try with_reducible rfl)
 try simp only[Act.put,List.setIfInBounds_toArray,List.set_cons_zero,List.set_cons_succ]
 refine tl 34 (v:=?_) rfl (fun _ _ _ h=>h) (Or.inl ⟨by rfl,fun w hSw=>?_⟩) hH1 ?_
 rotate_left 1
 ·(try simp only[S11]at hSw);go_simp;(try with_reducible rfl)
 try simp only[Act.put,List.setIfInBounds_toArray,List.set_cons_zero,List.set_cons_succ]
 refine tl 35 (v:=?_) rfl (fun _ _ _ h=>h) (Or.inl ⟨by rfl,fun w hSw=>?_⟩) hH1 ?_
 rotate_left 1
 ·(try simp only[S11]at hSw);go_simp;(try with_reducible rfl)
 try simp only[Act.put,List.setIfInBounds_toArray,List.set_cons_zero,List.set_cons_succ]
 refine tl 36 (v:=?_) rfl (fun _ _ _ h=>h) (Or.inl ⟨by rfl,fun w hSw=>?_⟩) hH1 ?_
 rotate_left 1
 ·(try simp only[S11]at hSw);go_simp;(try with_reducible rfl)
 try simp only[Act.put,List.setIfInBounds_toArray,List.set_cons_zero,List.set_cons_succ]
 refine wpAnyH_ready (rs:=[37]) (by kernel_rfl) (by simp) ?_
 refine AllReadyH.cons (o:=⟨some 106,.call { callee := .value (.func 20),args := #[.tmp 105],argTypes := #[41] },3,"outright.go:25", #[⟨36,.data⟩,⟨35,.chain⟩,⟨35,.guard⟩],some (35,true)⟩) rfl (fun K hK=>?_) AllReadyH.nil
 go_simp
 refine(HUS.out _ hH1.2.2.2.2.2).mono ?_
 rintro e w' ⟨rfl,rfl⟩
 refine hK.out _ _ (hH1) (fun hH2=>?_)
 clear hK K
 try simp only[Act.put,List.setIfInBounds_toArray,List.set_cons_zero,List.set_cons_succ]
 refine tl 38 (v:=?_) rfl (fun _ _ _ h=>h) (Or.inl ⟨by rfl,fun w hSw=>?_⟩) hH2 ?_
 rotate_left 1
 ·(try simp only[S11]at hSw);go_simp;(try with_reducible rfl)
 try simp only[Act.put,List.setIfInBounds_toArray,List.set_cons_zero,List.set_cons_succ]
 refine tl 39 (v:=?_) rfl (fun _ _ _ h=>h) (Or.inl ⟨by rfl,fun w hSw=>?_⟩) hH2 ?_
 rotate_left 1
 ·(try simp only[S11]at hSw);go_simp;(try with_reducible rfl)
 try simp only[Act.put,List.setIfInBounds_toArray,List.set_cons_zero,List.set_cons_succ]
 refine tl 40 (v:=?_) rfl (fun _ _ _ h=>h) (Or.inl ⟨by rfl,fun w hSw=>?_⟩) hH2 ?_
 rotate_left 1
 ·(try simp only[S11]at hSw);go_simp;(try with_reducible rfl)
 try simp only[Act.put,List.setIfInBounds_toArray,List.set_cons_zero,List.set_cons_succ]
 refine tl 41 (v:=?_) rfl (fun _ _ _ h=>h) (Or.inl ⟨by rfl,fun w hSw=>?_⟩) hH2 ?_
 rotate_left 1
 ·(try simp only[S11]at hSw);go_simp;(try with_reducible rfl)
 try simp only[Act.put,List.setIfInBounds_toArray,List.set_cons_zero,List.set_cons_succ]
 refine wpAnyH_take (i:=43) (oi:=⟨some 112,.load 63 (.tmp 13),63,"outright.go:25", #[⟨40,.guard⟩],some (40,true)⟩) (v := .agg (Yd).toArray) rfl (by kernel_rfl) (by kernel_rfl) (by kernel_rfl) (fun _ _ _ h=>h) (yieldsIf_load_mid (by rfl) _ _ rfl (ud.heap.size) (0) rfl (Yd) _ (fun w q=>q.2.2.1) Tryz.underlying63 rfl HId.out) hH2 ?_
 try simp only[Act.put,List.setIfInBounds_toArray,List.set_cons_zero,List.set_cons_succ]
 refine wpAnyH_ready (rs:=[42]) (by kernel_rfl) (by simp) ?_
 refine AllReadyH.cons (o:=⟨some 111,.call { callee := .value (.func 24),args := #[.tmp 110],argTypes := #[41] },30,"outright.go:25", #[⟨41,.data⟩,⟨40,.chain⟩,⟨40,.guard⟩],some (40,true)⟩) rfl (fun K hK=>?_) AllReadyH.nil
 go_simp
 refine(HKY.out _ hH2.2.2.2.2.2).mono ?_
 rintro e w10 ⟨rfl,hk10⟩
 refine hK.out _ _ (s11_next hH2 hl hk10) (fun hH3=>?_)
 clear hK K
 try simp only[Act.put,List.setIfInBounds_toArray,List.set_cons_zero,List.set_cons_succ]
 refine wpAnyH_ready (rs:=[44]) (by kernel_rfl) (by simp) ?_
 refine AllReadyH.cons (o:=⟨some 113,.call { callee := .value (.func 23),args := #[.tmp 111,.tmp 112],argTypes := #[30,63] },25,"outright.go:25", #[⟨42,.data⟩,⟨43,.data⟩,⟨42,.chain⟩,⟨40,.guard⟩],some (40,true)⟩) rfl (fun K hK=>?_) AllReadyH.nil
 go_simp
 refine(HCK.out _ hH3.2.2.2.2.2).mono ?_
 rintro e w11 ⟨rfl,hk11⟩
 refine hK.out _ _ (s11_next hH3 hl hk11) (fun hH4=>?_)
 clear hK K
 try simp only[Act.put,List.setIfInBounds_toArray,List.set_cons_zero,List.set_cons_succ]
 refine tl 45 (v:=?_) rfl (fun _ _ _ h=>h) (Or.inl ⟨by rfl,fun w hSw=>?_⟩) hH4 ?_
 rotate_left 1
 ·(try simp only[S11]at hSw);go_simp;(try with_reducible rfl)
 try simp only[Act.put,List.setIfInBounds_toArray,List.set_cons_zero,List.set_cons_succ]
 refine tl 46 (v:=?_) rfl (fun _ _ _ h=>h) (Or.inl ⟨by rfl,fun w hSw=>?_⟩) hH4 ?_
 rotate_left 1
 ·(try simp only[S11]at hSw);go_simp;(try with_reducible rfl)
 try simp only[Act.put,List.setIfInBounds_toArray,List.set_cons_zero,List.set_cons_succ]
 refine wpAnyH_ready (rs:=[47]) (by kernel_rfl) (by simp) ?_
 refine AllReadyH.cons (o:=⟨some 0,.assign (.tmp 115),4,"outright.go:25", #[⟨46,.data⟩,⟨44,.chain⟩,⟨0,.phase⟩,⟨1,.phase⟩,⟨2,.phase⟩,⟨3,.phase⟩,⟨4,.phase⟩,⟨5,.phase⟩,⟨6,.phase⟩,⟨7,.phase⟩,⟨8,.phase⟩,⟨9,.phase⟩,⟨10,.phase⟩,⟨11,.phase⟩,⟨12,.phase⟩,⟨13,.phase⟩,⟨14,.phase⟩,⟨15,.phase⟩,⟨16,.phase⟩,⟨17,.phase⟩,⟨18,.phase⟩,⟨19,.phase⟩,⟨20,.phase⟩,⟨21,.phase⟩,⟨22,.phase⟩,⟨23,.phase⟩,⟨24,.phase⟩,⟨25,.phase⟩,⟨26,.phase⟩,⟨27,.phase⟩,⟨28,.phase⟩,⟨29,.phase⟩,⟨30,.phase⟩,⟨31,.phase⟩,⟨32,.phase⟩,⟨33,.phase⟩,⟨34,.phase⟩,⟨35,.phase⟩,⟨36,.phase⟩,⟨37,.phase⟩,⟨38,.phase⟩,⟨39,.phase⟩,⟨40,.phase⟩,⟨41,.phase⟩,⟨42,.phase⟩,⟨43,.phase⟩,⟨44,.phase⟩,⟨45,.phase⟩,⟨46,.phase⟩],none⟩) rfl (fun K hK=>?_) AllReadyH.nil
 go_simp
 refine hK.out _ _ (hH4) (fun hH5=>?_)
 clear hK K
 try simp only[Act.put,List.setIfInBounds_toArray,List.set_cons_zero,List.set_cons_succ]
 refine dn ?_
 go_wp2_with fail
 go_ret
 exact⟨rfl,F8.out.then_ hH5.2.2.2.2.2 (fun _ _ e=>e)⟩
end Go.Proofs.YtdmedbhbefdnkaaGreatDoor
