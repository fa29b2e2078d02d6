/- RingSign3 RingLast Same RingLaw OnceM StaM StaLawM -/
import Derived.Deep.RegionHeld3
import Derived.Test.YtpmdlkogccojmaaGreatDoorUStationSure01
import Derived.Test.YtpmdlkogccojmaaGreatDoorUStationSure31
import Derived.Test.YtpmdlkogccojmaaGreatDoorUStationSure28
import Derived.Test.YtpmdlkogccojmaaGreatDoorUStationSure29
set_option linter.unusedVariables false
set_option linter.unusedSimpArgs false
set_option maxRecDepth 100000
set_option maxHeartbeats 16000000
namespace Go.Proofs.YtpmdlkogccojmaaGreatDoor
open Go.RowKit
abbrev S12 (wB w' : World) (S : Nat → Prop) (hb : Nat) (C : List Value) : Prop:=w'.rangeAt hb 0 C∧Kept S wB w'
theorem s12_alloc {wB w1 : World} {S : Nat → Prop} {hb : Nat} {C : List Value} (h : S12 wB w1 S hb C) (o : Obj) (hl : hb < wB.heap.size) : S12 wB (w1.alloc o) S hb C:=⟨rangeAt_kept h.1 ((Kept.refl (fun _=>False) w1).alloc o) (Nat.lt_of_lt_of_le hl h.2.size) id, h.2.alloc o⟩
theorem ring_append {wB : World} {r d : Nat} {R : RingM} {S : Nat → Prop} (h : IsRing wB r d R S) (x : Hd) (hx : HdOk x) (h7 : R.signed.length < 8) :
  ∃ a n c a1 n1 c1 w7, wB.cell? ⟨r, 2, none⟩ = some (.slice a n c)∧(Builtin.append_ #[143, 143] 143 #[.slice a n c, .slice (some ⟨wB.heap.size, 0, none⟩) 1 1]).run Tryz.prog (wB.alloc (.cells (headC (x.1 : Int) x.2).toArray 46)) = .ok (Value.slice a1 n1 c1) w7 ∧
   w7.cell? ⟨r, 2, none⟩ = some (.slice a n c)∧w7.frozen? ⟨r, 2, none⟩ = false∧(∀ k, (Value.slice a1 n1 c1).ownBlock = some k → S k ∨ (wB.heap.size ≤ k∧k < (w7.setCell ⟨r, 2, none⟩ (Value.slice a1 n1 c1)).heap.size))∧IsRing (w7.setCell ⟨r, 2, none⟩ (Value.slice a1 n1 c1)) r d { R with signed:=R.signed ++ [x] } (fun k=>S k ∨ (Value.slice a1 n1 c1).ownBlock = some k)∧Kept S wB (w7.setCell ⟨r, 2, none⟩ (Value.slice a1 n1 c1))∧Kept S wB w7:=by
 obtain ⟨⟨t, v, h1, h2, h3, h4, h5⟩, h6, h7', h8, h9⟩:=h
 obtain ⟨a, n, c, rfl, -⟩:=h3.form (by omega)
 obtain ⟨v', w7, hr, hrow, hk, hown⟩:=append_head1 h3 (fun y hy=>(h7' y hy).2.2) x hx.2.2 (by omega)
 obtain ⟨a1, n1, c1, rfl, -⟩:=hrow.form (by omega)
 have hk7 : Kept S wB w7:=hk.mono (fun k _ q=>h5 k q)
 have b1:=h1.kept hk (fun q=>h3.ne_blk q h1 (by decide) rfl)
 have kc:=kept_cell w7 r 2 (Value.slice a1 n1 c1)
 refine ⟨a, n, c, a1, n1, c1, w7, h1.cell (i:=2) rfl, hr, b1.cell (i:=2) rfl, b1.free 2, fun k q=>(hown k q).imp (h5 k) (fun o=>⟨o, Nat.lt_of_lt_of_le (hrow.lt q) kc.size⟩), ⟨⟨t, _, b1.set 2 (Value.slice a1 n1 c1), (h2.kept hk (fun q=>h3.ne_blk q h2.1 (by decide) rfl)).kept kc ?_, hrow.kept kc (fun k q e=>hrow.ne_blk q b1 (by decide) e), Or.inl h4, fun k q=>Or.inr q⟩, Or.inl h6, fun y hy=>?_, ?_, h9⟩, hk7.trans (kc.mono (fun k _ e=>by rw [e]; exact h6)), hk7⟩
 ·rintro rfl
  have:=(h2.kept hk (fun q=>h3.ne_blk q h2.1 (by decide) rfl)).1
  unfold Blk at this b1
  rw [this] at b1
  simp at b1
 ·rcases List.mem_append.1 hy with q | q
  ·exact h7' y q
  ·rw [List.mem_singleton.1 q]; exact hx
 ·rw [List.length_append]
  show R.signed.length + 1 ≤ 8
  omega
section
variable {w : World} {r d : Nat} {R : RingM} {S B : Nat → Prop} {M : DiskM}
theorem sign_fresh (h : IsRing w r d R S) (hd : Apart B d M w) (hS : ∀ k, S k → B k) (size : Nat) (root : By) (hz : size ≤ 4096) (hroot : root.length = 32) (ho : R.over M = false) (hz1 : 1 ≤ size) (i : Nat) (hi : i < 8) (hil : R.signed.length = i) (hx : nextF R.signed (size : Int) root = ((i : Int), true, 0)) (M' : DiskM) (hkr : M.keepR (size, root) = (0, M')) (hc : M.files.length + M.loose.length < 300000000) (hKB : Keeps B)
  (ht : Tab w) (hTS : ¬ S 0∧¬ S 1) :
  Calls Tryz.prog 45 #[.pointer (some ⟨r, 0, none⟩), headV (size : Int) root] w (SignYes B S r d w size root i { R with signed:=R.signed ++ [(size, root)] } M'):=by
 have hrl:=h.lt
 have hBl:=fun k (q : B k)=>hd.lt q
 have HN:=Lib.hid (ring_none (h.same (signW_kept w size root)))
 have hdn:=ring_down (h.same (signW_kept w size root)) (hd.signW size root)
 have hds:=dead_same (over_not ho).1
 rw [ho] at hdn
 have HD:=Lib.hid hdn
 have HE:=Lib.hid hds
 have hnx:=fun w' (hr' : IsRing w' r d R S)=>next_any hr' (size : Int) root hroot
 rw [hx] at hnx
 unfold NextPost at hnx
 simp only at hnx
 have HX:=Lib.hid hnx
 have HH:=Lib.hid (And.intro (hd.signW size root) (And.intro hS (And.intro hBl (hS r h.own))))
 have HT:=Lib.hid (fun w' (k : Kept (· = r) (signW w (size : Int) root) w')=>(ht.same (signW_kept w (size : Int) root)).kept k (fun e=>hTS.1 (by rw [e]; exact h.own)) (fun e=>hTS.2 (by rw [e]; exact h.own)))
 have HI0:=Lib.hid (show (Tryz.prog.info? 46).map (·.size) = some (headC (size : Int) root).length by rw [headC_len hroot]; exact info_head)
 have HDI:=Lib.hid (fun w' ht'=>digest_any w' size root hz hroot ht')
 have hDl:=digestF_len size root
 have hkp:=fun w' (hr' : IsRing w' r d R S) (hd' : Apart (ownW w B) d M w') ht'=>keep_any hr' hd' (fun k q=>Or.inl (hS k q)) (over_not ho).1 size root hz hroot hc ht'
 rw [hkr] at hkp
 have hds61 : { R with dead:=decide ((0 : Int) = 61) } = R:=dead_same (over_not ho).1
 have HK:=Lib.hid hkp
 have HE61:=Lib.hid hds61
 have HTS0:=Lib.hid hTS
 clear hdn hd hS hBl hds hnx hx h hkp hkr hds61
 go_enter Tryz.func45, Tryz.ntmps45
 go_wp2_with (first | (go_at_call 79; refine HN.out.mono ?_; rintro e w' ⟨rfl, rfl⟩) | (go_at_call 80; refine HD.out.mono ?_; rintro e w1 ⟨rfl, hr1, hk1⟩; rw [HE.out] at hr1; have hb1:=(signW_head w (size : Int) root).kept hk1 (by omega)) | ((with_reducible show wpList _ _ _ (⟨some 20, _, _, _, _, _⟩::_) _ _); refine wpList_load_mid rfl 46 _ rfl w.heap.size 0 rfl (headC (size : Int) root) _ hb1.range0 Tryz.underlying46 rfl HI0.out ?_) | (go_at_call 81; refine (HX.out _ hr1).mono ?_; rintro e w2 ⟨rfl, hk2⟩; have hb2:=hb1.kept hk2 id; have ha2:=Lib.hid ((HH.out.1.turn hk1 (fun k e=>by rw [e]; exact Or.inl HH.out.2.2.2)).same hk2)) | ((with_reducible show wpList _ _ _ (⟨some 31, _, _, _, _, _⟩::_) _ _); refine wpList_load_mid rfl 46 _ rfl w.heap.size 0 rfl (headC (size : Int) root) _ hb2.range0 Tryz.underlying46 rfl HI0.out ?_) | (go_at_call 82; refine (HK.out _ (hr1.same hk2) ha2.out ((HT.out _ hk1).same hk2)).mono ?_; rintro e wB ⟨rfl, hr3, ha3, hk3⟩))
 have hrB : IsRing wB r d R S:=by rw [← HE61.out]; exact hr3
 have hS:=HH.out.2.1
 have hBl:=HH.out.2.2.1
 have nS : ∀ k, w.heap.size ≤ k → ¬ S k:=fun k hk q=>by have:=hBl k (hS k q); omega
 have kB : Kept (fun k=>¬ ownW w B k ∨ S k) (signW w (size : Int) root) wB:=((hk1.mono (fun k _ e=>Or.inr (by rw [e]; exact hrB.own))).trans (hk2.mono (fun _ _=>False.elim))).trans (hk3.mono (fun k _ e=>e.imp id (fun q=>by rw [q]; exact hrB.own)))
 have hbB:=(hb2.kept hk3 (fun q=>q.elim (fun n=>n (Or.inr (Or.inl rfl))) (fun e=>by omega)))
 have hzB:=(((signW_res w (size : Int) root).kept hk1 (by omega)).kept hk2 id).kept hk3 (fun q=>q.elim (fun n=>n (Or.inr (Or.inr rfl))) (fun e=>by omega))
 have htB : Tab wB:=(ht.same (signW_kept w (size : Int) root)).kept kB (fun q=>q.elim (fun n=>n (Or.inl hKB.1)) HTS0.out.1) (fun q=>q.elim (fun n=>n (Or.inl hKB.2)) HTS0.out.2)
 obtain ⟨a0, n0, c0, a1, n1, c1, w7, hc2, hr1, hc7, hf7, hS', hrA, kS, kS7⟩:=ring_append (hrB.same (Kept.refl _ _).drew) (size, root) ⟨hz1, hz, hroot⟩ (by omega)
 obtain ⟨C, hC⟩ : ∃ C, headC (size : Int) root = C:=⟨_, rfl⟩
 have hf2:=fold_head (size:=(size : Int)) hroot
 rw [hC] at hf2
 simp only [zeros, List.replicate] at hf2
 have lC : C.length = 33:=by rw [← hC]; exact headC_len hroot
 have HI : Hid ((Tryz.prog.info? 46).map (·.size) = some C.length):=by rw [← hC]; exact HI0
 have SB : S12 wB wB.drew S w.heap.size C:=⟨by rw [← hC]; exact (hbB.drew).range0, (Kept.refl _ _).drew⟩
 have hr1 : (Builtin.append_ #[143, 143] 143 #[.slice a0 n0 c0, .slice (some ⟨wB.heap.size, 0, none⟩) 1 1]).run Tryz.prog (wB.alloc (.cells C.toArray 46)).drew = .ok (Value.slice a1 n1 c1) w7:=by rw [← hC]; exact hr1
 have hrng : w7.rangeAt w.heap.size 0 C:=by rw [← hC]; exact ((hbB.drew).kept kS7 (nS _ (Nat.le_refl _))).range0
 have HS7:=Lib.hid (fun (wx : World) (_ : S12 wB wx S w.heap.size C)=>(⟨hrng, ((Kept.refl (fun _=>False) wB).drew.mono (fun _ _=>False.elim)).trans kS7⟩ : S12 wB w7 S w.heap.size C))
 have HS8:=Lib.hid (⟨rangeAt_kept hrng (kept_cell w7 r 2 (Value.slice a1 n1 c1)) (Nat.lt_of_lt_of_le hbB.lt kS7.size) (by omega), ((Kept.refl (fun _=>False) wB).drew.mono (fun _ _=>False.elim)).trans kS⟩ : S12 wB (w7.setCell ⟨r, 2, none⟩ (Value.slice a1 n1 c1)) S w.heap.size C)
 have HC7:=Lib.hid (And.intro hc7 hf7)
 have hbl:=hbB.lt
 have HSB2:=Lib.hid (show w.heap.size + 2 ≤ wB.heap.size from hzB.lt)
 have hc3 : wB.cell? ⟨r, 2, none⟩ = some (.slice a0 n0 c0):=hc2
 have hc4 : (wB.alloc (.cells C.toArray 46)).cell? ⟨r, 2, none⟩ = some (.slice a0 n0 c0):=((Kept.refl (fun _=>False) wB).alloc _).cell hc3 id
 have hFIN : IsRing (w7.setCell ⟨r, 2, none⟩ (Value.slice a1 n1 c1)) r d { R with signed:=R.signed ++ [(size, root)] } (fun k=>S k ∨ (Value.slice a1 n1 c1).ownBlock = some k)∧Kept S wB (w7.setCell ⟨r, 2, none⟩ (Value.slice a1 n1 c1))∧(∀ k, (Value.slice a1 n1 c1).ownBlock = some k → S k ∨ (wB.heap.size ≤ k∧k < (w7.setCell ⟨r, 2, none⟩ (Value.slice a1 n1 c1)).heap.size)):=⟨hrA, ((Kept.refl (fun _=>False) wB).drew.mono (fun _ _=>False.elim)).trans kS, hS'⟩
 have HFA:=Lib.hid hFIN
 have HBB:=Lib.hid (And.intro hbB (And.intro hzB (And.intro ha3 (And.intro kB htB))))
 clear hrA kS kS7 hrng hFIN hS' hrB hbB hzB kB htB hb2 hb1 hc7 hf7
 refine wp_region_held_drew (S:=(fun w'=>S12 wB w' S w.heap.size C)) (by kernel_rfl) SB (fun hH0=>?_)
 refine tk 0 rfl (fun _ _ _ h=>h) hH0 ?_
 refine tk 1 rfl (fun _ _ _ h=>h) hH0 ?_
 refine tk 2 rfl (fun _ _ _ h=>h) hH0 ?_
 refine tk 3 rfl (fun _ _ _ h=>h) hH0 ?_
 refine tky 5 rfl (fun _ _ _ h=>h) (yieldsIf_load_mid (by rfl) _ _ rfl (w.heap.size) (0) rfl (C) _ (fun w q=>q.1) Tryz.underlying46 rfl HI.out) hH0 ?_
 refine wpAnyH_ready (rs:=[4, 6]) (by kernel_rfl) (by simp) ?_
 refine AllReadyH.cons (o := ⟨some 41, .load 143 (.tmp 40), 143, "keyring.go:138", #[⟨3, .data⟩], none⟩) rfl (fun K hK => ?_) ?_
 ·go_simp
  refine hK.out _ _ (hH0) (fun hH1=>?_)
  clear hK K
  try simp only [lyA, lyB, lyC, lyD]
  refine rd1 6 (fun K hK=>?_)
  go_simp
  refine hK.out _ _ (s12_alloc hH1 _ hbl) (fun hH2=>?_)
  clear hK K
  try simp only [lyA, lyB, lyC, lyD]
  refine rd1 7 (fun K hK=>?_)
  refine step_append_run rfl _ _ 143 143 rfl _ _ rfl rfl _ _ hr1 ?_
  refine hK.out _ _ (HS7.out _ hH2) (fun hH3=>?_)
  clear hK K
  try simp only [lyA, lyB, lyC, lyD]
  refine tk 8 rfl (fun _ _ _ h=>h) hH3 ?_
  refine tk 9 rfl (fun _ _ _ h=>h) hH3 ?_
  refine rd1 10 (fun K hK=>?_)
  have q7:=HC7.out.1
  have f7:=HC7.out.2
  go_simp
  refine hK.out _ _ (HS8.out) (fun hH4=>?_)
  clear hK K
  try simp only [lyA, lyB, lyC, lyD]
  refine wpAnyH_done (by kernel_rfl) ?_ _
  go_wp2_with fail
  generalize World.setCell w7 _ (Value.slice a1 n1 c1) = wA at HFA ⊢
  have hrA:=HFA.out.1
  have kS:=HFA.out.2.1
  have HFA2:=Lib.hid HFA.out.2.2
  have HSZ:=Lib.hid (show w.heap.size + 2 ≤ wB.heap.size from HSB2.out)
  have hbA : Blk wA w.heap.size (headC (size : Int) root) 46:=HBB.out.1.kept kS (nS _ (Nat.le_refl _))
  have hzA:=HBB.out.2.1.kept kS (nS _ (by omega))
  have htA:=HBB.out.2.2.2.2.kept kS HTS0.out.1 HTS0.out.2
  have kA : Kept (fun k=>¬ ownW w B k ∨ S k) (signW w (size : Int) root) wA:=HBB.out.2.2.2.1.then_ kS (fun k _ q=>Or.inr q)
  have haA : Apart (fun k=>ownW w B k ∨ (S k ∨ (Value.slice a1 n1 c1).ownBlock = some k)) d M' wA:=HBB.out.2.2.1.grow kS (fun k _ q=>Or.inl (hS k q)) (fun k q=>q.elim Or.inl (fun q=>q.elim (fun q=>Or.inl (Or.inl (hS k q))) (fun q=>(HFA.out.2.2 k q).elim (fun q=>Or.inl (Or.inl (hS k q))) Or.inr)))
  obtain ⟨⟨t, vv, hrb, htree, -, -, -⟩, -, -, -, hsh⟩:=id hrA
  have hrlA:=hrA.lt
  have hhb : w.heap.size < wA.heap.size:=hbA.lt
  have HTS:=Lib.hid (fun w' (k : Kept (fun _=>False) wA w')=>treeSign_any (htree.kept k id) i (digestF size root) hsh hi hDl (htA.same k))
  have HTB:=Lib.hid (fun w' (k : Kept (fun _=>False) wA w')=>htA.same k)
  have HFIN:=Lib.hid (And.intro hrA (And.intro hbA (And.intro hzA (And.intro haA kA))))
  obtain ⟨SG, hSG⟩ : ∃ SG, signF R.seed.data.toList i (digestF size root) = SG:=⟨_, rfl⟩
  rw [hSG] at HTS
  have HSG:=Lib.hid hSG
  obtain ⟨C, hC⟩ : ∃ C, headC (size : Int) root = C:=⟨_, rfl⟩
  have HCC:=Lib.hid hC
  have SA : SgS wA wA.drew r t w.heap.size C:=⟨(hrb.drew).cell (i:=1) rfl, by rw [← hC]; exact (hbA.drew).range0, (Kept.refl _ _).drew⟩
  have HI : Hid ((Tryz.prog.info? 46).map (·.size) = some C.length):=by rw [← hC]; exact HI0
  have HLC:=Lib.hid (show C.length = 33 by rw [← hC]; exact headC_len hroot)
  have HDG:=Lib.hid (fun w' ht'=>(by rw [← hC]; exact HDI.out w' ht' : Calls Tryz.prog 57 #[.agg C.toArray] w' fun e w''=>e = .returned (hashV (digestF size root))∧Kept (fun _=>False) w' w''))
  generalize hDG : digestF size root = DG at *
  have HDG2:=Lib.hid hDG
  clear hDG hSG hrA hbA hzA haA htA kA hrb htree hsh hC
  refine wp_region_held_drew (S:=(fun w'=>SgS wA w' r t w.heap.size C)) (by kernel_rfl) SA (fun hH0=>?_)
  refine tk 0 rfl (fun _ _ _ h=>h) hH0 ?_
  refine tk 1 rfl (fun _ _ _ h=>h) hH0 ?_
  refine tk 2 rfl (fun _ _ _ h=>h) hH0 ?_
  refine tk 3 rfl (fun _ _ _ h=>h) hH0 ?_
  refine tk 4 rfl (fun _ _ _ h=>h) hH0 ?_
  refine tky 5 rfl (fun _ _ _ h=>h) (yieldsIf_load_mid (by rfl) _ _ rfl (w.heap.size) (0) rfl (C) _ (fun w q=>q.2.1) Tryz.underlying46 rfl HI.out) hH0 ?_
  refine wpAnyH_ready (rs:=[6, 11]) (by kernel_rfl) (by simp) ?_
  refine AllReadyH.cons (o := ⟨some 54, .call { callee := .value (.func 57), args := #[.tmp 53], argTypes := #[46] }, 24, "keyring.go:140", #[⟨5, .data⟩], none⟩) rfl (fun K hK => ?_) ?_
  ·go_simp
   refine (HDG.out _ (HTB.out _ hH0.2.2)).mono ?_
   rintro e w3 ⟨rfl, hk3⟩
   try have hsb:=hsb.kept hk3 id
   refine hK.out _ _ (sgS_next hH0 hhb hk3) (fun hH1=>?_)
   clear hK K
   try simp only [lyA, lyB, lyC, lyD]
   refine wpAnyH_ready (rs:=[7, 11]) (by kernel_rfl) (by simp) ?_
   refine AllReadyH.cons (o := ⟨some 55, .call { callee := .value (.func 83), args := #[.tmp 51, .tmp 52, .tmp 54], argTypes := #[144, 3, 24] }, 147, "keyring.go:140", #[⟨3, .data⟩, ⟨4, .data⟩, ⟨6, .data⟩, ⟨6, .chain⟩], none⟩) rfl (fun K hK => ?_) ?_
   ·go_simp
    refine (HTS.out _ hH1.2.2).mono ?_
    rintro e w4 ⟨v, rfl, hrow4, hown4, hk4⟩
    obtain ⟨pa, pn, pc, rfl, -⟩:=hrow4.form (by omega)
    have HR4:=Lib.hid (sg_row hH1.2.2 hrow4 hown4)
    try have hsb:=hsb.kept hk4 id
    refine hK.out _ _ (sgS_next hH1 hhb hk4) (fun hH2=>?_)
    clear hK K
    try simp only [lyA, lyB, lyC, lyD]
    refine tk 8 rfl (fun _ _ _ h=>h) hH2 ?_
    refine tk 9 rfl (fun _ _ _ h=>h) hH2 ?_
    refine tk 10 rfl (fun _ _ _ h=>h) hH2 ?_
    refine rd1 11 (fun K hK=>?_)
    go_simp
    obtain ⟨hsb, hsl⟩:=sg_alloc hH2.2.2
    try change Blk (World.drew (World.alloc wA (.cells [.int .i64 0, .string ⟨#[]⟩, .slice none 0 0].toArray 49))) wA.heap.size _ _ at hsb
    try change wA.heap.size ≤ wA.heap.size at hsl
    try have HR4:=Lib.hid (sg_rowa HR4.out (.cells [.int .i64 0, .string ⟨#[]⟩, .slice none 0 0].toArray 49))
    refine hK.out _ _ (sgS_next hH2 hhb ((Kept.refl _ _).alloc _)) (fun hH3=>?_)
    clear hK K
    try simp only [lyA, lyB, lyC, lyD]
    first | generalize World.alloc _ _ = wS at hsb HR4 hH3 ⊢ | generalize World.alloc _ _ = wS at hsb hH3 ⊢
    refine rd1 12 (fun K hK=>?_)
    try replace hsb : Blk w4 wA.heap.size [.int .i64 0, .string ⟨#[]⟩, .slice none 0 0] 49:=hsb
    have q0:=hsb.cell (i:=0) rfl
    have q1:=hsb.cell (i:=1) rfl
    have q2:=hsb.cell (i:=2) rfl
    have f0:=hsb.free 0
    have f1:=hsb.free 1
    have f2:=hsb.free 2
    go_simp
    have HR5:=Lib.hid (sg_rows HR4.out hsb (.int .i64 (i : Int)) (.string ⟨SG.toArray⟩) (.slice pa pn pc))
    have HSB : Hid (Blk _ _ [.int .i64 (i : Int), .string ⟨SG.toArray⟩, .slice pa pn pc] 49):=Lib.hid (((hsb.set 0 (.int .i64 (i : Int))).set 1 (.string ⟨SG.toArray⟩)).set 2 (.slice pa pn pc))
    refine hK.out _ _ (sgS_set hH3 hhb hsl _ _ _ hrlA) (fun hH4=>?_)
    clear hK K
    try simp only [lyA, lyB, lyC, lyD]
    refine rd1 13 (fun K hK=>?_)
    go_simp
    refine hK.out _ _ (hH4) (fun hH5=>?_)
    clear hK K
    try simp only [lyA, lyB, lyC, lyD]
    refine wpAnyH_done (by kernel_rfl) ?_ _
    generalize World.setCell (World.setCell (World.setCell _ _ _) _ _) _ _ = wF at HSB HR5 hH5 ⊢
    have kF:=hH5.2.2
    have rF:=hH5.2.1
    have s0:=HSB.out.cell (i:=0) rfl
    have s1:=HSB.out.cell (i:=1) rfl
    have s2:=HSB.out.cell (i:=2) rfl
    have lC : C.length = 33:=HLC.out
    obtain ⟨X, Y, hfA, lX, hfB, HY⟩:=sign_build C lC (.int .i64 (i : Int)) (.string ⟨SG.toArray⟩) (.slice pa pn pc)
    simp only [zeros, List.replicate, List.cons_append, List.nil_append] at hfA
    have lY : Hid (Y.length = 36):=Lib.hid (by rw [HY.out, List.length_append, lC]; rfl)
    have HZF:=Lib.hid (sign_fin (HFIN.out.2.2.1.kept kF id) lY.out)
    go_wp2_with (first | ((with_reducible show wpList _ _ _ (⟨some 58, _, _, _, _, _⟩::_) _ _); refine wpList_load_mid rfl 46 _ rfl w.heap.size 0 rfl C _ rF Tryz.underlying46 rfl HI.out ?_) | ((with_reducible show wpList _ _ _ (⟨none, .store _ (.tmp 4) _, _, _, _, _⟩::_) _ _); refine wpList_store_mid rfl 51 _ _ rfl (w.heap.size + 1) 0 Y.toArray rfl rfl ?htv01 ?hiv01 ?h1v01 ?_))
    case htv01=>exact HZF.out.1
    case hiv01=>first | exact info_sized lY.out | simpa using info_sized lY.out
    case h1v01=>first | exact sign_one HY.out HCC.out | exact all_oneCell_toArray (sign_one HY.out HCC.out)
    refine bodyPost_ret (HZF.out.2.result2 rfl rfl Tryz.underlying51 rfl (info_sized lY.out)) rfl ?_
    exact sign_yes (S':=fun k=>S k ∨ (Value.slice a1 n1 c1).ownBlock = some k) HFIN.out.1 (fun k hk=>hk.elim Or.inl (fun q=>(HFA2.out k q).imp id (fun o=>by have:=HSZ.out; omega))) HH.out.2.1 HH.out.2.2.1 HFIN.out.2.2.2.1 HFIN.out.2.2.2.2 kF HR5.out HY.out HCC.out HSG.out HDG2.out
   refine AllReadyH.cons (o := ⟨some 9, .alloc 49, 0, "keyring.go:140", #[], none⟩) rfl (fun K hK => ?_) AllReadyH.nil
   go_simp
   obtain ⟨hsb, hsl⟩:=sg_alloc hH1.2.2
   try change Blk (World.drew (World.alloc wA (.cells [.int .i64 0, .string ⟨#[]⟩, .slice none 0 0].toArray 49))) wA.heap.size _ _ at hsb
   try change wA.heap.size ≤ wA.heap.size at hsl
   try have HR4:=Lib.hid (sg_rowa HR4.out (.cells [.int .i64 0, .string ⟨#[]⟩, .slice none 0 0].toArray 49))
   refine hK.out _ _ (sgS_next hH1 hhb ((Kept.refl _ _).alloc _)) (fun hH2=>?_)
   clear hK K
   try simp only [lyA, lyB, lyC, lyD]
   first | generalize World.alloc _ _ = wS at hsb HR4 hH2 ⊢ | generalize World.alloc _ _ = wS at hsb hH2 ⊢
   refine rd1 7 (fun K hK=>?_)
   go_simp
   refine (HTS.out _ hH2.2.2).mono ?_
   rintro e w4 ⟨v, rfl, hrow4, hown4, hk4⟩
   obtain ⟨pa, pn, pc, rfl, -⟩:=hrow4.form (by omega)
   have HR4:=Lib.hid (sg_row hH2.2.2 hrow4 hown4)
   try have hsb:=hsb.kept hk4 id
   refine hK.out _ _ (sgS_next hH2 hhb hk4) (fun hH3=>?_)
   clear hK K
   try simp only [lyA, lyB, lyC, lyD]
   refine tk 8 rfl (fun _ _ _ h=>h) hH3 ?_
   refine tk 9 rfl (fun _ _ _ h=>h) hH3 ?_
   refine tk 10 rfl (fun _ _ _ h=>h) hH3 ?_
   refine rd1 12 (fun K hK=>?_)
   try replace hsb : Blk w4 wA.heap.size [.int .i64 0, .string ⟨#[]⟩, .slice none 0 0] 49:=hsb
   have q0:=hsb.cell (i:=0) rfl
   have q1:=hsb.cell (i:=1) rfl
   have q2:=hsb.cell (i:=2) rfl
   have f0:=hsb.free 0
   have f1:=hsb.free 1
   have f2:=hsb.free 2
   go_simp
   have HR5:=Lib.hid (sg_rows HR4.out hsb (.int .i64 (i : Int)) (.string ⟨SG.toArray⟩) (.slice pa pn pc))
   have HSB : Hid (Blk _ _ [.int .i64 (i : Int), .string ⟨SG.toArray⟩, .slice pa pn pc] 49):=Lib.hid (((hsb.set 0 (.int .i64 (i : Int))).set 1 (.string ⟨SG.toArray⟩)).set 2 (.slice pa pn pc))
   refine hK.out _ _ (sgS_set hH3 hhb hsl _ _ _ hrlA) (fun hH4=>?_)
   clear hK K
   try simp only [lyA, lyB, lyC, lyD]
   refine rd1 13 (fun K hK=>?_)
   go_simp
   refine hK.out _ _ (hH4) (fun hH5=>?_)
   clear hK K
   try simp only [lyA, lyB, lyC, lyD]
   refine wpAnyH_done (by kernel_rfl) ?_ _
   generalize World.setCell (World.setCell (World.setCell _ _ _) _ _) _ _ = wF at HSB HR5 hH5 ⊢
   have kF:=hH5.2.2
   have rF:=hH5.2.1
   have s0:=HSB.out.cell (i:=0) rfl
   have s1:=HSB.out.cell (i:=1) rfl
   have s2:=HSB.out.cell (i:=2) rfl
   have lC : C.length = 33:=HLC.out
   obtain ⟨X, Y, hfA, lX, hfB, HY⟩:=sign_build C lC (.int .i64 (i : Int)) (.string ⟨SG.toArray⟩) (.slice pa pn pc)
   simp only [zeros, List.replicate, List.cons_append, List.nil_append] at hfA
   have lY : Hid (Y.length = 36):=Lib.hid (by rw [HY.out, List.length_append, lC]; rfl)
   have HZF:=Lib.hid (sign_fin (HFIN.out.2.2.1.kept kF id) lY.out)
   go_wp2_with (first | ((with_reducible show wpList _ _ _ (⟨some 58, _, _, _, _, _⟩::_) _ _); refine wpList_load_mid rfl 46 _ rfl w.heap.size 0 rfl C _ rF Tryz.underlying46 rfl HI.out ?_) | ((with_reducible show wpList _ _ _ (⟨none, .store _ (.tmp 4) _, _, _, _, _⟩::_) _ _); refine wpList_store_mid rfl 51 _ _ rfl (w.heap.size + 1) 0 Y.toArray rfl rfl ?htv02 ?hiv02 ?h1v02 ?_))
   case htv02=>exact HZF.out.1
   case hiv02=>first | exact info_sized lY.out | simpa using info_sized lY.out
   case h1v02=>first | exact sign_one HY.out HCC.out | exact all_oneCell_toArray (sign_one HY.out HCC.out)
   refine bodyPost_ret (HZF.out.2.result2 rfl rfl Tryz.underlying51 rfl (info_sized lY.out)) rfl ?_
   exact sign_yes (S':=fun k=>S k ∨ (Value.slice a1 n1 c1).ownBlock = some k) HFIN.out.1 (fun k hk=>hk.elim Or.inl (fun q=>(HFA2.out k q).imp id (fun o=>by have:=HSZ.out; omega))) HH.out.2.1 HH.out.2.2.1 HFIN.out.2.2.2.1 HFIN.out.2.2.2.2 kF HR5.out HY.out HCC.out HSG.out HDG2.out
  refine AllReadyH.cons (o := ⟨some 9, .alloc 49, 0, "keyring.go:140", #[], none⟩) rfl (fun K hK => ?_) AllReadyH.nil
  go_simp
  obtain ⟨hsb, hsl⟩:=sg_alloc hH0.2.2
  try change Blk (World.drew (World.alloc wA (.cells [.int .i64 0, .string ⟨#[]⟩, .slice none 0 0].toArray 49))) wA.heap.size _ _ at hsb
  try change wA.heap.size ≤ wA.heap.size at hsl
  try have HR4:=Lib.hid (sg_rowa HR4.out (.cells [.int .i64 0, .string ⟨#[]⟩, .slice none 0 0].toArray 49))
  refine hK.out _ _ (sgS_next hH0 hhb ((Kept.refl _ _).alloc _)) (fun hH1=>?_)
  clear hK K
  try simp only [lyA, lyB, lyC, lyD]
  first | generalize World.alloc _ _ = wS at hsb HR4 hH1 ⊢ | generalize World.alloc _ _ = wS at hsb hH1 ⊢
  refine rd1 6 (fun K hK=>?_)
  go_simp
  refine (HDG.out _ (HTB.out _ hH1.2.2)).mono ?_
  rintro e w3 ⟨rfl, hk3⟩
  try have hsb:=hsb.kept hk3 id
  refine hK.out _ _ (sgS_next hH1 hhb hk3) (fun hH2=>?_)
  clear hK K
  try simp only [lyA, lyB, lyC, lyD]
  refine rd1 7 (fun K hK=>?_)
  go_simp
  refine (HTS.out _ hH2.2.2).mono ?_
  rintro e w4 ⟨v, rfl, hrow4, hown4, hk4⟩
  obtain ⟨pa, pn, pc, rfl, -⟩:=hrow4.form (by omega)
  have HR4:=Lib.hid (sg_row hH2.2.2 hrow4 hown4)
  try have hsb:=hsb.kept hk4 id
  refine hK.out _ _ (sgS_next hH2 hhb hk4) (fun hH3=>?_)
  clear hK K
  try simp only [lyA, lyB, lyC, lyD]
  refine tk 8 rfl (fun _ _ _ h=>h) hH3 ?_
  refine tk 9 rfl (fun _ _ _ h=>h) hH3 ?_
  refine tk 10 rfl (fun _ _ _ h=>h) hH3 ?_
  refine rd1 12 (fun K hK=>?_)
  try replace hsb : Blk w4 wA.heap.size [.int .i64 0, .string ⟨#[]⟩, .slice none 0 0] 49:=hsb
  have q0:=hsb.cell (i:=0) rfl
  have q1:=hsb.cell (i:=1) rfl
  have q2:=hsb.cell (i:=2) rfl
  have f0:=hsb.free 0
  have f1:=hsb.free 1
  have f2:=hsb.free 2
  go_simp
  have HR5:=Lib.hid (sg_rows HR4.out hsb (.int .i64 (i : Int)) (.string ⟨SG.toArray⟩) (.slice pa pn pc))
  have HSB : Hid (Blk _ _ [.int .i64 (i : Int), .string ⟨SG.toArray⟩, .slice pa pn pc] 49):=Lib.hid (((hsb.set 0 (.int .i64 (i : Int))).set 1 (.string ⟨SG.toArray⟩)).set 2 (.slice pa pn pc))
  refine hK.out _ _ (sgS_set hH3 hhb hsl _ _ _ hrlA) (fun hH4=>?_)
  clear hK K
  try simp only [lyA, lyB, lyC, lyD]
  refine rd1 13 (fun K hK=>?_)
  go_simp
  refine hK.out _ _ (hH4) (fun hH5=>?_)
  clear hK K
  try simp only [lyA, lyB, lyC, lyD]
  refine wpAnyH_done (by kernel_rfl) ?_ _
  generalize World.setCell (World.setCell (World.setCell _ _ _) _ _) _ _ = wF at HSB HR5 hH5 ⊢
  have kF:=hH5.2.2
  have rF:=hH5.2.1
  have s0:=HSB.out.cell (i:=0) rfl
  have s1:=HSB.out.cell (i:=1) rfl
  have s2:=HSB.out.cell (i:=2) rfl
  have lC : C.length = 33:=HLC.out
  obtain ⟨X, Y, hfA, lX, hfB, HY⟩:=sign_build C lC (.int .i64 (i : Int)) (.string ⟨SG.toArray⟩) (.slice pa pn pc)
  simp only [zeros, List.replicate, List.cons_append, List.nil_append] at hfA
  have lY : Hid (Y.length = 36):=Lib.hid (by rw [HY.out, List.length_append, lC]; rfl)
  have HZF:=Lib.hid (sign_fin (HFIN.out.2.2.1.kept kF id) lY.out)
  go_wp2_with (first | ((with_reducible show wpList _ _ _ (⟨some 58, _, _, _, _, _⟩::_) _ _); refine wpList_load_mid rfl 46 _ rfl w.heap.size 0 rfl C _ rF Tryz.underlying46 rfl HI.out ?_) | ((with_reducible show wpList _ _ _ (⟨none, .store _ (.tmp 4) _, _, _, _, _⟩::_) _ _); refine wpList_store_mid rfl 51 _ _ rfl (w.heap.size + 1) 0 Y.toArray rfl rfl ?htv03 ?hiv03 ?h1v03 ?_))
  case htv03=>exact HZF.out.1
  case hiv03=>first | exact info_sized lY.out | simpa using info_sized lY.out
  case h1v03=>first | exact sign_one HY.out HCC.out | exact all_oneCell_toArray (sign_one HY.out HCC.out)
  refine bodyPost_ret (HZF.out.2.result2 rfl rfl Tryz.underlying51 rfl (info_sized lY.out)) rfl ?_
  exact sign_yes (S':=fun k=>S k ∨ (Value.slice a1 n1 c1).ownBlock = some k) HFIN.out.1 (fun k hk=>hk.elim Or.inl (fun q=>(HFA2.out k q).imp id (fun o=>by have:=HSZ.out; omega))) HH.out.2.1 HH.out.2.2.1 HFIN.out.2.2.2.1 HFIN.out.2.2.2.2 kF HR5.out HY.out HCC.out HSG.out HDG2.out
 refine AllReadyH.cons (o := ⟨some 43, .buildSlice 143 1 #[(0, .tmp 42)], 143, "keyring.go:138", #[⟨5, .data⟩], none⟩) rfl (fun K hK => ?_) AllReadyH.nil
 go_simp
 refine hK.out _ _ (s12_alloc hH0 _ hbl) (fun hH1=>?_)
 clear hK K
 try simp only [lyA, lyB, lyC, lyD]
 refine rd1 4 (fun K hK=>?_)
 go_simp
 refine hK.out _ _ (hH1) (fun hH2=>?_)
 clear hK K
 try simp only [lyA, lyB, lyC, lyD]
 refine rd1 7 (fun K hK=>?_)
 refine step_append_run rfl _ _ 143 143 rfl _ _ rfl rfl _ _ hr1 ?_
 refine hK.out _ _ (HS7.out _ hH2) (fun hH3=>?_)
 clear hK K
 try simp only [lyA, lyB, lyC, lyD]
 refine tk 8 rfl (fun _ _ _ h=>h) hH3 ?_
 refine tk 9 rfl (fun _ _ _ h=>h) hH3 ?_
 refine rd1 10 (fun K hK=>?_)
 have q7:=HC7.out.1
 have f7:=HC7.out.2
 go_simp
 refine hK.out _ _ (HS8.out) (fun hH4=>?_)
 clear hK K
 try simp only [lyA, lyB, lyC, lyD]
 refine wpAnyH_done (by kernel_rfl) ?_ _
 go_wp2_with fail
 generalize World.setCell w7 _ (Value.slice a1 n1 c1) = wA at HFA ⊢
 have hrA:=HFA.out.1
 have kS:=HFA.out.2.1
 have HFA2:=Lib.hid HFA.out.2.2
 have HSZ:=Lib.hid (show w.heap.size + 2 ≤ wB.heap.size from HSB2.out)
 have hbA : Blk wA w.heap.size (headC (size : Int) root) 46:=HBB.out.1.kept kS (nS _ (Nat.le_refl _))
 have hzA:=HBB.out.2.1.kept kS (nS _ (by omega))
 have htA:=HBB.out.2.2.2.2.kept kS HTS0.out.1 HTS0.out.2
 have kA : Kept (fun k=>¬ ownW w B k ∨ S k) (signW w (size : Int) root) wA:=HBB.out.2.2.2.1.then_ kS (fun k _ q=>Or.inr q)
 have haA : Apart (fun k=>ownW w B k ∨ (S k ∨ (Value.slice a1 n1 c1).ownBlock = some k)) d M' wA:=HBB.out.2.2.1.grow kS (fun k _ q=>Or.inl (hS k q)) (fun k q=>q.elim Or.inl (fun q=>q.elim (fun q=>Or.inl (Or.inl (hS k q))) (fun q=>(HFA.out.2.2 k q).elim (fun q=>Or.inl (Or.inl (hS k q))) Or.inr)))
 obtain ⟨⟨t, vv, hrb, htree, -, -, -⟩, -, -, -, hsh⟩:=id hrA
 have hrlA:=hrA.lt
 have hhb : w.heap.size < wA.heap.size:=hbA.lt
 have HTS:=Lib.hid (fun w' (k : Kept (fun _=>False) wA w')=>treeSign_any (htree.kept k id) i (digestF size root) hsh hi hDl (htA.same k))
 have HTB:=Lib.hid (fun w' (k : Kept (fun _=>False) wA w')=>htA.same k)
 have HFIN:=Lib.hid (And.intro hrA (And.intro hbA (And.intro hzA (And.intro haA kA))))
 obtain ⟨SG, hSG⟩ : ∃ SG, signF R.seed.data.toList i (digestF size root) = SG:=⟨_, rfl⟩
 rw [hSG] at HTS
 have HSG:=Lib.hid hSG
 obtain ⟨C, hC⟩ : ∃ C, headC (size : Int) root = C:=⟨_, rfl⟩
 have HCC:=Lib.hid hC
 have SA : SgS wA wA.drew r t w.heap.size C:=⟨(hrb.drew).cell (i:=1) rfl, by rw [← hC]; exact (hbA.drew).range0, (Kept.refl _ _).drew⟩
 have HI : Hid ((Tryz.prog.info? 46).map (·.size) = some C.length):=by rw [← hC]; exact HI0
 have HLC:=Lib.hid (show C.length = 33 by rw [← hC]; exact headC_len hroot)
 have HDG:=Lib.hid (fun w' ht'=>(by rw [← hC]; exact HDI.out w' ht' : Calls Tryz.prog 57 #[.agg C.toArray] w' fun e w''=>e = .returned (hashV (digestF size root))∧Kept (fun _=>False) w' w''))
 generalize hDG : digestF size root = DG at *
 have HDG2:=Lib.hid hDG
 clear hDG hSG hrA hbA hzA haA htA kA hrb htree hsh hC
 refine wp_region_held_drew (S:=(fun w'=>SgS wA w' r t w.heap.size C)) (by kernel_rfl) SA (fun hH0=>?_)
 refine tk 0 rfl (fun _ _ _ h=>h) hH0 ?_
 refine tk 1 rfl (fun _ _ _ h=>h) hH0 ?_
 refine tk 2 rfl (fun _ _ _ h=>h) hH0 ?_
 refine tk 3 rfl (fun _ _ _ h=>h) hH0 ?_
 refine tk 4 rfl (fun _ _ _ h=>h) hH0 ?_
 refine tky 5 rfl (fun _ _ _ h=>h) (yieldsIf_load_mid (by rfl) _ _ rfl (w.heap.size) (0) rfl (C) _ (fun w q=>q.2.1) Tryz.underlying46 rfl HI.out) hH0 ?_
 refine wpAnyH_ready (rs:=[6, 11]) (by kernel_rfl) (by simp) ?_
 refine AllReadyH.cons (o := ⟨some 54, .call { callee := .value (.func 57), args := #[.tmp 53], argTypes := #[46] }, 24, "keyring.go:140", #[⟨5, .data⟩], none⟩) rfl (fun K hK => ?_) ?_
 ·go_simp
  refine (HDG.out _ (HTB.out _ hH0.2.2)).mono ?_
  rintro e w3 ⟨rfl, hk3⟩
  try have hsb:=hsb.kept hk3 id
  refine hK.out _ _ (sgS_next hH0 hhb hk3) (fun hH1=>?_)
  clear hK K
  try simp only [lyA, lyB, lyC, lyD]
  refine wpAnyH_ready (rs:=[7, 11]) (by kernel_rfl) (by simp) ?_
  refine AllReadyH.cons (o := ⟨some 55, .call { callee := .value (.func 83), args := #[.tmp 51, .tmp 52, .tmp 54], argTypes := #[144, 3, 24] }, 147, "keyring.go:140", #[⟨3, .data⟩, ⟨4, .data⟩, ⟨6, .data⟩, ⟨6, .chain⟩], none⟩) rfl (fun K hK => ?_) ?_
  ·go_simp
   refine (HTS.out _ hH1.2.2).mono ?_
   rintro e w4 ⟨v, rfl, hrow4, hown4, hk4⟩
   obtain ⟨pa, pn, pc, rfl, -⟩:=hrow4.form (by omega)
   have HR4:=Lib.hid (sg_row hH1.2.2 hrow4 hown4)
   try have hsb:=hsb.kept hk4 id
   refine hK.out _ _ (sgS_next hH1 hhb hk4) (fun hH2=>?_)
   clear hK K
   try simp only [lyA, lyB, lyC, lyD]
   refine tk 8 rfl (fun _ _ _ h=>h) hH2 ?_
   refine tk 9 rfl (fun _ _ _ h=>h) hH2 ?_
   refine tk 10 rfl (fun _ _ _ h=>h) hH2 ?_
   refine rd1 11 (fun K hK=>?_)
   go_simp
   obtain ⟨hsb, hsl⟩:=sg_alloc hH2.2.2
   try change Blk (World.drew (World.alloc wA (.cells [.int .i64 0, .string ⟨#[]⟩, .slice none 0 0].toArray 49))) wA.heap.size _ _ at hsb
   try change wA.heap.size ≤ wA.heap.size at hsl
   try have HR4:=Lib.hid (sg_rowa HR4.out (.cells [.int .i64 0, .string ⟨#[]⟩, .slice none 0 0].toArray 49))
   refine hK.out _ _ (sgS_next hH2 hhb ((Kept.refl _ _).alloc _)) (fun hH3=>?_)
   clear hK K
   try simp only [lyA, lyB, lyC, lyD]
   first | generalize World.alloc _ _ = wS at hsb HR4 hH3 ⊢ | generalize World.alloc _ _ = wS at hsb hH3 ⊢
   refine rd1 12 (fun K hK=>?_)
   try replace hsb : Blk w4 wA.heap.size [.int .i64 0, .string ⟨#[]⟩, .slice none 0 0] 49:=hsb
   have q0:=hsb.cell (i:=0) rfl
   have q1:=hsb.cell (i:=1) rfl
   have q2:=hsb.cell (i:=2) rfl
   have f0:=hsb.free 0
   have f1:=hsb.free 1
   have f2:=hsb.free 2
   go_simp
   have HR5:=Lib.hid (sg_rows HR4.out hsb (.int .i64 (i : Int)) (.string ⟨SG.toArray⟩) (.slice pa pn pc))
   have HSB : Hid (Blk _ _ [.int .i64 (i : Int), .string ⟨SG.toArray⟩, .slice pa pn pc] 49):=Lib.hid (((hsb.set 0 (.int .i64 (i : Int))).set 1 (.string ⟨SG.toArray⟩)).set 2 (.slice pa pn pc))
   refine hK.out _ _ (sgS_set hH3 hhb hsl _ _ _ hrlA) (fun hH4=>?_)
   clear hK K
   try simp only [lyA, lyB, lyC, lyD]
   refine rd1 13 (fun K hK=>?_)
   go_simp
   refine hK.out _ _ (hH4) (fun hH5=>?_)
   clear hK K
   try simp only [lyA, lyB, lyC, lyD]
   refine wpAnyH_done (by kernel_rfl) ?_ _
   generalize World.setCell (World.setCell (World.setCell _ _ _) _ _) _ _ = wF at HSB HR5 hH5 ⊢
   have kF:=hH5.2.2
   have rF:=hH5.2.1
   have s0:=HSB.out.cell (i:=0) rfl
   have s1:=HSB.out.cell (i:=1) rfl
   have s2:=HSB.out.cell (i:=2) rfl
   have lC : C.length = 33:=HLC.out
   obtain ⟨X, Y, hfA, lX, hfB, HY⟩:=sign_build C lC (.int .i64 (i : Int)) (.string ⟨SG.toArray⟩) (.slice pa pn pc)
   simp only [zeros, List.replicate, List.cons_append, List.nil_append] at hfA
   have lY : Hid (Y.length = 36):=Lib.hid (by rw [HY.out, List.length_append, lC]; rfl)
   have HZF:=Lib.hid (sign_fin (HFIN.out.2.2.1.kept kF id) lY.out)
   go_wp2_with (first | ((with_reducible show wpList _ _ _ (⟨some 58, _, _, _, _, _⟩::_) _ _); refine wpList_load_mid rfl 46 _ rfl w.heap.size 0 rfl C _ rF Tryz.underlying46 rfl HI.out ?_) | ((with_reducible show wpList _ _ _ (⟨none, .store _ (.tmp 4) _, _, _, _, _⟩::_) _ _); refine wpList_store_mid rfl 51 _ _ rfl (w.heap.size + 1) 0 Y.toArray rfl rfl ?htv11 ?hiv11 ?h1v11 ?_))
   case htv11=>exact HZF.out.1
   case hiv11=>first | exact info_sized lY.out | simpa using info_sized lY.out
   case h1v11=>first | exact sign_one HY.out HCC.out | exact all_oneCell_toArray (sign_one HY.out HCC.out)
   refine bodyPost_ret (HZF.out.2.result2 rfl rfl Tryz.underlying51 rfl (info_sized lY.out)) rfl ?_
   exact sign_yes (S':=fun k=>S k ∨ (Value.slice a1 n1 c1).ownBlock = some k) HFIN.out.1 (fun k hk=>hk.elim Or.inl (fun q=>(HFA2.out k q).imp id (fun o=>by have:=HSZ.out; omega))) HH.out.2.1 HH.out.2.2.1 HFIN.out.2.2.2.1 HFIN.out.2.2.2.2 kF HR5.out HY.out HCC.out HSG.out HDG2.out
  refine AllReadyH.cons (o := ⟨some 9, .alloc 49, 0, "keyring.go:140", #[], none⟩) rfl (fun K hK => ?_) AllReadyH.nil
  go_simp
  obtain ⟨hsb, hsl⟩:=sg_alloc hH1.2.2
  try change Blk (World.drew (World.alloc wA (.cells [.int .i64 0, .string ⟨#[]⟩, .slice none 0 0].toArray 49))) wA.heap.size _ _ at hsb
  try change wA.heap.size ≤ wA.heap.size at hsl
  try have HR4:=Lib.hid (sg_rowa HR4.out (.cells [.int .i64 0, .string ⟨#[]⟩, .slice none 0 0].toArray 49))
  refine hK.out _ _ (sgS_next hH1 hhb ((Kept.refl _ _).alloc _)) (fun hH2=>?_)
  clear hK K
  try simp only [lyA, lyB, lyC, lyD]
  first | generalize World.alloc _ _ = wS at hsb HR4 hH2 ⊢ | generalize World.alloc _ _ = wS at hsb hH2 ⊢
  refine rd1 7 (fun K hK=>?_)
  go_simp
  refine (HTS.out _ hH2.2.2).mono ?_
  rintro e w4 ⟨v, rfl, hrow4, hown4, hk4⟩
  obtain ⟨pa, pn, pc, rfl, -⟩:=hrow4.form (by omega)
  have HR4:=Lib.hid (sg_row hH2.2.2 hrow4 hown4)
  try have hsb:=hsb.kept hk4 id
  refine hK.out _ _ (sgS_next hH2 hhb hk4) (fun hH3=>?_)
  clear hK K
  try simp only [lyA, lyB, lyC, lyD]
  refine tk 8 rfl (fun _ _ _ h=>h) hH3 ?_
  refine tk 9 rfl (fun _ _ _ h=>h) hH3 ?_
  refine tk 10 rfl (fun _ _ _ h=>h) hH3 ?_
  refine rd1 12 (fun K hK=>?_)
  try replace hsb : Blk w4 wA.heap.size [.int .i64 0, .string ⟨#[]⟩, .slice none 0 0] 49:=hsb
  have q0:=hsb.cell (i:=0) rfl
  have q1:=hsb.cell (i:=1) rfl
  have q2:=hsb.cell (i:=2) rfl
  have f0:=hsb.free 0
  have f1:=hsb.free 1
  have f2:=hsb.free 2
  go_simp
  have HR5:=Lib.hid (sg_rows HR4.out hsb (.int .i64 (i : Int)) (.string ⟨SG.toArray⟩) (.slice pa pn pc))
  have HSB : Hid (Blk _ _ [.int .i64 (i : Int), .string ⟨SG.toArray⟩, .slice pa pn pc] 49):=Lib.hid (((hsb.set 0 (.int .i64 (i : Int))).set 1 (.string ⟨SG.toArray⟩)).set 2 (.slice pa pn pc))
  refine hK.out _ _ (sgS_set hH3 hhb hsl _ _ _ hrlA) (fun hH4=>?_)
  clear hK K
  try simp only [lyA, lyB, lyC, lyD]
  refine rd1 13 (fun K hK=>?_)
  go_simp
  refine hK.out _ _ (hH4) (fun hH5=>?_)
  clear hK K
  try simp only [lyA, lyB, lyC, lyD]
  refine wpAnyH_done (by kernel_rfl) ?_ _
  generalize World.setCell (World.setCell (World.setCell _ _ _) _ _) _ _ = wF at HSB HR5 hH5 ⊢
  have kF:=hH5.2.2
  have rF:=hH5.2.1
  have s0:=HSB.out.cell (i:=0) rfl
  have s1:=HSB.out.cell (i:=1) rfl
  have s2:=HSB.out.cell (i:=2) rfl
  have lC : C.length = 33:=HLC.out
  obtain ⟨X, Y, hfA, lX, hfB, HY⟩:=sign_build C lC (.int .i64 (i : Int)) (.string ⟨SG.toArray⟩) (.slice pa pn pc)
  simp only [zeros, List.replicate, List.cons_append, List.nil_append] at hfA
  have lY : Hid (Y.length = 36):=Lib.hid (by rw [HY.out, List.length_append, lC]; rfl)
  have HZF:=Lib.hid (sign_fin (HFIN.out.2.2.1.kept kF id) lY.out)
  go_wp2_with (first | ((with_reducible show wpList _ _ _ (⟨some 58, _, _, _, _, _⟩::_) _ _); refine wpList_load_mid rfl 46 _ rfl w.heap.size 0 rfl C _ rF Tryz.underlying46 rfl HI.out ?_) | ((with_reducible show wpList _ _ _ (⟨none, .store _ (.tmp 4) _, _, _, _, _⟩::_) _ _); refine wpList_store_mid rfl 51 _ _ rfl (w.heap.size + 1) 0 Y.toArray rfl rfl ?htv12 ?hiv12 ?h1v12 ?_))
  case htv12=>exact HZF.out.1
  case hiv12=>first | exact info_sized lY.out | simpa using info_sized lY.out
  case h1v12=>first | exact sign_one HY.out HCC.out | exact all_oneCell_toArray (sign_one HY.out HCC.out)
  refine bodyPost_ret (HZF.out.2.result2 rfl rfl Tryz.underlying51 rfl (info_sized lY.out)) rfl ?_
  exact sign_yes (S':=fun k=>S k ∨ (Value.slice a1 n1 c1).ownBlock = some k) HFIN.out.1 (fun k hk=>hk.elim Or.inl (fun q=>(HFA2.out k q).imp id (fun o=>by have:=HSZ.out; omega))) HH.out.2.1 HH.out.2.2.1 HFIN.out.2.2.2.1 HFIN.out.2.2.2.2 kF HR5.out HY.out HCC.out HSG.out HDG2.out
 refine AllReadyH.cons (o := ⟨some 9, .alloc 49, 0, "keyring.go:140", #[], none⟩) rfl (fun K hK => ?_) AllReadyH.nil
 go_simp
 obtain ⟨hsb, hsl⟩:=sg_alloc hH0.2.2
 try change Blk (World.drew (World.alloc wA (.cells [.int .i64 0, .string ⟨#[]⟩, .slice none 0 0].toArray 49))) wA.heap.size _ _ at hsb
 try change wA.heap.size ≤ wA.heap.size at hsl
 try have HR4:=Lib.hid (sg_rowa HR4.out (.cells [.int .i64 0, .string ⟨#[]⟩, .slice none 0 0].toArray 49))
 refine hK.out _ _ (sgS_next hH0 hhb ((Kept.refl _ _).alloc _)) (fun hH1=>?_)
 clear hK K
 try simp only [lyA, lyB, lyC, lyD]
 first | generalize World.alloc _ _ = wS at hsb HR4 hH1 ⊢ | generalize World.alloc _ _ = wS at hsb hH1 ⊢
 refine rd1 6 (fun K hK=>?_)
 go_simp
 refine (HDG.out _ (HTB.out _ hH1.2.2)).mono ?_
 rintro e w3 ⟨rfl, hk3⟩
 try have hsb:=hsb.kept hk3 id
 refine hK.out _ _ (sgS_next hH1 hhb hk3) (fun hH2=>?_)
 clear hK K
 try simp only [lyA, lyB, lyC, lyD]
 refine rd1 7 (fun K hK=>?_)
 go_simp
 refine (HTS.out _ hH2.2.2).mono ?_
 rintro e w4 ⟨v, rfl, hrow4, hown4, hk4⟩
 obtain ⟨pa, pn, pc, rfl, -⟩:=hrow4.form (by omega)
 have HR4:=Lib.hid (sg_row hH2.2.2 hrow4 hown4)
 try have hsb:=hsb.kept hk4 id
 refine hK.out _ _ (sgS_next hH2 hhb hk4) (fun hH3=>?_)
 clear hK K
 try simp only [lyA, lyB, lyC, lyD]
 refine tk 8 rfl (fun _ _ _ h=>h) hH3 ?_
 refine tk 9 rfl (fun _ _ _ h=>h) hH3 ?_
 refine tk 10 rfl (fun _ _ _ h=>h) hH3 ?_
 refine rd1 12 (fun K hK=>?_)
 try replace hsb : Blk w4 wA.heap.size [.int .i64 0, .string ⟨#[]⟩, .slice none 0 0] 49:=hsb
 have q0:=hsb.cell (i:=0) rfl
 have q1:=hsb.cell (i:=1) rfl
 have q2:=hsb.cell (i:=2) rfl
 have f0:=hsb.free 0
 have f1:=hsb.free 1
 have f2:=hsb.free 2
 go_simp
 have HR5:=Lib.hid (sg_rows HR4.out hsb (.int .i64 (i : Int)) (.string ⟨SG.toArray⟩) (.slice pa pn pc))
 have HSB : Hid (Blk _ _ [.int .i64 (i : Int), .string ⟨SG.toArray⟩, .slice pa pn pc] 49):=Lib.hid (((hsb.set 0 (.int .i64 (i : Int))).set 1 (.string ⟨SG.toArray⟩)).set 2 (.slice pa pn pc))
 refine hK.out _ _ (sgS_set hH3 hhb hsl _ _ _ hrlA) (fun hH4=>?_)
 clear hK K
 try simp only [lyA, lyB, lyC, lyD]
 refine rd1 13 (fun K hK=>?_)
 go_simp
 refine hK.out _ _ (hH4) (fun hH5=>?_)
 clear hK K
 try simp only [lyA, lyB, lyC, lyD]
 refine wpAnyH_done (by kernel_rfl) ?_ _
 generalize World.setCell (World.setCell (World.setCell _ _ _) _ _) _ _ = wF at HSB HR5 hH5 ⊢
 have kF:=hH5.2.2
 have rF:=hH5.2.1
 have s0:=HSB.out.cell (i:=0) rfl
 have s1:=HSB.out.cell (i:=1) rfl
 have s2:=HSB.out.cell (i:=2) rfl
 have lC : C.length = 33:=HLC.out
 obtain ⟨X, Y, hfA, lX, hfB, HY⟩:=sign_build C lC (.int .i64 (i : Int)) (.string ⟨SG.toArray⟩) (.slice pa pn pc)
 simp only [zeros, List.replicate, List.cons_append, List.nil_append] at hfA
 have lY : Hid (Y.length = 36):=Lib.hid (by rw [HY.out, List.length_append, lC]; rfl)
 have HZF:=Lib.hid (sign_fin (HFIN.out.2.2.1.kept kF id) lY.out)
 go_wp2_with (first | ((with_reducible show wpList _ _ _ (⟨some 58, _, _, _, _, _⟩::_) _ _); refine wpList_load_mid rfl 46 _ rfl w.heap.size 0 rfl C _ rF Tryz.underlying46 rfl HI.out ?_) | ((with_reducible show wpList _ _ _ (⟨none, .store _ (.tmp 4) _, _, _, _, _⟩::_) _ _); refine wpList_store_mid rfl 51 _ _ rfl (w.heap.size + 1) 0 Y.toArray rfl rfl ?htv13 ?hiv13 ?h1v13 ?_))
 case htv13=>exact HZF.out.1
 case hiv13=>first | exact info_sized lY.out | simpa using info_sized lY.out
 case h1v13=>first | exact sign_one HY.out HCC.out | exact all_oneCell_toArray (sign_one HY.out HCC.out)
 refine bodyPost_ret (HZF.out.2.result2 rfl rfl Tryz.underlying51 rfl (info_sized lY.out)) rfl ?_
 exact sign_yes (S':=fun k=>S k ∨ (Value.slice a1 n1 c1).ownBlock = some k) HFIN.out.1 (fun k hk=>hk.elim Or.inl (fun q=>(HFA2.out k q).imp id (fun o=>by have:=HSZ.out; omega))) HH.out.2.1 HH.out.2.2.1 HFIN.out.2.2.2.1 HFIN.out.2.2.2.2 kF HR5.out HY.out HCC.out HSG.out HDG2.out
end
section
variable {w : World} {r d : Nat} {R : RingM} {S : Nat → Prop}
theorem ring_key (h : IsRing w r d R S) (ht : Tab w) :
  Calls Tryz.prog 50 #[.pointer (some ⟨r, 0, none⟩)] w fun e w'=>e = .returned (hashV (rootF (leavesF R.seed.data.toList)))∧Kept (fun _=>False) w w':=by
 have ka : Kept (fun _=>False) w (w.alloc (.cells (zeros 32).toArray 24)):=(Kept.refl _ _).alloc _
 have hn:=ring_none (h.same ka)
 have h':=h.same ka
 obtain ⟨⟨t, v, h1, h2, h3, h4, h5⟩, h6, h7, h8, h9⟩:=h'
 have c1:=h1.cell (i:=1) rfl
 have c1b:=c1
 simp only [zeros, List.replicate] at c1b
 have hb:=Blk.new w (zeros 32) 24
 have hroot:=(treeRoot_any h2 (ht.same ka)).mono (R':=fun e w2=>e = .returned (hashV (rootF (leavesF R.seed.data.toList)))∧Hid (Blk w2 w.heap.size (zeros 32) 24∧Kept (fun _=>False) w w2)) (fun e w2 q=>⟨q.1, Lib.hid ⟨hb.kept q.2 id, ka.trans q.2⟩⟩)
 have hl:=rootF_len h2.2.2
 generalize rootF (leavesF R.seed.data.toList) = H at *
 have HN:=Lib.hid hn
 have HR:=Lib.hid hroot
 have HL:=Lib.hid hl
 have HI:=Lib.hid (show (Tryz.prog.info? 24).map (·.size) = some (bytes8 H).length by rw [bytes8_len, hl]; exact info_h32)
 clear hn hroot hl h1 h2 h3 h4 h5 h6 h7 h8 h9 hb ka h
 go_enter Tryz.func50, Tryz.ntmps50
 go_wp2_with (first | (go_at_call 79; refine HN.out.mono ?_; rintro e w' ⟨rfl, rfl⟩) | (go_at_call 88; refine HR.out.mono ?_; rintro e w2 ⟨rfl, HB⟩) | ((with_reducible show wpList _ _ _ (⟨none, .store _ (.tmp 2) _, _, _, _, _⟩::_) _ _); refine wpList_store_mid rfl 24 _ _ rfl w.heap.size 0 (bytes8 H).toArray rfl rfl ?hth ?hi ?h1 ?_))
 case hth=>exact (hash_stored HB.out.1 (zeros_len 32) HL.out).1
 case hi=>first | exact info_hash HL.out | simpa using info_hash HL.out
 case h1=>first | exact all_oneCell_toArray (fun y hy=>u8_oneCell y hy) | exact fun y hy=>u8_oneCell y hy
 have hst:=hash_stored HB.out.1 (zeros_len 32) HL.out
 refine bodyPost_ret (hst.2.result rfl rfl Tryz.underlying24 rfl HI.out) rfl ⟨rfl, ?_⟩
 exact HB.out.2.then_ (kept_setCells _ _ _ _) (fun i hi e=>by omega)
abbrev LastS (wA w' : World) (r g m cap b : Nat) (C : List Value) : Prop:=w'.cell? ⟨r, 2, none⟩ = some (.slice (some ⟨g, 0, none⟩) (m + 1) cap)∧w'.rangeAt g (m * 33) C∧(∃ D : List Value, D.length = 33∧Blk w' b D 46)∧Kept (· = b) wA w'
theorem lastS_store {wA w1 : World} {r g m cap b : Nat} {C : List Value} (hC : C.length = 33) (hr : r ≠ b) (hg : g ≠ b) (hgl : g < wA.heap.size) (h : LastS wA w1 r g m cap b C) : w1.there b 0 C.toArray.size∧LastS wA (w1.setCells b 0 C.toArray.toList) r g m cap b C∧Blk (w1.setCells b 0 C.toArray.toList) b C 46:=by
 obtain ⟨h1, h2, ⟨D, hD, hb⟩, hk⟩:=h
 have k:=kept_setCells w1 b 0 C
 have hb2:=hb.setCells 0 C (by omega)
 rw [splice_whole (by omega)] at hb2
 exact ⟨hb.there 0 _ (by rw [List.size_toArray]; omega), ⟨k.cell h1 hr, rangeAt_kept h2 k (Nat.lt_of_lt_of_le hgl hk.size) hg, ⟨C, hC, hb2⟩, hk.then_ k (fun _ _ e=>e)⟩, hb2⟩
theorem head0_len : (headC 0 zeroRoot).length = 33:=headC_len (by simp)
abbrev lastW (w : World) : World:=w.alloc (.cells (headC 0 zeroRoot).toArray 46)
theorem ring_last (h : IsRing w r d R S) (m : Nat) (a : Hd) (hm : R.signed[m]? = some a) (hl : R.signed.length = m + 1) :
  Calls Tryz.prog 54 #[.pointer (some ⟨r, 0, none⟩)] w fun e w'=>e = .returned (.tuple #[headV (a.1 : Int) a.2, .bool true])∧Kept (fun _=>False) w w':=by
 have kA : Kept (fun _=>False) w (lastW w):=(Kept.refl _ _).alloc _
 have hu:=ring_used (h.same kA)
 rw [hl] at hu
 have hrl:=h.lt
 have h':=h.same kA
 have ha32:=(h.oks a (List.mem_of_getElem? hm)).2.2
 have hm8:=h.few
 obtain ⟨⟨t, v, h1, h2, h3, h4, h5⟩, h6, h7, h8, h9⟩:=h'
 obtain ⟨x, n, cap, rfl, hn, _, hx⟩:=h3.form (by omega)
 rw [hdC_len (fun x hx=>(h7 x hx).2.2)] at hn
 obtain rfl : n = m + 1:=by omega
 obtain ⟨g, rfl, hg, _⟩:=hx (by omega)
 have hgl:=h3.lt hg
 have hr:=h3.rangeAt (m * 33) 33
 rw [hdC_at (fun x hx=>(h7 x hx).2.2) m hm] at hr
 have hb:=head_blk w 0 zeroRoot
 have hgw : g ≠ w.heap.size:=by
  obtain ⟨⟨t', v', q1, q2, q3, q4, q5⟩, -⟩:=id h
  have e : v' = .slice (some ⟨g, 0, none⟩) (m + 1) cap:=by
   have c1:=(q1.kept kA id).cell (i:=2) rfl
   rw [h1.cell (i:=2) rfl] at c1
   exact (Option.some.inj c1).symm
  rw [e] at q3
  have:=q3.lt hg
  omega
 obtain ⟨C, hC⟩ : ∃ C, headC (a.1 : Int) a.2 = C:=⟨_, rfl⟩
 rw [hC] at hr
 have lC : C.length = 33:=by rw [← hC]; exact headC_len ha32
 obtain ⟨wA, hwA⟩ : ∃ wA, wA = lastW w:=⟨_, rfl⟩
 have hu' : Calls Tryz.prog 51 #[.pointer (some ⟨r, 0, none⟩)] (lastW w) fun e w'=>e = .returned (.int .i64 ((m : Int) + 1))∧wA = w':=by rw [hwA]; exact hu
 have c2:=h1.cell (i:=2) rfl
 have SA : LastS wA wA.drew r g m cap w.heap.size C:=by rw [hwA]; exact ⟨c2, hr, ⟨_, head0_len, hb.drew⟩, (Kept.refl _ _).drew⟩
 have HT:=Lib.hid (fun w1 (q : LastS wA w1 r g m cap w.heap.size C)=>lastS_store lC (by omega) hgw (by rw [hwA]; exact hgl) q)
 have HI:=Lib.hid (show (Tryz.prog.info? 46).map (·.size) = some C.length by rw [lC]; exact info_head)
 have HO : Hid (∀ v ∈ C, v.oneCell' = true):=Lib.hid (by rw [← hC]; exact head_oneCell)
 have HC:=Lib.hid hC
 have HU:=Lib.hid hu'
 have a1 : IntKind.i64.wrap (m : Int) = (m : Int):=IntWalk.i64_in _ (by omega)
 have y1 : ((m : Int) + 1 == 0) = false:=by simp; omega
 have y2 : decide ((m : Int) + 1 = 0) = false:=decide_eq_false (by omega)
 have y4 : (m : Int) < (m : Int) + 1:=by omega
 have HK:=Lib.hid (by rw [hwA]; exact kA : Kept (fun _=>False) w wA)
 clear hu hu' h h1 h2 h3 h4 h5 h6 h7 h8 h9 hn hx hg hgl hr hb hgw hC kA hm hl hm8 lC hwA c2
 go_enter Tryz.func54, Tryz.ntmps54
 go_wp2_with (first | (go_at_call 51; refine HU.out.mono ?_; rintro e w' ⟨rfl, rfl⟩))
 refine wp_region_held_drew (S:=(fun w'=>LastS wA w' r g m cap w.heap.size C)) (by kernel_rfl) SA (fun hH0=>?_)
 refine tk 0 rfl (fun _ _ _ h=>h) hH0 ?_
 refine tk 1 rfl (fun _ _ _ h=>h) hH0 ?_
 refine tk 2 rfl (fun _ _ _ h=>h) hH0 ?_
 refine tk 3 rfl (fun _ _ _ h=>h) hH0 ?_
 refine tk 4 rfl (fun _ _ _ h=>h) hH0 ?_
 refine tk 5 rfl (fun _ _ _ h=>h) hH0 ?_
 refine tk 6 rfl (fun _ _ _ h=>h) hH0 ?_
 refine tk 7 rfl (fun _ _ _ h=>h) hH0 ?_
 refine tk 8 rfl (fun _ _ _ h=>h) hH0 ?_
 refine tk 9 rfl (fun _ _ _ h=>h) hH0 ?_
 refine tk 10 rfl (fun _ _ _ h=>h) hH0 ?_
 refine tky 11 rfl (fun _ _ _ h=>h) (yieldsIf_load_mid (by rfl) _ _ rfl (g) (m * 33) rfl (C) _ (fun w q=>q.2.1) Tryz.underlying46 rfl HI.out) hH0 ?_
 refine rd1 12 (fun K hK=>?_)
 have HBL:=Lib.hid (HT.out _ hH0).2.2
 rw [if_pos (by rfl)]
 refine wp_store_mid _ _ _ rfl w.heap.size 0 C.toArray rfl rfl (HT.out _ hH0).1 (by rw [List.size_toArray]; exact HI.out) (all_oneCell_toArray HO.out) ?_
 refine hK.out _ _ ((HT.out _ hH0).2.1) (fun hH1=>?_)
 clear hK K
 try simp only [lyA, lyB, lyC, lyD]
 refine rd1 13 (fun K hK=>?_)
 go_simp
 refine hK.out _ _ (hH1) (fun hH2=>?_)
 clear hK K
 try simp only [lyA, lyB, lyC, lyD]
 refine wpAnyH_done (by kernel_rfl) ?_ _
 go_wp2_with fail
 refine bodyPost_ret (HBL.out.result2 rfl rfl Tryz.underlying46 rfl HI.out) rfl ⟨by rw [← HC.out]; rfl, ?_⟩
 exact HK.out.then_ hH2.2.2.2 (fun i hi e=>by omega)
theorem noring_head (w : World) : Blk (lastW w) w.heap.size (headC 0 zeroRoot) 46:=head_blk w 0 zeroRoot
theorem last_zero {w1 : World} {b : Nat} (h : Blk w1 b (headC 0 zeroRoot) 46) : w1.there b 0 (headC 0 zeroRoot).toArray.size∧Blk (w1.setCells b 0 (headC 0 zeroRoot)) b (headC 0 zeroRoot) 46:=by
 have h0:=head0_len
 refine ⟨h.there 0 _ (by rw [List.size_toArray]; omega), ?_⟩
 have:=h.setCells 0 (headC 0 zeroRoot) (by omega)
 rw [splice_whole (by omega)] at this
 exact this
theorem info_head0 : (Tryz.prog.info? 46).map (·.size) = some (headC 0 zeroRoot).length:=by rw [head0_len]; exact info_head
theorem last_used0 (w : World) (v : Value) (hu : Calls Tryz.prog 51 #[v] (lastW w) fun e w'=>e = .returned (.int .i64 0)∧lastW w = w') :
  Calls Tryz.prog 54 #[v] w fun e w'=>e = .returned (.tuple #[.agg (headC 0 zeroRoot).toArray, .bool false])∧Kept (fun _=>False) w w':=by
 have HU:=Lib.hid hu
 have HB:=Lib.hid (last_zero (noring_head w))
 clear hu
 go_enter Tryz.func54, Tryz.ntmps54
 go_wp2_with (first | (go_at_call 51; refine HU.out.mono ?_; rintro e w' ⟨rfl, rfl⟩) | ((with_reducible show wpList _ _ _ (⟨none, .store _ (.tmp 2) _, _, _, _, _⟩::_) _ _); refine wpList_store_mid rfl 46 _ _ rfl w.heap.size 0 (headC 0 zeroRoot).toArray rfl rfl ?hth ?hi ?h1 ?_))
 case hth=>exact HB.out.1
 case hi=>exact (by rw [List.size_toArray]; exact info_head0)
 case h1=>exact all_oneCell_toArray head_oneCell
 refine bodyPost_ret (HB.out.2.result2 rfl rfl Tryz.underlying46 rfl info_head0) rfl ⟨rfl, ?_⟩
 exact ((Kept.refl (fun _=>False) w).alloc _).then_ (kept_setCells _ _ _ _) (fun i hi e=>by omega)
theorem ring_last0 (h : IsRing w r d R S) (hl : R.signed = []) :
  Calls Tryz.prog 54 #[.pointer (some ⟨r, 0, none⟩)] w fun e w'=>e = .returned (.tuple #[.agg (headC 0 zeroRoot).toArray, .bool false])∧Kept (fun _=>False) w w':=by
 have hu:=ring_used (h.same ((Kept.refl (fun _=>False) w).alloc (.cells (headC 0 zeroRoot).toArray 46)))
 rw [hl] at hu
 exact last_used0 w _ hu
end
theorem signed_head_range {w : World} {b : Nat} {size : Int} {root : By} {i : Int} {sig : ByteArray} {v : Value} {t : TypeId} (hr : root.length = 32) (h : Blk w b (signedC size root i sig v) t) : w.rangeAt b 0 (headC size root):=by
 have hl:=headC_len (size:=size) hr
 have r1:=h.rangeAt 0 33
 have e1 : ((signedC size root i sig v).drop 0).take 33 = headC size root:=by unfold signedC; rw [List.drop_zero, List.take_append_of_le_length (by omega), List.take_of_length_le (by omega)]
 rw [e1] at r1
 exact r1
theorem same_ok (w : World) (size : Int) (root : By) (i : Int) (sig : ByteArray) (a a' : Option Addr) (c c' n n' : Nat) (L : List By) (hr : root.length = 32) (hu : View w 32 (.slice a n c) (hcells L)) (hv : View w 32 (.slice a' n' c') (hcells L)) (h32 : ∀ x ∈ L, x.length = 32) (hL : L.length ≤ 1000000) (hvl : L.length * 32 ≤ 1000000000) :
  Calls Tryz.prog 42 #[signedV size root i sig (.slice a n c), signedV size root i sig (.slice a' n' c')] w fun e w'=>e = .returned (.bool true)∧Kept (fun _=>False) w w':=by
 have b0:=(Blk.new w (signedC size root i sig (.slice a n c)) 51).alloc (.cells (signedC size root i sig (.slice a' n' c')).toArray 51)
 have b1:=Blk.new (w.alloc (.cells (signedC size root i sig (.slice a n c)).toArray 51)) (signedC size root i sig (.slice a' n' c')) 51
 rw [World.size_alloc] at b1
 have kW : Kept (fun _=>False) w ((w.alloc (.cells (signedC size root i sig (.slice a n c)).toArray 51)).alloc (.cells (signedC size root i sig (.slice a' n' c')).toArray 51)):=((Kept.refl _ _).alloc _).alloc _
 obtain ⟨q0, q1, q2, q3⟩:=signed_at (size:=size) (i:=i) (sig:=sig) (v:=.slice a n c) hr
 obtain ⟨p0, p1, p2, p3⟩:=signed_at (size:=size) (i:=i) (sig:=sig) (v:=.slice a' n' c') hr
 have c1:=b0.cell q1
 have c2:=b0.cell q2
 have c3:=b0.cell q3
 have d1:=b1.cell p1
 have d2:=b1.cell p2
 have d3:=b1.cell p3
 have HR0:=Lib.hid (signed_head_range hr b0)
 have HR1:=Lib.hid (signed_head_range hr b1)
 have HI:=Lib.hid (show (Tryz.prog.info? 46).map (·.size) = some (headC size root).length by rw [headC_len hr]; exact info_head)
 have heq:=fun w'=>eql_head w' size size root root hr hr
 simp only [true_and, decide_true, and_self] at heq
 have HE:=Lib.hid (equal_ok _ _ _ L (hu.same kW (by omega)) (hv.same kW (by omega)) h32 hL)
 have HK:=Lib.hid kW
 clear q0 q1 q2 q3 p0 p1 p2 p3 b0 b1 hu hv kW
 go_enter Tryz.func42, Tryz.ntmps42
 go_wp2_with (first | ((with_reducible show wpList _ _ _ (⟨some 6, _, _, _, _, _⟩::_) _ _); refine wpList_load_mid rfl 46 _ rfl w.heap.size 0 rfl (headC size root) _ HR0.out Tryz.underlying46 rfl HI.out ?_) | ((with_reducible show wpList _ _ _ (⟨some 8, _, _, _, _, _⟩::_) _ _); refine wpList_load_mid rfl 46 _ rfl (w.heap.size + 1) 0 rfl (headC size root) _ HR1.out Tryz.underlying46 rfl HI.out ?_) | (go_at_call 78; refine HE.out.mono ?_; rintro e w2 ⟨rfl, hk2⟩))
 go_ret
 exact ⟨rfl, HK.out.trans hk2⟩
structure Held (w : World) (r d : Nat) (R : RingM) (M : DiskM) (B S : Nat → Prop) : Prop where
 ap : Apart B d M w
 ring : IsRing w r d R S
 sub : ∀ k, S k → B k
 keep : Keeps B
 off : ¬ S 0∧¬ S 1
 tab : Tab w
theorem topF_32 (n : Nat) : ∀ (l : List By) (i : Nat), l.length ≤ n → (∀ x ∈ l, x.length = 32) → ∀ x ∈ topF l i, x.length = 32:=by
 induction n with
 | zero=>intro l i hl _ x hx; rw [topF_few (by omega)] at hx; cases hx
 | succ n ih =>
  intro l i hl h x hx
  by_cases h2 : 2 ≤ l.length
  ·have hs:=splitN_in h2
   by_cases hi : i < splitN l.length
   ·rw [topF_low h2 hi] at hx
    rcases List.mem_cons.1 hx with rfl | hx
    ·exact rootF_len (fun y hy=>h y (List.mem_of_mem_drop hy))
    ·exact ih _ _ (by rw [List.length_take]; omega) (fun y hy=>h y (List.mem_of_mem_take hy)) x hx
   ·rw [topF_high h2 hi] at hx
    rcases List.mem_cons.1 hx with rfl | hx
    ·exact rootF_len (fun y hy=>h y (List.mem_of_mem_take hy))
    ·exact ih _ _ (by rw [List.length_drop]; omega) (fun y hy=>h y (List.mem_of_mem_drop hy)) x hx
  ·rw [topF_few h2] at hx; cases hx
theorem pathF_32 (seed : By) (i : Nat) : ∀ x ∈ pathF (leavesF seed) i, x.length = 32:=by
 intro x hx
 unfold pathF at hx
 exact topF_32 _ _ i (Nat.le_refl _) (leaves_32 seed) x (List.mem_reverse.1 hx)
theorem head_signed (seed : By) (size : Nat) (root : By) (i : Nat) (hi : i < 8) : headF (rootF (leavesF seed)) size root i (signF seed i (digestF size root)) (pathF (leavesF seed) i) = 0:=by
 have h:=proves_sign seed i hi (digestF size root)
 have hc : checkAns (leafF (recoveredF (signF seed i (digestF size root)) (digestF size root))) (rootF (leavesF seed)) i 8 (pathF (leavesF seed) i) = 0:=by
  unfold checkAns
  simp [h, hi]
 unfold headF verifyF
 rw [hc]
 simp
section
variable {w w' : World} {r d : Nat} {R R' : RingM} {M M' : DiskM} {B S : Nat → Prop}
def SignedTo (B S : Nat → Prop) (r d : Nat) (w : World) (size : Nat) (root : By) (i : Nat) (R' : RingM) (M' : DiskM) (e : Ending) (w' : World) : Prop :=
 ∃ a c S', e = .returned (.tuple #[signedV (size : Int) root (i : Int) ⟨(signF R'.seed.data.toList i (digestF size root)).toArray⟩ (.slice a 3 c), .int .i64 0])∧Row w' 24 32 (.slice a 3 c) (hcells (pathF (leavesF R'.seed.data.toList) i)) ∧
  (∀ k, S' k → S k ∨ w.heap.size ≤ k)∧Held w' r d R' M' (fun k=>B k ∨ S' k ∨ (Value.slice a 3 c).ownBlock = some k) S'∧Kept (fun k=>¬ B k ∨ S k) w w'∧∀ k, (Value.slice a 3 c).ownBlock = some k → w.heap.size ≤ k∧¬ S' k
theorem path_len (L : List By) (hL : L.length = 8) (i : Nat) (hi : i < 8) : (pathF L i).length = 3:=(proves_eight L hL i hi).1
theorem tab_lt (h : Tab w) : 0 < w.heap.size∧1 < w.heap.size :=
 ⟨World.block_lt_of_cell? w _ (h.first 0 _ rfl), World.block_lt_of_cell? w _ (h.rounds 0 _ rfl)⟩
theorem signed_to {size : Nat} {root : By} {i : Nat} {e : Ending} (h : Held w r d R M B S) (hi : i < 8) (hy : SignYes B S r d w size root i R' M' e w') : SignedTo B S r d w size root i R' M' e w':=by
 obtain ⟨v, S', rfl, hrow, hown, hr, hS', ha, hk⟩:=hy
 obtain ⟨a, n, c, rfl, hn, -⟩:=hrow.form (by omega)
 rw [hcells_len (pathF_32 _ i), path_len _ (leavesF_len _) i hi] at hn
 obtain rfl : n = 3:=by omega
 have ht:=tab_lt h.tab
 have hoff : ∀ k, k < w.heap.size → ¬ S k → ¬ S' k:=fun k hl hn q=>(hS' k q).elim hn (fun q=>by omega)
 exact ⟨a, c, S', rfl, hrow, hS', ⟨ha, hr, fun k q=>Or.inr (Or.inl q), ⟨Or.inl h.keep.1, Or.inl h.keep.2⟩, ⟨hoff _ ht.1 h.off.1, hoff _ ht.2 h.off.2⟩, h.tab.kept hk (fun q=>q.elim (fun n=>n h.keep.1) h.off.1) (fun q=>q.elim (fun n=>n h.keep.2) h.off.2)⟩, hk, hown⟩
theorem refused_to {x : Int} {e : Ending} (h : Held w r d R M B S) (hn : SignNo B S r d w x R' M' e w') : e = .returned (.tuple #[.agg signed0C.toArray, .int .i64 x])∧Held w' r d R' M' B S∧Kept (fun k=>¬ B k ∨ k = r) w w':=by
 obtain ⟨rfl, hr, ha, hk⟩:=hn
 have ho : ∀ k, ¬ S k → ¬ k = r:=fun k n e=>n (by rw [e]; exact h.ring.own)
 exact ⟨rfl, ⟨ha, hr, h.sub, h.keep, h.off, h.tab.kept hk (fun q=>q.elim (fun n=>n h.keep.1) (ho _ h.off.1)) (fun q=>q.elim (fun n=>n h.keep.2) (ho _ h.off.2))⟩, hk⟩
theorem held_fresh (h : Held w r d R M B S) (size : Nat) (root : By) (hz1 : 1 ≤ size) (hz : size ≤ 4096) (hroot : root.length = 32) (ho : R.over M = false) (i : Nat) (hi : i < 8) (hil : R.signed.length = i) (hx : nextF R.signed (size : Int) root = ((i : Int), true, 0)) (M' : DiskM) (hkr : M.keepR (size, root) = (0, M')) (hc : M.files.length + M.loose.length < 300000000) :
  Calls Tryz.prog 45 #[.pointer (some ⟨r, 0, none⟩), headV (size : Int) root] w (SignedTo B S r d w size root i { R with signed:=R.signed ++ [(size, root)] } M') :=
 (sign_fresh h.ring h.ap h.sub size root hz hroot ho hz1 i hi hil hx M' hkr hc h.keep h.tab h.off).mono fun _ _ q=>signed_to h hi q
theorem held_again (h : Held w r d R M B S) (size : Nat) (root : By) (hz : size ≤ 4096) (hroot : root.length = 32) (ho : R.over M = false) (i : Nat) (hi : i < 8) (hx : nextF R.signed (size : Int) root = ((i : Int), false, 0)) :
  Calls Tryz.prog 45 #[.pointer (some ⟨r, 0, none⟩), headV (size : Int) root] w (SignedTo B S r d w size root i R M) :=
 (sign_again h.ring h.ap h.sub size root hz hroot ho i hi hx h.tab h.off).mono fun _ _ q=>signed_to h hi q
def SignedAs (B S : Nat → Prop) (r d : Nat) (w : World) (size : Nat) (root : By) (i : Nat) (R' : RingM) (M' : DiskM) (e : Ending) (w' : World) : Prop :=
 ∃ a c S' Y, e = .returned (.tuple #[.agg Y.toArray, .int .i64 0])∧Hid (Y = signedC (size : Int) root (i : Int) ⟨(signF R'.seed.data.toList i (digestF size root)).toArray⟩ (.slice a 3 c)∧Y.length = 36∧(∀ v ∈ Y, v.oneCell' = true)∧Row w' 24 32 (.slice a 3 c) (hcells (pathF (leavesF R'.seed.data.toList) i)) ∧
  (∀ k, S' k → S k ∨ w.heap.size ≤ k)∧Held w' r d R' M' (fun k=>B k ∨ S' k ∨ (Value.slice a 3 c).ownBlock = some k) S'∧Kept (fun k=>¬ B k ∨ S k) w w'∧∀ k, (Value.slice a 3 c).ownBlock = some k → w.heap.size ≤ k∧¬ S' k)
theorem signed_as {size : Nat} {root : By} {i : Nat} {e : Ending} (hroot : root.length = 32) (h : SignedTo B S r d w size root i R' M' e w') : SignedAs B S r d w size root i R' M' e w':=by
 obtain ⟨a, c, S', he, h1, h2, h3, h4, h5⟩:=h
 exact ⟨a, c, S', _, he, Lib.hid ⟨rfl, signedC_len hroot, signedC_one rfl, h1, h2, h3, h4, h5⟩⟩
def RefusedTo (B S : Nat → Prop) (r d : Nat) (w : World) (x : Int) (R' : RingM) (M' : DiskM) (e : Ending) (w' : World) : Prop:=e = .returned (.tuple #[.agg signed0C.toArray, .int .i64 x])∧Held w' r d R' M' B S∧Kept (fun k=>¬ B k ∨ k = r) w w'
theorem held_refused (h : Held w r d R M B S) (size : Int) (root : By) (hroot : root.length = 32) (ho : R.over M = false) (i : Int) (fr : Bool) (x : Int) (hx : nextF R.signed size root = (i, fr, x)) (hx0 : x ≠ 0) :
  Calls Tryz.prog 45 #[.pointer (some ⟨r, 0, none⟩), headV size root] w (RefusedTo B S r d w x R M) :=
 (sign_refused h.ring h.ap h.sub size root hroot ho i fr x hx hx0).mono fun _ _ q=>refused_to h q
theorem held_fails (h : Held w r d R M B S) (size : Nat) (root : By) (hz : size ≤ 4096) (hroot : root.length = 32) (ho : R.over M = false) (i : Int) (hx : nextF R.signed (size : Int) root = (i, true, 0)) (x : Int) (M' : DiskM) (hkr : M.keepR (size, root) = (x, M')) (hx0 : x ≠ 0) (hc : M.files.length + M.loose.length < 300000000) :
  Calls Tryz.prog 45 #[.pointer (some ⟨r, 0, none⟩), headV (size : Int) root] w (RefusedTo B S r d w x { R with dead:=decide (x = 61) } M') :=
 (sign_fails h.ring h.ap h.sub size root hz hroot ho i hx x M' hkr hx0 hc h.tab h.off).mono fun _ _ q=>refused_to h q
end
theorem frame_room {h : Hd} (hh : HdOk h) : (frameF (recordF h)).length ≤ 144:=by have:=recordF_len hh; rw [frameF_len]; omega
theorem check_of {w : World} {sd : By} {size i : Nat} {root : By} {a : Option Addr} {c : Nat} {Y : List Value} (hY : Y = signedC (size : Int) root (i : Int) ⟨(signF sd i (digestF size root)).toArray⟩ (.slice a 3 c)) (hz : size ≤ 4096) (hroot : root.length = 32) (hi : i < 8) (hrow : Row w 24 32 (.slice a 3 c) (hcells (pathF (leavesF sd) i))) (ht : Tab w) :
  Calls Tryz.prog 22 #[hashV (rootF (leavesF sd)), .agg Y.toArray] w fun e w2=>e = .returned (.int .i64 0)∧Kept (fun _=>False) w w2:=by
 have h:=headCheck_ok w (rootF (leavesF sd)) size i root ⟨(signF sd i (digestF size root)).toArray⟩ a c (pathF (leavesF sd) i) (rootF_len (leaves_32 _)) hroot hz hi (by show (signF _ _ _).toArray.size = _; simp [signF_len]) hrow.view (pathF_32 _ _) (by rw [path_len _ (leavesF_len _) i hi]; omega) (fun b hb=>hrow.lt hb) ht
 have e1 : (⟨(signF sd i (digestF size root)).toArray⟩ : ByteArray).data.toList = signF sd i (digestF size root):=List.toList_toArray
 rw [e1, head_signed sd size root i hi] at h
 rw [hY]
 exact h
theorem store_signed (w4 : World) {Y : List Value} (hY : Y.length = 36) : (w4.alloc (.cells signed0C.toArray 51)).there w4.heap.size 0 Y.length∧Blk ((w4.alloc (.cells signed0C.toArray 51)).setCells w4.heap.size 0 Y) w4.heap.size Y 51∧Kept (fun _=>False) w4 ((w4.alloc (.cells signed0C.toArray 51)).setCells w4.heap.size 0 Y):=by
 have h:=sign_fin (Blk.new w4 signed0C 51) hY
 exact ⟨h.1, h.2, ((Kept.refl (fun _=>False) w4).alloc _).then_ (kept_setCells _ w4.heap.size 0 _) (fun i hi e=>by omega)⟩
theorem hdC_set {l : List Hd} {h : Hd} (h32 : ∀ x ∈ l, x.2.length = 32) (hh : h.2.length = 32) {i : Nat} (hi : i < l.length) : splice (hdC l) (i * 33) (headC (h.1 : Int) h.2) = hdC (l.set i h):=by
 have e : l = l.take i ++ l[i]::l.drop (i + 1):=by rw [List.getElem_cons_drop, List.take_append_drop]
 have e2 : l.set i h = l.take i ++ h::l.drop (i + 1):=by rw [List.set_eq_take_append_cons_drop, if_pos hi]
 have hc : ∀ (a : List Hd) (x : Hd) (b : List Hd), hdC (a ++ x::b) = hdC a ++ (headC (x.1 : Int) x.2 ++ hdC b):=by intro a x b; simp [hdC]
 have ht : (hdC (l.take i)).length = i * 33:=by rw [hdC_len (fun x hx=>h32 x (List.mem_of_mem_take hx)), List.length_take]; congr 1; omega
 have hx : (headC ((l[i]).1 : Int) (l[i]).2).length = 33:=headC_len (h32 _ (List.getElem_mem hi))
 have hn : (headC (h.1 : Int) h.2).length = 33:=headC_len hh
 rw [e2, hc]
 conv=>lhs; rw [e, hc]
 unfold splice
 rw [hn, List.take_append_of_le_length (by omega), List.take_of_length_le (by omega), List.drop_append, List.drop_eq_nil_of_le (by omega), List.nil_append, ht, show i * 33 + 33 - i * 33 = 33 by omega, List.drop_append_of_le_length (by omega), List.drop_eq_nil_of_le (by omega), List.nil_append, List.append_assoc]
theorem ring_room {L : List Hd} (hr : ∀ x ∈ L, HdOk x) : (ringFile L).length ≤ L.length * 144:=by
 induction L with
 | nil=>simp [ringFile, framesF]
 | cons a r ih =>
  have e : ringFile (a::r) = frameF (recordF a) ++ ringFile r:=by simp [ringFile, framesF]
  have:=frame_room (hr a (by simp))
  have:=ih (fun x hx=>hr x (by simp [hx]))
  rw [e, List.length_append, List.length_cons]
  omega
theorem next_cases {L : List Hd} {h : Hd} (hr : Rises 0 L) (h8 : L.length ≤ 8) (hh : HdOk h) :
  (∃ m, L.length = m + 1∧L[m]? = some h∧nextF L (h.1 : Int) h.2 = ((m : Int), false, 0)) ∨ (∃ x, x ≠ 0∧nextF L (h.1 : Int) h.2 = (0, false, x)) ∨
  (L.length < 8∧nextF L (h.1 : Int) h.2 = ((L.length : Int), true, 0)∧Rises 0 (L ++ [h])):=by
 obtain ⟨a, b, c⟩:=hh
 unfold nextF
 rw [if_neg (by omega)]
 cases hg : L.getLast? with
 | none =>
  have : L = []:=by simpa using hg
  subst this
  exact Or.inr (Or.inr ⟨by simp, rfl, ⟨⟨a, b, c⟩, a, trivial⟩⟩)
 | some y =>
  have hlen : 0 < L.length:=by
   rcases L with _ | ⟨p, r⟩
   ·simp at hg
   ·simp
  have hget : L[L.length - 1]? = some y:=by rw [← List.getLast?_eq_getElem?]; exact hg
  simp only
  by_cases e : (y.1 : Int) = (h.1 : Int)∧y.2 = h.2
  ·have ey : y = h:=Prod.ext (by omega) e.2
   rw [if_pos e]
   exact Or.inl ⟨L.length - 1, by omega, by rw [hget, ey], rfl⟩
  ·rw [if_neg e]
   by_cases e1 : (h.1 : Int) ≤ (y.1 : Int)
   ·rw [if_pos e1]; exact Or.inr (Or.inl ⟨83, by decide, rfl⟩)
   ·rw [if_neg e1]
    by_cases e2 : 8 ≤ L.length
    ·rw [if_pos e2]; exact Or.inr (Or.inl ⟨85, by decide, rfl⟩)
    ·rw [if_neg e2]
     refine Or.inr (Or.inr ⟨by omega, rfl, hr.snoc ⟨a, b, c⟩ a (fun z hz=>?_)⟩)
     rw [hg] at hz
     cases hz
     omega
section
variable {P : Int → Prop} {e : List (Int × By) → List (Int × By)} {x c : Nat} {M : DiskM}
theorem ext_keepR (hE : Ext P e x c) (hl : ∀ p ∈ M.loose, P p.1) (hn : P 990) (h : Hd) : (M.ext e x).keepR h = extR (M.keepR h) e x:=by
 have h1:=ext_append hE hl hn (frameF (recordF h))
 unfold DiskM.keepR
 rw [h1]
 by_cases h0 : (M.append 990 (frameF (recordF h))).1 = 0
 ·have h2:=(run_inv (.app 990 (frameF (recordF h))) hn hl h0).1
  rw [if_pos h0, if_pos h0]
  exact ext_sync hE h2
 ·rw [if_neg h0, if_neg h0]
theorem ext_mend (hE : Ext P e x c) (hl : ∀ p ∈ M.loose, P p.1) (hn : P 990) (hc : (AM.get M.files 990).isSome = true) : (M.ext e x).mend = (M.mend.1, M.mend.2.1, M.mend.2.2.ext e x):=by
 have h2:=ext_sync hE hl
 unfold DiskM.mend
 rw [show AM.get (M.ext e x).files 990 = AM.get M.files 990 from hE.get _ _ hn, h2]
 cases hg : AM.get M.files 990 with
 | none=>rw [hg] at hc; cases hc
 | some b =>
  simp only
  cases hr : readH (wholeF b).1 with
  | none=>rfl
  | some l =>
   simp only
   by_cases h0 : (wholeF b).2.length = 0
   ·rw [if_pos h0, if_pos h0]
   ·rw [if_neg h0, if_neg h0, ext_truncate hE hl hn]
    by_cases h3 : (M.truncate 990 ((b.length - (wholeF b).2.length : Nat) : Int)).1 = 0
    ·have h4:=ext_sync hE (run_inv (.cut 990 ((b.length - (wholeF b).2.length : Nat) : Int)) hn hl h3).1
     rw [if_neg (by simp [h3]), if_neg (by simp [h3])]
     show ((((M.truncate 990 _).2.ext e x).sync).1, _, (((M.truncate 990 _).2.ext e x).sync).2) = _
     rw [show (M.truncate 990 ((b.length - (wholeF b).2.length : Nat) : Int)).2 = ((Chg.cut 990 ((b.length - (wholeF b).2.length : Nat) : Int)).run M).2 from rfl, h4]
    ·rw [if_pos (by simpa using h3), if_pos (by simpa using h3)]
end
section
variable {L : List (Int × By)} {M : DiskM}
theorem low_drop (h : ∀ p ∈ L, p.1 < 1000) {a : Int} (ha : 1000 ≤ a) (x : Nat) : dropC (M.ext (fun F=>L ++ F) x) a = dropC M a:=by
 unfold dropC
 show (((L ++ M.files).map (·.1)).reverse.filter fun n=>decide (a ≤ n)).map Chg.del = _
 rw [List.map_append, List.reverse_append, List.filter_append]
 have : ((L.map (·.1)).reverse.filter fun n=>decide (a ≤ n)) = []:=by
  rw [List.filter_eq_nil_iff]
  intro n hn
  obtain ⟨p, hp, rfl⟩:=List.mem_map.1 (List.mem_reverse.1 hn)
  have:=h p hp
  simp; omega
 rw [this, List.append_nil]
theorem low_segs (h : ∀ p ∈ L, p.1 < 1000) (x : Nat) : ∀ f i, segFiles (M.ext (fun F=>L ++ F) x) f i = segFiles M f i:=by
 intro f
 induction f with
 | zero=>intro i; rfl
 | succ f ih =>
  intro i
  unfold segFiles
  rw [show AM.get (M.ext (fun F=>L ++ F) x).files (1000 + (i : Int)) = AM.get M.files (1000 + (i : Int)) from (Ext.low h).get _ _ (by omega)]
  cases AM.get M.files (1000 + (i : Int)) with
  | none=>rfl
  | some b=>simp only; rw [ih]
theorem low_openC (h : ∀ p ∈ L, p.1 < 1000) (x : Nat) : (M.ext (fun F=>L ++ F) x).openC = M.openC:=by
 unfold DiskM.openC
 rw [low_segs h, low_drop h (by omega)]
theorem torn_on (i : Nat) (l : List By) : (∀ ch ∈ tornC i l, ch.on (fun n=>1000 ≤ n))∧makes (tornC i l) = 0:=by
 induction l generalizing i with
 | nil=>exact ⟨fun ch hc=>(List.not_mem_nil hc).elim, rfl⟩
 | cons b r ih =>
  have h:=ih (i + 1)
  unfold tornC
  split
  ·refine ⟨fun ch hc=>?_, h.2⟩
   rcases List.mem_cons.1 hc with rfl | hc
   ·show (1000 : Int) ≤ 1000 + (i : Int); omega
   ·exact h.1 ch hc
  ·exact h
theorem del_on (ks : List Int) (a : Int) (ha : 1000 ≤ a) : (∀ ch ∈ (ks.filter fun n=>decide (a ≤ n)).map Chg.del, ch.on (fun n=>1000 ≤ n))∧makes ((ks.filter fun n=>decide (a ≤ n)).map Chg.del) = 0:=by
 induction ks with
 | nil=>exact ⟨fun ch hc=>(List.not_mem_nil hc).elim, rfl⟩
 | cons k r ih =>
  by_cases hk : a ≤ k
  ·rw [List.filter_cons_of_pos (by simpa using hk), List.map_cons]
   refine ⟨fun ch hc=>?_, ih.2⟩
   rcases List.mem_cons.1 hc with rfl | hc
   ·show (1000 : Int) ≤ k; omega
   ·exact ih.1 ch hc
  ·rw [List.filter_cons_of_neg (by simpa using hk)]
   exact ih
theorem open_on (M : DiskM) : (∀ ch ∈ M.openC, ch.on (fun n=>1000 ≤ n))∧makes M.openC = 0:=by
 have h1:=torn_on 0 (segFiles M 64 0)
 have h2:=del_on (M.files.map (·.1)).reverse (1000 + ((segFiles M 64 0).length : Nat)) (by omega)
 unfold DiskM.openC
 refine ⟨fun ch hc=>?_, ?_⟩
 ·rcases List.mem_append.1 hc with hc | hc
  ·rcases List.mem_append.1 hc with hc | hc
   ·exact h2.1 ch hc
   ·exact h1.1 ch hc
  ·rw [List.mem_singleton] at hc; subst hc; trivial
 ·rw [makes_append, makes_append, h1.2]
  have : makes (dropC M (1000 + ((segFiles M 64 0).length : Nat))) = 0:=h2.2
  rw [this]; rfl
theorem low_openS (h : ∀ p ∈ L, p.1 < 1000) (hl : ∀ p ∈ M.loose, 1000 ≤ p.1) :
  (M.ext (fun F=>L ++ F) (AM.sum List.length L)).openS = (M.openS.1, M.openS.2.1, M.openS.2.2.ext (fun F=>L ++ F) (AM.sum List.length L)):=by
 have ho:=open_on M
 have hr:=runAll_ext (Ext.low h) M.openC M ho.1 hl (Or.inl ho.2)
 unfold DiskM.openS
 rw [low_openC h, hr, low_segs h]
 show (if M.down = true then _ else _) = _
 split <;> rfl
theorem plan_congr {has has' : Int → Bool} (hh : ∀ n, 1000 ≤ n → has n = has' n) (k : Nat) : ∀ (at_ : Nat) (l : List By), l.length ≤ k → planC has at_ l = planC has' at_ l:=by
 induction k with
 | zero=>intro at_ l hl; have : l = []:=List.eq_nil_of_length_eq_zero (by omega); subst this; rw [planC_nil, planC_nil]
 | succ k ih =>
  intro at_ l hl
  by_cases h0 : l = []
  ·subst h0; rw [planC_nil, planC_nil]
  ·have:=List.length_pos_iff.2 h0
   rw [planC_step _ _ h0, planC_step _ _ h0, hh _ (by omega), ih _ _ (by rw [List.length_drop]; omega)]
theorem plan_on (has : Int → Bool) (k : Nat) : ∀ (at_ : Nat) (l : List By), l.length ≤ k → ∀ ch ∈ planC has at_ l, ch.on (fun n=>1000 ≤ n):=by
 induction k with
 | zero=>intro at_ l hl; have : l = []:=List.eq_nil_of_length_eq_zero (by omega); subst this; rw [planC_nil]; exact fun ch hc=>(List.not_mem_nil hc).elim
 | succ k ih =>
  intro at_ l hl
  by_cases h0 : l = []
  ·subst h0; rw [planC_nil]; exact fun ch hc=>(List.not_mem_nil hc).elim
  ·have:=List.length_pos_iff.2 h0
   rw [planC_step _ _ h0]
   intro ch hc
   rcases List.mem_append.1 hc with hc | hc
   ·split at hc
    ·cases hc
    ·rw [List.mem_singleton] at hc; subst hc; show (1000 : Int) ≤ _; omega
   ·rcases List.mem_cons.1 hc with rfl | hc
    ·show (1000 : Int) ≤ _; omega
    ·exact ih _ _ (by rw [List.length_drop]; omega) ch hc
theorem low_append (h : ∀ p ∈ L, p.1 < 1000) (hl : ∀ p ∈ M.loose, 1000 ≤ p.1) (G : SegM) (l : List By) (hc : M.files.length + makes (planC (fun n=>(AM.get M.files n).isSome) G.entries.length l) + L.length ≤ 100) :
  G.append (M.ext (fun F=>L ++ F) (AM.sum List.length L)) l = ((G.append M l).1, (G.append M l).2.1, (G.append M l).2.2.ext (fun F=>L ++ F) (AM.sum List.length L)):=by
 have hE:=Ext.low h
 have e1 : planC (fun n=>(AM.get (M.ext (fun F=>L ++ F) (AM.sum List.length L)).files n).isSome) G.entries.length l = planC (fun n=>(AM.get M.files n).isSome) G.entries.length l :=
  plan_congr (fun n hn=>by rw [show AM.get (M.ext (fun F=>L ++ F) (AM.sum List.length L)).files n = AM.get M.files n from hE.get _ _ hn]) _ _ _ (Nat.le_refl _)
 have e2:=ext_room (M:=M) hE
 have hm : makes (planC (fun n=>(AM.get M.files n).isSome) G.entries.length l ++ [.sync]) = makes (planC (fun n=>(AM.get M.files n).isSome) G.entries.length l):=by rw [makes_append]; rfl
 have hr:=runAll_ext hE (planC (fun n=>(AM.get M.files n).isSome) G.entries.length l ++ [.sync]) M (fun ch q=>by
  rcases List.mem_append.1 q with q | q
  ·exact plan_on _ _ _ _ (Nat.le_refl _) ch q
  ·rw [List.mem_singleton] at q; subst q; trivial) hl (Or.inr (by rw [hm]; exact hc))
 unfold SegM.append
 rw [e1, e2, hr, show G.over (M.ext (fun F=>L ++ F) (AM.sum List.length L)) = G.over M from rfl, show (M.ext (fun F=>L ++ F) (AM.sum List.length L)).files.length = M.files.length + L.length from hE.len _]
 by_cases h1 : G.over M = true
 ·rw [if_pos h1, if_pos h1]
 ·rw [if_neg h1, if_neg h1]
  by_cases h2 : l = []
  ·rw [if_pos h2, if_pos h2]
  ·rw [if_neg h2, if_neg h2]
   by_cases h3 : (l.any fun p=>decide (200 < p.length)) = true
   ·rw [if_pos h3, if_pos h3]
   ·rw [if_neg h3, if_neg h3]
    by_cases h4 : 4096 - G.entries.length < l.length
    ·rw [if_pos h4, if_pos h4]
    ·rw [if_neg h4, if_neg h4]
     by_cases h5 : M.cap - M.total < ((framesF l).length : Nat)
     ·rw [if_pos (Or.inl h5), if_pos (Or.inl h5)]
     ·have h6 : ¬ (M.cap - M.total < ((framesF l).length : Nat) ∨ 100 < M.files.length + L.length + makes (planC (fun n=>(AM.get M.files n).isSome) G.entries.length l)):=fun q=>q.elim h5 (fun q=>by omega)
      have h7 : ¬ (M.cap - M.total < ((framesF l).length : Nat) ∨ 100 < M.files.length + makes (planC (fun n=>(AM.get M.files n).isSome) G.entries.length l)):=fun q=>q.elim h5 (fun q=>by omega)
      rw [if_neg h6, if_neg h7]
end
def staD (cp : Int) (f : By) (H : List (Int × By)) (down : Bool) (st : Int) (fl : Bool) (left keep : Int) : DiskM:=⟨(990, f)::H, [], cp, down, st, fl, left, keep⟩
def segD (cp : Int) (f : By) (H : List (Int × By)) (down : Bool) (st : Int) (fl : Bool) (left keep : Int) : DiskM:=⟨H, [], cp - (f.length : Int), down, st, fl, left, keep⟩
section
variable {cp : Int} {f s t : By} {H : List (Int × By)} {down fl : Bool} {st left keep : Int} {M : DiskM} {E : List By}
theorem low990 (f : By) : ∀ p ∈ [((990 : Int), f)], p.1 < 1000:=by intro p hp; rw [List.mem_singleton] at hp; subst hp; show (990 : Int) < 1000; decide
theorem sum990 (f : By) : AM.sum List.length [((990 : Int), f)] = f.length:=by simp [AM.sum]
theorem sta_seg : staD cp f H down st fl left keep = (segD cp f H down st fl left keep).ext (fun F=>[((990 : Int), f)] ++ F) (AM.sum List.length [((990 : Int), f)]):=by
 rw [sum990]
 unfold staD segD DiskM.ext
 simp
theorem sta_one : staD cp f H down st fl left keep = (oneD f [] (cp - (AM.sum List.length H : Nat)) down st fl left keep).ext (fun F=>F ++ H) (AM.sum List.length H):=by
 unfold staD oneD DiskM.ext
 simp
theorem segD_ok (h : (staD cp f H down st fl left keep).Ok) : (segD cp f H down st fl left keep).Ok:=by
 have h1:=h.room
 have h2 : (staD cp f H down st fl left keep).total = f.length + AM.sum List.length H:=AM.sum_cons _ _ _
 rw [h2] at h1
 have h1 : ((f.length + AM.sum List.length H : Nat) : Int) ≤ cp:=h1
 have h3:=h.count
 have h3 : H.length + 1 + 0 ≤ 400000000:=h3
 refine ⟨(List.pairwise_cons.1 h.rise).2, fun p hp=>h.keys p (List.mem_cons_of_mem _ hp), ?_, ?_, ?_, fun n=>Nat.zero_le _, fun p hp=>(List.not_mem_nil hp).elim, h.left1, h.left2, ?_, h.keepk⟩
 ·show 0 ≤ cp - (f.length : Int); omega
 ·have h4:=h.cap1
  have h4 : cp ≤ 1048576:=h4
  show cp - (f.length : Int) ≤ 1048576; omega
 ·show ((AM.sum List.length H : Nat) : Int) ≤ cp - (f.length : Int); omega
 ·show H.length + 0 ≤ 400000000; omega
theorem segD_up (h : (staD cp f H false st fl left keep).Ok) (hl : fl = true → 0 ≤ left) : UpF (segD cp f H false st fl left keep) H (cp - (f.length : Int)) st fl:=⟨segD_ok h, hl, rfl, rfl, rfl, rfl, rfl, rfl⟩
theorem up_sta {M2 : DiskM} (h : UpF M2 H (cp - (f.length : Int)) st fl) : ∃ left keep, M2.ext (fun F=>[((990 : Int), f)] ++ F) (AM.sum List.length [((990 : Int), f)]) = staD cp f H false st fl left keep∧(fl = true → 0 ≤ left):=by
 obtain ⟨h1, h2, h3, h4, h5, h6, h7, h8⟩:=h
 refine ⟨M2.left, M2.keep, ?_, fun q=>h2 (by rw [h8]; exact q)⟩
 rw [sta_seg]
 congr 1
 cases M2
 unfold segD
 simp only at h3 h4 h5 h6 h7 h8
 simp only [h3, h4, h5, h6, h7, h8]
theorem dn_sta {M2 : DiskM} (h : DnF M2 H (cp - (f.length : Int)) st) : ∃ left keep, M2.ext (fun F=>[((990 : Int), f)] ++ F) (AM.sum List.length [((990 : Int), f)]) = staD cp f H true st false left keep:=by
 obtain ⟨h1, h3, h4, h5, h6, h7, h8⟩:=h
 refine ⟨M2.left, M2.keep, ?_⟩
 rw [sta_seg]
 congr 1
 cases M2
 unfold segD
 simp only at h3 h4 h5 h6 h7 h8
 simp only [h3, h4, h5, h6, h7, h8]
theorem sta_crash (k : Int) : (staD cp f H false st fl left keep).crash k = staD cp f H true st false left keep:=by simp [DiskM.crash, staD, DiskM.gone, DiskM.crashed]
theorem high_of (h : ∀ n, (AM.get H n).isSome = true → 1000 ≤ n∧n < 1100) (hr : AM.Rise H) : ∀ p ∈ H, 1000 ≤ p.1:=by
 intro p hp
 have:=(AM.get_some hr (k:=p.1) (v:=p.2)).2 hp
 exact (h p.1 (by rw [this]; rfl)).1
theorem Mess.high (h : Mess H E) : ∀ p ∈ H, 1000 ≤ p.1:=by obtain ⟨t, h⟩:=h; exact high_of h.keys h.rise
theorem sta_keep (hH : Mess H E) (hr : ((f.length + (frameF s).length + AM.sum List.length H : Nat) : Int) ≤ cp) (hl : fl = true → 0 ≤ left) (x : Hd) (hx : recordF x = s) :
  (∃ left', (staD cp f H false st fl left keep).keepR x = (0, staD cp (f ++ frameF s) H false st fl left' keep)∧(fl = true → 0 ≤ left')) ∨
  (fl = true∧∃ j left', j ≤ (frameF s).length∧(staD cp f H false st fl left keep).keepR x = (61, staD cp (f ++ (frameF s).take j) H true st false left' keep)):=by
 have e:=ext_keepR (M:=oneD f [] (cp - (AM.sum List.length H : Nat)) false st fl left keep) (Ext.high hH.high) (fun p hp=>(List.not_mem_nil hp).elim) (by show (990 : Int) < 1000; decide) x
 rw [← sta_one] at e
 rw [e]
 subst hx
 unfold DiskM.keepR
 rcases oneD_keep (f:=f) (s:=frameF (recordF x)) (cap:=cp - (AM.sum List.length H : Nat)) (starts:=st) (keep:=keep) (left:=left) (fails:=fl) (by omega) hl with ⟨left', e, q⟩ | ⟨hf, j, left', hj, e⟩
 ·exact Or.inl ⟨left', by rw [e, sta_one], q⟩
 ·exact Or.inr ⟨hf, j, left', hj, by rw [e, sta_one]⟩
theorem sta_mend (hH : Mess H E) {l : List Hd} (hw : wholeF (f ++ t) = (l.map recordF, t)) (hr : readH (l.map recordF) = some l) (hl : fl = true → 0 ≤ left) :
  (∃ left', (staD cp (f ++ t) H false st fl left keep).openR = (0, l, staD cp f H false st fl left' keep)∧(fl = true → 0 ≤ left')) ∨
  (fl = true∧∃ t' left' l', (t' = t ∨ t' = [])∧(staD cp (f ++ t) H false st fl left keep).openR = (61, l', staD cp (f ++ t') H true st false left' keep)):=by
 have e:=ext_mend (M:=oneD (f ++ t) [] (cp - (AM.sum List.length H : Nat)) false st fl left keep) (Ext.high hH.high) (fun p hp=>(List.not_mem_nil hp).elim) (by show (990 : Int) < 1000; decide) (by show (AM.get [((990 : Int), f ++ t)] 990).isSome = true; rw [AM.get_990]; rfl)
 have e0 : (staD cp (f ++ t) H false st fl left keep).openR = (staD cp (f ++ t) H false st fl left keep).mend:=by unfold DiskM.openR; rw [if_neg (by simp [staD])]
 rw [← sta_one] at e
 rw [e0, e]
 rcases oneD_mend (cap:=cp - (AM.sum List.length H : Nat)) (starts:=st) (keep:=keep) (left:=left) (fails:=fl) hw hr hl with ⟨left', e, q⟩ | ⟨e0, t', left', l', ht, e⟩
 ·exact Or.inl ⟨left', by rw [e, sta_one], q⟩
 ·exact Or.inr ⟨e0, t', left', l', ht, by rw [e, sta_one]⟩
theorem sta_open (hok : (staD cp f H false st fl left keep).Ok) (hl : fl = true → 0 ≤ left) (hH : Mess H E) :
  (∃ H' left' keep', (staD cp f H false st fl left keep).openS = (0, E, staD cp f H' false st fl left' keep')∧(fl = true → 0 ≤ left')∧Tidy H' E∧AM.sum List.length H' ≤ AM.sum List.length H) ∨
  (fl = true∧∃ E' H' left' keep', (staD cp f H false st fl left keep).openS = (61, E', staD cp f H' true st false left' keep')∧Mess H' E∧AM.sum List.length H' ≤ AM.sum List.length H):=by
 obtain ⟨t, hL⟩:=hH
 have e:=low_openS (M:=segD cp f H false st fl left keep) (low990 f) (fun p hp=>(List.not_mem_nil hp).elim)
 rw [← sta_seg] at e
 rw [e]
 rcases open_laid (segD_up hok hl) hL with ⟨e1, e2, F', hT, hs, hu⟩ | ⟨e1, hf, F', hM, hs, hd⟩
 ·obtain ⟨left', keep', e3, h3⟩:=up_sta hu
  exact Or.inl ⟨F', left', keep', by rw [e1, e2, e3], h3, hT, hs⟩
 ·obtain ⟨left', keep', e3⟩:=dn_sta hd
  exact Or.inr ⟨hf, _, F', left', keep', by rw [e1, e3], hM, hs⟩
theorem sta_append (hok : (staD cp f H false st fl left keep).Ok) (hl : fl = true → 0 ≤ left) (hT : Tidy H E) (p : By) (hE : E.length ≤ 1000) (hr : f.length + AM.sum List.length H + 212 ≤ cp) :
  (p.length ≤ 200∧∃ H' left' keep', (⟨E, st, false⟩ : SegM).append (staD cp f H false st fl left keep) [p] = (0, ⟨E ++ [p], st, false⟩, staD cp f H' false st fl left' keep')∧(fl = true → 0 ≤ left')∧Tidy H' (E ++ [p])∧AM.sum List.length H' ≤ AM.sum List.length H + 212) ∨
  (200 < p.length∧(⟨E, st, false⟩ : SegM).append (staD cp f H false st fl left keep) [p] = (3, ⟨E, st, false⟩, staD cp f H false st fl left keep)) ∨
  (fl = true∧∃ E' H' left' keep', (⟨E, st, false⟩ : SegM).append (staD cp f H false st fl left keep) [p] = (61, ⟨E, st, true⟩, staD cp f H' true st false left' keep')∧(E' = E ∨ E' = E ++ [p])∧Mess H' E'∧AM.sum List.length H' ≤ AM.sum List.length H + 212):=by
 have hU:=segD_up hok hl
 have hlen:=hT.len
 have hm:=makes_le (fun n=>(AM.get H n).isSome) 1 E.length [p] (Nat.le_refl _)
 have e:=low_append (M:=segD cp f H false st fl left keep) (low990 f) (fun p hp=>(List.not_mem_nil hp).elim) ⟨E, st, false⟩ [p] (by
  show H.length + makes (planC (fun n=>(AM.get H n).isSome) E.length [p]) + 1 ≤ 100
  simp only [List.length_singleton] at hm
  omega)
 rw [← sta_seg] at e
 rw [e]
 by_cases hp : p.length ≤ 200
 ·have hfr : (framesF [p]).length ≤ 212:=by
   rw [frames_len_cons, framesF_nil]; simp; omega
  rcases hU.append hT (l:=[p]) (by simp) (by simpa using hp) (by simp; omega) (by omega) with ⟨M', F', e2, hx, hs, hu⟩ | ⟨hf, M', e2, j, F', hj, hM, hs, hd⟩
  ·obtain ⟨left', keep', e3, h3⟩:=up_sta hu
   exact Or.inl ⟨hp, F', left', keep', by rw [e2, e3], h3, hx.1, by omega⟩
  ·obtain ⟨left', keep', e3⟩:=dn_sta hd
   refine Or.inr (Or.inr ⟨hf, _, F', left', keep', by rw [e2, e3], ?_, hM, by omega⟩)
   have : j = 0 ∨ j = 1:=by simp at hj; omega
   rcases this with rfl | rfl
   ·exact Or.inl (by simp)
   ·exact Or.inr (by simp)
 ·have e2:=hU.append_long (E:=E) (l:=[p]) (p:=p) (by simp) (by omega)
  exact Or.inr (Or.inl ⟨by omega, by rw [e2, sta_seg]⟩)
end
def UpS (cp : Int) (L : List Hd) (E : List By) (st : Int) (fl : Bool) (X : Nat) (M : DiskM) : Prop:=∃ H left keep, M = staD cp (ringFile L) H false st fl left keep∧(fl = true → 0 ≤ left)∧Tidy H E∧AM.sum List.length H ≤ X
def NrS (cp : Int) (L : List Hd) (E : List By) (st : Int) (fl : Bool) (X : Nat) (M : DiskM) : Prop:=∃ H left keep, M = staD cp (ringFile L) H false st fl left keep∧(fl = true → 0 ≤ left)∧Mess H E∧AM.sum List.length H ≤ X
def MdS (cp : Int) (L : List Hd) (E : List By) (st : Int) (fl : Bool) (X : Nat) (M : DiskM) : Prop:=∃ t H left keep, M = staD cp (ringFile L ++ t) H false st fl left keep∧(fl = true → 0 ≤ left)∧cutF t = none∧Mess H E∧AM.sum List.length H ≤ X
def DnS (cp : Int) (L : List Hd) (E : List By) (st : Int) (X : Nat) (M : DiskM) : Prop:=∃ t H left keep, M = staD cp (ringFile L ++ t) H true st false left keep∧cutF t = none∧Mess H E∧AM.sum List.length H ≤ X
section
variable {cp : Int} {L : List Hd} {E : List By} {st : Int} {fl : Bool} {X Y : Nat} {M : DiskM}
theorem staD_few {f : By} {H : List (Int × By)} {down : Bool} {left keep : Int} (hH : Mess H E) : (staD cp f H down st fl left keep).files.length + (staD cp f H down st fl left keep).loose.length < 80000000:=by
 have:=hH.len
 show H.length + 1 + 0 < 80000000
 omega
theorem UpS.up (h : UpS cp L E st fl X M) : M.down = false∧M.starts = st∧M.files.length + M.loose.length < 80000000∧E.length ≤ 4096∧∀ p ∈ E, p.length ≤ 200:=by
 obtain ⟨H, l, k, rfl, _, h2, _⟩:=h
 exact ⟨rfl, rfl, staD_few h2.mess, h2.few, h2.short⟩
theorem NrS.up (h : NrS cp L E st fl X M) : M.down = false∧M.starts = st∧M.files.length + M.loose.length < 80000000:=by
 obtain ⟨H, l, k, rfl, _, h2, _⟩:=h
 exact ⟨rfl, rfl, staD_few h2⟩
theorem MdS.up (h : MdS cp L E st fl X M) : M.down = false∧M.starts = st∧M.files.length + M.loose.length < 80000000:=by
 obtain ⟨t, H, l, k, rfl, _, _, h2, _⟩:=h
 exact ⟨rfl, rfl, staD_few h2⟩
theorem DnS.down (h : DnS cp L E st X M) : M.down = true∧M.starts = st:=by
 obtain ⟨t, H, l, k, rfl, _⟩:=h
 exact ⟨rfl, rfl⟩
theorem UpS.more (h : UpS cp L E st fl X M) (hX : X ≤ Y) : UpS cp L E st fl Y M:=by
 obtain ⟨H, l, k, h1, h2, h3, h4⟩:=h
 exact ⟨H, l, k, h1, h2, h3, by omega⟩
theorem DnS.more (h : DnS cp L E st X M) (hX : X ≤ Y) : DnS cp L E st Y M:=by
 obtain ⟨t, H, l, k, h1, h2, h3, h4⟩:=h
 exact ⟨t, H, l, k, h1, h2, h3, by omega⟩
theorem UpS.crash (h : UpS cp L E st fl X M) (k : Int) : ∃ M', M.crashR k = (0, M')∧DnS cp L E st X M':=by
 obtain ⟨H, l, kp, rfl, h2, h3, h4⟩:=h
 exact ⟨_, by rw [DiskM.crashR, if_neg (by simp [staD]), sta_crash], [], H, l, kp, by rw [List.append_nil], cutF_nil, h3.mess, h4⟩
theorem UpS.fail (h : UpS cp L E st fl X M) {n : Int} (hn : 0 ≤ n) (k : Int) : ∃ M', M.failR n k = (0, M')∧UpS cp L E st true X M':=by
 obtain ⟨H, l, kp, rfl, h2, h3, h4⟩:=h
 exact ⟨_, by rw [DiskM.failR, if_neg (by simp [staD]), if_neg (by omega)]; rfl, H, n, k, rfl, fun _=>hn, h3, h4⟩
theorem MdS.fail (h : MdS cp L E st fl X M) {n : Int} (hn : 0 ≤ n) (k : Int) : ∃ M', M.failR n k = (0, M')∧MdS cp L E st true X M':=by
 obtain ⟨t, H, l, kp, rfl, h2, hc, h3, h4⟩:=h
 exact ⟨_, by rw [DiskM.failR, if_neg (by simp [staD]), if_neg (by omega)]; rfl, t, H, n, k, rfl, fun _=>hn, hc, h3, h4⟩
theorem DnS.start (h : DnS cp L E st X M) : ∃ M', M.startR = (0, M')∧MdS cp L E (st + 1) false X M':=by
 obtain ⟨t, H, l, k, rfl, hc, h3, h4⟩:=h
 exact ⟨_, by unfold DiskM.startR; rw [if_pos (show (staD cp _ _ _ _ _ _ _).down = true from rfl)]; rfl, t, H, l, k, rfl, (fun h=>by cases h), hc, h3, h4⟩
theorem MdS.ringOpen (h : MdS cp L E st fl X M) (hr : Rises 0 L) (h8 : L.length ≤ 8) :
  (∃ M', M.openR = (0, L, M')∧NrS cp L E st fl X M') ∨ (fl = true∧∃ l M', M.openR = (61, l, M')∧DnS cp L E st X M'):=by
 obtain ⟨t, H, l, k, rfl, h2, hc, h3, h4⟩:=h
 rcases sta_mend (cp:=cp) (f:=ringFile L) (t:=t) (st:=st) (fl:=fl) (left:=l) (keep:=k) h3 (whole_ring hr.ok hc) (readH_records hr h8) h2 with ⟨left', e, q⟩ | ⟨e0, t', left', l', ht, e⟩
 ·exact Or.inl ⟨_, e, H, left', k, rfl, q, h3, h4⟩
 ·refine Or.inr ⟨e0, l', _, e, t', H, left', k, rfl, ?_, h3, h4⟩
  rcases ht with rfl | rfl
  ·exact hc
  ·exact cutF_nil
theorem NrS.segOpen (h : NrS cp L E st fl X M) (hok : M.Ok) :
  (∃ M', M.openS = (0, E, M')∧UpS cp L E st fl X M') ∨ (fl = true∧∃ l M', M.openS = (61, l, M')∧DnS cp L E st X M'):=by
 obtain ⟨H, l, k, rfl, h2, h3, h4⟩:=h
 rcases sta_open hok h2 h3 with ⟨H', left', keep', e, q, hT, hs⟩ | ⟨e0, E', H', left', keep', e, hM, hs⟩
 ·exact Or.inl ⟨_, e, H', left', keep', rfl, q, hT, by omega⟩
 ·exact Or.inr ⟨e0, E', _, e, [], H', left', keep', by rw [List.append_nil], cutF_nil, hM, by omega⟩
theorem UpS.append (h : UpS cp L E st fl X M) (hok : M.Ok) (hr : Rises 0 L) (h8 : L.length ≤ 8) (p : By) (hE : E.length ≤ 1000) (hX : (X : Int) + 2000 ≤ cp) :
  (p.length ≤ 200∧∃ M', (⟨E, st, false⟩ : SegM).append M [p] = (0, ⟨E ++ [p], st, false⟩, M')∧UpS cp L (E ++ [p]) st fl (X + 212) M') ∨
  (200 < p.length∧(⟨E, st, false⟩ : SegM).append M [p] = (3, ⟨E, st, false⟩, M)) ∨
  (fl = true∧∃ E' M', (⟨E, st, false⟩ : SegM).append M [p] = (61, ⟨E, st, true⟩, M')∧(E' = E ∨ E' = E ++ [p])∧DnS cp L E' st (X + 212) M'):=by
 obtain ⟨H, l, k, rfl, h2, h3, h4⟩:=h
 have hroom:=ring_room hr.ok
 rcases sta_append hok h2 h3 p hE (by omega) with ⟨hp, H', left', keep', e, q, hT, hs⟩ | e | ⟨hf, E', H', left', keep', e, hE', hM, hs⟩
 ·exact Or.inl ⟨hp, _, e, H', left', keep', rfl, q, hT, by omega⟩
 ·exact Or.inr (Or.inl e)
 ·exact Or.inr (Or.inr ⟨hf, E', _, e, hE', [], H', left', keep', by rw [List.append_nil], cutF_nil, hM, by omega⟩)
theorem UpS.keepR (q : UpS cp L E st fl X M) {h : Hd} (hh : HdOk h) (hr : Rises 0 L) (h8 : L.length < 8) (hX : (X : Int) + 2000 ≤ cp) :
  (∃ M', M.keepR h = (0, M')∧UpS cp (L ++ [h]) E st fl X M') ∨ (fl = true∧∃ L' M', M.keepR h = (61, M')∧(L' = L ∨ L' = L ++ [h])∧DnS cp L' E st X M'):=by
 obtain ⟨H, l, k, rfl, h2, h3, h4⟩:=q
 have h5:=ring_room hr.ok
 have h6:=frame_room hh
 have h7:=recordF_len hh
 rcases sta_keep (cp:=cp) (f:=ringFile L) (s:=recordF h) (st:=st) (fl:=fl) (left:=l) (keep:=k) h3.mess (by omega) h2 h rfl with ⟨left', e, q⟩ | ⟨hf, j, left', hj, e⟩
 ·exact Or.inl ⟨_, e, H, left', k, by rw [ringFile_snoc], q, h3, h4⟩
 ·rcases Nat.lt_or_ge j (frameF (recordF h)).length with q | q
  ·exact Or.inr ⟨hf, L, _, e, Or.inl rfl, (frameF (recordF h)).take j, H, left', k, rfl, cutF_part _ (by omega) j q, h3.mess, h4⟩
  ·refine Or.inr ⟨hf, L ++ [h], _, e, Or.inr rfl, [], H, left', k, ?_, cutF_nil, h3.mess, h4⟩
   rw [List.take_of_length_le q, ringFile_snoc, List.append_nil]
end
def entF (s : By) : By:=shaF (0::s)
def rootE (E : List By) : By:=rootF (E.map entF)
def GoodL (L : List Hd) (E : List By) : Prop:=∀ x ∈ L, x.1 ≤ E.length∧x.2 = rootE (E.take x.1)
theorem GoodL.more {L : List Hd} {E : List By} (h : GoodL L E) (E2 : List By) : GoodL L (E ++ E2):=by
 intro x hx
 obtain ⟨h1, h2⟩:=h x hx
 exact ⟨by rw [List.length_append]; omega, by rw [List.take_append_of_le_length h1]; exact h2⟩
theorem GoodL.snoc {L : List Hd} {E : List By} (h : GoodL L E) : GoodL (L ++ [(E.length, rootE E)]) E:=by
 intro x hx
 rcases List.mem_append.1 hx with q | q
 ·exact h x q
 ·rw [List.mem_singleton] at q
  subst q
  exact ⟨Nat.le_refl _, by rw [List.take_length]⟩
theorem GoodL.nil (E : List By) : GoodL [] E:=fun x hx=>(List.not_mem_nil hx).elim
theorem GoodL.last {L : List Hd} {E : List By} (h : GoodL L E) {x : Hd} {m : Nat} (hx : L[m]? = some x) : x.1 ≤ E.length∧x.2 = rootE (E.take x.1):=h x (List.mem_of_getElem? hx)
theorem entF_len (s : By) : (entF s).length = 32:=shaF_len _
theorem rootE_len (E : List By) : (rootE E).length = 32:=rootF_len (fun x hx=>by obtain ⟨y, _, rfl⟩:=List.mem_map.1 hx; exact entF_len y)
theorem next_same {L : List Hd} {x : Hd} {m : Nat} (hr : Rises 0 L) (hx : L[m]? = some x) (hm : L.length = m + 1) : nextF L (x.1 : Int) x.2 = ((m : Int), false, 0):=by
 have ho:=hr.ok x (List.mem_of_getElem? hx)
 have hg : L.getLast? = some x:=by rw [List.getLast?_eq_getElem?, hm]; exact hx
 unfold nextF
 rw [if_neg (by have:=ho.1; have:=ho.2.1; omega), hg]
 simp only
 rw [if_pos ⟨trivial, trivial⟩, hm]
 congr 1
end Go.Proofs.YtpmdlkogccojmaaGreatDoor
