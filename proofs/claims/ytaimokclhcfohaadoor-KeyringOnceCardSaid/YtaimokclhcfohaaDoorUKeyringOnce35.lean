/- Contract of package keyring: Sign, of a new head. Contracts of package keyring: Key; Last, Key of a ring that is none. Contract of package heads: Same, of the same signed heads. -/
import Derived.Deep.RegionHeld3
import Derived.Test.YtaimokclhcfohaaDoorUKeyringOnce34
import Derived.Test.YtaimokclhcfohaaDoorUKeyringOnce29
set_option linter.unusedVariables false
set_option linter.unusedSimpArgs false
namespace Go.Proofs.YtaimokclhcfohaaDoor
open Go.RowKit

/-- What holds all the way through the statement that notes a head. -/
abbrev S12 (wB w' : World) (S : Nat → Prop) (hb : Nat) (C : List Value) : Prop := w'.rangeAt hb 0 C ∧ Kept S wB w'
theorem s12_alloc {wB w1 : World} {S : Nat → Prop} {hb : Nat} {C : List Value} (h : S12 wB w1 S hb C) (o : Obj) (hl : hb < wB.heap.size) : S12 wB (w1.alloc o) S hb C := ⟨rangeAt_kept h.1 ((Kept.refl (fun _ => False) w1).alloc o) (Nat.lt_of_lt_of_le hl h.2.size) id, h.2.alloc o⟩
/-- A head is put behind those that were signed. -/
theorem ring_append {wB : World} {r d : Nat} {R : RingM} {S : Nat → Prop} (h : IsRing wB r d R S) (x : Hd) (hx : HdOk x) (h7 : R.signed.length < 8) :
    ∃ a n c a1 n1 c1 w7, wB.cell? ⟨r, 2, none⟩ = some (.slice a n c) ∧ (Builtin.append_ #[41, 41] 41 #[.slice a n c, .slice (some ⟨wB.heap.size, 0, none⟩) 1 1]).run Tryd.prog (wB.alloc (.cells (headC (x.1 : Int) x.2).toArray 25)) = .ok (Value.slice a1 n1 c1) w7 ∧
      w7.cell? ⟨r, 2, none⟩ = some (.slice a n c) ∧ w7.frozen? ⟨r, 2, none⟩ = false ∧ (∀ k, (Value.slice a1 n1 c1).ownBlock = some k → S k ∨ (wB.heap.size ≤ k ∧ k < (w7.setCell ⟨r, 2, none⟩ (Value.slice a1 n1 c1)).heap.size)) ∧ IsRing (w7.setCell ⟨r, 2, none⟩ (Value.slice a1 n1 c1)) r d { R with signed := R.signed ++ [x] } (fun k => S k ∨ (Value.slice a1 n1 c1).ownBlock = some k) ∧ Kept S wB (w7.setCell ⟨r, 2, none⟩ (Value.slice a1 n1 c1)) ∧ Kept S wB w7 := by
  obtain ⟨⟨t, v, h1, h2, h3, h4, h5⟩, h6, h7', h8, h9⟩ := h
  obtain ⟨a, n, c, rfl, -⟩ := h3.form (by omega)
  obtain ⟨v', w7, hr, hrow, hk, hown⟩ := append_head1 h3 (fun y hy => (h7' y hy).2.2) x hx.2.2 (by omega)
  obtain ⟨a1, n1, c1, rfl, -⟩ := hrow.form (by omega)
  have hk7 : Kept S wB w7 := hk.mono (fun k _ q => h5 k q)
  have b1 := h1.kept hk (fun q => h3.ne_blk q h1 (by decide) rfl)
  have kc := kept_cell w7 r 2 (Value.slice a1 n1 c1)
  refine ⟨a, n, c, a1, n1, c1, w7, h1.cell (i := 2) rfl, hr, b1.cell (i := 2) rfl, b1.free 2, fun k q => (hown k q).imp (h5 k) (fun o => ⟨o, Nat.lt_of_lt_of_le (hrow.lt q) kc.size⟩), ⟨⟨t, _, b1.set 2 (Value.slice a1 n1 c1), (h2.kept hk (fun q => h3.ne_blk q h2.1 (by decide) rfl)).kept kc ?_, hrow.kept kc (fun k q e => hrow.ne_blk q b1 (by decide) e), Or.inl h4, fun k q => Or.inr q⟩, Or.inl h6, fun y hy => ?_, ?_, h9⟩, hk7.trans (kc.mono (fun k _ e => by rw [e]; exact h6)), hk7⟩
  · rintro rfl
    have := (h2.kept hk (fun q => h3.ne_blk q h2.1 (by decide) rfl)).1
    unfold Blk at this b1
    rw [this] at b1
    simp at b1
  · rcases List.mem_append.1 hy with q | q
    · exact h7' y q
    · rw [List.mem_singleton.1 q]; exact hx
  · rw [List.length_append]
    show R.signed.length + 1 ≤ 8
    omega

section
variable {w : World} {r d : Nat} {R : RingM} {S B : Nat → Prop} {M : DiskM}
set_option maxRecDepth 100000 in
set_option maxHeartbeats 4000000 in
theorem sign_fresh (h : IsRing w r d R S) (hd : Apart B d M w) (hS : ∀ k, S k → B k) (size : Nat) (root : By) (hz : size ≤ 4096) (hroot : root.length = 32) (ho : R.over M = false) (hz1 : 1 ≤ size) (i : Nat) (hi : i < 8) (hil : R.signed.length = i) (hx : nextF R.signed (size : Int) root = ((i : Int), true, 0)) (M' : DiskM) (hkr : M.keepR (size, root) = (0, M')) (hc : M.files.length + M.loose.length < 300000000) (hKB : Keeps B)
    (ht : Tab w) (hTS : ¬ S 0 ∧ ¬ S 1) :
    Calls Tryd.prog 5 #[.pointer (some ⟨r, 0, none⟩), headV (size : Int) root] w (SignYes B S r d w size root i { R with signed := R.signed ++ [(size, root)] } M') := by
  have hrl := h.lt
  have hBl := fun k (q : B k) => hd.lt q
  have HN := Lib.hid (ring_none (h.same (signW_kept w size root)))
  have hdn := ring_down (h.same (signW_kept w size root)) (hd.signW size root)
  have hds := dead_same (over_not ho).1
  rw [ho] at hdn
  have HD := Lib.hid hdn
  have HE := Lib.hid hds
  have hnx := fun w' (hr' : IsRing w' r d R S) => next_any hr' (size : Int) root hroot
  rw [hx] at hnx
  unfold NextPost at hnx
  simp only at hnx
  have HX := Lib.hid hnx
  have HH := Lib.hid (And.intro (hd.signW size root) (And.intro hS (And.intro hBl (hS r h.own))))
  have HT := Lib.hid (fun w' (k : Kept (· = r) (signW w (size : Int) root) w') => (ht.same (signW_kept w (size : Int) root)).kept k (fun e => hTS.1 (by rw [e]; exact h.own)) (fun e => hTS.2 (by rw [e]; exact h.own)))
  have HI0 := Lib.hid (show (Tryd.prog.info? 25).map (·.size) = some (headC (size : Int) root).length by rw [headC_len hroot]; exact info_head)
  have HDI := Lib.hid (fun w' ht' => digest_any w' size root hz hroot ht')
  have hDl := digestF_len size root
  have hkp := fun w' (hr' : IsRing w' r d R S) (hd' : Apart (ownW w B) d M w') ht' => keep_any hr' hd' (fun k q => Or.inl (hS k q)) (over_not ho).1 size root hz hroot hc ht'
  rw [hkr] at hkp
  have hds61 : { R with dead := decide ((0 : Int) = 61) } = R := dead_same (over_not ho).1
  have HK := Lib.hid hkp
  have HE61 := Lib.hid hds61
  have HTS0 := Lib.hid hTS
  clear hdn hd hS hBl hds hnx hx h hkp hkr hds61
  go_enter Tryd.func5, Tryd.ntmps5
  go_wp2_with (first | (go_at_call 19; refine HN.out.mono ?_; rintro e w' ⟨rfl, rfl⟩) | (go_at_call 20; refine HD.out.mono ?_; rintro e w1 ⟨rfl, hr1, hk1⟩; rw [HE.out] at hr1; have hb1 := (signW_head w (size : Int) root).kept hk1 (by omega)) | ((with_reducible show wpList _ _ _ (⟨some 20, _, _, _, _, _⟩ :: _) _ _); refine wpList_load_mid rfl 25 _ rfl w.heap.size 0 rfl (headC (size : Int) root) _ hb1.range0 Tryd.underlying25 rfl HI0.out ?_) | (go_at_call 21; refine (HX.out _ hr1).mono ?_; rintro e w2 ⟨rfl, hk2⟩; have hb2 := hb1.kept hk2 id; have ha2 := Lib.hid ((HH.out.1.turn hk1 (fun k e => by rw [e]; exact Or.inl HH.out.2.2.2)).same hk2)) | ((with_reducible show wpList _ _ _ (⟨some 31, _, _, _, _, _⟩ :: _) _ _); refine wpList_load_mid rfl 25 _ rfl w.heap.size 0 rfl (headC (size : Int) root) _ hb2.range0 Tryd.underlying25 rfl HI0.out ?_) | (go_at_call 22; refine (HK.out _ (hr1.same hk2) ha2.out ((HT.out _ hk1).same hk2)).mono ?_; rintro e wB ⟨rfl, hr3, ha3, hk3⟩))
  have hrB : IsRing wB r d R S := by rw [← HE61.out]; exact hr3
  have hS := HH.out.2.1
  have hBl := HH.out.2.2.1
  have nS : ∀ k, w.heap.size ≤ k → ¬ S k := fun k hk q => by have := hBl k (hS k q); omega
  have kB : Kept (fun k => ¬ ownW w B k ∨ S k) (signW w (size : Int) root) wB := ((hk1.mono (fun k _ e => Or.inr (by rw [e]; exact hrB.own))).trans (hk2.mono (fun _ _ => False.elim))).trans (hk3.mono (fun k _ e => e.imp id (fun q => by rw [q]; exact hrB.own)))
  have hbB := (hb2.kept hk3 (fun q => q.elim (fun n => n (Or.inr (Or.inl rfl))) (fun e => by omega)))
  have hzB := (((signW_res w (size : Int) root).kept hk1 (by omega)).kept hk2 id).kept hk3 (fun q => q.elim (fun n => n (Or.inr (Or.inr rfl))) (fun e => by omega))
  have htB : Tab wB := (ht.same (signW_kept w (size : Int) root)).kept kB (fun q => q.elim (fun n => n (Or.inl hKB.1)) HTS0.out.1) (fun q => q.elim (fun n => n (Or.inl hKB.2)) HTS0.out.2)
  obtain ⟨a0, n0, c0, a1, n1, c1, w7, hc2, hr1, hc7, hf7, hS', hrA, kS, kS7⟩ := ring_append (hrB.same (Kept.refl _ _).drew) (size, root) ⟨hz1, hz, hroot⟩ (by omega)
  obtain ⟨C, hC⟩ : ∃ C, headC (size : Int) root = C := ⟨_, rfl⟩
  have hf2 := fold_head (size := (size : Int)) hroot
  rw [hC] at hf2
  simp only [zeros, List.replicate] at hf2
  have lC : C.length = 33 := by rw [← hC]; exact headC_len hroot
  have HI : Hid ((Tryd.prog.info? 25).map (·.size) = some C.length) := by rw [← hC]; exact HI0
  have SB : S12 wB wB.drew S w.heap.size C := ⟨by rw [← hC]; exact (hbB.drew).range0, (Kept.refl _ _).drew⟩
  have hr1 : (Builtin.append_ #[41, 41] 41 #[.slice a0 n0 c0, .slice (some ⟨wB.heap.size, 0, none⟩) 1 1]).run Tryd.prog (wB.alloc (.cells C.toArray 25)).drew = .ok (Value.slice a1 n1 c1) w7 := by rw [← hC]; exact hr1
  have hrng : w7.rangeAt w.heap.size 0 C := by rw [← hC]; exact ((hbB.drew).kept kS7 (nS _ (Nat.le_refl _))).range0
  have HS7 := Lib.hid (fun (wx : World) (_ : S12 wB wx S w.heap.size C) => (⟨hrng, ((Kept.refl (fun _ => False) wB).drew.mono (fun _ _ => False.elim)).trans kS7⟩ : S12 wB w7 S w.heap.size C))
  have HS8 := Lib.hid (⟨rangeAt_kept hrng (kept_cell w7 r 2 (Value.slice a1 n1 c1)) (Nat.lt_of_lt_of_le hbB.lt kS7.size) (by omega), ((Kept.refl (fun _ => False) wB).drew.mono (fun _ _ => False.elim)).trans kS⟩ : S12 wB (w7.setCell ⟨r, 2, none⟩ (Value.slice a1 n1 c1)) S w.heap.size C)
  have HC7 := Lib.hid (And.intro hc7 hf7)
  have hbl := hbB.lt
  have HSB2 := Lib.hid (show w.heap.size + 2 ≤ wB.heap.size from hzB.lt)
  have hc3 : wB.cell? ⟨r, 2, none⟩ = some (.slice a0 n0 c0) := hc2
  have hc4 : (wB.alloc (.cells C.toArray 25)).cell? ⟨r, 2, none⟩ = some (.slice a0 n0 c0) := ((Kept.refl (fun _ => False) wB).alloc _).cell hc3 id
  have hFIN : IsRing (w7.setCell ⟨r, 2, none⟩ (Value.slice a1 n1 c1)) r d { R with signed := R.signed ++ [(size, root)] } (fun k => S k ∨ (Value.slice a1 n1 c1).ownBlock = some k) ∧ Kept S wB (w7.setCell ⟨r, 2, none⟩ (Value.slice a1 n1 c1)) ∧ (∀ k, (Value.slice a1 n1 c1).ownBlock = some k → S k ∨ (wB.heap.size ≤ k ∧ k < (w7.setCell ⟨r, 2, none⟩ (Value.slice a1 n1 c1)).heap.size)) := ⟨hrA, ((Kept.refl (fun _ => False) wB).drew.mono (fun _ _ => False.elim)).trans kS, hS'⟩
  have HFA := Lib.hid hFIN
  have HBB := Lib.hid (And.intro hbB (And.intro hzB (And.intro ha3 (And.intro kB htB))))
  clear hrA kS kS7 hrng hFIN hS' hrB hbB hzB kB htB hb2 hb1 hc7 hf7
  refine wp_region_held_drew (S := (fun w' => S12 wB w' S w.heap.size C)) (by kernel_rfl) SB (fun hH0 => ?_)
  refine wpAnyH_take (i := 0) (oi := ⟨some 37, .move (.tmp 0), 26, "keyring.go:138", #[], none⟩) (v := ?_) rfl (by kernel_rfl) (by kernel_rfl) (by kernel_rfl) (fun _ _ _ h => h) (Or.inl ⟨by rfl, fun w hSw => ?_⟩) hH0 ?_
  rotate_left 1
  · (try simp only [S12] at hSw); go_simp; (try with_reducible rfl)
  try simp only [Act.put, List.setIfInBounds_toArray, List.set_cons_zero, List.set_cons_succ]
  refine wpAnyH_take (i := 1) (oi := ⟨some 38, .move (.tmp 0), 26, "keyring.go:138", #[], none⟩) (v := ?_) rfl (by kernel_rfl) (by kernel_rfl) (by kernel_rfl) (fun _ _ _ h => h) (Or.inl ⟨by rfl, fun w hSw => ?_⟩) hH0 ?_
  rotate_left 1
  · (try simp only [S12] at hSw); go_simp; (try with_reducible rfl)
  try simp only [Act.put, List.setIfInBounds_toArray, List.set_cons_zero, List.set_cons_succ]
  refine wpAnyH_take (i := 2) (oi := ⟨some 39, .nilCheck (.tmp 38), 0, "keyring.go:138", #[⟨1, .data⟩], none⟩) (v := ?_) rfl (by kernel_rfl) (by kernel_rfl) (by kernel_rfl) (fun _ _ _ h => h) (Or.inl ⟨by rfl, fun w hSw => ?_⟩) hH0 ?_
  rotate_left 1
  · (try simp only [S12] at hSw); go_simp; (try with_reducible rfl)
  try simp only [Act.put, List.setIfInBounds_toArray, List.set_cons_zero, List.set_cons_succ]
  refine wpAnyH_take (i := 3) (oi := ⟨some 40, .fieldAddr 43 (.tmp 39) 2, 0, "keyring.go:138", #[⟨2, .data⟩], none⟩) (v := ?_) rfl (by kernel_rfl) (by kernel_rfl) (by kernel_rfl) (fun _ _ _ h => h) (Or.inl ⟨by rfl, fun w hSw => ?_⟩) hH0 ?_
  rotate_left 1
  · (try simp only [S12] at hSw); go_simp; (try with_reducible rfl)
  try simp only [Act.put, List.setIfInBounds_toArray, List.set_cons_zero, List.set_cons_succ]
  refine wpAnyH_take (i := 5) (oi := ⟨some 42, .load 25 (.tmp 3), 25, "keyring.go:138", #[], none⟩) (v := .agg (C).toArray) rfl (by kernel_rfl) (by kernel_rfl) (by kernel_rfl) (fun _ _ _ h => h) (yieldsIf_load_mid (by rfl) _ _ rfl (w.heap.size) (0) rfl (C) _ (fun w q => q.1) Tryd.underlying25 rfl HI.out) hH0 ?_
  try simp only [Act.put, List.setIfInBounds_toArray, List.set_cons_zero, List.set_cons_succ]
  refine wpAnyH_ready (rs := [4, 6]) (by kernel_rfl) (by simp) ?_
  refine AllReadyH.cons (o := ⟨some 41, .load 41 (.tmp 40), 41, "keyring.go:138", #[⟨3, .data⟩], none⟩) rfl (fun K hK => ?_) ?_
  · go_simp
    refine hK.out _ _ (hH0) (fun hH1 => ?_)
    clear hK K
    try simp only [Act.put, List.setIfInBounds_toArray, List.set_cons_zero, List.set_cons_succ]
    refine wpAnyH_ready (rs := [6]) (by kernel_rfl) (by simp) ?_
    refine AllReadyH.cons (o := ⟨some 43, .buildSlice 41 1 #[(0, .tmp 42)], 41, "keyring.go:138", #[⟨5, .data⟩], none⟩) rfl (fun K hK => ?_) AllReadyH.nil
    go_simp
    refine hK.out _ _ (s12_alloc hH1 _ hbl) (fun hH2 => ?_)
    clear hK K
    try simp only [Act.put, List.setIfInBounds_toArray, List.set_cons_zero, List.set_cons_succ]
    refine wpAnyH_ready (rs := [7]) (by kernel_rfl) (by simp) ?_
    refine AllReadyH.cons (o := ⟨some 44, .call { callee := .builtin .append, args := #[.tmp 41, .tmp 43], argTypes := #[41, 41] }, 41, "keyring.go:138", #[⟨4, .data⟩, ⟨6, .data⟩], none⟩) rfl (fun K hK => ?_) AllReadyH.nil
    refine step_append_run rfl _ _ 41 41 rfl _ _ rfl rfl _ _ hr1 ?_
    refine hK.out _ _ (HS7.out _ hH2) (fun hH3 => ?_)
    clear hK K
    try simp only [Act.put, List.setIfInBounds_toArray, List.set_cons_zero, List.set_cons_succ]
    refine wpAnyH_take (i := 8) (oi := ⟨some 45, .nilCheck (.tmp 37), 0, "keyring.go:138", #[⟨0, .data⟩, ⟨0, .phase⟩, ⟨1, .phase⟩, ⟨2, .phase⟩, ⟨3, .phase⟩, ⟨4, .phase⟩, ⟨5, .phase⟩, ⟨6, .phase⟩, ⟨7, .phase⟩], none⟩) (v := ?_) rfl (by kernel_rfl) (by kernel_rfl) (by kernel_rfl) (fun _ _ _ h => h) (Or.inl ⟨by rfl, fun w hSw => ?_⟩) hH3 ?_
    rotate_left 1
    · (try simp only [S12] at hSw); go_simp; (try with_reducible rfl)
    try simp only [Act.put, List.setIfInBounds_toArray, List.set_cons_zero, List.set_cons_succ]
    refine wpAnyH_take (i := 9) (oi := ⟨some 46, .fieldAddr 43 (.tmp 45) 2, 0, "keyring.go:138", #[⟨8, .data⟩, ⟨0, .phase⟩, ⟨1, .phase⟩, ⟨2, .phase⟩, ⟨3, .phase⟩, ⟨4, .phase⟩, ⟨5, .phase⟩, ⟨6, .phase⟩, ⟨7, .phase⟩], none⟩) (v := ?_) rfl (by kernel_rfl) (by kernel_rfl) (by kernel_rfl) (fun _ _ _ h => h) (Or.inl ⟨by rfl, fun w hSw => ?_⟩) hH3 ?_
    rotate_left 1
    · (try simp only [S12] at hSw); go_simp; (try with_reducible rfl)
    try simp only [Act.put, List.setIfInBounds_toArray, List.set_cons_zero, List.set_cons_succ]
    refine wpAnyH_ready (rs := [10]) (by kernel_rfl) (by simp) ?_
    refine AllReadyH.cons (o := ⟨none, .store 41 (.tmp 46) (.tmp 44), 0, "keyring.go:138", #[⟨9, .data⟩, ⟨7, .data⟩, ⟨7, .chain⟩, ⟨0, .phase⟩, ⟨1, .phase⟩, ⟨2, .phase⟩, ⟨3, .phase⟩, ⟨4, .phase⟩, ⟨5, .phase⟩, ⟨6, .phase⟩, ⟨7, .phase⟩], none⟩) rfl (fun K hK => ?_) AllReadyH.nil
    have q7 := HC7.out.1
    have f7 := HC7.out.2
    go_simp
    refine hK.out _ _ (HS8.out) (fun hH4 => ?_)
    clear hK K
    try simp only [Act.put, List.setIfInBounds_toArray, List.set_cons_zero, List.set_cons_succ]
    refine wpAnyH_done (by kernel_rfl) ?_ _
    go_wp2_with fail
    generalize World.setCell w7 _ (Value.slice a1 n1 c1) = wA at HFA ⊢
    have hrA := HFA.out.1
    have kS := HFA.out.2.1
    have HFA2 := Lib.hid HFA.out.2.2
    have HSZ := Lib.hid (show w.heap.size + 2 ≤ wB.heap.size from HSB2.out)
    have hbA : Blk wA w.heap.size (headC (size : Int) root) 25 := HBB.out.1.kept kS (nS _ (Nat.le_refl _))
    have hzA := HBB.out.2.1.kept kS (nS _ (by omega))
    have htA := HBB.out.2.2.2.2.kept kS HTS0.out.1 HTS0.out.2
    have kA : Kept (fun k => ¬ ownW w B k ∨ S k) (signW w (size : Int) root) wA := HBB.out.2.2.2.1.then_ kS (fun k _ q => Or.inr q)
    have haA : Apart (fun k => ownW w B k ∨ (S k ∨ (Value.slice a1 n1 c1).ownBlock = some k)) d M' wA := HBB.out.2.2.1.grow kS (fun k _ q => Or.inl (hS k q)) (fun k q => q.elim Or.inl (fun q => q.elim (fun q => Or.inl (Or.inl (hS k q))) (fun q => (HFA.out.2.2 k q).elim (fun q => Or.inl (Or.inl (hS k q))) Or.inr)))
    obtain ⟨⟨t, vv, hrb, htree, -, -, -⟩, -, -, -, hsh⟩ := id hrA
    have hrlA := hrA.lt
    have hhb : w.heap.size < wA.heap.size := hbA.lt
    have HTS := Lib.hid (fun w' (k : Kept (fun _ => False) wA w') => treeSign_any (htree.kept k id) i (digestF size root) hsh hi hDl (htA.same k))
    have HTB := Lib.hid (fun w' (k : Kept (fun _ => False) wA w') => htA.same k)
    have HFIN := Lib.hid (And.intro hrA (And.intro hbA (And.intro hzA (And.intro haA kA))))
    obtain ⟨SG, hSG⟩ : ∃ SG, signF R.seed.data.toList i (digestF size root) = SG := ⟨_, rfl⟩
    rw [hSG] at HTS
    have HSG := Lib.hid hSG
    obtain ⟨C, hC⟩ : ∃ C, headC (size : Int) root = C := ⟨_, rfl⟩
    have HCC := Lib.hid hC
    have SA : SgS wA wA.drew r t w.heap.size C := ⟨(hrb.drew).cell (i := 1) rfl, by rw [← hC]; exact (hbA.drew).range0, (Kept.refl _ _).drew⟩
    have HI : Hid ((Tryd.prog.info? 25).map (·.size) = some C.length) := by rw [← hC]; exact HI0
    have HLC := Lib.hid (show C.length = 33 by rw [← hC]; exact headC_len hroot)
    have HDG := Lib.hid (fun w' ht' => (by rw [← hC]; exact HDI.out w' ht' : Calls Tryd.prog 24 #[.agg C.toArray] w' fun e w'' => e = .returned (hashV (digestF size root)) ∧ Kept (fun _ => False) w' w''))
    generalize hDG : digestF size root = DG at *
    have HDG2 := Lib.hid hDG
    clear hDG hSG hrA hbA hzA haA htA kA hrb htree hsh hC
    refine wp_region_held_drew (S := (fun w' => SgS wA w' r t w.heap.size C)) (by kernel_rfl) SA (fun hH0 => ?_)
    refine wpAnyH_take (i := 0) (oi := ⟨some 48, .move (.tmp 0), 26, "keyring.go:140", #[], none⟩) (v := ?_) rfl (by kernel_rfl) (by kernel_rfl) (by kernel_rfl) (fun _ _ _ h => h) (Or.inl ⟨by rfl, fun w hSw => ?_⟩) hH0 ?_
    rotate_left 1
    · (try simp only [SgS] at hSw); go_simp; (try with_reducible rfl)
    try simp only [Act.put, List.setIfInBounds_toArray, List.set_cons_zero, List.set_cons_succ]
    refine wpAnyH_take (i := 1) (oi := ⟨some 49, .nilCheck (.tmp 48), 0, "keyring.go:140", #[⟨0, .data⟩], none⟩) (v := ?_) rfl (by kernel_rfl) (by kernel_rfl) (by kernel_rfl) (fun _ _ _ h => h) (Or.inl ⟨by rfl, fun w hSw => ?_⟩) hH0 ?_
    rotate_left 1
    · (try simp only [SgS] at hSw); go_simp; (try with_reducible rfl)
    try simp only [Act.put, List.setIfInBounds_toArray, List.set_cons_zero, List.set_cons_succ]
    refine wpAnyH_take (i := 2) (oi := ⟨some 50, .fieldAddr 43 (.tmp 49) 1, 0, "keyring.go:140", #[⟨1, .data⟩], none⟩) (v := ?_) rfl (by kernel_rfl) (by kernel_rfl) (by kernel_rfl) (fun _ _ _ h => h) (Or.inl ⟨by rfl, fun w hSw => ?_⟩) hH0 ?_
    rotate_left 1
    · (try simp only [SgS] at hSw); go_simp; (try with_reducible rfl)
    try simp only [Act.put, List.setIfInBounds_toArray, List.set_cons_zero, List.set_cons_succ]
    refine wpAnyH_take (i := 3) (oi := ⟨some 51, .load 40 (.tmp 50), 40, "keyring.go:140", #[⟨2, .data⟩], none⟩) (v := ?_) rfl (by kernel_rfl) (by kernel_rfl) (by kernel_rfl) (fun _ _ _ h => h) (Or.inl ⟨by rfl, fun w hSw => ?_⟩) hH0 ?_
    rotate_left 1
    · (try simp only [SgS] at hSw); go_simp; (try with_reducible rfl)
    try simp only [Act.put, List.setIfInBounds_toArray, List.set_cons_zero, List.set_cons_succ]
    refine wpAnyH_take (i := 4) (oi := ⟨some 52, .move (.tmp 6), 3, "keyring.go:140", #[], none⟩) (v := ?_) rfl (by kernel_rfl) (by kernel_rfl) (by kernel_rfl) (fun _ _ _ h => h) (Or.inl ⟨by rfl, fun w hSw => ?_⟩) hH0 ?_
    rotate_left 1
    · (try simp only [SgS] at hSw); go_simp; (try with_reducible rfl)
    try simp only [Act.put, List.setIfInBounds_toArray, List.set_cons_zero, List.set_cons_succ]
    refine wpAnyH_take (i := 5) (oi := ⟨some 53, .load 25 (.tmp 3), 25, "keyring.go:140", #[], none⟩) (v := .agg (C).toArray) rfl (by kernel_rfl) (by kernel_rfl) (by kernel_rfl) (fun _ _ _ h => h) (yieldsIf_load_mid (by rfl) _ _ rfl (w.heap.size) (0) rfl (C) _ (fun w q => q.2.1) Tryd.underlying25 rfl HI.out) hH0 ?_
    try simp only [Act.put, List.setIfInBounds_toArray, List.set_cons_zero, List.set_cons_succ]
    refine wpAnyH_ready (rs := [6, 11]) (by kernel_rfl) (by simp) ?_
    refine AllReadyH.cons (o := ⟨some 54, .call { callee := .value (.func 24), args := #[.tmp 53], argTypes := #[25] }, 23, "keyring.go:140", #[⟨5, .data⟩], none⟩) rfl (fun K hK => ?_) ?_
    · go_simp
      refine (HDG.out _ (HTB.out _ hH0.2.2)).mono ?_
      rintro e w3 ⟨rfl, hk3⟩
      try have hsb := hsb.kept hk3 id
      refine hK.out _ _ (sgS_next hH0 hhb hk3) (fun hH1 => ?_)
      clear hK K
      try simp only [Act.put, List.setIfInBounds_toArray, List.set_cons_zero, List.set_cons_succ]
      refine wpAnyH_ready (rs := [7, 11]) (by kernel_rfl) (by simp) ?_
      refine AllReadyH.cons (o := ⟨some 55, .call { callee := .value (.func 23), args := #[.tmp 51, .tmp 52, .tmp 54], argTypes := #[40, 3, 23] }, 68, "keyring.go:140", #[⟨3, .data⟩, ⟨4, .data⟩, ⟨6, .data⟩, ⟨6, .chain⟩], none⟩) rfl (fun K hK => ?_) ?_
      · go_simp
        refine (HTS.out _ hH1.2.2).mono ?_
        rintro e w4 ⟨v, rfl, hrow4, hown4, hk4⟩
        obtain ⟨pa, pn, pc, rfl, -⟩ := hrow4.form (by omega)
        have HR4 := Lib.hid (sg_row hH1.2.2 hrow4 hown4)
        try have hsb := hsb.kept hk4 id
        refine hK.out _ _ (sgS_next hH1 hhb hk4) (fun hH2 => ?_)
        clear hK K
        try simp only [Act.put, List.setIfInBounds_toArray, List.set_cons_zero, List.set_cons_succ]
        refine wpAnyH_take (i := 8) (oi := ⟨some 47, .move (.tmp 55), 68, "keyring.go:140", #[⟨7, .data⟩], none⟩) (v := ?_) rfl (by kernel_rfl) (by kernel_rfl) (by kernel_rfl) (fun _ _ _ h => h) (Or.inl ⟨by rfl, fun w hSw => ?_⟩) hH2 ?_
        rotate_left 1
        · (try simp only [SgS] at hSw); go_simp; (try with_reducible rfl)
        try simp only [Act.put, List.setIfInBounds_toArray, List.set_cons_zero, List.set_cons_succ]
        refine wpAnyH_take (i := 9) (oi := ⟨some 56, .extract (.tmp 47) 0, 29, "keyring.go:140", #[⟨8, .data⟩], none⟩) (v := ?_) rfl (by kernel_rfl) (by kernel_rfl) (by kernel_rfl) (fun _ _ _ h => h) (Or.inl ⟨by rfl, fun w hSw => ?_⟩) hH2 ?_
        rotate_left 1
        · (try simp only [SgS] at hSw); go_simp; (try with_reducible rfl)
        try simp only [Act.put, List.setIfInBounds_toArray, List.set_cons_zero, List.set_cons_succ]
        refine wpAnyH_take (i := 10) (oi := ⟨some 57, .extract (.tmp 47) 1, 32, "keyring.go:140", #[⟨8, .data⟩, ⟨12, .gcOnly .lateStores⟩], none⟩) (v := ?_) rfl (by kernel_rfl) (by kernel_rfl) (by kernel_rfl) (fun _ _ _ h => h) (Or.inl ⟨by rfl, fun w hSw => ?_⟩) hH2 ?_
        rotate_left 1
        · (try simp only [SgS] at hSw); go_simp; (try with_reducible rfl)
        try simp only [Act.put, List.setIfInBounds_toArray, List.set_cons_zero, List.set_cons_succ]
        refine wpAnyH_ready (rs := [11]) (by kernel_rfl) (by simp) ?_
        refine AllReadyH.cons (o := ⟨some 9, .alloc 29, 0, "keyring.go:140", #[], none⟩) rfl (fun K hK => ?_) AllReadyH.nil
        go_simp
        obtain ⟨hsb, hsl⟩ := sg_alloc hH2.2.2
        try change Blk (World.drew (World.alloc wA (.cells [.int .i64 0, .string ⟨#[]⟩, .slice none 0 0].toArray 29))) wA.heap.size _ _ at hsb
        try change wA.heap.size ≤ wA.heap.size at hsl
        try have HR4 := Lib.hid (sg_rowa HR4.out (.cells [.int .i64 0, .string ⟨#[]⟩, .slice none 0 0].toArray 29))
        refine hK.out _ _ (sgS_next hH2 hhb ((Kept.refl _ _).alloc _)) (fun hH3 => ?_)
        clear hK K
        try simp only [Act.put, List.setIfInBounds_toArray, List.set_cons_zero, List.set_cons_succ]
        first | generalize World.alloc _ _ = wS at hsb HR4 hH3 ⊢ | generalize World.alloc _ _ = wS at hsb hH3 ⊢
        refine wpAnyH_ready (rs := [12]) (by kernel_rfl) (by simp) ?_
        refine AllReadyH.cons (o := ⟨none, .store 29 (.tmp 9) (.tmp 56), 0, "keyring.go:140", #[⟨11, .data⟩, ⟨9, .data⟩, ⟨7, .chain⟩, ⟨0, .phase⟩, ⟨1, .phase⟩, ⟨2, .phase⟩, ⟨3, .phase⟩, ⟨4, .phase⟩, ⟨5, .phase⟩, ⟨6, .phase⟩, ⟨7, .phase⟩, ⟨8, .phase⟩, ⟨9, .phase⟩, ⟨10, .textOnly .lateStores⟩, ⟨11, .phase⟩], none⟩) rfl (fun K hK => ?_) AllReadyH.nil
        try replace hsb : Blk w4 wA.heap.size [.int .i64 0, .string ⟨#[]⟩, .slice none 0 0] 29 := hsb
        have q0 := hsb.cell (i := 0) rfl
        have q1 := hsb.cell (i := 1) rfl
        have q2 := hsb.cell (i := 2) rfl
        have f0 := hsb.free 0
        have f1 := hsb.free 1
        have f2 := hsb.free 2
        go_simp
        have HR5 := Lib.hid (sg_rows HR4.out hsb (.int .i64 (i : Int)) (.string ⟨SG.toArray⟩) (.slice pa pn pc))
        have HSB : Hid (Blk _ _ [.int .i64 (i : Int), .string ⟨SG.toArray⟩, .slice pa pn pc] 29) := Lib.hid (((hsb.set 0 (.int .i64 (i : Int))).set 1 (.string ⟨SG.toArray⟩)).set 2 (.slice pa pn pc))
        refine hK.out _ _ (sgS_set hH3 hhb hsl _ _ _ hrlA) (fun hH4 => ?_)
        clear hK K
        try simp only [Act.put, List.setIfInBounds_toArray, List.set_cons_zero, List.set_cons_succ]
        refine wpAnyH_ready (rs := [13]) (by kernel_rfl) (by simp) ?_
        refine AllReadyH.cons (o := ⟨some 8, .assign (.tmp 57), 32, "keyring.go:140", #[⟨10, .data⟩, ⟨12, .chain⟩, ⟨0, .phase⟩, ⟨1, .phase⟩, ⟨2, .phase⟩, ⟨3, .phase⟩, ⟨4, .phase⟩, ⟨5, .phase⟩, ⟨6, .phase⟩, ⟨7, .phase⟩, ⟨8, .phase⟩, ⟨9, .phase⟩, ⟨10, .phase⟩, ⟨11, .phase⟩, ⟨12, .phase⟩], none⟩) rfl (fun K hK => ?_) AllReadyH.nil
        go_simp
        refine hK.out _ _ (hH4) (fun hH5 => ?_)
        clear hK K
        try simp only [Act.put, List.setIfInBounds_toArray, List.set_cons_zero, List.set_cons_succ]
        refine wpAnyH_done (by kernel_rfl) ?_ _
        generalize World.setCell (World.setCell (World.setCell _ _ _) _ _) _ _ = wF at HSB HR5 hH5 ⊢
        have kF := hH5.2.2
        have rF := hH5.2.1
        have s0 := HSB.out.cell (i := 0) rfl
        have s1 := HSB.out.cell (i := 1) rfl
        have s2 := HSB.out.cell (i := 2) rfl
        have lC : C.length = 33 := HLC.out
        obtain ⟨X, Y, hfA, lX, hfB, HY⟩ := sign_build C lC (.int .i64 (i : Int)) (.string ⟨SG.toArray⟩) (.slice pa pn pc)
        simp only [zeros, List.replicate, List.cons_append, List.nil_append] at hfA
        have lY : Hid (Y.length = 36) := Lib.hid (by rw [HY.out, List.length_append, lC]; rfl)
        have HZF := Lib.hid (sign_fin (HFIN.out.2.2.1.kept kF id) lY.out)
        go_wp2_with (first | ((with_reducible show wpList _ _ _ (⟨some 58, _, _, _, _, _⟩ :: _) _ _); refine wpList_load_mid rfl 25 _ rfl w.heap.size 0 rfl C _ rF Tryd.underlying25 rfl HI.out ?_) | ((with_reducible show wpList _ _ _ (⟨none, .store _ (.tmp 4) _, _, _, _, _⟩ :: _) _ _); refine wpList_store_mid rfl 31 _ _ rfl (w.heap.size + 1) 0 Y.toArray rfl rfl ?htv01 ?hiv01 ?h1v01 ?_))
        case htv01 => exact HZF.out.1
        case hiv01 => first | exact info_sized lY.out | simpa using info_sized lY.out
        case h1v01 => first | exact sign_one HY.out HCC.out | exact all_oneCell_toArray (sign_one HY.out HCC.out)
        refine bodyPost_ret (HZF.out.2.result2 rfl rfl Tryd.underlying31 rfl (info_sized lY.out)) rfl ?_
        exact sign_yes (S' := fun k => S k ∨ (Value.slice a1 n1 c1).ownBlock = some k) HFIN.out.1 (fun k hk => hk.elim Or.inl (fun q => (HFA2.out k q).imp id (fun o => by have := HSZ.out; omega))) HH.out.2.1 HH.out.2.2.1 HFIN.out.2.2.2.1 HFIN.out.2.2.2.2 kF HR5.out HY.out HCC.out HSG.out HDG2.out
      refine AllReadyH.cons (o := ⟨some 9, .alloc 29, 0, "keyring.go:140", #[], none⟩) rfl (fun K hK => ?_) AllReadyH.nil
      go_simp
      obtain ⟨hsb, hsl⟩ := sg_alloc hH1.2.2
      try change Blk (World.drew (World.alloc wA (.cells [.int .i64 0, .string ⟨#[]⟩, .slice none 0 0].toArray 29))) wA.heap.size _ _ at hsb
      try change wA.heap.size ≤ wA.heap.size at hsl
      try have HR4 := Lib.hid (sg_rowa HR4.out (.cells [.int .i64 0, .string ⟨#[]⟩, .slice none 0 0].toArray 29))
      refine hK.out _ _ (sgS_next hH1 hhb ((Kept.refl _ _).alloc _)) (fun hH2 => ?_)
      clear hK K
      try simp only [Act.put, List.setIfInBounds_toArray, List.set_cons_zero, List.set_cons_succ]
      first | generalize World.alloc _ _ = wS at hsb HR4 hH2 ⊢ | generalize World.alloc _ _ = wS at hsb hH2 ⊢
      refine wpAnyH_ready (rs := [7]) (by kernel_rfl) (by simp) ?_
      refine AllReadyH.cons (o := ⟨some 55, .call { callee := .value (.func 23), args := #[.tmp 51, .tmp 52, .tmp 54], argTypes := #[40, 3, 23] }, 68, "keyring.go:140", #[⟨3, .data⟩, ⟨4, .data⟩, ⟨6, .data⟩, ⟨6, .chain⟩], none⟩) rfl (fun K hK => ?_) AllReadyH.nil
      go_simp
      refine (HTS.out _ hH2.2.2).mono ?_
      rintro e w4 ⟨v, rfl, hrow4, hown4, hk4⟩
      obtain ⟨pa, pn, pc, rfl, -⟩ := hrow4.form (by omega)
      have HR4 := Lib.hid (sg_row hH2.2.2 hrow4 hown4)
      try have hsb := hsb.kept hk4 id
      refine hK.out _ _ (sgS_next hH2 hhb hk4) (fun hH3 => ?_)
      clear hK K
      try simp only [Act.put, List.setIfInBounds_toArray, List.set_cons_zero, List.set_cons_succ]
      refine wpAnyH_take (i := 8) (oi := ⟨some 47, .move (.tmp 55), 68, "keyring.go:140", #[⟨7, .data⟩], none⟩) (v := ?_) rfl (by kernel_rfl) (by kernel_rfl) (by kernel_rfl) (fun _ _ _ h => h) (Or.inl ⟨by rfl, fun w hSw => ?_⟩) hH3 ?_
      rotate_left 1
      · (try simp only [SgS] at hSw); go_simp; (try with_reducible rfl)
      try simp only [Act.put, List.setIfInBounds_toArray, List.set_cons_zero, List.set_cons_succ]
      refine wpAnyH_take (i := 9) (oi := ⟨some 56, .extract (.tmp 47) 0, 29, "keyring.go:140", #[⟨8, .data⟩], none⟩) (v := ?_) rfl (by kernel_rfl) (by kernel_rfl) (by kernel_rfl) (fun _ _ _ h => h) (Or.inl ⟨by rfl, fun w hSw => ?_⟩) hH3 ?_
      rotate_left 1
      · (try simp only [SgS] at hSw); go_simp; (try with_reducible rfl)
      try simp only [Act.put, List.setIfInBounds_toArray, List.set_cons_zero, List.set_cons_succ]
      refine wpAnyH_take (i := 10) (oi := ⟨some 57, .extract (.tmp 47) 1, 32, "keyring.go:140", #[⟨8, .data⟩, ⟨12, .gcOnly .lateStores⟩], none⟩) (v := ?_) rfl (by kernel_rfl) (by kernel_rfl) (by kernel_rfl) (fun _ _ _ h => h) (Or.inl ⟨by rfl, fun w hSw => ?_⟩) hH3 ?_
      rotate_left 1
      · (try simp only [SgS] at hSw); go_simp; (try with_reducible rfl)
      try simp only [Act.put, List.setIfInBounds_toArray, List.set_cons_zero, List.set_cons_succ]
      refine wpAnyH_ready (rs := [12]) (by kernel_rfl) (by simp) ?_
      refine AllReadyH.cons (o := ⟨none, .store 29 (.tmp 9) (.tmp 56), 0, "keyring.go:140", #[⟨11, .data⟩, ⟨9, .data⟩, ⟨7, .chain⟩, ⟨0, .phase⟩, ⟨1, .phase⟩, ⟨2, .phase⟩, ⟨3, .phase⟩, ⟨4, .phase⟩, ⟨5, .phase⟩, ⟨6, .phase⟩, ⟨7, .phase⟩, ⟨8, .phase⟩, ⟨9, .phase⟩, ⟨10, .textOnly .lateStores⟩, ⟨11, .phase⟩], none⟩) rfl (fun K hK => ?_) AllReadyH.nil
      try replace hsb : Blk w4 wA.heap.size [.int .i64 0, .string ⟨#[]⟩, .slice none 0 0] 29 := hsb
      have q0 := hsb.cell (i := 0) rfl
      have q1 := hsb.cell (i := 1) rfl
      have q2 := hsb.cell (i := 2) rfl
      have f0 := hsb.free 0
      have f1 := hsb.free 1
      have f2 := hsb.free 2
      go_simp
      have HR5 := Lib.hid (sg_rows HR4.out hsb (.int .i64 (i : Int)) (.string ⟨SG.toArray⟩) (.slice pa pn pc))
      have HSB : Hid (Blk _ _ [.int .i64 (i : Int), .string ⟨SG.toArray⟩, .slice pa pn pc] 29) := Lib.hid (((hsb.set 0 (.int .i64 (i : Int))).set 1 (.string ⟨SG.toArray⟩)).set 2 (.slice pa pn pc))
      refine hK.out _ _ (sgS_set hH3 hhb hsl _ _ _ hrlA) (fun hH4 => ?_)
      clear hK K
      try simp only [Act.put, List.setIfInBounds_toArray, List.set_cons_zero, List.set_cons_succ]
      refine wpAnyH_ready (rs := [13]) (by kernel_rfl) (by simp) ?_
      refine AllReadyH.cons (o := ⟨some 8, .assign (.tmp 57), 32, "keyring.go:140", #[⟨10, .data⟩, ⟨12, .chain⟩, ⟨0, .phase⟩, ⟨1, .phase⟩, ⟨2, .phase⟩, ⟨3, .phase⟩, ⟨4, .phase⟩, ⟨5, .phase⟩, ⟨6, .phase⟩, ⟨7, .phase⟩, ⟨8, .phase⟩, ⟨9, .phase⟩, ⟨10, .phase⟩, ⟨11, .phase⟩, ⟨12, .phase⟩], none⟩) rfl (fun K hK => ?_) AllReadyH.nil
      go_simp
      refine hK.out _ _ (hH4) (fun hH5 => ?_)
      clear hK K
      try simp only [Act.put, List.setIfInBounds_toArray, List.set_cons_zero, List.set_cons_succ]
      refine wpAnyH_done (by kernel_rfl) ?_ _
      generalize World.setCell (World.setCell (World.setCell _ _ _) _ _) _ _ = wF at HSB HR5 hH5 ⊢
      have kF := hH5.2.2
      have rF := hH5.2.1
      have s0 := HSB.out.cell (i := 0) rfl
      have s1 := HSB.out.cell (i := 1) rfl
      have s2 := HSB.out.cell (i := 2) rfl
      have lC : C.length = 33 := HLC.out
      obtain ⟨X, Y, hfA, lX, hfB, HY⟩ := sign_build C lC (.int .i64 (i : Int)) (.string ⟨SG.toArray⟩) (.slice pa pn pc)
      simp only [zeros, List.replicate, List.cons_append, List.nil_append] at hfA
      have lY : Hid (Y.length = 36) := Lib.hid (by rw [HY.out, List.length_append, lC]; rfl)
      have HZF := Lib.hid (sign_fin (HFIN.out.2.2.1.kept kF id) lY.out)
      go_wp2_with (first | ((with_reducible show wpList _ _ _ (⟨some 58, _, _, _, _, _⟩ :: _) _ _); refine wpList_load_mid rfl 25 _ rfl w.heap.size 0 rfl C _ rF Tryd.underlying25 rfl HI.out ?_) | ((with_reducible show wpList _ _ _ (⟨none, .store _ (.tmp 4) _, _, _, _, _⟩ :: _) _ _); refine wpList_store_mid rfl 31 _ _ rfl (w.heap.size + 1) 0 Y.toArray rfl rfl ?htv02 ?hiv02 ?h1v02 ?_))
      case htv02 => exact HZF.out.1
      case hiv02 => first | exact info_sized lY.out | simpa using info_sized lY.out
      case h1v02 => first | exact sign_one HY.out HCC.out | exact all_oneCell_toArray (sign_one HY.out HCC.out)
      refine bodyPost_ret (HZF.out.2.result2 rfl rfl Tryd.underlying31 rfl (info_sized lY.out)) rfl ?_
      exact sign_yes (S' := fun k => S k ∨ (Value.slice a1 n1 c1).ownBlock = some k) HFIN.out.1 (fun k hk => hk.elim Or.inl (fun q => (HFA2.out k q).imp id (fun o => by have := HSZ.out; omega))) HH.out.2.1 HH.out.2.2.1 HFIN.out.2.2.2.1 HFIN.out.2.2.2.2 kF HR5.out HY.out HCC.out HSG.out HDG2.out
    refine AllReadyH.cons (o := ⟨some 9, .alloc 29, 0, "keyring.go:140", #[], none⟩) rfl (fun K hK => ?_) AllReadyH.nil
    go_simp
    obtain ⟨hsb, hsl⟩ := sg_alloc hH0.2.2
    try change Blk (World.drew (World.alloc wA (.cells [.int .i64 0, .string ⟨#[]⟩, .slice none 0 0].toArray 29))) wA.heap.size _ _ at hsb
    try change wA.heap.size ≤ wA.heap.size at hsl
    try have HR4 := Lib.hid (sg_rowa HR4.out (.cells [.int .i64 0, .string ⟨#[]⟩, .slice none 0 0].toArray 29))
    refine hK.out _ _ (sgS_next hH0 hhb ((Kept.refl _ _).alloc _)) (fun hH1 => ?_)
    clear hK K
    try simp only [Act.put, List.setIfInBounds_toArray, List.set_cons_zero, List.set_cons_succ]
    first | generalize World.alloc _ _ = wS at hsb HR4 hH1 ⊢ | generalize World.alloc _ _ = wS at hsb hH1 ⊢
    refine wpAnyH_ready (rs := [6]) (by kernel_rfl) (by simp) ?_
    refine AllReadyH.cons (o := ⟨some 54, .call { callee := .value (.func 24), args := #[.tmp 53], argTypes := #[25] }, 23, "keyring.go:140", #[⟨5, .data⟩], none⟩) rfl (fun K hK => ?_) AllReadyH.nil
    go_simp
    refine (HDG.out _ (HTB.out _ hH1.2.2)).mono ?_
    rintro e w3 ⟨rfl, hk3⟩
    try have hsb := hsb.kept hk3 id
    refine hK.out _ _ (sgS_next hH1 hhb hk3) (fun hH2 => ?_)
    clear hK K
    try simp only [Act.put, List.setIfInBounds_toArray, List.set_cons_zero, List.set_cons_succ]
    refine wpAnyH_ready (rs := [7]) (by kernel_rfl) (by simp) ?_
    refine AllReadyH.cons (o := ⟨some 55, .call { callee := .value (.func 23), args := #[.tmp 51, .tmp 52, .tmp 54], argTypes := #[40, 3, 23] }, 68, "keyring.go:140", #[⟨3, .data⟩, ⟨4, .data⟩, ⟨6, .data⟩, ⟨6, .chain⟩], none⟩) rfl (fun K hK => ?_) AllReadyH.nil
    go_simp
    refine (HTS.out _ hH2.2.2).mono ?_
    rintro e w4 ⟨v, rfl, hrow4, hown4, hk4⟩
    obtain ⟨pa, pn, pc, rfl, -⟩ := hrow4.form (by omega)
    have HR4 := Lib.hid (sg_row hH2.2.2 hrow4 hown4)
    try have hsb := hsb.kept hk4 id
    refine hK.out _ _ (sgS_next hH2 hhb hk4) (fun hH3 => ?_)
    clear hK K
    try simp only [Act.put, List.setIfInBounds_toArray, List.set_cons_zero, List.set_cons_succ]
    refine wpAnyH_take (i := 8) (oi := ⟨some 47, .move (.tmp 55), 68, "keyring.go:140", #[⟨7, .data⟩], none⟩) (v := ?_) rfl (by kernel_rfl) (by kernel_rfl) (by kernel_rfl) (fun _ _ _ h => h) (Or.inl ⟨by rfl, fun w hSw => ?_⟩) hH3 ?_
    rotate_left 1
    · (try simp only [SgS] at hSw); go_simp; (try with_reducible rfl)
    try simp only [Act.put, List.setIfInBounds_toArray, List.set_cons_zero, List.set_cons_succ]
    refine wpAnyH_take (i := 9) (oi := ⟨some 56, .extract (.tmp 47) 0, 29, "keyring.go:140", #[⟨8, .data⟩], none⟩) (v := ?_) rfl (by kernel_rfl) (by kernel_rfl) (by kernel_rfl) (fun _ _ _ h => h) (Or.inl ⟨by rfl, fun w hSw => ?_⟩) hH3 ?_
    rotate_left 1
    · (try simp only [SgS] at hSw); go_simp; (try with_reducible rfl)
    try simp only [Act.put, List.setIfInBounds_toArray, List.set_cons_zero, List.set_cons_succ]
    refine wpAnyH_take (i := 10) (oi := ⟨some 57, .extract (.tmp 47) 1, 32, "keyring.go:140", #[⟨8, .data⟩, ⟨12, .gcOnly .lateStores⟩], none⟩) (v := ?_) rfl (by kernel_rfl) (by kernel_rfl) (by kernel_rfl) (fun _ _ _ h => h) (Or.inl ⟨by rfl, fun w hSw => ?_⟩) hH3 ?_
    rotate_left 1
    · (try simp only [SgS] at hSw); go_simp; (try with_reducible rfl)
    try simp only [Act.put, List.setIfInBounds_toArray, List.set_cons_zero, List.set_cons_succ]
    refine wpAnyH_ready (rs := [12]) (by kernel_rfl) (by simp) ?_
    refine AllReadyH.cons (o := ⟨none, .store 29 (.tmp 9) (.tmp 56), 0, "keyring.go:140", #[⟨11, .data⟩, ⟨9, .data⟩, ⟨7, .chain⟩, ⟨0, .phase⟩, ⟨1, .phase⟩, ⟨2, .phase⟩, ⟨3, .phase⟩, ⟨4, .phase⟩, ⟨5, .phase⟩, ⟨6, .phase⟩, ⟨7, .phase⟩, ⟨8, .phase⟩, ⟨9, .phase⟩, ⟨10, .textOnly .lateStores⟩, ⟨11, .phase⟩], none⟩) rfl (fun K hK => ?_) AllReadyH.nil
    try replace hsb : Blk w4 wA.heap.size [.int .i64 0, .string ⟨#[]⟩, .slice none 0 0] 29 := hsb
    have q0 := hsb.cell (i := 0) rfl
    have q1 := hsb.cell (i := 1) rfl
    have q2 := hsb.cell (i := 2) rfl
    have f0 := hsb.free 0
    have f1 := hsb.free 1
    have f2 := hsb.free 2
    go_simp
    have HR5 := Lib.hid (sg_rows HR4.out hsb (.int .i64 (i : Int)) (.string ⟨SG.toArray⟩) (.slice pa pn pc))
    have HSB : Hid (Blk _ _ [.int .i64 (i : Int), .string ⟨SG.toArray⟩, .slice pa pn pc] 29) := Lib.hid (((hsb.set 0 (.int .i64 (i : Int))).set 1 (.string ⟨SG.toArray⟩)).set 2 (.slice pa pn pc))
    refine hK.out _ _ (sgS_set hH3 hhb hsl _ _ _ hrlA) (fun hH4 => ?_)
    clear hK K
    try simp only [Act.put, List.setIfInBounds_toArray, List.set_cons_zero, List.set_cons_succ]
    refine wpAnyH_ready (rs := [13]) (by kernel_rfl) (by simp) ?_
    refine AllReadyH.cons (o := ⟨some 8, .assign (.tmp 57), 32, "keyring.go:140", #[⟨10, .data⟩, ⟨12, .chain⟩, ⟨0, .phase⟩, ⟨1, .phase⟩, ⟨2, .phase⟩, ⟨3, .phase⟩, ⟨4, .phase⟩, ⟨5, .phase⟩, ⟨6, .phase⟩, ⟨7, .phase⟩, ⟨8, .phase⟩, ⟨9, .phase⟩, ⟨10, .phase⟩, ⟨11, .phase⟩, ⟨12, .phase⟩], none⟩) rfl (fun K hK => ?_) AllReadyH.nil
    go_simp
    refine hK.out _ _ (hH4) (fun hH5 => ?_)
    clear hK K
    try simp only [Act.put, List.setIfInBounds_toArray, List.set_cons_zero, List.set_cons_succ]
    refine wpAnyH_done (by kernel_rfl) ?_ _
    generalize World.setCell (World.setCell (World.setCell _ _ _) _ _) _ _ = wF at HSB HR5 hH5 ⊢
    have kF := hH5.2.2
    have rF := hH5.2.1
    have s0 := HSB.out.cell (i := 0) rfl
    have s1 := HSB.out.cell (i := 1) rfl
    have s2 := HSB.out.cell (i := 2) rfl
    have lC : C.length = 33 := HLC.out
    obtain ⟨X, Y, hfA, lX, hfB, HY⟩ := sign_build C lC (.int .i64 (i : Int)) (.string ⟨SG.toArray⟩) (.slice pa pn pc)
    simp only [zeros, List.replicate, List.cons_append, List.nil_append] at hfA
    have lY : Hid (Y.length = 36) := Lib.hid (by rw [HY.out, List.length_append, lC]; rfl)
    have HZF := Lib.hid (sign_fin (HFIN.out.2.2.1.kept kF id) lY.out)
    go_wp2_with (first | ((with_reducible show wpList _ _ _ (⟨some 58, _, _, _, _, _⟩ :: _) _ _); refine wpList_load_mid rfl 25 _ rfl w.heap.size 0 rfl C _ rF Tryd.underlying25 rfl HI.out ?_) | ((with_reducible show wpList _ _ _ (⟨none, .store _ (.tmp 4) _, _, _, _, _⟩ :: _) _ _); refine wpList_store_mid rfl 31 _ _ rfl (w.heap.size + 1) 0 Y.toArray rfl rfl ?htv03 ?hiv03 ?h1v03 ?_))
    case htv03 => exact HZF.out.1
    case hiv03 => first | exact info_sized lY.out | simpa using info_sized lY.out
    case h1v03 => first | exact sign_one HY.out HCC.out | exact all_oneCell_toArray (sign_one HY.out HCC.out)
    refine bodyPost_ret (HZF.out.2.result2 rfl rfl Tryd.underlying31 rfl (info_sized lY.out)) rfl ?_
    exact sign_yes (S' := fun k => S k ∨ (Value.slice a1 n1 c1).ownBlock = some k) HFIN.out.1 (fun k hk => hk.elim Or.inl (fun q => (HFA2.out k q).imp id (fun o => by have := HSZ.out; omega))) HH.out.2.1 HH.out.2.2.1 HFIN.out.2.2.2.1 HFIN.out.2.2.2.2 kF HR5.out HY.out HCC.out HSG.out HDG2.out
  refine AllReadyH.cons (o := ⟨some 43, .buildSlice 41 1 #[(0, .tmp 42)], 41, "keyring.go:138", #[⟨5, .data⟩], none⟩) rfl (fun K hK => ?_) AllReadyH.nil
  go_simp
  refine hK.out _ _ (s12_alloc hH0 _ hbl) (fun hH1 => ?_)
  clear hK K
  try simp only [Act.put, List.setIfInBounds_toArray, List.set_cons_zero, List.set_cons_succ]
  refine wpAnyH_ready (rs := [4]) (by kernel_rfl) (by simp) ?_
  refine AllReadyH.cons (o := ⟨some 41, .load 41 (.tmp 40), 41, "keyring.go:138", #[⟨3, .data⟩], none⟩) rfl (fun K hK => ?_) AllReadyH.nil
  go_simp
  refine hK.out _ _ (hH1) (fun hH2 => ?_)
  clear hK K
  try simp only [Act.put, List.setIfInBounds_toArray, List.set_cons_zero, List.set_cons_succ]
  refine wpAnyH_ready (rs := [7]) (by kernel_rfl) (by simp) ?_
  refine AllReadyH.cons (o := ⟨some 44, .call { callee := .builtin .append, args := #[.tmp 41, .tmp 43], argTypes := #[41, 41] }, 41, "keyring.go:138", #[⟨4, .data⟩, ⟨6, .data⟩], none⟩) rfl (fun K hK => ?_) AllReadyH.nil
  refine step_append_run rfl _ _ 41 41 rfl _ _ rfl rfl _ _ hr1 ?_
  refine hK.out _ _ (HS7.out _ hH2) (fun hH3 => ?_)
  clear hK K
  try simp only [Act.put, List.setIfInBounds_toArray, List.set_cons_zero, List.set_cons_succ]
  refine wpAnyH_take (i := 8) (oi := ⟨some 45, .nilCheck (.tmp 37), 0, "keyring.go:138", #[⟨0, .data⟩, ⟨0, .phase⟩, ⟨1, .phase⟩, ⟨2, .phase⟩, ⟨3, .phase⟩, ⟨4, .phase⟩, ⟨5, .phase⟩, ⟨6, .phase⟩, ⟨7, .phase⟩], none⟩) (v := ?_) rfl (by kernel_rfl) (by kernel_rfl) (by kernel_rfl) (fun _ _ _ h => h) (Or.inl ⟨by rfl, fun w hSw => ?_⟩) hH3 ?_
  rotate_left 1
  · (try simp only [S12] at hSw); go_simp; (try with_reducible rfl)
  try simp only [Act.put, List.setIfInBounds_toArray, List.set_cons_zero, List.set_cons_succ]
  refine wpAnyH_take (i := 9) (oi := ⟨some 46, .fieldAddr 43 (.tmp 45) 2, 0, "keyring.go:138", #[⟨8, .data⟩, ⟨0, .phase⟩, ⟨1, .phase⟩, ⟨2, .phase⟩, ⟨3, .phase⟩, ⟨4, .phase⟩, ⟨5, .phase⟩, ⟨6, .phase⟩, ⟨7, .phase⟩], none⟩) (v := ?_) rfl (by kernel_rfl) (by kernel_rfl) (by kernel_rfl) (fun _ _ _ h => h) (Or.inl ⟨by rfl, fun w hSw => ?_⟩) hH3 ?_
  rotate_left 1
  · (try simp only [S12] at hSw); go_simp; (try with_reducible rfl)
  try simp only [Act.put, List.setIfInBounds_toArray, List.set_cons_zero, List.set_cons_succ]
  refine wpAnyH_ready (rs := [10]) (by kernel_rfl) (by simp) ?_
  refine AllReadyH.cons (o := ⟨none, .store 41 (.tmp 46) (.tmp 44), 0, "keyring.go:138", #[⟨9, .data⟩, ⟨7, .data⟩, ⟨7, .chain⟩, ⟨0, .phase⟩, ⟨1, .phase⟩, ⟨2, .phase⟩, ⟨3, .phase⟩, ⟨4, .phase⟩, ⟨5, .phase⟩, ⟨6, .phase⟩, ⟨7, .phase⟩], none⟩) rfl (fun K hK => ?_) AllReadyH.nil
  have q7 := HC7.out.1
  have f7 := HC7.out.2
  go_simp
  refine hK.out _ _ (HS8.out) (fun hH4 => ?_)
  clear hK K
  try simp only [Act.put, List.setIfInBounds_toArray, List.set_cons_zero, List.set_cons_succ]
  refine wpAnyH_done (by kernel_rfl) ?_ _
  go_wp2_with fail
  generalize World.setCell w7 _ (Value.slice a1 n1 c1) = wA at HFA ⊢
  have hrA := HFA.out.1
  have kS := HFA.out.2.1
  have HFA2 := Lib.hid HFA.out.2.2
  have HSZ := Lib.hid (show w.heap.size + 2 ≤ wB.heap.size from HSB2.out)
  have hbA : Blk wA w.heap.size (headC (size : Int) root) 25 := HBB.out.1.kept kS (nS _ (Nat.le_refl _))
  have hzA := HBB.out.2.1.kept kS (nS _ (by omega))
  have htA := HBB.out.2.2.2.2.kept kS HTS0.out.1 HTS0.out.2
  have kA : Kept (fun k => ¬ ownW w B k ∨ S k) (signW w (size : Int) root) wA := HBB.out.2.2.2.1.then_ kS (fun k _ q => Or.inr q)
  have haA : Apart (fun k => ownW w B k ∨ (S k ∨ (Value.slice a1 n1 c1).ownBlock = some k)) d M' wA := HBB.out.2.2.1.grow kS (fun k _ q => Or.inl (hS k q)) (fun k q => q.elim Or.inl (fun q => q.elim (fun q => Or.inl (Or.inl (hS k q))) (fun q => (HFA.out.2.2 k q).elim (fun q => Or.inl (Or.inl (hS k q))) Or.inr)))
  obtain ⟨⟨t, vv, hrb, htree, -, -, -⟩, -, -, -, hsh⟩ := id hrA
  have hrlA := hrA.lt
  have hhb : w.heap.size < wA.heap.size := hbA.lt
  have HTS := Lib.hid (fun w' (k : Kept (fun _ => False) wA w') => treeSign_any (htree.kept k id) i (digestF size root) hsh hi hDl (htA.same k))
  have HTB := Lib.hid (fun w' (k : Kept (fun _ => False) wA w') => htA.same k)
  have HFIN := Lib.hid (And.intro hrA (And.intro hbA (And.intro hzA (And.intro haA kA))))
  obtain ⟨SG, hSG⟩ : ∃ SG, signF R.seed.data.toList i (digestF size root) = SG := ⟨_, rfl⟩
  rw [hSG] at HTS
  have HSG := Lib.hid hSG
  obtain ⟨C, hC⟩ : ∃ C, headC (size : Int) root = C := ⟨_, rfl⟩
  have HCC := Lib.hid hC
  have SA : SgS wA wA.drew r t w.heap.size C := ⟨(hrb.drew).cell (i := 1) rfl, by rw [← hC]; exact (hbA.drew).range0, (Kept.refl _ _).drew⟩
  have HI : Hid ((Tryd.prog.info? 25).map (·.size) = some C.length) := by rw [← hC]; exact HI0
  have HLC := Lib.hid (show C.length = 33 by rw [← hC]; exact headC_len hroot)
  have HDG := Lib.hid (fun w' ht' => (by rw [← hC]; exact HDI.out w' ht' : Calls Tryd.prog 24 #[.agg C.toArray] w' fun e w'' => e = .returned (hashV (digestF size root)) ∧ Kept (fun _ => False) w' w''))
  generalize hDG : digestF size root = DG at *
  have HDG2 := Lib.hid hDG
  clear hDG hSG hrA hbA hzA haA htA kA hrb htree hsh hC
  refine wp_region_held_drew (S := (fun w' => SgS wA w' r t w.heap.size C)) (by kernel_rfl) SA (fun hH0 => ?_)
  refine wpAnyH_take (i := 0) (oi := ⟨some 48, .move (.tmp 0), 26, "keyring.go:140", #[], none⟩) (v := ?_) rfl (by kernel_rfl) (by kernel_rfl) (by kernel_rfl) (fun _ _ _ h => h) (Or.inl ⟨by rfl, fun w hSw => ?_⟩) hH0 ?_
  rotate_left 1
  · (try simp only [SgS] at hSw); go_simp; (try with_reducible rfl)
  try simp only [Act.put, List.setIfInBounds_toArray, List.set_cons_zero, List.set_cons_succ]
  refine wpAnyH_take (i := 1) (oi := ⟨some 49, .nilCheck (.tmp 48), 0, "keyring.go:140", #[⟨0, .data⟩], none⟩) (v := ?_) rfl (by kernel_rfl) (by kernel_rfl) (by kernel_rfl) (fun _ _ _ h => h) (Or.inl ⟨by rfl, fun w hSw => ?_⟩) hH0 ?_
  rotate_left 1
  · (try simp only [SgS] at hSw); go_simp; (try with_reducible rfl)
  try simp only [Act.put, List.setIfInBounds_toArray, List.set_cons_zero, List.set_cons_succ]
  refine wpAnyH_take (i := 2) (oi := ⟨some 50, .fieldAddr 43 (.tmp 49) 1, 0, "keyring.go:140", #[⟨1, .data⟩], none⟩) (v := ?_) rfl (by kernel_rfl) (by kernel_rfl) (by kernel_rfl) (fun _ _ _ h => h) (Or.inl ⟨by rfl, fun w hSw => ?_⟩) hH0 ?_
  rotate_left 1
  · (try simp only [SgS] at hSw); go_simp; (try with_reducible rfl)
  try simp only [Act.put, List.setIfInBounds_toArray, List.set_cons_zero, List.set_cons_succ]
  refine wpAnyH_take (i := 3) (oi := ⟨some 51, .load 40 (.tmp 50), 40, "keyring.go:140", #[⟨2, .data⟩], none⟩) (v := ?_) rfl (by kernel_rfl) (by kernel_rfl) (by kernel_rfl) (fun _ _ _ h => h) (Or.inl ⟨by rfl, fun w hSw => ?_⟩) hH0 ?_
  rotate_left 1
  · (try simp only [SgS] at hSw); go_simp; (try with_reducible rfl)
  try simp only [Act.put, List.setIfInBounds_toArray, List.set_cons_zero, List.set_cons_succ]
  refine wpAnyH_take (i := 4) (oi := ⟨some 52, .move (.tmp 6), 3, "keyring.go:140", #[], none⟩) (v := ?_) rfl (by kernel_rfl) (by kernel_rfl) (by kernel_rfl) (fun _ _ _ h => h) (Or.inl ⟨by rfl, fun w hSw => ?_⟩) hH0 ?_
  rotate_left 1
  · (try simp only [SgS] at hSw); go_simp; (try with_reducible rfl)
  try simp only [Act.put, List.setIfInBounds_toArray, List.set_cons_zero, List.set_cons_succ]
  refine wpAnyH_take (i := 5) (oi := ⟨some 53, .load 25 (.tmp 3), 25, "keyring.go:140", #[], none⟩) (v := .agg (C).toArray) rfl (by kernel_rfl) (by kernel_rfl) (by kernel_rfl) (fun _ _ _ h => h) (yieldsIf_load_mid (by rfl) _ _ rfl (w.heap.size) (0) rfl (C) _ (fun w q => q.2.1) Tryd.underlying25 rfl HI.out) hH0 ?_
  try simp only [Act.put, List.setIfInBounds_toArray, List.set_cons_zero, List.set_cons_succ]
  refine wpAnyH_ready (rs := [6, 11]) (by kernel_rfl) (by simp) ?_
  refine AllReadyH.cons (o := ⟨some 54, .call { callee := .value (.func 24), args := #[.tmp 53], argTypes := #[25] }, 23, "keyring.go:140", #[⟨5, .data⟩], none⟩) rfl (fun K hK => ?_) ?_
  · go_simp
    refine (HDG.out _ (HTB.out _ hH0.2.2)).mono ?_
    rintro e w3 ⟨rfl, hk3⟩
    try have hsb := hsb.kept hk3 id
    refine hK.out _ _ (sgS_next hH0 hhb hk3) (fun hH1 => ?_)
    clear hK K
    try simp only [Act.put, List.setIfInBounds_toArray, List.set_cons_zero, List.set_cons_succ]
    refine wpAnyH_ready (rs := [7, 11]) (by kernel_rfl) (by simp) ?_
    refine AllReadyH.cons (o := ⟨some 55, .call { callee := .value (.func 23), args := #[.tmp 51, .tmp 52, .tmp 54], argTypes := #[40, 3, 23] }, 68, "keyring.go:140", #[⟨3, .data⟩, ⟨4, .data⟩, ⟨6, .data⟩, ⟨6, .chain⟩], none⟩) rfl (fun K hK => ?_) ?_
    · go_simp
      refine (HTS.out _ hH1.2.2).mono ?_
      rintro e w4 ⟨v, rfl, hrow4, hown4, hk4⟩
      obtain ⟨pa, pn, pc, rfl, -⟩ := hrow4.form (by omega)
      have HR4 := Lib.hid (sg_row hH1.2.2 hrow4 hown4)
      try have hsb := hsb.kept hk4 id
      refine hK.out _ _ (sgS_next hH1 hhb hk4) (fun hH2 => ?_)
      clear hK K
      try simp only [Act.put, List.setIfInBounds_toArray, List.set_cons_zero, List.set_cons_succ]
      refine wpAnyH_take (i := 8) (oi := ⟨some 47, .move (.tmp 55), 68, "keyring.go:140", #[⟨7, .data⟩], none⟩) (v := ?_) rfl (by kernel_rfl) (by kernel_rfl) (by kernel_rfl) (fun _ _ _ h => h) (Or.inl ⟨by rfl, fun w hSw => ?_⟩) hH2 ?_
      rotate_left 1
      · (try simp only [SgS] at hSw); go_simp; (try with_reducible rfl)
      try simp only [Act.put, List.setIfInBounds_toArray, List.set_cons_zero, List.set_cons_succ]
      refine wpAnyH_take (i := 9) (oi := ⟨some 56, .extract (.tmp 47) 0, 29, "keyring.go:140", #[⟨8, .data⟩], none⟩) (v := ?_) rfl (by kernel_rfl) (by kernel_rfl) (by kernel_rfl) (fun _ _ _ h => h) (Or.inl ⟨by rfl, fun w hSw => ?_⟩) hH2 ?_
      rotate_left 1
      · (try simp only [SgS] at hSw); go_simp; (try with_reducible rfl)
      try simp only [Act.put, List.setIfInBounds_toArray, List.set_cons_zero, List.set_cons_succ]
      refine wpAnyH_take (i := 10) (oi := ⟨some 57, .extract (.tmp 47) 1, 32, "keyring.go:140", #[⟨8, .data⟩, ⟨12, .gcOnly .lateStores⟩], none⟩) (v := ?_) rfl (by kernel_rfl) (by kernel_rfl) (by kernel_rfl) (fun _ _ _ h => h) (Or.inl ⟨by rfl, fun w hSw => ?_⟩) hH2 ?_
      rotate_left 1
      · (try simp only [SgS] at hSw); go_simp; (try with_reducible rfl)
      try simp only [Act.put, List.setIfInBounds_toArray, List.set_cons_zero, List.set_cons_succ]
      refine wpAnyH_ready (rs := [11]) (by kernel_rfl) (by simp) ?_
      refine AllReadyH.cons (o := ⟨some 9, .alloc 29, 0, "keyring.go:140", #[], none⟩) rfl (fun K hK => ?_) AllReadyH.nil
      go_simp
      obtain ⟨hsb, hsl⟩ := sg_alloc hH2.2.2
      try change Blk (World.drew (World.alloc wA (.cells [.int .i64 0, .string ⟨#[]⟩, .slice none 0 0].toArray 29))) wA.heap.size _ _ at hsb
      try change wA.heap.size ≤ wA.heap.size at hsl
      try have HR4 := Lib.hid (sg_rowa HR4.out (.cells [.int .i64 0, .string ⟨#[]⟩, .slice none 0 0].toArray 29))
      refine hK.out _ _ (sgS_next hH2 hhb ((Kept.refl _ _).alloc _)) (fun hH3 => ?_)
      clear hK K
      try simp only [Act.put, List.setIfInBounds_toArray, List.set_cons_zero, List.set_cons_succ]
      first | generalize World.alloc _ _ = wS at hsb HR4 hH3 ⊢ | generalize World.alloc _ _ = wS at hsb hH3 ⊢
      refine wpAnyH_ready (rs := [12]) (by kernel_rfl) (by simp) ?_
      refine AllReadyH.cons (o := ⟨none, .store 29 (.tmp 9) (.tmp 56), 0, "keyring.go:140", #[⟨11, .data⟩, ⟨9, .data⟩, ⟨7, .chain⟩, ⟨0, .phase⟩, ⟨1, .phase⟩, ⟨2, .phase⟩, ⟨3, .phase⟩, ⟨4, .phase⟩, ⟨5, .phase⟩, ⟨6, .phase⟩, ⟨7, .phase⟩, ⟨8, .phase⟩, ⟨9, .phase⟩, ⟨10, .textOnly .lateStores⟩, ⟨11, .phase⟩], none⟩) rfl (fun K hK => ?_) AllReadyH.nil
      try replace hsb : Blk w4 wA.heap.size [.int .i64 0, .string ⟨#[]⟩, .slice none 0 0] 29 := hsb
      have q0 := hsb.cell (i := 0) rfl
      have q1 := hsb.cell (i := 1) rfl
      have q2 := hsb.cell (i := 2) rfl
      have f0 := hsb.free 0
      have f1 := hsb.free 1
      have f2 := hsb.free 2
      go_simp
      have HR5 := Lib.hid (sg_rows HR4.out hsb (.int .i64 (i : Int)) (.string ⟨SG.toArray⟩) (.slice pa pn pc))
      have HSB : Hid (Blk _ _ [.int .i64 (i : Int), .string ⟨SG.toArray⟩, .slice pa pn pc] 29) := Lib.hid (((hsb.set 0 (.int .i64 (i : Int))).set 1 (.string ⟨SG.toArray⟩)).set 2 (.slice pa pn pc))
      refine hK.out _ _ (sgS_set hH3 hhb hsl _ _ _ hrlA) (fun hH4 => ?_)
      clear hK K
      try simp only [Act.put, List.setIfInBounds_toArray, List.set_cons_zero, List.set_cons_succ]
      refine wpAnyH_ready (rs := [13]) (by kernel_rfl) (by simp) ?_
      refine AllReadyH.cons (o := ⟨some 8, .assign (.tmp 57), 32, "keyring.go:140", #[⟨10, .data⟩, ⟨12, .chain⟩, ⟨0, .phase⟩, ⟨1, .phase⟩, ⟨2, .phase⟩, ⟨3, .phase⟩, ⟨4, .phase⟩, ⟨5, .phase⟩, ⟨6, .phase⟩, ⟨7, .phase⟩, ⟨8, .phase⟩, ⟨9, .phase⟩, ⟨10, .phase⟩, ⟨11, .phase⟩, ⟨12, .phase⟩], none⟩) rfl (fun K hK => ?_) AllReadyH.nil
      go_simp
      refine hK.out _ _ (hH4) (fun hH5 => ?_)
      clear hK K
      try simp only [Act.put, List.setIfInBounds_toArray, List.set_cons_zero, List.set_cons_succ]
      refine wpAnyH_done (by kernel_rfl) ?_ _
      generalize World.setCell (World.setCell (World.setCell _ _ _) _ _) _ _ = wF at HSB HR5 hH5 ⊢
      have kF := hH5.2.2
      have rF := hH5.2.1
      have s0 := HSB.out.cell (i := 0) rfl
      have s1 := HSB.out.cell (i := 1) rfl
      have s2 := HSB.out.cell (i := 2) rfl
      have lC : C.length = 33 := HLC.out
      obtain ⟨X, Y, hfA, lX, hfB, HY⟩ := sign_build C lC (.int .i64 (i : Int)) (.string ⟨SG.toArray⟩) (.slice pa pn pc)
      simp only [zeros, List.replicate, List.cons_append, List.nil_append] at hfA
      have lY : Hid (Y.length = 36) := Lib.hid (by rw [HY.out, List.length_append, lC]; rfl)
      have HZF := Lib.hid (sign_fin (HFIN.out.2.2.1.kept kF id) lY.out)
      go_wp2_with (first | ((with_reducible show wpList _ _ _ (⟨some 58, _, _, _, _, _⟩ :: _) _ _); refine wpList_load_mid rfl 25 _ rfl w.heap.size 0 rfl C _ rF Tryd.underlying25 rfl HI.out ?_) | ((with_reducible show wpList _ _ _ (⟨none, .store _ (.tmp 4) _, _, _, _, _⟩ :: _) _ _); refine wpList_store_mid rfl 31 _ _ rfl (w.heap.size + 1) 0 Y.toArray rfl rfl ?htv11 ?hiv11 ?h1v11 ?_))
      case htv11 => exact HZF.out.1
      case hiv11 => first | exact info_sized lY.out | simpa using info_sized lY.out
      case h1v11 => first | exact sign_one HY.out HCC.out | exact all_oneCell_toArray (sign_one HY.out HCC.out)
      refine bodyPost_ret (HZF.out.2.result2 rfl rfl Tryd.underlying31 rfl (info_sized lY.out)) rfl ?_
      exact sign_yes (S' := fun k => S k ∨ (Value.slice a1 n1 c1).ownBlock = some k) HFIN.out.1 (fun k hk => hk.elim Or.inl (fun q => (HFA2.out k q).imp id (fun o => by have := HSZ.out; omega))) HH.out.2.1 HH.out.2.2.1 HFIN.out.2.2.2.1 HFIN.out.2.2.2.2 kF HR5.out HY.out HCC.out HSG.out HDG2.out
    refine AllReadyH.cons (o := ⟨some 9, .alloc 29, 0, "keyring.go:140", #[], none⟩) rfl (fun K hK => ?_) AllReadyH.nil
    go_simp
    obtain ⟨hsb, hsl⟩ := sg_alloc hH1.2.2
    try change Blk (World.drew (World.alloc wA (.cells [.int .i64 0, .string ⟨#[]⟩, .slice none 0 0].toArray 29))) wA.heap.size _ _ at hsb
    try change wA.heap.size ≤ wA.heap.size at hsl
    try have HR4 := Lib.hid (sg_rowa HR4.out (.cells [.int .i64 0, .string ⟨#[]⟩, .slice none 0 0].toArray 29))
    refine hK.out _ _ (sgS_next hH1 hhb ((Kept.refl _ _).alloc _)) (fun hH2 => ?_)
    clear hK K
    try simp only [Act.put, List.setIfInBounds_toArray, List.set_cons_zero, List.set_cons_succ]
    first | generalize World.alloc _ _ = wS at hsb HR4 hH2 ⊢ | generalize World.alloc _ _ = wS at hsb hH2 ⊢
    refine wpAnyH_ready (rs := [7]) (by kernel_rfl) (by simp) ?_
    refine AllReadyH.cons (o := ⟨some 55, .call { callee := .value (.func 23), args := #[.tmp 51, .tmp 52, .tmp 54], argTypes := #[40, 3, 23] }, 68, "keyring.go:140", #[⟨3, .data⟩, ⟨4, .data⟩, ⟨6, .data⟩, ⟨6, .chain⟩], none⟩) rfl (fun K hK => ?_) AllReadyH.nil
    go_simp
    refine (HTS.out _ hH2.2.2).mono ?_
    rintro e w4 ⟨v, rfl, hrow4, hown4, hk4⟩
    obtain ⟨pa, pn, pc, rfl, -⟩ := hrow4.form (by omega)
    have HR4 := Lib.hid (sg_row hH2.2.2 hrow4 hown4)
    try have hsb := hsb.kept hk4 id
    refine hK.out _ _ (sgS_next hH2 hhb hk4) (fun hH3 => ?_)
    clear hK K
    try simp only [Act.put, List.setIfInBounds_toArray, List.set_cons_zero, List.set_cons_succ]
    refine wpAnyH_take (i := 8) (oi := ⟨some 47, .move (.tmp 55), 68, "keyring.go:140", #[⟨7, .data⟩], none⟩) (v := ?_) rfl (by kernel_rfl) (by kernel_rfl) (by kernel_rfl) (fun _ _ _ h => h) (Or.inl ⟨by rfl, fun w hSw => ?_⟩) hH3 ?_
    rotate_left 1
    · (try simp only [SgS] at hSw); go_simp; (try with_reducible rfl)
    try simp only [Act.put, List.setIfInBounds_toArray, List.set_cons_zero, List.set_cons_succ]
    refine wpAnyH_take (i := 9) (oi := ⟨some 56, .extract (.tmp 47) 0, 29, "keyring.go:140", #[⟨8, .data⟩], none⟩) (v := ?_) rfl (by kernel_rfl) (by kernel_rfl) (by kernel_rfl) (fun _ _ _ h => h) (Or.inl ⟨by rfl, fun w hSw => ?_⟩) hH3 ?_
    rotate_left 1
    · (try simp only [SgS] at hSw); go_simp; (try with_reducible rfl)
    try simp only [Act.put, List.setIfInBounds_toArray, List.set_cons_zero, List.set_cons_succ]
    refine wpAnyH_take (i := 10) (oi := ⟨some 57, .extract (.tmp 47) 1, 32, "keyring.go:140", #[⟨8, .data⟩, ⟨12, .gcOnly .lateStores⟩], none⟩) (v := ?_) rfl (by kernel_rfl) (by kernel_rfl) (by kernel_rfl) (fun _ _ _ h => h) (Or.inl ⟨by rfl, fun w hSw => ?_⟩) hH3 ?_
    rotate_left 1
    · (try simp only [SgS] at hSw); go_simp; (try with_reducible rfl)
    try simp only [Act.put, List.setIfInBounds_toArray, List.set_cons_zero, List.set_cons_succ]
    refine wpAnyH_ready (rs := [12]) (by kernel_rfl) (by simp) ?_
    refine AllReadyH.cons (o := ⟨none, .store 29 (.tmp 9) (.tmp 56), 0, "keyring.go:140", #[⟨11, .data⟩, ⟨9, .data⟩, ⟨7, .chain⟩, ⟨0, .phase⟩, ⟨1, .phase⟩, ⟨2, .phase⟩, ⟨3, .phase⟩, ⟨4, .phase⟩, ⟨5, .phase⟩, ⟨6, .phase⟩, ⟨7, .phase⟩, ⟨8, .phase⟩, ⟨9, .phase⟩, ⟨10, .textOnly .lateStores⟩, ⟨11, .phase⟩], none⟩) rfl (fun K hK => ?_) AllReadyH.nil
    try replace hsb : Blk w4 wA.heap.size [.int .i64 0, .string ⟨#[]⟩, .slice none 0 0] 29 := hsb
    have q0 := hsb.cell (i := 0) rfl
    have q1 := hsb.cell (i := 1) rfl
    have q2 := hsb.cell (i := 2) rfl
    have f0 := hsb.free 0
    have f1 := hsb.free 1
    have f2 := hsb.free 2
    go_simp
    have HR5 := Lib.hid (sg_rows HR4.out hsb (.int .i64 (i : Int)) (.string ⟨SG.toArray⟩) (.slice pa pn pc))
    have HSB : Hid (Blk _ _ [.int .i64 (i : Int), .string ⟨SG.toArray⟩, .slice pa pn pc] 29) := Lib.hid (((hsb.set 0 (.int .i64 (i : Int))).set 1 (.string ⟨SG.toArray⟩)).set 2 (.slice pa pn pc))
    refine hK.out _ _ (sgS_set hH3 hhb hsl _ _ _ hrlA) (fun hH4 => ?_)
    clear hK K
    try simp only [Act.put, List.setIfInBounds_toArray, List.set_cons_zero, List.set_cons_succ]
    refine wpAnyH_ready (rs := [13]) (by kernel_rfl) (by simp) ?_
    refine AllReadyH.cons (o := ⟨some 8, .assign (.tmp 57), 32, "keyring.go:140", #[⟨10, .data⟩, ⟨12, .chain⟩, ⟨0, .phase⟩, ⟨1, .phase⟩, ⟨2, .phase⟩, ⟨3, .phase⟩, ⟨4, .phase⟩, ⟨5, .phase⟩, ⟨6, .phase⟩, ⟨7, .phase⟩, ⟨8, .phase⟩, ⟨9, .phase⟩, ⟨10, .phase⟩, ⟨11, .phase⟩, ⟨12, .phase⟩], none⟩) rfl (fun K hK => ?_) AllReadyH.nil
    go_simp
    refine hK.out _ _ (hH4) (fun hH5 => ?_)
    clear hK K
    try simp only [Act.put, List.setIfInBounds_toArray, List.set_cons_zero, List.set_cons_succ]
    refine wpAnyH_done (by kernel_rfl) ?_ _
    generalize World.setCell (World.setCell (World.setCell _ _ _) _ _) _ _ = wF at HSB HR5 hH5 ⊢
    have kF := hH5.2.2
    have rF := hH5.2.1
    have s0 := HSB.out.cell (i := 0) rfl
    have s1 := HSB.out.cell (i := 1) rfl
    have s2 := HSB.out.cell (i := 2) rfl
    have lC : C.length = 33 := HLC.out
    obtain ⟨X, Y, hfA, lX, hfB, HY⟩ := sign_build C lC (.int .i64 (i : Int)) (.string ⟨SG.toArray⟩) (.slice pa pn pc)
    simp only [zeros, List.replicate, List.cons_append, List.nil_append] at hfA
    have lY : Hid (Y.length = 36) := Lib.hid (by rw [HY.out, List.length_append, lC]; rfl)
    have HZF := Lib.hid (sign_fin (HFIN.out.2.2.1.kept kF id) lY.out)
    go_wp2_with (first | ((with_reducible show wpList _ _ _ (⟨some 58, _, _, _, _, _⟩ :: _) _ _); refine wpList_load_mid rfl 25 _ rfl w.heap.size 0 rfl C _ rF Tryd.underlying25 rfl HI.out ?_) | ((with_reducible show wpList _ _ _ (⟨none, .store _ (.tmp 4) _, _, _, _, _⟩ :: _) _ _); refine wpList_store_mid rfl 31 _ _ rfl (w.heap.size + 1) 0 Y.toArray rfl rfl ?htv12 ?hiv12 ?h1v12 ?_))
    case htv12 => exact HZF.out.1
    case hiv12 => first | exact info_sized lY.out | simpa using info_sized lY.out
    case h1v12 => first | exact sign_one HY.out HCC.out | exact all_oneCell_toArray (sign_one HY.out HCC.out)
    refine bodyPost_ret (HZF.out.2.result2 rfl rfl Tryd.underlying31 rfl (info_sized lY.out)) rfl ?_
    exact sign_yes (S' := fun k => S k ∨ (Value.slice a1 n1 c1).ownBlock = some k) HFIN.out.1 (fun k hk => hk.elim Or.inl (fun q => (HFA2.out k q).imp id (fun o => by have := HSZ.out; omega))) HH.out.2.1 HH.out.2.2.1 HFIN.out.2.2.2.1 HFIN.out.2.2.2.2 kF HR5.out HY.out HCC.out HSG.out HDG2.out
  refine AllReadyH.cons (o := ⟨some 9, .alloc 29, 0, "keyring.go:140", #[], none⟩) rfl (fun K hK => ?_) AllReadyH.nil
  go_simp
  obtain ⟨hsb, hsl⟩ := sg_alloc hH0.2.2
  try change Blk (World.drew (World.alloc wA (.cells [.int .i64 0, .string ⟨#[]⟩, .slice none 0 0].toArray 29))) wA.heap.size _ _ at hsb
  try change wA.heap.size ≤ wA.heap.size at hsl
  try have HR4 := Lib.hid (sg_rowa HR4.out (.cells [.int .i64 0, .string ⟨#[]⟩, .slice none 0 0].toArray 29))
  refine hK.out _ _ (sgS_next hH0 hhb ((Kept.refl _ _).alloc _)) (fun hH1 => ?_)
  clear hK K
  try simp only [Act.put, List.setIfInBounds_toArray, List.set_cons_zero, List.set_cons_succ]
  first | generalize World.alloc _ _ = wS at hsb HR4 hH1 ⊢ | generalize World.alloc _ _ = wS at hsb hH1 ⊢
  refine wpAnyH_ready (rs := [6]) (by kernel_rfl) (by simp) ?_
  refine AllReadyH.cons (o := ⟨some 54, .call { callee := .value (.func 24), args := #[.tmp 53], argTypes := #[25] }, 23, "keyring.go:140", #[⟨5, .data⟩], none⟩) rfl (fun K hK => ?_) AllReadyH.nil
  go_simp
  refine (HDG.out _ (HTB.out _ hH1.2.2)).mono ?_
  rintro e w3 ⟨rfl, hk3⟩
  try have hsb := hsb.kept hk3 id
  refine hK.out _ _ (sgS_next hH1 hhb hk3) (fun hH2 => ?_)
  clear hK K
  try simp only [Act.put, List.setIfInBounds_toArray, List.set_cons_zero, List.set_cons_succ]
  refine wpAnyH_ready (rs := [7]) (by kernel_rfl) (by simp) ?_
  refine AllReadyH.cons (o := ⟨some 55, .call { callee := .value (.func 23), args := #[.tmp 51, .tmp 52, .tmp 54], argTypes := #[40, 3, 23] }, 68, "keyring.go:140", #[⟨3, .data⟩, ⟨4, .data⟩, ⟨6, .data⟩, ⟨6, .chain⟩], none⟩) rfl (fun K hK => ?_) AllReadyH.nil
  go_simp
  refine (HTS.out _ hH2.2.2).mono ?_
  rintro e w4 ⟨v, rfl, hrow4, hown4, hk4⟩
  obtain ⟨pa, pn, pc, rfl, -⟩ := hrow4.form (by omega)
  have HR4 := Lib.hid (sg_row hH2.2.2 hrow4 hown4)
  try have hsb := hsb.kept hk4 id
  refine hK.out _ _ (sgS_next hH2 hhb hk4) (fun hH3 => ?_)
  clear hK K
  try simp only [Act.put, List.setIfInBounds_toArray, List.set_cons_zero, List.set_cons_succ]
  refine wpAnyH_take (i := 8) (oi := ⟨some 47, .move (.tmp 55), 68, "keyring.go:140", #[⟨7, .data⟩], none⟩) (v := ?_) rfl (by kernel_rfl) (by kernel_rfl) (by kernel_rfl) (fun _ _ _ h => h) (Or.inl ⟨by rfl, fun w hSw => ?_⟩) hH3 ?_
  rotate_left 1
  · (try simp only [SgS] at hSw); go_simp; (try with_reducible rfl)
  try simp only [Act.put, List.setIfInBounds_toArray, List.set_cons_zero, List.set_cons_succ]
  refine wpAnyH_take (i := 9) (oi := ⟨some 56, .extract (.tmp 47) 0, 29, "keyring.go:140", #[⟨8, .data⟩], none⟩) (v := ?_) rfl (by kernel_rfl) (by kernel_rfl) (by kernel_rfl) (fun _ _ _ h => h) (Or.inl ⟨by rfl, fun w hSw => ?_⟩) hH3 ?_
  rotate_left 1
  · (try simp only [SgS] at hSw); go_simp; (try with_reducible rfl)
  try simp only [Act.put, List.setIfInBounds_toArray, List.set_cons_zero, List.set_cons_succ]
  refine wpAnyH_take (i := 10) (oi := ⟨some 57, .extract (.tmp 47) 1, 32, "keyring.go:140", #[⟨8, .data⟩, ⟨12, .gcOnly .lateStores⟩], none⟩) (v := ?_) rfl (by kernel_rfl) (by kernel_rfl) (by kernel_rfl) (fun _ _ _ h => h) (Or.inl ⟨by rfl, fun w hSw => ?_⟩) hH3 ?_
  rotate_left 1
  · (try simp only [SgS] at hSw); go_simp; (try with_reducible rfl)
  try simp only [Act.put, List.setIfInBounds_toArray, List.set_cons_zero, List.set_cons_succ]
  refine wpAnyH_ready (rs := [12]) (by kernel_rfl) (by simp) ?_
  refine AllReadyH.cons (o := ⟨none, .store 29 (.tmp 9) (.tmp 56), 0, "keyring.go:140", #[⟨11, .data⟩, ⟨9, .data⟩, ⟨7, .chain⟩, ⟨0, .phase⟩, ⟨1, .phase⟩, ⟨2, .phase⟩, ⟨3, .phase⟩, ⟨4, .phase⟩, ⟨5, .phase⟩, ⟨6, .phase⟩, ⟨7, .phase⟩, ⟨8, .phase⟩, ⟨9, .phase⟩, ⟨10, .textOnly .lateStores⟩, ⟨11, .phase⟩], none⟩) rfl (fun K hK => ?_) AllReadyH.nil
  try replace hsb : Blk w4 wA.heap.size [.int .i64 0, .string ⟨#[]⟩, .slice none 0 0] 29 := hsb
  have q0 := hsb.cell (i := 0) rfl
  have q1 := hsb.cell (i := 1) rfl
  have q2 := hsb.cell (i := 2) rfl
  have f0 := hsb.free 0
  have f1 := hsb.free 1
  have f2 := hsb.free 2
  go_simp
  have HR5 := Lib.hid (sg_rows HR4.out hsb (.int .i64 (i : Int)) (.string ⟨SG.toArray⟩) (.slice pa pn pc))
  have HSB : Hid (Blk _ _ [.int .i64 (i : Int), .string ⟨SG.toArray⟩, .slice pa pn pc] 29) := Lib.hid (((hsb.set 0 (.int .i64 (i : Int))).set 1 (.string ⟨SG.toArray⟩)).set 2 (.slice pa pn pc))
  refine hK.out _ _ (sgS_set hH3 hhb hsl _ _ _ hrlA) (fun hH4 => ?_)
  clear hK K
  try simp only [Act.put, List.setIfInBounds_toArray, List.set_cons_zero, List.set_cons_succ]
  refine wpAnyH_ready (rs := [13]) (by kernel_rfl) (by simp) ?_
  refine AllReadyH.cons (o := ⟨some 8, .assign (.tmp 57), 32, "keyring.go:140", #[⟨10, .data⟩, ⟨12, .chain⟩, ⟨0, .phase⟩, ⟨1, .phase⟩, ⟨2, .phase⟩, ⟨3, .phase⟩, ⟨4, .phase⟩, ⟨5, .phase⟩, ⟨6, .phase⟩, ⟨7, .phase⟩, ⟨8, .phase⟩, ⟨9, .phase⟩, ⟨10, .phase⟩, ⟨11, .phase⟩, ⟨12, .phase⟩], none⟩) rfl (fun K hK => ?_) AllReadyH.nil
  go_simp
  refine hK.out _ _ (hH4) (fun hH5 => ?_)
  clear hK K
  try simp only [Act.put, List.setIfInBounds_toArray, List.set_cons_zero, List.set_cons_succ]
  refine wpAnyH_done (by kernel_rfl) ?_ _
  generalize World.setCell (World.setCell (World.setCell _ _ _) _ _) _ _ = wF at HSB HR5 hH5 ⊢
  have kF := hH5.2.2
  have rF := hH5.2.1
  have s0 := HSB.out.cell (i := 0) rfl
  have s1 := HSB.out.cell (i := 1) rfl
  have s2 := HSB.out.cell (i := 2) rfl
  have lC : C.length = 33 := HLC.out
  obtain ⟨X, Y, hfA, lX, hfB, HY⟩ := sign_build C lC (.int .i64 (i : Int)) (.string ⟨SG.toArray⟩) (.slice pa pn pc)
  simp only [zeros, List.replicate, List.cons_append, List.nil_append] at hfA
  have lY : Hid (Y.length = 36) := Lib.hid (by rw [HY.out, List.length_append, lC]; rfl)
  have HZF := Lib.hid (sign_fin (HFIN.out.2.2.1.kept kF id) lY.out)
  go_wp2_with (first | ((with_reducible show wpList _ _ _ (⟨some 58, _, _, _, _, _⟩ :: _) _ _); refine wpList_load_mid rfl 25 _ rfl w.heap.size 0 rfl C _ rF Tryd.underlying25 rfl HI.out ?_) | ((with_reducible show wpList _ _ _ (⟨none, .store _ (.tmp 4) _, _, _, _, _⟩ :: _) _ _); refine wpList_store_mid rfl 31 _ _ rfl (w.heap.size + 1) 0 Y.toArray rfl rfl ?htv13 ?hiv13 ?h1v13 ?_))
  case htv13 => exact HZF.out.1
  case hiv13 => first | exact info_sized lY.out | simpa using info_sized lY.out
  case h1v13 => first | exact sign_one HY.out HCC.out | exact all_oneCell_toArray (sign_one HY.out HCC.out)
  refine bodyPost_ret (HZF.out.2.result2 rfl rfl Tryd.underlying31 rfl (info_sized lY.out)) rfl ?_
  exact sign_yes (S' := fun k => S k ∨ (Value.slice a1 n1 c1).ownBlock = some k) HFIN.out.1 (fun k hk => hk.elim Or.inl (fun q => (HFA2.out k q).imp id (fun o => by have := HSZ.out; omega))) HH.out.2.1 HH.out.2.2.1 HFIN.out.2.2.2.1 HFIN.out.2.2.2.2 kF HR5.out HY.out HCC.out HSG.out HDG2.out
end
end Go.Proofs.YtaimokclhcfohaaDoor

namespace Go.Proofs.YtaimokclhcfohaaDoor
open Go.RowKit

section
variable {w : World} {r d : Nat} {R : RingM} {S : Nat → Prop}
/-- A hash is stored into the result. -/
theorem res_hash {w1 : World} {b : Nat} {c : List Value} {H : By} (h : Blk w1 b c 23) (hc : c.length = 32) (hH : H.length = 32) : w1.there b 0 (bytes8 H).toArray.size ∧ Blk (w1.setCells b 0 (bytes8 H)) b (bytes8 H) 23 := hash_stored h hc hH
set_option maxRecDepth 100000 in
set_option maxHeartbeats 1000000 in
theorem ring_key (h : IsRing w r d R S) (ht : Tab w) :
    Calls Tryd.prog 8 #[.pointer (some ⟨r, 0, none⟩)] w fun e w' => e = .returned (hashV (rootF (leavesF R.seed.data.toList))) ∧ Kept (fun _ => False) w w' := by
  have ka : Kept (fun _ => False) w (w.alloc (.cells (zeros 32).toArray 23)) := (Kept.refl _ _).alloc _
  have hn := ring_none (h.same ka)
  have h' := h.same ka
  obtain ⟨⟨t, v, h1, h2, h3, h4, h5⟩, h6, h7, h8, h9⟩ := h'
  have c1 := h1.cell (i := 1) rfl
  have c1b := c1
  simp only [zeros, List.replicate] at c1b
  have hb := Blk.new w (zeros 32) 23
  have hroot := (treeRoot_any h2 (ht.same ka)).mono (R' := fun e w2 => e = .returned (hashV (rootF (leavesF R.seed.data.toList))) ∧ Hid (Blk w2 w.heap.size (zeros 32) 23 ∧ Kept (fun _ => False) w w2)) (fun e w2 q => ⟨q.1, Lib.hid ⟨hb.kept q.2 id, ka.trans q.2⟩⟩)
  have hl := rootF_len h2.2.2
  generalize rootF (leavesF R.seed.data.toList) = H at *
  have HN := Lib.hid hn
  have HR := Lib.hid hroot
  have HL := Lib.hid hl
  have HI := Lib.hid (show (Tryd.prog.info? 23).map (·.size) = some (bytes8 H).length by rw [bytes8_len, hl]; exact info_h32)
  clear hn hroot hl h1 h2 h3 h4 h5 h6 h7 h8 h9 hb ka h
  go_enter Tryd.func8, Tryd.ntmps8
  go_wp2_with (first | (go_at_call 19; refine HN.out.mono ?_; rintro e w' ⟨rfl, rfl⟩) | (go_at_call 25; refine HR.out.mono ?_; rintro e w2 ⟨rfl, HB⟩) | ((with_reducible show wpList _ _ _ (⟨none, .store _ (.tmp 2) _, _, _, _, _⟩ :: _) _ _); refine wpList_store_mid rfl 23 _ _ rfl w.heap.size 0 (bytes8 H).toArray rfl rfl ?hth ?hi ?h1 ?_))
  case hth => exact (hash_stored HB.out.1 (zeros_len 32) HL.out).1
  case hi => first | exact info_hash HL.out | simpa using info_hash HL.out
  case h1 => first | exact all_oneCell_toArray (fun y hy => u8_oneCell y hy) | exact fun y hy => u8_oneCell y hy
  have hst := hash_stored HB.out.1 (zeros_len 32) HL.out
  refine bodyPost_ret (hst.2.result rfl rfl Tryd.underlying23 rfl HI.out) rfl ⟨rfl, ?_⟩
  exact HB.out.2.then_ (kept_setCells _ _ _ _) (fun i hi e => by omega)
set_option maxRecDepth 100000 in
set_option maxHeartbeats 1000000 in
theorem noring_key (w : World) (v : Value) (hv : NoRing w v) :
    Calls Tryd.prog 8 #[v] w fun e w' => e = .returned (.agg (zeros 32).toArray) ∧ Kept (fun _ => False) w w' := by
  have ka : Kept (fun _ => False) w (w.alloc (.cells (zeros 32).toArray 23)) := (Kept.refl _ _).alloc _
  have hv' : NoRing (w.alloc (.cells (zeros 32).toArray 23)) v := hv.elim Or.inl (fun ⟨r, h1, h2⟩ => Or.inr ⟨r, h1, ka.cell h2 id⟩)
  have HN := Lib.hid (noring_none _ v hv')
  have hb := Blk.new w (zeros 32) 23
  have hz : zeros 32 = bytes8 (List.replicate 32 0) := zeros_bytes8 32
  have HB := Lib.hid (And.intro hb (hash_stored (H := List.replicate 32 0) hb (zeros_len 32) (by simp)))
  have HI := Lib.hid (show (Tryd.prog.info? 23).map (·.size) = some (zeros 32).length by rw [zeros_len]; exact info_h32)
  rw [← hz] at HB
  clear hb hv hv' ka hz
  go_enter Tryd.func8, Tryd.ntmps8
  go_wp2_with (first | (go_at_call 19; refine HN.out.mono ?_; rintro e w' ⟨rfl, rfl⟩) | ((with_reducible show wpList _ _ _ (⟨none, .store _ (.tmp 2) _, _, _, _, _⟩ :: _) _ _); refine wpList_store_mid rfl 23 _ _ rfl w.heap.size 0 (zeros 32).toArray rfl rfl ?hth ?hi ?h1 ?_))
  case hth => exact HB.out.2.1
  case hi => first | exact HI.out | simpa using HI.out
  case h1 => exact all_oneCell_toArray (fun y hy => by rw [zeros_bytes8] at hy; exact u8_oneCell y hy)
  refine bodyPost_ret (HB.out.2.2.result rfl rfl Tryd.underlying23 rfl HI.out) rfl ⟨rfl, ?_⟩
  exact ((Kept.refl (fun _ => False) w).alloc _).then_ (kept_setCells _ _ _ _) (fun i hi e => by omega)
/-- What holds all the way through Last's statement. -/
abbrev LastS (wA w' : World) (r g m cap b : Nat) (C : List Value) : Prop := w'.cell? ⟨r, 2, none⟩ = some (.slice (some ⟨g, 0, none⟩) (m + 1) cap) ∧ w'.rangeAt g (m * 33) C ∧ (∃ D : List Value, D.length = 33 ∧ Blk w' b D 25) ∧ Kept (· = b) wA w'
theorem lastS_store {wA w1 : World} {r g m cap b : Nat} {C : List Value} (hC : C.length = 33) (hr : r ≠ b) (hg : g ≠ b) (hgl : g < wA.heap.size) (h : LastS wA w1 r g m cap b C) : w1.there b 0 C.toArray.size ∧ LastS wA (w1.setCells b 0 C.toArray.toList) r g m cap b C ∧ Blk (w1.setCells b 0 C.toArray.toList) b C 25 := by
  obtain ⟨h1, h2, ⟨D, hD, hb⟩, hk⟩ := h
  have k := kept_setCells w1 b 0 C
  have hb2 := hb.setCells 0 C (by omega)
  rw [splice_whole (by omega)] at hb2
  exact ⟨hb.there 0 _ (by rw [List.size_toArray]; omega), ⟨k.cell h1 hr, rangeAt_kept h2 k (Nat.lt_of_lt_of_le hgl hk.size) hg, ⟨C, hC, hb2⟩, hk.then_ k (fun _ _ e => e)⟩, hb2⟩
theorem head0_len : (headC 0 zeroRoot).length = 33 := headC_len (by simp)
/-- The world in which Last begins. -/
abbrev lastW (w : World) : World := w.alloc (.cells (headC 0 zeroRoot).toArray 25)
set_option maxRecDepth 100000 in
set_option maxHeartbeats 2000000 in
theorem ring_last (h : IsRing w r d R S) (m : Nat) (a : Hd) (hm : R.signed[m]? = some a) (hl : R.signed.length = m + 1) :
    Calls Tryd.prog 6 #[.pointer (some ⟨r, 0, none⟩)] w fun e w' => e = .returned (.tuple #[headV (a.1 : Int) a.2, .bool true]) ∧ Kept (fun _ => False) w w' := by
  have kA : Kept (fun _ => False) w (lastW w) := (Kept.refl _ _).alloc _
  have hu := ring_used (h.same kA)
  rw [hl] at hu
  have hrl := h.lt
  have h' := h.same kA
  have ha32 := (h.oks a (List.mem_of_getElem? hm)).2.2
  have hm8 := h.few
  obtain ⟨⟨t, v, h1, h2, h3, h4, h5⟩, h6, h7, h8, h9⟩ := h'
  obtain ⟨x, n, cap, rfl, hn, _, hx⟩ := h3.form (by omega)
  rw [hdC_len (fun x hx => (h7 x hx).2.2)] at hn
  obtain rfl : n = m + 1 := by omega
  obtain ⟨g, rfl, hg, _⟩ := hx (by omega)
  have hgl := h3.lt hg
  have hr := h3.rangeAt (m * 33) 33
  rw [hdC_at (fun x hx => (h7 x hx).2.2) m hm] at hr
  have hb := head_blk w 0 zeroRoot
  have hgw : g ≠ w.heap.size := by
    obtain ⟨⟨t', v', q1, q2, q3, q4, q5⟩, -⟩ := id h
    have e : v' = .slice (some ⟨g, 0, none⟩) (m + 1) cap := by
      have c1 := (q1.kept kA id).cell (i := 2) rfl
      rw [h1.cell (i := 2) rfl] at c1
      exact (Option.some.inj c1).symm
    rw [e] at q3
    have := q3.lt hg
    omega
  obtain ⟨C, hC⟩ : ∃ C, headC (a.1 : Int) a.2 = C := ⟨_, rfl⟩
  rw [hC] at hr
  have lC : C.length = 33 := by rw [← hC]; exact headC_len ha32
  obtain ⟨wA, hwA⟩ : ∃ wA, wA = lastW w := ⟨_, rfl⟩
  have hu' : Calls Tryd.prog 7 #[.pointer (some ⟨r, 0, none⟩)] (lastW w) fun e w' => e = .returned (.int .i64 ((m : Int) + 1)) ∧ wA = w' := by rw [hwA]; exact hu
  have c2 := h1.cell (i := 2) rfl
  have SA : LastS wA wA.drew r g m cap w.heap.size C := by rw [hwA]; exact ⟨c2, hr, ⟨_, head0_len, hb.drew⟩, (Kept.refl _ _).drew⟩
  have HT := Lib.hid (fun w1 (q : LastS wA w1 r g m cap w.heap.size C) => lastS_store lC (by omega) hgw (by rw [hwA]; exact hgl) q)
  have HI := Lib.hid (show (Tryd.prog.info? 25).map (·.size) = some C.length by rw [lC]; exact info_head)
  have HO : Hid (∀ v ∈ C, v.oneCell' = true) := Lib.hid (by rw [← hC]; exact head_oneCell)
  have HC := Lib.hid hC
  have HU := Lib.hid hu'
  have a1 : IntKind.i64.wrap (m : Int) = (m : Int) := IntWalk.i64_in _ (by omega)
  have y1 : ((m : Int) + 1 == 0) = false := by simp; omega
  have y2 : decide ((m : Int) + 1 = 0) = false := decide_eq_false (by omega)
  have y4 : (m : Int) < (m : Int) + 1 := by omega
  have HK := Lib.hid (by rw [hwA]; exact kA : Kept (fun _ => False) w wA)
  clear hu hu' h h1 h2 h3 h4 h5 h6 h7 h8 h9 hn hx hg hgl hr hb hgw hC kA hm hl hm8 lC hwA c2
  go_enter Tryd.func6, Tryd.ntmps6
  go_wp2_with (first | (go_at_call 7; refine HU.out.mono ?_; rintro e w' ⟨rfl, rfl⟩))
  refine wp_region_held_drew (S := (fun w' => LastS wA w' r g m cap w.heap.size C)) (by kernel_rfl) SA (fun hH0 => ?_)
  refine wpAnyH_take (i := 0) (oi := ⟨some 8, .move (.tmp 0), 26, "keyring.go:157", #[], none⟩) (v := ?_) rfl (by kernel_rfl) (by kernel_rfl) (by kernel_rfl) (fun _ _ _ h => h) (Or.inl ⟨by rfl, fun w hSw => ?_⟩) hH0 ?_
  rotate_left 1
  · (try simp only [LastS] at hSw); go_simp; (try with_reducible rfl)
  try simp only [Act.put, List.setIfInBounds_toArray, List.set_cons_zero, List.set_cons_succ]
  refine wpAnyH_take (i := 1) (oi := ⟨some 9, .nilCheck (.tmp 8), 0, "keyring.go:157", #[⟨0, .data⟩], none⟩) (v := ?_) rfl (by kernel_rfl) (by kernel_rfl) (by kernel_rfl) (fun _ _ _ h => h) (Or.inl ⟨by rfl, fun w hSw => ?_⟩) hH0 ?_
  rotate_left 1
  · (try simp only [LastS] at hSw); go_simp; (try with_reducible rfl)
  try simp only [Act.put, List.setIfInBounds_toArray, List.set_cons_zero, List.set_cons_succ]
  refine wpAnyH_take (i := 2) (oi := ⟨some 10, .fieldAddr 43 (.tmp 9) 2, 0, "keyring.go:157", #[⟨1, .data⟩], none⟩) (v := ?_) rfl (by kernel_rfl) (by kernel_rfl) (by kernel_rfl) (fun _ _ _ h => h) (Or.inl ⟨by rfl, fun w hSw => ?_⟩) hH0 ?_
  rotate_left 1
  · (try simp only [LastS] at hSw); go_simp; (try with_reducible rfl)
  try simp only [Act.put, List.setIfInBounds_toArray, List.set_cons_zero, List.set_cons_succ]
  refine wpAnyH_take (i := 3) (oi := ⟨some 11, .load 41 (.tmp 10), 41, "keyring.go:157", #[⟨2, .data⟩], none⟩) (v := ?_) rfl (by kernel_rfl) (by kernel_rfl) (by kernel_rfl) (fun _ _ _ h => h) (Or.inl ⟨by rfl, fun w hSw => ?_⟩) hH0 ?_
  rotate_left 1
  · (try simp only [LastS] at hSw); go_simp; (try with_reducible rfl)
  try simp only [Act.put, List.setIfInBounds_toArray, List.set_cons_zero, List.set_cons_succ]
  refine wpAnyH_take (i := 4) (oi := ⟨some 12, .move (.tmp 0), 26, "keyring.go:157", #[], none⟩) (v := ?_) rfl (by kernel_rfl) (by kernel_rfl) (by kernel_rfl) (fun _ _ _ h => h) (Or.inl ⟨by rfl, fun w hSw => ?_⟩) hH0 ?_
  rotate_left 1
  · (try simp only [LastS] at hSw); go_simp; (try with_reducible rfl)
  try simp only [Act.put, List.setIfInBounds_toArray, List.set_cons_zero, List.set_cons_succ]
  refine wpAnyH_take (i := 5) (oi := ⟨some 13, .nilCheck (.tmp 12), 0, "keyring.go:157", #[⟨4, .data⟩], none⟩) (v := ?_) rfl (by kernel_rfl) (by kernel_rfl) (by kernel_rfl) (fun _ _ _ h => h) (Or.inl ⟨by rfl, fun w hSw => ?_⟩) hH0 ?_
  rotate_left 1
  · (try simp only [LastS] at hSw); go_simp; (try with_reducible rfl)
  try simp only [Act.put, List.setIfInBounds_toArray, List.set_cons_zero, List.set_cons_succ]
  refine wpAnyH_take (i := 6) (oi := ⟨some 14, .fieldAddr 43 (.tmp 13) 2, 0, "keyring.go:157", #[⟨5, .data⟩], none⟩) (v := ?_) rfl (by kernel_rfl) (by kernel_rfl) (by kernel_rfl) (fun _ _ _ h => h) (Or.inl ⟨by rfl, fun w hSw => ?_⟩) hH0 ?_
  rotate_left 1
  · (try simp only [LastS] at hSw); go_simp; (try with_reducible rfl)
  try simp only [Act.put, List.setIfInBounds_toArray, List.set_cons_zero, List.set_cons_succ]
  refine wpAnyH_take (i := 7) (oi := ⟨some 15, .load 41 (.tmp 14), 41, "keyring.go:157", #[⟨6, .data⟩], none⟩) (v := ?_) rfl (by kernel_rfl) (by kernel_rfl) (by kernel_rfl) (fun _ _ _ h => h) (Or.inl ⟨by rfl, fun w hSw => ?_⟩) hH0 ?_
  rotate_left 1
  · (try simp only [LastS] at hSw); go_simp; (try with_reducible rfl)
  try simp only [Act.put, List.setIfInBounds_toArray, List.set_cons_zero, List.set_cons_succ]
  refine wpAnyH_take (i := 8) (oi := ⟨some 16, .call { callee := .builtin .len, args := #[.tmp 15], argTypes := #[41] }, 3, "keyring.go:157", #[⟨7, .data⟩], none⟩) (v := ?_) rfl (by kernel_rfl) (by kernel_rfl) (by kernel_rfl) (fun _ _ _ h => h) (Or.inl ⟨by rfl, fun w hSw => ?_⟩) hH0 ?_
  rotate_left 1
  · (try simp only [LastS] at hSw); go_simp; (try with_reducible rfl)
  try simp only [Act.put, List.setIfInBounds_toArray, List.set_cons_zero, List.set_cons_succ]
  refine wpAnyH_take (i := 9) (oi := ⟨some 17, .binOp .sub 3 (.tmp 16) (.const (.int .i64 1)) 3, 3, "keyring.go:157", #[⟨8, .data⟩], none⟩) (v := ?_) rfl (by kernel_rfl) (by kernel_rfl) (by kernel_rfl) (fun _ _ _ h => h) (Or.inl ⟨by rfl, fun w hSw => ?_⟩) hH0 ?_
  rotate_left 1
  · (try simp only [LastS] at hSw); go_simp; (try with_reducible rfl)
  try simp only [Act.put, List.setIfInBounds_toArray, List.set_cons_zero, List.set_cons_succ]
  refine wpAnyH_take (i := 10) (oi := ⟨some 18, .indexAddr 41 (.tmp 11) (.tmp 17), 0, "keyring.go:157", #[⟨3, .data⟩, ⟨9, .data⟩], none⟩) (v := ?_) rfl (by kernel_rfl) (by kernel_rfl) (by kernel_rfl) (fun _ _ _ h => h) (Or.inl ⟨by rfl, fun w hSw => ?_⟩) hH0 ?_
  rotate_left 1
  · (try simp only [LastS] at hSw); go_simp; (try with_reducible rfl)
  try simp only [Act.put, List.setIfInBounds_toArray, List.set_cons_zero, List.set_cons_succ]
  refine wpAnyH_take (i := 11) (oi := ⟨some 19, .load 25 (.tmp 18), 25, "keyring.go:157", #[⟨10, .data⟩], none⟩) (v := .agg (C).toArray) rfl (by kernel_rfl) (by kernel_rfl) (by kernel_rfl) (fun _ _ _ h => h) (yieldsIf_load_mid (by rfl) _ _ rfl (g) (m * 33) rfl (C) _ (fun w q => q.2.1) Tryd.underlying25 rfl HI.out) hH0 ?_
  try simp only [Act.put, List.setIfInBounds_toArray, List.set_cons_zero, List.set_cons_succ]
  refine wpAnyH_ready (rs := [12]) (by kernel_rfl) (by simp) ?_
  refine AllReadyH.cons (o := ⟨none, .store 25 (.tmp 2) (.tmp 19), 0, "keyring.go:157", #[⟨11, .data⟩, ⟨0, .phase⟩, ⟨1, .phase⟩, ⟨2, .phase⟩, ⟨3, .phase⟩, ⟨4, .phase⟩, ⟨5, .phase⟩, ⟨6, .phase⟩, ⟨7, .phase⟩, ⟨8, .phase⟩, ⟨9, .phase⟩, ⟨10, .phase⟩, ⟨11, .phase⟩], none⟩) rfl (fun K hK => ?_) AllReadyH.nil
  have HBL := Lib.hid (HT.out _ hH0).2.2
  rw [if_pos (by rfl)]
  refine wp_store_mid _ _ _ rfl w.heap.size 0 C.toArray rfl rfl (HT.out _ hH0).1 (by rw [List.size_toArray]; exact HI.out) (all_oneCell_toArray HO.out) ?_
  refine hK.out _ _ ((HT.out _ hH0).2.1) (fun hH1 => ?_)
  clear hK K
  try simp only [Act.put, List.setIfInBounds_toArray, List.set_cons_zero, List.set_cons_succ]
  refine wpAnyH_ready (rs := [13]) (by kernel_rfl) (by simp) ?_
  refine AllReadyH.cons (o := ⟨some 3, .assign (.const (.bool true)), 4, "keyring.go:157", #[⟨12, .chain⟩, ⟨0, .phase⟩, ⟨1, .phase⟩, ⟨2, .phase⟩, ⟨3, .phase⟩, ⟨4, .phase⟩, ⟨5, .phase⟩, ⟨6, .phase⟩, ⟨7, .phase⟩, ⟨8, .phase⟩, ⟨9, .phase⟩, ⟨10, .phase⟩, ⟨11, .phase⟩, ⟨12, .phase⟩], none⟩) rfl (fun K hK => ?_) AllReadyH.nil
  go_simp
  refine hK.out _ _ (hH1) (fun hH2 => ?_)
  clear hK K
  try simp only [Act.put, List.setIfInBounds_toArray, List.set_cons_zero, List.set_cons_succ]
  refine wpAnyH_done (by kernel_rfl) ?_ _
  go_wp2_with fail
  refine bodyPost_ret (HBL.out.result2 rfl rfl Tryd.underlying25 rfl HI.out) rfl ⟨by rw [← HC.out]; rfl, ?_⟩
  exact HK.out.then_ hH2.2.2.2 (fun i hi e => by omega)
theorem noring_head (w : World) : Blk (lastW w) w.heap.size (headC 0 zeroRoot) 25 := head_blk w 0 zeroRoot
theorem last_zero {w1 : World} {b : Nat} (h : Blk w1 b (headC 0 zeroRoot) 25) : w1.there b 0 (headC 0 zeroRoot).toArray.size ∧ Blk (w1.setCells b 0 (headC 0 zeroRoot)) b (headC 0 zeroRoot) 25 := by
  have h0 := head0_len
  refine ⟨h.there 0 _ (by rw [List.size_toArray]; omega), ?_⟩
  have := h.setCells 0 (headC 0 zeroRoot) (by omega)
  rw [splice_whole (by omega)] at this
  exact this
theorem info_head0 : (Tryd.prog.info? 25).map (·.size) = some (headC 0 zeroRoot).length := by rw [head0_len]; exact info_head
set_option maxRecDepth 100000 in
set_option maxHeartbeats 1000000 in
theorem last_used0 (w : World) (v : Value) (hu : Calls Tryd.prog 7 #[v] (lastW w) fun e w' => e = .returned (.int .i64 0) ∧ lastW w = w') :
    Calls Tryd.prog 6 #[v] w fun e w' => e = .returned (.tuple #[.agg (headC 0 zeroRoot).toArray, .bool false]) ∧ Kept (fun _ => False) w w' := by
  have HU := Lib.hid hu
  have HB := Lib.hid (last_zero (noring_head w))
  clear hu
  go_enter Tryd.func6, Tryd.ntmps6
  go_wp2_with (first | (go_at_call 7; refine HU.out.mono ?_; rintro e w' ⟨rfl, rfl⟩) | ((with_reducible show wpList _ _ _ (⟨none, .store _ (.tmp 2) _, _, _, _, _⟩ :: _) _ _); refine wpList_store_mid rfl 25 _ _ rfl w.heap.size 0 (headC 0 zeroRoot).toArray rfl rfl ?hth ?hi ?h1 ?_))
  case hth => exact HB.out.1
  case hi => exact (by rw [List.size_toArray]; exact info_head0)
  case h1 => exact all_oneCell_toArray head_oneCell
  refine bodyPost_ret (HB.out.2.result2 rfl rfl Tryd.underlying25 rfl info_head0) rfl ⟨rfl, ?_⟩
  exact ((Kept.refl (fun _ => False) w).alloc _).then_ (kept_setCells _ _ _ _) (fun i hi e => by omega)
theorem noring_last (w : World) (v : Value) (hv : NoRing w v) :
    Calls Tryd.prog 6 #[v] w fun e w' => e = .returned (.tuple #[.agg (headC 0 zeroRoot).toArray, .bool false]) ∧ Kept (fun _ => False) w w' :=
  last_used0 w v (noring_used _ v (hv.elim Or.inl (fun ⟨r, h1, h2⟩ => Or.inr ⟨r, h1, ((Kept.refl (fun _ => False) w).alloc _).cell h2 id⟩)))
theorem ring_last0 (h : IsRing w r d R S) (hl : R.signed = []) :
    Calls Tryd.prog 6 #[.pointer (some ⟨r, 0, none⟩)] w fun e w' => e = .returned (.tuple #[.agg (headC 0 zeroRoot).toArray, .bool false]) ∧ Kept (fun _ => False) w w' := by
  have hu := ring_used (h.same ((Kept.refl (fun _ => False) w).alloc (.cells (headC 0 zeroRoot).toArray 25)))
  rw [hl] at hu
  exact last_used0 w _ hu
end
end Go.Proofs.YtaimokclhcfohaaDoor

namespace Go.Proofs.YtaimokclhcfohaaDoor
open Go.RowKit

theorem signed_head_range {w : World} {b : Nat} {size : Int} {root : By} {i : Int} {sig : ByteArray} {v : Value} {t : TypeId} (hr : root.length = 32) (h : Blk w b (signedC size root i sig v) t) : w.rangeAt b 0 (headC size root) := by
  have hl := headC_len (size := size) hr
  have r1 := h.rangeAt 0 33
  have e1 : ((signedC size root i sig v).drop 0).take 33 = headC size root := by unfold signedC; rw [List.drop_zero, List.take_append_of_le_length (by omega), List.take_of_length_le (by omega)]
  rw [e1] at r1
  exact r1
set_option maxRecDepth 100000 in
set_option maxHeartbeats 1000000 in
theorem same_ok (w : World) (size : Int) (root : By) (i : Int) (sig : ByteArray) (a a' : Option Addr) (c c' n n' : Nat) (L : List By) (hr : root.length = 32) (hu : View w 32 (.slice a n c) (hcells L)) (hv : View w 32 (.slice a' n' c') (hcells L)) (h32 : ∀ x ∈ L, x.length = 32) (hL : L.length ≤ 1000000) (hvl : L.length * 32 ≤ 1000000000) :
    Calls Tryd.prog 31 #[signedV size root i sig (.slice a n c), signedV size root i sig (.slice a' n' c')] w fun e w' => e = .returned (.bool true) ∧ Kept (fun _ => False) w w' := by
  have b0 := (Blk.new w (signedC size root i sig (.slice a n c)) 31).alloc (.cells (signedC size root i sig (.slice a' n' c')).toArray 31)
  have b1 := Blk.new (w.alloc (.cells (signedC size root i sig (.slice a n c)).toArray 31)) (signedC size root i sig (.slice a' n' c')) 31
  rw [World.size_alloc] at b1
  have kW : Kept (fun _ => False) w ((w.alloc (.cells (signedC size root i sig (.slice a n c)).toArray 31)).alloc (.cells (signedC size root i sig (.slice a' n' c')).toArray 31)) := ((Kept.refl _ _).alloc _).alloc _
  obtain ⟨q0, q1, q2, q3⟩ := signed_at (size := size) (i := i) (sig := sig) (v := .slice a n c) hr
  obtain ⟨p0, p1, p2, p3⟩ := signed_at (size := size) (i := i) (sig := sig) (v := .slice a' n' c') hr
  have c1 := b0.cell q1
  have c2 := b0.cell q2
  have c3 := b0.cell q3
  have d1 := b1.cell p1
  have d2 := b1.cell p2
  have d3 := b1.cell p3
  have HR0 := Lib.hid (signed_head_range hr b0)
  have HR1 := Lib.hid (signed_head_range hr b1)
  have HI := Lib.hid (show (Tryd.prog.info? 25).map (·.size) = some (headC size root).length by rw [headC_len hr]; exact info_head)
  have heq := fun w' => eql_head w' size size root root hr hr
  simp only [true_and, decide_true, and_self] at heq
  have HE := Lib.hid (equal_ok _ _ _ L (hu.same kW (by omega)) (hv.same kW (by omega)) h32 hL)
  have HK := Lib.hid kW
  clear q0 q1 q2 q3 p0 p1 p2 p3 b0 b1 hu hv kW
  go_enter Tryd.func31, Tryd.ntmps31
  go_wp2_with (first | ((with_reducible show wpList _ _ _ (⟨some 6, _, _, _, _, _⟩ :: _) _ _); refine wpList_load_mid rfl 25 _ rfl w.heap.size 0 rfl (headC size root) _ HR0.out Tryd.underlying25 rfl HI.out ?_) | ((with_reducible show wpList _ _ _ (⟨some 8, _, _, _, _, _⟩ :: _) _ _); refine wpList_load_mid rfl 25 _ rfl (w.heap.size + 1) 0 rfl (headC size root) _ HR1.out Tryd.underlying25 rfl HI.out ?_) | (go_at_call 53; refine HE.out.mono ?_; rintro e w2 ⟨rfl, hk2⟩))
  go_ret
  exact ⟨rfl, HK.out.trans hk2⟩
end Go.Proofs.YtaimokclhcfohaaDoor
