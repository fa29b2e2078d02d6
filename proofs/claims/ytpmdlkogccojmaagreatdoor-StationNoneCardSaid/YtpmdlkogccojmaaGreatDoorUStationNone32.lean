/- RingSign2 RingSign3 -/
import Derived.Deep.RegionHeld3
import Derived.Test.YtpmdlkogccojmaaGreatDoorUStationNone31
import Derived.Test.YtpmdlkogccojmaaGreatDoorUStationNone22
import Derived.Test.YtpmdlkogccojmaaGreatDoorUStationNone27
set_option linter.unusedVariables false
set_option linter.unusedSimpArgs false
namespace Go.Proofs.YtpmdlkogccojmaaGreatDoor
open Go.RowKit
abbrev SgS (wA w' : World) (r t hb : Nat) (C : List Value) : Prop := w'.cell? ⟨r, 1, none⟩ = some (.pointer (some ⟨t, 0, none⟩)) ∧ w'.rangeAt hb 0 C ∧ Kept (fun _ => False) wA w'
theorem sgS_next {wA w1 w2 : World} {r t hb : Nat} {C : List Value} (h : SgS wA w1 r t hb C) (hl : hb < wA.heap.size) (k : Kept (fun _ => False) w1 w2) : SgS wA w2 r t hb C :=
  ⟨k.cell h.1 id, rangeAt_kept h.2.1 k (Nat.lt_of_lt_of_le hl h.2.2.size) id, h.2.2.trans k⟩
theorem sg_alloc {wA w1 : World} (h : Kept (fun _ => False) wA w1) : Blk (w1.alloc (.cells [.int .i64 0, .string ⟨#[]⟩, .slice none 0 0].toArray 49)) w1.heap.size [.int .i64 0, .string ⟨#[]⟩, .slice none 0 0] 49 ∧ wA.heap.size ≤ w1.heap.size := ⟨Blk.new _ _ _, h.size⟩
theorem sgS_set {wA w1 : World} {r t hb sb : Nat} {C : List Value} (h : SgS wA w1 r t hb C) (hl : hb < wA.heap.size) (hs : wA.heap.size ≤ sb) (a b c : Value) (hr : r < wA.heap.size) : SgS wA (((w1.setCell ⟨sb, 0, none⟩ a).setCell ⟨sb, 1, none⟩ b).setCell ⟨sb, 2, none⟩ c) r t hb C := by
  have k : Kept (· = sb) w1 (((w1.setCell ⟨sb, 0, none⟩ a).setCell ⟨sb, 1, none⟩ b).setCell ⟨sb, 2, none⟩ c) := ((kept_cell w1 sb 0 a).trans (kept_cell _ sb 1 b)).trans (kept_cell _ sb 2 c)
  exact ⟨k.cell h.1 (by show ¬ r = sb; omega), rangeAt_kept h.2.1 k (Nat.lt_of_lt_of_le hl h.2.2.size) (by omega), h.2.2.then_ k (fun i hi e => by omega)⟩
theorem sg_row {wA w1 w2 : World} {v : Value} {xs : List Value} (hk : Kept (fun _ => False) wA w1) (hrow : Row w2 24 32 v xs) (hown : ∀ k, v.ownBlock = some k → w1.heap.size ≤ k) : Row w2 24 32 v xs ∧ ∀ k, v.ownBlock = some k → wA.heap.size ≤ k := ⟨hrow, fun k hk' => Nat.le_trans hk.size (hown k hk')⟩
theorem sg_rowa {w1 : World} {v : Value} {xs : List Value} {n : Nat} (h : Row w1 24 32 v xs ∧ ∀ k, v.ownBlock = some k → n ≤ k) (o : Obj) : Row (w1.alloc o) 24 32 v xs ∧ ∀ k, v.ownBlock = some k → n ≤ k := ⟨h.1.alloc o, h.2⟩
theorem sg_rows {w1 : World} {v : Value} {xs : List Value} {n sb : Nat} {c : List Value} (h : Row w1 24 32 v xs ∧ ∀ k, v.ownBlock = some k → n ≤ k) (hsb : Blk w1 sb c 49) (x y z : Value) :
    Row (((w1.setCell ⟨sb, 0, none⟩ x).setCell ⟨sb, 1, none⟩ y).setCell ⟨sb, 2, none⟩ z) 24 32 v xs ∧ ∀ k, v.ownBlock = some k → n ≤ k := by
  have k : Kept (· = sb) w1 (((w1.setCell ⟨sb, 0, none⟩ x).setCell ⟨sb, 1, none⟩ y).setCell ⟨sb, 2, none⟩ z) := ((kept_cell w1 sb 0 x).trans (kept_cell _ sb 1 y)).trans (kept_cell _ sb 2 z)
  exact ⟨h.1.kept k (fun q hq e => h.1.ne_blk hq hsb (by decide) e), h.2⟩
theorem sign_fin {w1 : World} {b : Nat} {Y : List Value} (h : Blk w1 b signed0C 51) (hY : Y.length = 36) : w1.there b 0 Y.length ∧ Blk (w1.setCells b 0 Y) b Y 51 := by
  have h0 := signed0_len
  refine ⟨h.there 0 _ (by omega), ?_⟩
  have := h.setCells 0 Y (by omega)
  rw [splice_whole (by omega)] at this
  exact this
theorem info_sized {Y : List Value} (hY : Y.length = 36) : (Tryz.prog.info? 51).map (·.size) = some Y.length := by rw [hY]; exact info_signed
theorem sign_one {size : Int} {root : By} {C Y : List Value} {i : Int} {s : ByteArray} {pa : Option Addr} {pn pc : Nat} (hY : Y = C ++ [.int .i64 i, .string s, .slice pa pn pc]) (hC : headC size root = C) : ∀ x ∈ Y, x.oneCell' = true := by
  rw [hY, ← hC]
  exact signedC_one (size := size) (root := root) rfl
theorem sign_build (C : List Value) (hC : C.length = 33) (a b c : Value) : ∃ X Y : List Value, C.zipIdx.foldl (fun (cs : Array Value) (x : Value × Nat) => cs.setIfInBounds x.snd x.fst) (((.int .i64 0 :: zeros 32) ++ [.int .i64 0, .string ⟨#[]⟩, .slice none 0 0] : List Value)).toArray = X.toArray ∧ X.length = 36 ∧ ((X.set 33 a).set 34 b).set 35 c = Y ∧ Hid (Y = C ++ [a, b, c]) := by
  have hz : ((.int .i64 0 :: zeros 32) ++ [.int .i64 0, .string ⟨#[]⟩, .slice none 0 0] : List Value).length = 36 := by rw [List.length_append, List.length_cons, zeros_len]; rfl
  have e : splice ((.int .i64 0 :: zeros 32) ++ [.int .i64 0, .string ⟨#[]⟩, .slice none 0 0] : List Value) 0 C = C ++ [.int .i64 0, .string ⟨#[]⟩, .slice none 0 0] := by
    unfold splice
    rw [List.take_zero, List.nil_append, hC, List.drop_append_of_le_length (by rw [List.length_cons, zeros_len]; omega), List.drop_eq_nil_of_le (by rw [List.length_cons, zeros_len]; omega), List.nil_append]
  refine ⟨C ++ [.int .i64 0, .string ⟨#[]⟩, .slice none 0 0], _, ?_, by rw [List.length_append, hC]; rfl, rfl, Lib.hid ?_⟩
  · rw [foldl_zip C _ 0 (by omega), e]
  · rw [List.set_append, if_neg (by omega), List.set_append, if_neg (by omega), List.set_append, if_neg (by omega), hC]
    rfl
section
variable {w : World} {r d : Nat} {R : RingM} {S B : Nat → Prop} {M : DiskM}
def SignYes (B S : Nat → Prop) (r d : Nat) (w : World) (size : Nat) (root : By) (i : Nat) (R' : RingM) (M' : DiskM) (e : Ending) (w' : World) : Prop :=
  ∃ v S', e = .returned (.tuple #[signedV (size : Int) root (i : Int) ⟨(signF R'.seed.data.toList i (digestF size root)).toArray⟩ v, .int .i64 0]) ∧ Row w' 24 32 v (hcells (pathF (leavesF R'.seed.data.toList) i)) ∧ (∀ k, v.ownBlock = some k → w.heap.size ≤ k ∧ ¬ S' k) ∧
    IsRing w' r d R' S' ∧ (∀ k, S' k → S k ∨ w.heap.size ≤ k) ∧ Apart (fun k => B k ∨ S' k ∨ v.ownBlock = some k) d M' w' ∧ Kept (fun k => ¬ B k ∨ S k) w w'
theorem sign_yes {size : Nat} {root : By} {i : Nat} {wA wF : World} {R' : RingM} {S' : Nat → Prop} {M' : DiskM} {C Y : List Value} {SG : By} {DG : By} {v : Value} (hrA : IsRing wA r d R' S') (hS' : ∀ k, S' k → S k ∨ w.heap.size + 2 ≤ k) (hSB : ∀ k, S k → B k) (hBl : ∀ k, B k → k < w.heap.size)
    (haA : Apart (fun k => ownW w B k ∨ S' k) d M' wA) (kA : Kept (fun k => ¬ ownW w B k ∨ S k) (signW w (size : Int) root) wA) (kF : Kept (fun _ => False) wA wF) (hrow : Row wF 24 32 v (hcells (pathF (leavesF R'.seed.data.toList) i)) ∧ ∀ k, v.ownBlock = some k → wA.heap.size ≤ k)
    (hY : Y = C ++ [.int .i64 (i : Int), .string ⟨SG.toArray⟩, v]) (hC : headC (size : Int) root = C) (hSG : signF R'.seed.data.toList i DG = SG) (hDG : digestF size root = DG) :
    SignYes B S r d w size root i R' M' (.returned (.tuple #[.agg Y.toArray, .int .i64 0])) (wF.setCells (w.heap.size + 1) 0 Y) := by
  have kS := kept_setCells wF (w.heap.size + 1) 0 Y
  have hsz : w.heap.size + 2 ≤ wA.heap.size := by
    have := kA.size
    have hz : (signW w (size : Int) root).heap.size = w.heap.size + 2 := by rw [World.size_alloc, World.size_alloc]
    omega
  have hne : ∀ k, S' k → k ≠ w.heap.size + 1 := fun k hk e => by
    rcases hS' k hk with q | q
    · have := hBl k (hSB k q); omega
    · omega
  have kG : Kept (· = w.heap.size + 1) wA (wF.setCells (w.heap.size + 1) 0 Y) := (kF.mono (fun _ _ => False.elim)).then_ kS (fun _ _ e => e)
  refine ⟨v, S', ?_, hrow.1.kept kS (fun k hk e => by have := hrow.2 k hk; omega), fun k hk => ⟨by have := hrow.2 k hk; omega, fun q => by have := haA.lt (Or.inr q); have := hrow.2 k hk; omega⟩, hrA.kept kG hne, fun k hk => (hS' k hk).imp id (fun q => by omega), ?_, ?_⟩
  · rw [hY, ← hC, ← hSG, ← hDG]; rfl
  · refine haA.grow kG (fun k _ e => Or.inl (Or.inr (Or.inr e))) (fun k hk => ?_)
    rcases hk with q | q | q
    · exact Or.inl (Or.inl (Or.inl q))
    · exact Or.inl (Or.inr q)
    · exact Or.inr ⟨hrow.2 k q, (hrow.1.kept kS (fun k hk e => by have := hrow.2 k hk; omega)).lt q⟩
  · refine (((signW_kept w (size : Int) root).mono (fun _ _ => False.elim)).then_ kA (fun j hj q => q.imp (fun n b => n (Or.inl b)) id)).then_ kG (fun j hj e => by omega)
set_option maxRecDepth 100000 in
set_option maxHeartbeats 4000000 in
theorem sign_again (h : IsRing w r d R S) (hd : Apart B d M w) (hS : ∀ k, S k → B k) (size : Nat) (root : By) (hz : size ≤ 4096) (hroot : root.length = 32) (ho : R.over M = false) (i : Nat) (hi : i < 8) (hx : nextF R.signed (size : Int) root = ((i : Int), false, 0))
    (ht : Tab w) (hTS : ¬ S 0 ∧ ¬ S 1) :
    Calls Tryz.prog 45 #[.pointer (some ⟨r, 0, none⟩), headV (size : Int) root] w (SignYes B S r d w size root i R M) := by
  have hrl := h.lt
  have hBl := fun k (q : B k) => hd.lt q
  have HN := Lib.hid (ring_none (h.same (signW_kept w size root)))
  have hdn := ring_down (h.same (signW_kept w size root)) (hd.signW size root)
  have hds := dead_same (over_not ho).1
  rw [ho] at hdn
  have HD := Lib.hid hdn
  have HE := Lib.hid hds
  have hnx := fun w' (hr' : IsRing w' r d R S) => next_any hr' (size : Int) root hroot
  rw [hx] at hnx
  unfold NextPost at hnx
  simp only at hnx
  have HX := Lib.hid hnx
  have HH := Lib.hid (And.intro (hd.signW size root) (And.intro hS (And.intro hBl (hS r h.own))))
  have HT := Lib.hid (fun w' (k : Kept (· = r) (signW w (size : Int) root) w') => (ht.same (signW_kept w (size : Int) root)).kept k (fun e => hTS.1 (by rw [e]; exact h.own)) (fun e => hTS.2 (by rw [e]; exact h.own)))
  have HI0 := Lib.hid (show (Tryz.prog.info? 46).map (·.size) = some (headC (size : Int) root).length by rw [headC_len hroot]; exact info_head)
  have HDI := Lib.hid (fun w' ht' => digest_any w' size root hz hroot ht')
  have hDl := digestF_len size root
  clear hdn hd hS hBl hds hnx hx h
  go_enter Tryz.func45, Tryz.ntmps45
  go_wp2_with (first | (go_at_call 79; refine HN.out.mono ?_; rintro e w' ⟨rfl, rfl⟩) | (go_at_call 80; refine HD.out.mono ?_; rintro e w1 ⟨rfl, hr1, hk1⟩; rw [HE.out] at hr1; have hb1 := (signW_head w (size : Int) root).kept hk1 (by omega)) | ((with_reducible show wpList _ _ _ (⟨some 20, _, _, _, _, _⟩ :: _) _ _); refine wpList_load_mid rfl 46 _ rfl w.heap.size 0 rfl (headC (size : Int) root) _ hb1.range0 Tryz.underlying46 rfl HI0.out ?_) | (go_at_call 81; refine (HX.out _ hr1).mono ?_; rintro e wA ⟨rfl, hk2⟩))
  have hrA := hr1.same hk2
  have hbA := hb1.kept hk2 id
  have hzA := ((signW_res w (size : Int) root).kept hk1 (by omega)).kept hk2 id
  have haA := (HH.out.1.turn hk1 (fun k e => by rw [e]; exact Or.inl HH.out.2.2.2)).same hk2
  have htA := (HT.out _ hk1).same hk2
  have kA : Kept (· = r) (signW w (size : Int) root) wA := hk1.then_ hk2 (fun _ _ => False.elim)
  obtain ⟨⟨t, vv, hrb, htree, -, -, -⟩, -, -, -, hsh⟩ := id hrA
  have hrlA := hrA.lt
  have hhb : w.heap.size < wA.heap.size := hbA.lt
  have HTS := Lib.hid (fun w' (k : Kept (fun _ => False) wA w') => treeSign_any (htree.kept k id) i (digestF size root) hsh hi hDl (htA.same k))
  have HTB := Lib.hid (fun w' (k : Kept (fun _ => False) wA w') => htA.same k)
  have HFIN := Lib.hid (And.intro hrA (And.intro hbA (And.intro hzA (And.intro haA kA))))
  obtain ⟨SG, hSG⟩ : ∃ SG, signF R.seed.data.toList i (digestF size root) = SG := ⟨_, rfl⟩
  rw [hSG] at HTS
  have HSG := Lib.hid hSG
  obtain ⟨C, hC⟩ : ∃ C, headC (size : Int) root = C := ⟨_, rfl⟩
  have HCC := Lib.hid hC
  have SA : SgS wA wA.drew r t w.heap.size C := ⟨(hrb.drew).cell (i := 1) rfl, by rw [← hC]; exact (hbA.drew).range0, (Kept.refl _ _).drew⟩
  have HI : Hid ((Tryz.prog.info? 46).map (·.size) = some C.length) := by rw [← hC]; exact HI0
  have HLC := Lib.hid (show C.length = 33 by rw [← hC]; exact headC_len hroot)
  have HDG := Lib.hid (fun w' ht' => (by rw [← hC]; exact HDI.out w' ht' : Calls Tryz.prog 57 #[.agg C.toArray] w' fun e w'' => e = .returned (hashV (digestF size root)) ∧ Kept (fun _ => False) w' w''))
  generalize hDG : digestF size root = DG at *
  have HDG2 := Lib.hid hDG
  clear hDG hSG hrA hbA hzA haA htA kA hrb htree hsh hr1 hb1 hC
  refine wp_region_held_drew (S := (fun w' => SgS wA w' r t w.heap.size C)) (by kernel_rfl) SA (fun hH0 => ?_)
  refine wpAnyH_take (i := 0) (oi := ⟨some 48, .move (.tmp 0), 63, "keyring.go:140", #[], none⟩) (v := ?_) rfl (by kernel_rfl) (by kernel_rfl) (by kernel_rfl) (fun _ _ _ h => h) (Or.inl ⟨by rfl, fun w hSw => ?_⟩) hH0 ?_
  rotate_left 1
  · (try simp only [SgS] at hSw); go_simp; (try with_reducible rfl)
  try simp only [Act.put, List.setIfInBounds_toArray, List.set_cons_zero, List.set_cons_succ]
  refine wpAnyH_take (i := 1) (oi := ⟨some 49, .nilCheck (.tmp 48), 0, "keyring.go:140", #[⟨0, .data⟩], none⟩) (v := ?_) rfl (by kernel_rfl) (by kernel_rfl) (by kernel_rfl) (fun _ _ _ h => h) (Or.inl ⟨by rfl, fun w hSw => ?_⟩) hH0 ?_
  rotate_left 1
  · (try simp only [SgS] at hSw); go_simp; (try with_reducible rfl)
  try simp only [Act.put, List.setIfInBounds_toArray, List.set_cons_zero, List.set_cons_succ]
  refine wpAnyH_take (i := 2) (oi := ⟨some 50, .fieldAddr 146 (.tmp 49) 1, 0, "keyring.go:140", #[⟨1, .data⟩], none⟩) (v := ?_) rfl (by kernel_rfl) (by kernel_rfl) (by kernel_rfl) (fun _ _ _ h => h) (Or.inl ⟨by rfl, fun w hSw => ?_⟩) hH0 ?_
  rotate_left 1
  · (try simp only [SgS] at hSw); go_simp; (try with_reducible rfl)
  try simp only [Act.put, List.setIfInBounds_toArray, List.set_cons_zero, List.set_cons_succ]
  refine wpAnyH_take (i := 3) (oi := ⟨some 51, .load 144 (.tmp 50), 144, "keyring.go:140", #[⟨2, .data⟩], none⟩) (v := ?_) rfl (by kernel_rfl) (by kernel_rfl) (by kernel_rfl) (fun _ _ _ h => h) (Or.inl ⟨by rfl, fun w hSw => ?_⟩) hH0 ?_
  rotate_left 1
  · (try simp only [SgS] at hSw); go_simp; (try with_reducible rfl)
  try simp only [Act.put, List.setIfInBounds_toArray, List.set_cons_zero, List.set_cons_succ]
  refine wpAnyH_take (i := 4) (oi := ⟨some 52, .move (.tmp 6), 3, "keyring.go:140", #[], none⟩) (v := ?_) rfl (by kernel_rfl) (by kernel_rfl) (by kernel_rfl) (fun _ _ _ h => h) (Or.inl ⟨by rfl, fun w hSw => ?_⟩) hH0 ?_
  rotate_left 1
  · (try simp only [SgS] at hSw); go_simp; (try with_reducible rfl)
  try simp only [Act.put, List.setIfInBounds_toArray, List.set_cons_zero, List.set_cons_succ]
  refine wpAnyH_take (i := 5) (oi := ⟨some 53, .load 46 (.tmp 3), 46, "keyring.go:140", #[], none⟩) (v := .agg (C).toArray) rfl (by kernel_rfl) (by kernel_rfl) (by kernel_rfl) (fun _ _ _ h => h) (yieldsIf_load_mid (by rfl) _ _ rfl (w.heap.size) (0) rfl (C) _ (fun w q => q.2.1) Tryz.underlying46 rfl HI.out) hH0 ?_
  try simp only [Act.put, List.setIfInBounds_toArray, List.set_cons_zero, List.set_cons_succ]
  refine wpAnyH_ready (rs := [6, 11]) (by kernel_rfl) (by simp) ?_
  refine AllReadyH.cons (o := ⟨some 54, .call { callee := .value (.func 57), args := #[.tmp 53], argTypes := #[46] }, 24, "keyring.go:140", #[⟨5, .data⟩], none⟩) rfl (fun K hK => ?_) ?_
  · go_simp
    refine (HDG.out _ (HTB.out _ hH0.2.2)).mono ?_
    rintro e w3 ⟨rfl, hk3⟩
    try have hsb := hsb.kept hk3 id
    refine hK.out _ _ (sgS_next hH0 hhb hk3) (fun hH1 => ?_)
    clear hK K
    try simp only [Act.put, List.setIfInBounds_toArray, List.set_cons_zero, List.set_cons_succ]
    refine wpAnyH_ready (rs := [7, 11]) (by kernel_rfl) (by simp) ?_
    refine AllReadyH.cons (o := ⟨some 55, .call { callee := .value (.func 83), args := #[.tmp 51, .tmp 52, .tmp 54], argTypes := #[144, 3, 24] }, 147, "keyring.go:140", #[⟨3, .data⟩, ⟨4, .data⟩, ⟨6, .data⟩, ⟨6, .chain⟩], none⟩) rfl (fun K hK => ?_) ?_
    · go_simp
      refine (HTS.out _ hH1.2.2).mono ?_
      rintro e w4 ⟨v, rfl, hrow4, hown4, hk4⟩
      obtain ⟨pa, pn, pc, rfl, -⟩ := hrow4.form (by omega)
      have HR4 := Lib.hid (sg_row hH1.2.2 hrow4 hown4)
      try have hsb := hsb.kept hk4 id
      refine hK.out _ _ (sgS_next hH1 hhb hk4) (fun hH2 => ?_)
      clear hK K
      try simp only [Act.put, List.setIfInBounds_toArray, List.set_cons_zero, List.set_cons_succ]
      refine wpAnyH_take (i := 8) (oi := ⟨some 47, .move (.tmp 55), 147, "keyring.go:140", #[⟨7, .data⟩], none⟩) (v := ?_) rfl (by kernel_rfl) (by kernel_rfl) (by kernel_rfl) (fun _ _ _ h => h) (Or.inl ⟨by rfl, fun w hSw => ?_⟩) hH2 ?_
      rotate_left 1
      · (try simp only [SgS] at hSw); go_simp; (try with_reducible rfl)
      try simp only [Act.put, List.setIfInBounds_toArray, List.set_cons_zero, List.set_cons_succ]
      refine wpAnyH_take (i := 9) (oi := ⟨some 56, .extract (.tmp 47) 0, 49, "keyring.go:140", #[⟨8, .data⟩], none⟩) (v := ?_) rfl (by kernel_rfl) (by kernel_rfl) (by kernel_rfl) (fun _ _ _ h => h) (Or.inl ⟨by rfl, fun w hSw => ?_⟩) hH2 ?_
      rotate_left 1
      · (try simp only [SgS] at hSw); go_simp; (try with_reducible rfl)
      try simp only [Act.put, List.setIfInBounds_toArray, List.set_cons_zero, List.set_cons_succ]
      refine wpAnyH_take (i := 10) (oi := ⟨some 57, .extract (.tmp 47) 1, 31, "keyring.go:140", #[⟨8, .data⟩, ⟨12, .gcOnly .lateStores⟩], none⟩) (v := ?_) rfl (by kernel_rfl) (by kernel_rfl) (by kernel_rfl) (fun _ _ _ h => h) (Or.inl ⟨by rfl, fun w hSw => ?_⟩) hH2 ?_
      rotate_left 1
      · (try simp only [SgS] at hSw); go_simp; (try with_reducible rfl)
      try simp only [Act.put, List.setIfInBounds_toArray, List.set_cons_zero, List.set_cons_succ]
      refine wpAnyH_ready (rs := [11]) (by kernel_rfl) (by simp) ?_
      refine AllReadyH.cons (o := ⟨some 9, .alloc 49, 0, "keyring.go:140", #[], none⟩) rfl (fun K hK => ?_) AllReadyH.nil
      go_simp
      obtain ⟨hsb, hsl⟩ := sg_alloc hH2.2.2
      try change Blk (World.drew (World.alloc wA (.cells [.int .i64 0, .string ⟨#[]⟩, .slice none 0 0].toArray 49))) wA.heap.size _ _ at hsb
      try change wA.heap.size ≤ wA.heap.size at hsl
      try have HR4 := Lib.hid (sg_rowa HR4.out (.cells [.int .i64 0, .string ⟨#[]⟩, .slice none 0 0].toArray 49))
      refine hK.out _ _ (sgS_next hH2 hhb ((Kept.refl _ _).alloc _)) (fun hH3 => ?_)
      clear hK K
      try simp only [Act.put, List.setIfInBounds_toArray, List.set_cons_zero, List.set_cons_succ]
      first | generalize World.alloc _ _ = wS at hsb HR4 hH3 ⊢ | generalize World.alloc _ _ = wS at hsb hH3 ⊢
      refine wpAnyH_ready (rs := [12]) (by kernel_rfl) (by simp) ?_
      refine AllReadyH.cons (o := ⟨none, .store 49 (.tmp 9) (.tmp 56), 0, "keyring.go:140", #[⟨11, .data⟩, ⟨9, .data⟩, ⟨7, .chain⟩, ⟨0, .phase⟩, ⟨1, .phase⟩, ⟨2, .phase⟩, ⟨3, .phase⟩, ⟨4, .phase⟩, ⟨5, .phase⟩, ⟨6, .phase⟩, ⟨7, .phase⟩, ⟨8, .phase⟩, ⟨9, .phase⟩, ⟨10, .textOnly .lateStores⟩, ⟨11, .phase⟩], none⟩) rfl (fun K hK => ?_) AllReadyH.nil
      try replace hsb : Blk w4 wA.heap.size [.int .i64 0, .string ⟨#[]⟩, .slice none 0 0] 49 := hsb
      have q0 := hsb.cell (i := 0) rfl
      have q1 := hsb.cell (i := 1) rfl
      have q2 := hsb.cell (i := 2) rfl
      have f0 := hsb.free 0
      have f1 := hsb.free 1
      have f2 := hsb.free 2
      go_simp
      have HR5 := Lib.hid (sg_rows HR4.out hsb (.int .i64 (i : Int)) (.string ⟨SG.toArray⟩) (.slice pa pn pc))
      have HSB : Hid (Blk _ _ [.int .i64 (i : Int), .string ⟨SG.toArray⟩, .slice pa pn pc] 49) := Lib.hid (((hsb.set 0 (.int .i64 (i : Int))).set 1 (.string ⟨SG.toArray⟩)).set 2 (.slice pa pn pc))
      refine hK.out _ _ (sgS_set hH3 hhb hsl _ _ _ hrlA) (fun hH4 => ?_)
      clear hK K
      try simp only [Act.put, List.setIfInBounds_toArray, List.set_cons_zero, List.set_cons_succ]
      refine wpAnyH_ready (rs := [13]) (by kernel_rfl) (by simp) ?_
      refine AllReadyH.cons (o := ⟨some 8, .assign (.tmp 57), 31, "keyring.go:140", #[⟨10, .data⟩, ⟨12, .chain⟩, ⟨0, .phase⟩, ⟨1, .phase⟩, ⟨2, .phase⟩, ⟨3, .phase⟩, ⟨4, .phase⟩, ⟨5, .phase⟩, ⟨6, .phase⟩, ⟨7, .phase⟩, ⟨8, .phase⟩, ⟨9, .phase⟩, ⟨10, .phase⟩, ⟨11, .phase⟩, ⟨12, .phase⟩], none⟩) rfl (fun K hK => ?_) AllReadyH.nil
      go_simp
      refine hK.out _ _ (hH4) (fun hH5 => ?_)
      clear hK K
      try simp only [Act.put, List.setIfInBounds_toArray, List.set_cons_zero, List.set_cons_succ]
      refine wpAnyH_done (by kernel_rfl) ?_ _
      generalize World.setCell (World.setCell (World.setCell _ _ _) _ _) _ _ = wF at HSB HR5 hH5 ⊢
      have kF := hH5.2.2
      have rF := hH5.2.1
      have s0 := HSB.out.cell (i := 0) rfl
      have s1 := HSB.out.cell (i := 1) rfl
      have s2 := HSB.out.cell (i := 2) rfl
      have lC : C.length = 33 := HLC.out
      obtain ⟨X, Y, hfA, lX, hfB, HY⟩ := sign_build C lC (.int .i64 (i : Int)) (.string ⟨SG.toArray⟩) (.slice pa pn pc)
      simp only [zeros, List.replicate, List.cons_append, List.nil_append] at hfA
      have lY : Hid (Y.length = 36) := Lib.hid (by rw [HY.out, List.length_append, lC]; rfl)
      have HZF := Lib.hid (sign_fin (HFIN.out.2.2.1.kept kF id) lY.out)
      go_wp2_with (first | ((with_reducible show wpList _ _ _ (⟨some 58, _, _, _, _, _⟩ :: _) _ _); refine wpList_load_mid rfl 46 _ rfl w.heap.size 0 rfl C _ rF Tryz.underlying46 rfl HI.out ?_) | ((with_reducible show wpList _ _ _ (⟨none, .store _ (.tmp 4) _, _, _, _, _⟩ :: _) _ _); refine wpList_store_mid rfl 51 _ _ rfl (w.heap.size + 1) 0 Y.toArray rfl rfl ?htw1 ?hiw1 ?h1w1 ?_))
      case htw1 => exact HZF.out.1
      case hiw1 => first | exact info_sized lY.out | simpa using info_sized lY.out
      case h1w1 => first | exact sign_one HY.out HCC.out | exact all_oneCell_toArray (sign_one HY.out HCC.out)
      refine bodyPost_ret (HZF.out.2.result2 rfl rfl Tryz.underlying51 rfl (info_sized lY.out)) rfl ?_
      exact sign_yes (S' := S) HFIN.out.1 (fun k hk => Or.inl hk) HH.out.2.1 HH.out.2.2.1 (HFIN.out.2.2.2.1.fewer (fun k q => q.elim id (fun q => Or.inl (HH.out.2.1 k q)))) (HFIN.out.2.2.2.2.mono (fun k _ e => Or.inr (by rw [e]; exact HFIN.out.1.own))) kF HR5.out HY.out HCC.out HSG.out HDG2.out
    refine AllReadyH.cons (o := ⟨some 9, .alloc 49, 0, "keyring.go:140", #[], none⟩) rfl (fun K hK => ?_) AllReadyH.nil
    go_simp
    obtain ⟨hsb, hsl⟩ := sg_alloc hH1.2.2
    try change Blk (World.drew (World.alloc wA (.cells [.int .i64 0, .string ⟨#[]⟩, .slice none 0 0].toArray 49))) wA.heap.size _ _ at hsb
    try change wA.heap.size ≤ wA.heap.size at hsl
    try have HR4 := Lib.hid (sg_rowa HR4.out (.cells [.int .i64 0, .string ⟨#[]⟩, .slice none 0 0].toArray 49))
    refine hK.out _ _ (sgS_next hH1 hhb ((Kept.refl _ _).alloc _)) (fun hH2 => ?_)
    clear hK K
    try simp only [Act.put, List.setIfInBounds_toArray, List.set_cons_zero, List.set_cons_succ]
    first | generalize World.alloc _ _ = wS at hsb HR4 hH2 ⊢ | generalize World.alloc _ _ = wS at hsb hH2 ⊢
    refine wpAnyH_ready (rs := [7]) (by kernel_rfl) (by simp) ?_
    refine AllReadyH.cons (o := ⟨some 55, .call { callee := .value (.func 83), args := #[.tmp 51, .tmp 52, .tmp 54], argTypes := #[144, 3, 24] }, 147, "keyring.go:140", #[⟨3, .data⟩, ⟨4, .data⟩, ⟨6, .data⟩, ⟨6, .chain⟩], none⟩) rfl (fun K hK => ?_) AllReadyH.nil
    go_simp
    refine (HTS.out _ hH2.2.2).mono ?_
    rintro e w4 ⟨v, rfl, hrow4, hown4, hk4⟩
    obtain ⟨pa, pn, pc, rfl, -⟩ := hrow4.form (by omega)
    have HR4 := Lib.hid (sg_row hH2.2.2 hrow4 hown4)
    try have hsb := hsb.kept hk4 id
    refine hK.out _ _ (sgS_next hH2 hhb hk4) (fun hH3 => ?_)
    clear hK K
    try simp only [Act.put, List.setIfInBounds_toArray, List.set_cons_zero, List.set_cons_succ]
    refine wpAnyH_take (i := 8) (oi := ⟨some 47, .move (.tmp 55), 147, "keyring.go:140", #[⟨7, .data⟩], none⟩) (v := ?_) rfl (by kernel_rfl) (by kernel_rfl) (by kernel_rfl) (fun _ _ _ h => h) (Or.inl ⟨by rfl, fun w hSw => ?_⟩) hH3 ?_
    rotate_left 1
    · (try simp only [SgS] at hSw); go_simp; (try with_reducible rfl)
    try simp only [Act.put, List.setIfInBounds_toArray, List.set_cons_zero, List.set_cons_succ]
    refine wpAnyH_take (i := 9) (oi := ⟨some 56, .extract (.tmp 47) 0, 49, "keyring.go:140", #[⟨8, .data⟩], none⟩) (v := ?_) rfl (by kernel_rfl) (by kernel_rfl) (by kernel_rfl) (fun _ _ _ h => h) (Or.inl ⟨by rfl, fun w hSw => ?_⟩) hH3 ?_
    rotate_left 1
    · (try simp only [SgS] at hSw); go_simp; (try with_reducible rfl)
    try simp only [Act.put, List.setIfInBounds_toArray, List.set_cons_zero, List.set_cons_succ]
    refine wpAnyH_take (i := 10) (oi := ⟨some 57, .extract (.tmp 47) 1, 31, "keyring.go:140", #[⟨8, .data⟩, ⟨12, .gcOnly .lateStores⟩], none⟩) (v := ?_) rfl (by kernel_rfl) (by kernel_rfl) (by kernel_rfl) (fun _ _ _ h => h) (Or.inl ⟨by rfl, fun w hSw => ?_⟩) hH3 ?_
    rotate_left 1
    · (try simp only [SgS] at hSw); go_simp; (try with_reducible rfl)
    try simp only [Act.put, List.setIfInBounds_toArray, List.set_cons_zero, List.set_cons_succ]
    refine wpAnyH_ready (rs := [12]) (by kernel_rfl) (by simp) ?_
    refine AllReadyH.cons (o := ⟨none, .store 49 (.tmp 9) (.tmp 56), 0, "keyring.go:140", #[⟨11, .data⟩, ⟨9, .data⟩, ⟨7, .chain⟩, ⟨0, .phase⟩, ⟨1, .phase⟩, ⟨2, .phase⟩, ⟨3, .phase⟩, ⟨4, .phase⟩, ⟨5, .phase⟩, ⟨6, .phase⟩, ⟨7, .phase⟩, ⟨8, .phase⟩, ⟨9, .phase⟩, ⟨10, .textOnly .lateStores⟩, ⟨11, .phase⟩], none⟩) rfl (fun K hK => ?_) AllReadyH.nil
    try replace hsb : Blk w4 wA.heap.size [.int .i64 0, .string ⟨#[]⟩, .slice none 0 0] 49 := hsb
    have q0 := hsb.cell (i := 0) rfl
    have q1 := hsb.cell (i := 1) rfl
    have q2 := hsb.cell (i := 2) rfl
    have f0 := hsb.free 0
    have f1 := hsb.free 1
    have f2 := hsb.free 2
    go_simp
    have HR5 := Lib.hid (sg_rows HR4.out hsb (.int .i64 (i : Int)) (.string ⟨SG.toArray⟩) (.slice pa pn pc))
    have HSB : Hid (Blk _ _ [.int .i64 (i : Int), .string ⟨SG.toArray⟩, .slice pa pn pc] 49) := Lib.hid (((hsb.set 0 (.int .i64 (i : Int))).set 1 (.string ⟨SG.toArray⟩)).set 2 (.slice pa pn pc))
    refine hK.out _ _ (sgS_set hH3 hhb hsl _ _ _ hrlA) (fun hH4 => ?_)
    clear hK K
    try simp only [Act.put, List.setIfInBounds_toArray, List.set_cons_zero, List.set_cons_succ]
    refine wpAnyH_ready (rs := [13]) (by kernel_rfl) (by simp) ?_
    refine AllReadyH.cons (o := ⟨some 8, .assign (.tmp 57), 31, "keyring.go:140", #[⟨10, .data⟩, ⟨12, .chain⟩, ⟨0, .phase⟩, ⟨1, .phase⟩, ⟨2, .phase⟩, ⟨3, .phase⟩, ⟨4, .phase⟩, ⟨5, .phase⟩, ⟨6, .phase⟩, ⟨7, .phase⟩, ⟨8, .phase⟩, ⟨9, .phase⟩, ⟨10, .phase⟩, ⟨11, .phase⟩, ⟨12, .phase⟩], none⟩) rfl (fun K hK => ?_) AllReadyH.nil
    go_simp
    refine hK.out _ _ (hH4) (fun hH5 => ?_)
    clear hK K
    try simp only [Act.put, List.setIfInBounds_toArray, List.set_cons_zero, List.set_cons_succ]
    refine wpAnyH_done (by kernel_rfl) ?_ _
    generalize World.setCell (World.setCell (World.setCell _ _ _) _ _) _ _ = wF at HSB HR5 hH5 ⊢
    have kF := hH5.2.2
    have rF := hH5.2.1
    have s0 := HSB.out.cell (i := 0) rfl
    have s1 := HSB.out.cell (i := 1) rfl
    have s2 := HSB.out.cell (i := 2) rfl
    have lC : C.length = 33 := HLC.out
    obtain ⟨X, Y, hfA, lX, hfB, HY⟩ := sign_build C lC (.int .i64 (i : Int)) (.string ⟨SG.toArray⟩) (.slice pa pn pc)
    simp only [zeros, List.replicate, List.cons_append, List.nil_append] at hfA
    have lY : Hid (Y.length = 36) := Lib.hid (by rw [HY.out, List.length_append, lC]; rfl)
    have HZF := Lib.hid (sign_fin (HFIN.out.2.2.1.kept kF id) lY.out)
    go_wp2_with (first | ((with_reducible show wpList _ _ _ (⟨some 58, _, _, _, _, _⟩ :: _) _ _); refine wpList_load_mid rfl 46 _ rfl w.heap.size 0 rfl C _ rF Tryz.underlying46 rfl HI.out ?_) | ((with_reducible show wpList _ _ _ (⟨none, .store _ (.tmp 4) _, _, _, _, _⟩ :: _) _ _); refine wpList_store_mid rfl 51 _ _ rfl (w.heap.size + 1) 0 Y.toArray rfl rfl ?htw2 ?hiw2 ?h1w2 ?_))
    case htw2 => exact HZF.out.1
    case hiw2 => first | exact info_sized lY.out | simpa using info_sized lY.out
    case h1w2 => first | exact sign_one HY.out HCC.out | exact all_oneCell_toArray (sign_one HY.out HCC.out)
    refine bodyPost_ret (HZF.out.2.result2 rfl rfl Tryz.underlying51 rfl (info_sized lY.out)) rfl ?_
    exact sign_yes (S' := S) HFIN.out.1 (fun k hk => Or.inl hk) HH.out.2.1 HH.out.2.2.1 (HFIN.out.2.2.2.1.fewer (fun k q => q.elim id (fun q => Or.inl (HH.out.2.1 k q)))) (HFIN.out.2.2.2.2.mono (fun k _ e => Or.inr (by rw [e]; exact HFIN.out.1.own))) kF HR5.out HY.out HCC.out HSG.out HDG2.out
  refine AllReadyH.cons (o := ⟨some 9, .alloc 49, 0, "keyring.go:140", #[], none⟩) rfl (fun K hK => ?_) AllReadyH.nil
  go_simp
  obtain ⟨hsb, hsl⟩ := sg_alloc hH0.2.2
  try change Blk (World.drew (World.alloc wA (.cells [.int .i64 0, .string ⟨#[]⟩, .slice none 0 0].toArray 49))) wA.heap.size _ _ at hsb
  try change wA.heap.size ≤ wA.heap.size at hsl
  try have HR4 := Lib.hid (sg_rowa HR4.out (.cells [.int .i64 0, .string ⟨#[]⟩, .slice none 0 0].toArray 49))
  refine hK.out _ _ (sgS_next hH0 hhb ((Kept.refl _ _).alloc _)) (fun hH1 => ?_)
  clear hK K
  try simp only [Act.put, List.setIfInBounds_toArray, List.set_cons_zero, List.set_cons_succ]
  first | generalize World.alloc _ _ = wS at hsb HR4 hH1 ⊢ | generalize World.alloc _ _ = wS at hsb hH1 ⊢
  refine wpAnyH_ready (rs := [6]) (by kernel_rfl) (by simp) ?_
  refine AllReadyH.cons (o := ⟨some 54, .call { callee := .value (.func 57), args := #[.tmp 53], argTypes := #[46] }, 24, "keyring.go:140", #[⟨5, .data⟩], none⟩) rfl (fun K hK => ?_) AllReadyH.nil
  go_simp
  refine (HDG.out _ (HTB.out _ hH1.2.2)).mono ?_
  rintro e w3 ⟨rfl, hk3⟩
  try have hsb := hsb.kept hk3 id
  refine hK.out _ _ (sgS_next hH1 hhb hk3) (fun hH2 => ?_)
  clear hK K
  try simp only [Act.put, List.setIfInBounds_toArray, List.set_cons_zero, List.set_cons_succ]
  refine wpAnyH_ready (rs := [7]) (by kernel_rfl) (by simp) ?_
  refine AllReadyH.cons (o := ⟨some 55, .call { callee := .value (.func 83), args := #[.tmp 51, .tmp 52, .tmp 54], argTypes := #[144, 3, 24] }, 147, "keyring.go:140", #[⟨3, .data⟩, ⟨4, .data⟩, ⟨6, .data⟩, ⟨6, .chain⟩], none⟩) rfl (fun K hK => ?_) AllReadyH.nil
  go_simp
  refine (HTS.out _ hH2.2.2).mono ?_
  rintro e w4 ⟨v, rfl, hrow4, hown4, hk4⟩
  obtain ⟨pa, pn, pc, rfl, -⟩ := hrow4.form (by omega)
  have HR4 := Lib.hid (sg_row hH2.2.2 hrow4 hown4)
  try have hsb := hsb.kept hk4 id
  refine hK.out _ _ (sgS_next hH2 hhb hk4) (fun hH3 => ?_)
  clear hK K
  try simp only [Act.put, List.setIfInBounds_toArray, List.set_cons_zero, List.set_cons_succ]
  refine wpAnyH_take (i := 8) (oi := ⟨some 47, .move (.tmp 55), 147, "keyring.go:140", #[⟨7, .data⟩], none⟩) (v := ?_) rfl (by kernel_rfl) (by kernel_rfl) (by kernel_rfl) (fun _ _ _ h => h) (Or.inl ⟨by rfl, fun w hSw => ?_⟩) hH3 ?_
  rotate_left 1
  · (try simp only [SgS] at hSw); go_simp; (try with_reducible rfl)
  try simp only [Act.put, List.setIfInBounds_toArray, List.set_cons_zero, List.set_cons_succ]
  refine wpAnyH_take (i := 9) (oi := ⟨some 56, .extract (.tmp 47) 0, 49, "keyring.go:140", #[⟨8, .data⟩], none⟩) (v := ?_) rfl (by kernel_rfl) (by kernel_rfl) (by kernel_rfl) (fun _ _ _ h => h) (Or.inl ⟨by rfl, fun w hSw => ?_⟩) hH3 ?_
  rotate_left 1
  · (try simp only [SgS] at hSw); go_simp; (try with_reducible rfl)
  try simp only [Act.put, List.setIfInBounds_toArray, List.set_cons_zero, List.set_cons_succ]
  refine wpAnyH_take (i := 10) (oi := ⟨some 57, .extract (.tmp 47) 1, 31, "keyring.go:140", #[⟨8, .data⟩, ⟨12, .gcOnly .lateStores⟩], none⟩) (v := ?_) rfl (by kernel_rfl) (by kernel_rfl) (by kernel_rfl) (fun _ _ _ h => h) (Or.inl ⟨by rfl, fun w hSw => ?_⟩) hH3 ?_
  rotate_left 1
  · (try simp only [SgS] at hSw); go_simp; (try with_reducible rfl)
  try simp only [Act.put, List.setIfInBounds_toArray, List.set_cons_zero, List.set_cons_succ]
  refine wpAnyH_ready (rs := [12]) (by kernel_rfl) (by simp) ?_
  refine AllReadyH.cons (o := ⟨none, .store 49 (.tmp 9) (.tmp 56), 0, "keyring.go:140", #[⟨11, .data⟩, ⟨9, .data⟩, ⟨7, .chain⟩, ⟨0, .phase⟩, ⟨1, .phase⟩, ⟨2, .phase⟩, ⟨3, .phase⟩, ⟨4, .phase⟩, ⟨5, .phase⟩, ⟨6, .phase⟩, ⟨7, .phase⟩, ⟨8, .phase⟩, ⟨9, .phase⟩, ⟨10, .textOnly .lateStores⟩, ⟨11, .phase⟩], none⟩) rfl (fun K hK => ?_) AllReadyH.nil
  try replace hsb : Blk w4 wA.heap.size [.int .i64 0, .string ⟨#[]⟩, .slice none 0 0] 49 := hsb
  have q0 := hsb.cell (i := 0) rfl
  have q1 := hsb.cell (i := 1) rfl
  have q2 := hsb.cell (i := 2) rfl
  have f0 := hsb.free 0
  have f1 := hsb.free 1
  have f2 := hsb.free 2
  go_simp
  have HR5 := Lib.hid (sg_rows HR4.out hsb (.int .i64 (i : Int)) (.string ⟨SG.toArray⟩) (.slice pa pn pc))
  have HSB : Hid (Blk _ _ [.int .i64 (i : Int), .string ⟨SG.toArray⟩, .slice pa pn pc] 49) := Lib.hid (((hsb.set 0 (.int .i64 (i : Int))).set 1 (.string ⟨SG.toArray⟩)).set 2 (.slice pa pn pc))
  refine hK.out _ _ (sgS_set hH3 hhb hsl _ _ _ hrlA) (fun hH4 => ?_)
  clear hK K
  try simp only [Act.put, List.setIfInBounds_toArray, List.set_cons_zero, List.set_cons_succ]
  refine wpAnyH_ready (rs := [13]) (by kernel_rfl) (by simp) ?_
  refine AllReadyH.cons (o := ⟨some 8, .assign (.tmp 57), 31, "keyring.go:140", #[⟨10, .data⟩, ⟨12, .chain⟩, ⟨0, .phase⟩, ⟨1, .phase⟩, ⟨2, .phase⟩, ⟨3, .phase⟩, ⟨4, .phase⟩, ⟨5, .phase⟩, ⟨6, .phase⟩, ⟨7, .phase⟩, ⟨8, .phase⟩, ⟨9, .phase⟩, ⟨10, .phase⟩, ⟨11, .phase⟩, ⟨12, .phase⟩], none⟩) rfl (fun K hK => ?_) AllReadyH.nil
  go_simp
  refine hK.out _ _ (hH4) (fun hH5 => ?_)
  clear hK K
  try simp only [Act.put, List.setIfInBounds_toArray, List.set_cons_zero, List.set_cons_succ]
  refine wpAnyH_done (by kernel_rfl) ?_ _
  generalize World.setCell (World.setCell (World.setCell _ _ _) _ _) _ _ = wF at HSB HR5 hH5 ⊢
  have kF := hH5.2.2
  have rF := hH5.2.1
  have s0 := HSB.out.cell (i := 0) rfl
  have s1 := HSB.out.cell (i := 1) rfl
  have s2 := HSB.out.cell (i := 2) rfl
  have lC : C.length = 33 := HLC.out
  obtain ⟨X, Y, hfA, lX, hfB, HY⟩ := sign_build C lC (.int .i64 (i : Int)) (.string ⟨SG.toArray⟩) (.slice pa pn pc)
  simp only [zeros, List.replicate, List.cons_append, List.nil_append] at hfA
  have lY : Hid (Y.length = 36) := Lib.hid (by rw [HY.out, List.length_append, lC]; rfl)
  have HZF := Lib.hid (sign_fin (HFIN.out.2.2.1.kept kF id) lY.out)
  go_wp2_with (first | ((with_reducible show wpList _ _ _ (⟨some 58, _, _, _, _, _⟩ :: _) _ _); refine wpList_load_mid rfl 46 _ rfl w.heap.size 0 rfl C _ rF Tryz.underlying46 rfl HI.out ?_) | ((with_reducible show wpList _ _ _ (⟨none, .store _ (.tmp 4) _, _, _, _, _⟩ :: _) _ _); refine wpList_store_mid rfl 51 _ _ rfl (w.heap.size + 1) 0 Y.toArray rfl rfl ?htw3 ?hiw3 ?h1w3 ?_))
  case htw3 => exact HZF.out.1
  case hiw3 => first | exact info_sized lY.out | simpa using info_sized lY.out
  case h1w3 => first | exact sign_one HY.out HCC.out | exact all_oneCell_toArray (sign_one HY.out HCC.out)
  refine bodyPost_ret (HZF.out.2.result2 rfl rfl Tryz.underlying51 rfl (info_sized lY.out)) rfl ?_
  exact sign_yes (S' := S) HFIN.out.1 (fun k hk => Or.inl hk) HH.out.2.1 HH.out.2.2.1 (HFIN.out.2.2.2.1.fewer (fun k q => q.elim id (fun q => Or.inl (HH.out.2.1 k q)))) (HFIN.out.2.2.2.2.mono (fun k _ e => Or.inr (by rw [e]; exact HFIN.out.1.own))) kF HR5.out HY.out HCC.out HSG.out HDG2.out
end
end Go.Proofs.YtpmdlkogccojmaaGreatDoor

namespace Go.Proofs.YtpmdlkogccojmaaGreatDoor
open Go.RowKit
abbrev S12 (wB w' : World) (S : Nat → Prop) (hb : Nat) (C : List Value) : Prop := w'.rangeAt hb 0 C ∧ Kept S wB w'
theorem s12_alloc {wB w1 : World} {S : Nat → Prop} {hb : Nat} {C : List Value} (h : S12 wB w1 S hb C) (o : Obj) (hl : hb < wB.heap.size) : S12 wB (w1.alloc o) S hb C := ⟨rangeAt_kept h.1 ((Kept.refl (fun _ => False) w1).alloc o) (Nat.lt_of_lt_of_le hl h.2.size) id, h.2.alloc o⟩
theorem ring_append {wB : World} {r d : Nat} {R : RingM} {S : Nat → Prop} (h : IsRing wB r d R S) (x : Hd) (hx : HdOk x) (h7 : R.signed.length < 8) :
    ∃ a n c a1 n1 c1 w7, wB.cell? ⟨r, 2, none⟩ = some (.slice a n c) ∧ (Builtin.append_ #[143, 143] 143 #[.slice a n c, .slice (some ⟨wB.heap.size, 0, none⟩) 1 1]).run Tryz.prog (wB.alloc (.cells (headC (x.1 : Int) x.2).toArray 46)) = .ok (Value.slice a1 n1 c1) w7 ∧
      w7.cell? ⟨r, 2, none⟩ = some (.slice a n c) ∧ w7.frozen? ⟨r, 2, none⟩ = false ∧ (∀ k, (Value.slice a1 n1 c1).ownBlock = some k → S k ∨ (wB.heap.size ≤ k ∧ k < (w7.setCell ⟨r, 2, none⟩ (Value.slice a1 n1 c1)).heap.size)) ∧ IsRing (w7.setCell ⟨r, 2, none⟩ (Value.slice a1 n1 c1)) r d { R with signed := R.signed ++ [x] } (fun k => S k ∨ (Value.slice a1 n1 c1).ownBlock = some k) ∧ Kept S wB (w7.setCell ⟨r, 2, none⟩ (Value.slice a1 n1 c1)) ∧ Kept S wB w7 := by
  obtain ⟨⟨t, v, h1, h2, h3, h4, h5⟩, h6, h7', h8, h9⟩ := h
  obtain ⟨a, n, c, rfl, -⟩ := h3.form (by omega)
  obtain ⟨v', w7, hr, hrow, hk, hown⟩ := append_head1 h3 (fun y hy => (h7' y hy).2.2) x hx.2.2 (by omega)
  obtain ⟨a1, n1, c1, rfl, -⟩ := hrow.form (by omega)
  have hk7 : Kept S wB w7 := hk.mono (fun k _ q => h5 k q)
  have b1 := h1.kept hk (fun q => h3.ne_blk q h1 (by decide) rfl)
  have kc := kept_cell w7 r 2 (Value.slice a1 n1 c1)
  refine ⟨a, n, c, a1, n1, c1, w7, h1.cell (i := 2) rfl, hr, b1.cell (i := 2) rfl, b1.free 2, fun k q => (hown k q).imp (h5 k) (fun o => ⟨o, Nat.lt_of_lt_of_le (hrow.lt q) kc.size⟩), ⟨⟨t, _, b1.set 2 (Value.slice a1 n1 c1), (h2.kept hk (fun q => h3.ne_blk q h2.1 (by decide) rfl)).kept kc ?_, hrow.kept kc (fun k q e => hrow.ne_blk q b1 (by decide) e), Or.inl h4, fun k q => Or.inr q⟩, Or.inl h6, fun y hy => ?_, ?_, h9⟩, hk7.trans (kc.mono (fun k _ e => by rw [e]; exact h6)), hk7⟩
  · rintro rfl
    have := (h2.kept hk (fun q => h3.ne_blk q h2.1 (by decide) rfl)).1
    unfold Blk at this b1
    rw [this] at b1
    simp at b1
  · rcases List.mem_append.1 hy with q | q
    · exact h7' y q
    · rw [List.mem_singleton.1 q]; exact hx
  · rw [List.length_append]
    show R.signed.length + 1 ≤ 8
    omega
section
variable {w : World} {r d : Nat} {R : RingM} {S B : Nat → Prop} {M : DiskM}
set_option maxRecDepth 100000 in
set_option maxHeartbeats 4000000 in
theorem sign_fresh (h : IsRing w r d R S) (hd : Apart B d M w) (hS : ∀ k, S k → B k) (size : Nat) (root : By) (hz : size ≤ 4096) (hroot : root.length = 32) (ho : R.over M = false) (hz1 : 1 ≤ size) (i : Nat) (hi : i < 8) (hil : R.signed.length = i) (hx : nextF R.signed (size : Int) root = ((i : Int), true, 0)) (M' : DiskM) (hkr : M.keepR (size, root) = (0, M')) (hc : M.files.length + M.loose.length < 300000000) (hKB : Keeps B)
    (ht : Tab w) (hTS : ¬ S 0 ∧ ¬ S 1) :
    Calls Tryz.prog 45 #[.pointer (some ⟨r, 0, none⟩), headV (size : Int) root] w (SignYes B S r d w size root i { R with signed := R.signed ++ [(size, root)] } M') := by
  have hrl := h.lt
  have hBl := fun k (q : B k) => hd.lt q
  have HN := Lib.hid (ring_none (h.same (signW_kept w size root)))
  have hdn := ring_down (h.same (signW_kept w size root)) (hd.signW size root)
  have hds := dead_same (over_not ho).1
  rw [ho] at hdn
  have HD := Lib.hid hdn
  have HE := Lib.hid hds
  have hnx := fun w' (hr' : IsRing w' r d R S) => next_any hr' (size : Int) root hroot
  rw [hx] at hnx
  unfold NextPost at hnx
  simp only at hnx
  have HX := Lib.hid hnx
  have HH := Lib.hid (And.intro (hd.signW size root) (And.intro hS (And.intro hBl (hS r h.own))))
  have HT := Lib.hid (fun w' (k : Kept (· = r) (signW w (size : Int) root) w') => (ht.same (signW_kept w (size : Int) root)).kept k (fun e => hTS.1 (by rw [e]; exact h.own)) (fun e => hTS.2 (by rw [e]; exact h.own)))
  have HI0 := Lib.hid (show (Tryz.prog.info? 46).map (·.size) = some (headC (size : Int) root).length by rw [headC_len hroot]; exact info_head)
  have HDI := Lib.hid (fun w' ht' => digest_any w' size root hz hroot ht')
  have hDl := digestF_len size root
  have hkp := fun w' (hr' : IsRing w' r d R S) (hd' : Apart (ownW w B) d M w') ht' => keep_any hr' hd' (fun k q => Or.inl (hS k q)) (over_not ho).1 size root hz hroot hc ht'
  rw [hkr] at hkp
  have hds61 : { R with dead := decide ((0 : Int) = 61) } = R := dead_same (over_not ho).1
  have HK := Lib.hid hkp
  have HE61 := Lib.hid hds61
  have HTS0 := Lib.hid hTS
  clear hdn hd hS hBl hds hnx hx h hkp hkr hds61
  go_enter Tryz.func45, Tryz.ntmps45
  go_wp2_with (first | (go_at_call 79; refine HN.out.mono ?_; rintro e w' ⟨rfl, rfl⟩) | (go_at_call 80; refine HD.out.mono ?_; rintro e w1 ⟨rfl, hr1, hk1⟩; rw [HE.out] at hr1; have hb1 := (signW_head w (size : Int) root).kept hk1 (by omega)) | ((with_reducible show wpList _ _ _ (⟨some 20, _, _, _, _, _⟩ :: _) _ _); refine wpList_load_mid rfl 46 _ rfl w.heap.size 0 rfl (headC (size : Int) root) _ hb1.range0 Tryz.underlying46 rfl HI0.out ?_) | (go_at_call 81; refine (HX.out _ hr1).mono ?_; rintro e w2 ⟨rfl, hk2⟩; have hb2 := hb1.kept hk2 id; have ha2 := Lib.hid ((HH.out.1.turn hk1 (fun k e => by rw [e]; exact Or.inl HH.out.2.2.2)).same hk2)) | ((with_reducible show wpList _ _ _ (⟨some 31, _, _, _, _, _⟩ :: _) _ _); refine wpList_load_mid rfl 46 _ rfl w.heap.size 0 rfl (headC (size : Int) root) _ hb2.range0 Tryz.underlying46 rfl HI0.out ?_) | (go_at_call 82; refine (HK.out _ (hr1.same hk2) ha2.out ((HT.out _ hk1).same hk2)).mono ?_; rintro e wB ⟨rfl, hr3, ha3, hk3⟩))
  have hrB : IsRing wB r d R S := by rw [← HE61.out]; exact hr3
  have hS := HH.out.2.1
  have hBl := HH.out.2.2.1
  have nS : ∀ k, w.heap.size ≤ k → ¬ S k := fun k hk q => by have := hBl k (hS k q); omega
  have kB : Kept (fun k => ¬ ownW w B k ∨ S k) (signW w (size : Int) root) wB := ((hk1.mono (fun k _ e => Or.inr (by rw [e]; exact hrB.own))).trans (hk2.mono (fun _ _ => False.elim))).trans (hk3.mono (fun k _ e => e.imp id (fun q => by rw [q]; exact hrB.own)))
  have hbB := (hb2.kept hk3 (fun q => q.elim (fun n => n (Or.inr (Or.inl rfl))) (fun e => by omega)))
  have hzB := (((signW_res w (size : Int) root).kept hk1 (by omega)).kept hk2 id).kept hk3 (fun q => q.elim (fun n => n (Or.inr (Or.inr rfl))) (fun e => by omega))
  have htB : Tab wB := (ht.same (signW_kept w (size : Int) root)).kept kB (fun q => q.elim (fun n => n (Or.inl hKB.1)) HTS0.out.1) (fun q => q.elim (fun n => n (Or.inl hKB.2)) HTS0.out.2)
  obtain ⟨a0, n0, c0, a1, n1, c1, w7, hc2, hr1, hc7, hf7, hS', hrA, kS, kS7⟩ := ring_append (hrB.same (Kept.refl _ _).drew) (size, root) ⟨hz1, hz, hroot⟩ (by omega)
  obtain ⟨C, hC⟩ : ∃ C, headC (size : Int) root = C := ⟨_, rfl⟩
  have hf2 := fold_head (size := (size : Int)) hroot
  rw [hC] at hf2
  simp only [zeros, List.replicate] at hf2
  have lC : C.length = 33 := by rw [← hC]; exact headC_len hroot
  have HI : Hid ((Tryz.prog.info? 46).map (·.size) = some C.length) := by rw [← hC]; exact HI0
  have SB : S12 wB wB.drew S w.heap.size C := ⟨by rw [← hC]; exact (hbB.drew).range0, (Kept.refl _ _).drew⟩
  have hr1 : (Builtin.append_ #[143, 143] 143 #[.slice a0 n0 c0, .slice (some ⟨wB.heap.size, 0, none⟩) 1 1]).run Tryz.prog (wB.alloc (.cells C.toArray 46)).drew = .ok (Value.slice a1 n1 c1) w7 := by rw [← hC]; exact hr1
  have hrng : w7.rangeAt w.heap.size 0 C := by rw [← hC]; exact ((hbB.drew).kept kS7 (nS _ (Nat.le_refl _))).range0
  have HS7 := Lib.hid (fun (wx : World) (_ : S12 wB wx S w.heap.size C) => (⟨hrng, ((Kept.refl (fun _ => False) wB).drew.mono (fun _ _ => False.elim)).trans kS7⟩ : S12 wB w7 S w.heap.size C))
  have HS8 := Lib.hid (⟨rangeAt_kept hrng (kept_cell w7 r 2 (Value.slice a1 n1 c1)) (Nat.lt_of_lt_of_le hbB.lt kS7.size) (by omega), ((Kept.refl (fun _ => False) wB).drew.mono (fun _ _ => False.elim)).trans kS⟩ : S12 wB (w7.setCell ⟨r, 2, none⟩ (Value.slice a1 n1 c1)) S w.heap.size C)
  have HC7 := Lib.hid (And.intro hc7 hf7)
  have hbl := hbB.lt
  have HSB2 := Lib.hid (show w.heap.size + 2 ≤ wB.heap.size from hzB.lt)
  have hc3 : wB.cell? ⟨r, 2, none⟩ = some (.slice a0 n0 c0) := hc2
  have hc4 : (wB.alloc (.cells C.toArray 46)).cell? ⟨r, 2, none⟩ = some (.slice a0 n0 c0) := ((Kept.refl (fun _ => False) wB).alloc _).cell hc3 id
  have hFIN : IsRing (w7.setCell ⟨r, 2, none⟩ (Value.slice a1 n1 c1)) r d { R with signed := R.signed ++ [(size, root)] } (fun k => S k ∨ (Value.slice a1 n1 c1).ownBlock = some k) ∧ Kept S wB (w7.setCell ⟨r, 2, none⟩ (Value.slice a1 n1 c1)) ∧ (∀ k, (Value.slice a1 n1 c1).ownBlock = some k → S k ∨ (wB.heap.size ≤ k ∧ k < (w7.setCell ⟨r, 2, none⟩ (Value.slice a1 n1 c1)).heap.size)) := ⟨hrA, ((Kept.refl (fun _ => False) wB).drew.mono (fun _ _ => False.elim)).trans kS, hS'⟩
  have HFA := Lib.hid hFIN
  have HBB := Lib.hid (And.intro hbB (And.intro hzB (And.intro ha3 (And.intro kB htB))))
  clear hrA kS kS7 hrng hFIN hS' hrB hbB hzB kB htB hb2 hb1 hc7 hf7
  refine wp_region_held_drew (S := (fun w' => S12 wB w' S w.heap.size C)) (by kernel_rfl) SB (fun hH0 => ?_)
  refine wpAnyH_take (i := 0) (oi := ⟨some 37, .move (.tmp 0), 63, "keyring.go:138", #[], none⟩) (v := ?_) rfl (by kernel_rfl) (by kernel_rfl) (by kernel_rfl) (fun _ _ _ h => h) (Or.inl ⟨by rfl, fun w hSw => ?_⟩) hH0 ?_
  rotate_left 1
  · (try simp only [S12] at hSw); go_simp; (try with_reducible rfl)
  try simp only [Act.put, List.setIfInBounds_toArray, List.set_cons_zero, List.set_cons_succ]
  refine wpAnyH_take (i := 1) (oi := ⟨some 38, .move (.tmp 0), 63, "keyring.go:138", #[], none⟩) (v := ?_) rfl (by kernel_rfl) (by kernel_rfl) (by kernel_rfl) (fun _ _ _ h => h) (Or.inl ⟨by rfl, fun w hSw => ?_⟩) hH0 ?_
  rotate_left 1
  · (try simp only [S12] at hSw); go_simp; (try with_reducible rfl)
  try simp only [Act.put, List.setIfInBounds_toArray, List.set_cons_zero, List.set_cons_succ]
  refine wpAnyH_take (i := 2) (oi := ⟨some 39, .nilCheck (.tmp 38), 0, "keyring.go:138", #[⟨1, .data⟩], none⟩) (v := ?_) rfl (by kernel_rfl) (by kernel_rfl) (by kernel_rfl) (fun _ _ _ h => h) (Or.inl ⟨by rfl, fun w hSw => ?_⟩) hH0 ?_
  rotate_left 1
  · (try simp only [S12] at hSw); go_simp; (try with_reducible rfl)
  try simp only [Act.put, List.setIfInBounds_toArray, List.set_cons_zero, List.set_cons_succ]
  refine wpAnyH_take (i := 3) (oi := ⟨some 40, .fieldAddr 146 (.tmp 39) 2, 0, "keyring.go:138", #[⟨2, .data⟩], none⟩) (v := ?_) rfl (by kernel_rfl) (by kernel_rfl) (by kernel_rfl) (fun _ _ _ h => h) (Or.inl ⟨by rfl, fun w hSw => ?_⟩) hH0 ?_
  rotate_left 1
  · (try simp only [S12] at hSw); go_simp; (try with_reducible rfl)
  try simp only [Act.put, List.setIfInBounds_toArray, List.set_cons_zero, List.set_cons_succ]
  refine wpAnyH_take (i := 5) (oi := ⟨some 42, .load 46 (.tmp 3), 46, "keyring.go:138", #[], none⟩) (v := .agg (C).toArray) rfl (by kernel_rfl) (by kernel_rfl) (by kernel_rfl) (fun _ _ _ h => h) (yieldsIf_load_mid (by rfl) _ _ rfl (w.heap.size) (0) rfl (C) _ (fun w q => q.1) Tryz.underlying46 rfl HI.out) hH0 ?_
  try simp only [Act.put, List.setIfInBounds_toArray, List.set_cons_zero, List.set_cons_succ]
  refine wpAnyH_ready (rs := [4, 6]) (by kernel_rfl) (by simp) ?_
  refine AllReadyH.cons (o := ⟨some 41, .load 143 (.tmp 40), 143, "keyring.go:138", #[⟨3, .data⟩], none⟩) rfl (fun K hK => ?_) ?_
  · go_simp
    refine hK.out _ _ (hH0) (fun hH1 => ?_)
    clear hK K
    try simp only [Act.put, List.setIfInBounds_toArray, List.set_cons_zero, List.set_cons_succ]
    refine wpAnyH_ready (rs := [6]) (by kernel_rfl) (by simp) ?_
    refine AllReadyH.cons (o := ⟨some 43, .buildSlice 143 1 #[(0, .tmp 42)], 143, "keyring.go:138", #[⟨5, .data⟩], none⟩) rfl (fun K hK => ?_) AllReadyH.nil
    go_simp
    refine hK.out _ _ (s12_alloc hH1 _ hbl) (fun hH2 => ?_)
    clear hK K
    try simp only [Act.put, List.setIfInBounds_toArray, List.set_cons_zero, List.set_cons_succ]
    refine wpAnyH_ready (rs := [7]) (by kernel_rfl) (by simp) ?_
    refine AllReadyH.cons (o := ⟨some 44, .call { callee := .builtin .append, args := #[.tmp 41, .tmp 43], argTypes := #[143, 143] }, 143, "keyring.go:138", #[⟨4, .data⟩, ⟨6, .data⟩], none⟩) rfl (fun K hK => ?_) AllReadyH.nil
    refine step_append_run rfl _ _ 143 143 rfl _ _ rfl rfl _ _ hr1 ?_
    refine hK.out _ _ (HS7.out _ hH2) (fun hH3 => ?_)
    clear hK K
    try simp only [Act.put, List.setIfInBounds_toArray, List.set_cons_zero, List.set_cons_succ]
    refine wpAnyH_take (i := 8) (oi := ⟨some 45, .nilCheck (.tmp 37), 0, "keyring.go:138", #[⟨0, .data⟩, ⟨0, .phase⟩, ⟨1, .phase⟩, ⟨2, .phase⟩, ⟨3, .phase⟩, ⟨4, .phase⟩, ⟨5, .phase⟩, ⟨6, .phase⟩, ⟨7, .phase⟩], none⟩) (v := ?_) rfl (by kernel_rfl) (by kernel_rfl) (by kernel_rfl) (fun _ _ _ h => h) (Or.inl ⟨by rfl, fun w hSw => ?_⟩) hH3 ?_
    rotate_left 1
    · (try simp only [S12] at hSw); go_simp; (try with_reducible rfl)
    try simp only [Act.put, List.setIfInBounds_toArray, List.set_cons_zero, List.set_cons_succ]
    refine wpAnyH_take (i := 9) (oi := ⟨some 46, .fieldAddr 146 (.tmp 45) 2, 0, "keyring.go:138", #[⟨8, .data⟩, ⟨0, .phase⟩, ⟨1, .phase⟩, ⟨2, .phase⟩, ⟨3, .phase⟩, ⟨4, .phase⟩, ⟨5, .phase⟩, ⟨6, .phase⟩, ⟨7, .phase⟩], none⟩) (v := ?_) rfl (by kernel_rfl) (by kernel_rfl) (by kernel_rfl) (fun _ _ _ h => h) (Or.inl ⟨by rfl, fun w hSw => ?_⟩) hH3 ?_
    rotate_left 1
    · (try simp only [S12] at hSw); go_simp; (try with_reducible rfl)
    try simp only [Act.put, List.setIfInBounds_toArray, List.set_cons_zero, List.set_cons_succ]
    refine wpAnyH_ready (rs := [10]) (by kernel_rfl) (by simp) ?_
    refine AllReadyH.cons (o := ⟨none, .store 143 (.tmp 46) (.tmp 44), 0, "keyring.go:138", #[⟨9, .data⟩, ⟨7, .data⟩, ⟨7, .chain⟩, ⟨0, .phase⟩, ⟨1, .phase⟩, ⟨2, .phase⟩, ⟨3, .phase⟩, ⟨4, .phase⟩, ⟨5, .phase⟩, ⟨6, .phase⟩, ⟨7, .phase⟩], none⟩) rfl (fun K hK => ?_) AllReadyH.nil
    have q7 := HC7.out.1
    have f7 := HC7.out.2
    go_simp
    refine hK.out _ _ (HS8.out) (fun hH4 => ?_)
    clear hK K
    try simp only [Act.put, List.setIfInBounds_toArray, List.set_cons_zero, List.set_cons_succ]
    refine wpAnyH_done (by kernel_rfl) ?_ _
    go_wp2_with fail
    generalize World.setCell w7 _ (Value.slice a1 n1 c1) = wA at HFA ⊢
    have hrA := HFA.out.1
    have kS := HFA.out.2.1
    have HFA2 := Lib.hid HFA.out.2.2
    have HSZ := Lib.hid (show w.heap.size + 2 ≤ wB.heap.size from HSB2.out)
    have hbA : Blk wA w.heap.size (headC (size : Int) root) 46 := HBB.out.1.kept kS (nS _ (Nat.le_refl _))
    have hzA := HBB.out.2.1.kept kS (nS _ (by omega))
    have htA := HBB.out.2.2.2.2.kept kS HTS0.out.1 HTS0.out.2
    have kA : Kept (fun k => ¬ ownW w B k ∨ S k) (signW w (size : Int) root) wA := HBB.out.2.2.2.1.then_ kS (fun k _ q => Or.inr q)
    have haA : Apart (fun k => ownW w B k ∨ (S k ∨ (Value.slice a1 n1 c1).ownBlock = some k)) d M' wA := HBB.out.2.2.1.grow kS (fun k _ q => Or.inl (hS k q)) (fun k q => q.elim Or.inl (fun q => q.elim (fun q => Or.inl (Or.inl (hS k q))) (fun q => (HFA.out.2.2 k q).elim (fun q => Or.inl (Or.inl (hS k q))) Or.inr)))
    obtain ⟨⟨t, vv, hrb, htree, -, -, -⟩, -, -, -, hsh⟩ := id hrA
    have hrlA := hrA.lt
    have hhb : w.heap.size < wA.heap.size := hbA.lt
    have HTS := Lib.hid (fun w' (k : Kept (fun _ => False) wA w') => treeSign_any (htree.kept k id) i (digestF size root) hsh hi hDl (htA.same k))
    have HTB := Lib.hid (fun w' (k : Kept (fun _ => False) wA w') => htA.same k)
    have HFIN := Lib.hid (And.intro hrA (And.intro hbA (And.intro hzA (And.intro haA kA))))
    obtain ⟨SG, hSG⟩ : ∃ SG, signF R.seed.data.toList i (digestF size root) = SG := ⟨_, rfl⟩
    rw [hSG] at HTS
    have HSG := Lib.hid hSG
    obtain ⟨C, hC⟩ : ∃ C, headC (size : Int) root = C := ⟨_, rfl⟩
    have HCC := Lib.hid hC
    have SA : SgS wA wA.drew r t w.heap.size C := ⟨(hrb.drew).cell (i := 1) rfl, by rw [← hC]; exact (hbA.drew).range0, (Kept.refl _ _).drew⟩
    have HI : Hid ((Tryz.prog.info? 46).map (·.size) = some C.length) := by rw [← hC]; exact HI0
    have HLC := Lib.hid (show C.length = 33 by rw [← hC]; exact headC_len hroot)
    have HDG := Lib.hid (fun w' ht' => (by rw [← hC]; exact HDI.out w' ht' : Calls Tryz.prog 57 #[.agg C.toArray] w' fun e w'' => e = .returned (hashV (digestF size root)) ∧ Kept (fun _ => False) w' w''))
    generalize hDG : digestF size root = DG at *
    have HDG2 := Lib.hid hDG
    clear hDG hSG hrA hbA hzA haA htA kA hrb htree hsh hC
    refine wp_region_held_drew (S := (fun w' => SgS wA w' r t w.heap.size C)) (by kernel_rfl) SA (fun hH0 => ?_)
    refine wpAnyH_take (i := 0) (oi := ⟨some 48, .move (.tmp 0), 63, "keyring.go:140", #[], none⟩) (v := ?_) rfl (by kernel_rfl) (by kernel_rfl) (by kernel_rfl) (fun _ _ _ h => h) (Or.inl ⟨by rfl, fun w hSw => ?_⟩) hH0 ?_
    rotate_left 1
    · (try simp only [SgS] at hSw); go_simp; (try with_reducible rfl)
    try simp only [Act.put, List.setIfInBounds_toArray, List.set_cons_zero, List.set_cons_succ]
    refine wpAnyH_take (i := 1) (oi := ⟨some 49, .nilCheck (.tmp 48), 0, "keyring.go:140", #[⟨0, .data⟩], none⟩) (v := ?_) rfl (by kernel_rfl) (by kernel_rfl) (by kernel_rfl) (fun _ _ _ h => h) (Or.inl ⟨by rfl, fun w hSw => ?_⟩) hH0 ?_
    rotate_left 1
    · (try simp only [SgS] at hSw); go_simp; (try with_reducible rfl)
    try simp only [Act.put, List.setIfInBounds_toArray, List.set_cons_zero, List.set_cons_succ]
    refine wpAnyH_take (i := 2) (oi := ⟨some 50, .fieldAddr 146 (.tmp 49) 1, 0, "keyring.go:140", #[⟨1, .data⟩], none⟩) (v := ?_) rfl (by kernel_rfl) (by kernel_rfl) (by kernel_rfl) (fun _ _ _ h => h) (Or.inl ⟨by rfl, fun w hSw => ?_⟩) hH0 ?_
    rotate_left 1
    · (try simp only [SgS] at hSw); go_simp; (try with_reducible rfl)
    try simp only [Act.put, List.setIfInBounds_toArray, List.set_cons_zero, List.set_cons_succ]
    refine wpAnyH_take (i := 3) (oi := ⟨some 51, .load 144 (.tmp 50), 144, "keyring.go:140", #[⟨2, .data⟩], none⟩) (v := ?_) rfl (by kernel_rfl) (by kernel_rfl) (by kernel_rfl) (fun _ _ _ h => h) (Or.inl ⟨by rfl, fun w hSw => ?_⟩) hH0 ?_
    rotate_left 1
    · (try simp only [SgS] at hSw); go_simp; (try with_reducible rfl)
    try simp only [Act.put, List.setIfInBounds_toArray, List.set_cons_zero, List.set_cons_succ]
    refine wpAnyH_take (i := 4) (oi := ⟨some 52, .move (.tmp 6), 3, "keyring.go:140", #[], none⟩) (v := ?_) rfl (by kernel_rfl) (by kernel_rfl) (by kernel_rfl) (fun _ _ _ h => h) (Or.inl ⟨by rfl, fun w hSw => ?_⟩) hH0 ?_
    rotate_left 1
    · (try simp only [SgS] at hSw); go_simp; (try with_reducible rfl)
    try simp only [Act.put, List.setIfInBounds_toArray, List.set_cons_zero, List.set_cons_succ]
    refine wpAnyH_take (i := 5) (oi := ⟨some 53, .load 46 (.tmp 3), 46, "keyring.go:140", #[], none⟩) (v := .agg (C).toArray) rfl (by kernel_rfl) (by kernel_rfl) (by kernel_rfl) (fun _ _ _ h => h) (yieldsIf_load_mid (by rfl) _ _ rfl (w.heap.size) (0) rfl (C) _ (fun w q => q.2.1) Tryz.underlying46 rfl HI.out) hH0 ?_
    try simp only [Act.put, List.setIfInBounds_toArray, List.set_cons_zero, List.set_cons_succ]
    refine wpAnyH_ready (rs := [6, 11]) (by kernel_rfl) (by simp) ?_
    refine AllReadyH.cons (o := ⟨some 54, .call { callee := .value (.func 57), args := #[.tmp 53], argTypes := #[46] }, 24, "keyring.go:140", #[⟨5, .data⟩], none⟩) rfl (fun K hK => ?_) ?_
    · go_simp
      refine (HDG.out _ (HTB.out _ hH0.2.2)).mono ?_
      rintro e w3 ⟨rfl, hk3⟩
      try have hsb := hsb.kept hk3 id
      refine hK.out _ _ (sgS_next hH0 hhb hk3) (fun hH1 => ?_)
      clear hK K
      try simp only [Act.put, List.setIfInBounds_toArray, List.set_cons_zero, List.set_cons_succ]
      refine wpAnyH_ready (rs := [7, 11]) (by kernel_rfl) (by simp) ?_
      refine AllReadyH.cons (o := ⟨some 55, .call { callee := .value (.func 83), args := #[.tmp 51, .tmp 52, .tmp 54], argTypes := #[144, 3, 24] }, 147, "keyring.go:140", #[⟨3, .data⟩, ⟨4, .data⟩, ⟨6, .data⟩, ⟨6, .chain⟩], none⟩) rfl (fun K hK => ?_) ?_
      · go_simp
        refine (HTS.out _ hH1.2.2).mono ?_
        rintro e w4 ⟨v, rfl, hrow4, hown4, hk4⟩
        obtain ⟨pa, pn, pc, rfl, -⟩ := hrow4.form (by omega)
        have HR4 := Lib.hid (sg_row hH1.2.2 hrow4 hown4)
        try have hsb := hsb.kept hk4 id
        refine hK.out _ _ (sgS_next hH1 hhb hk4) (fun hH2 => ?_)
        clear hK K
        try simp only [Act.put, List.setIfInBounds_toArray, List.set_cons_zero, List.set_cons_succ]
        refine wpAnyH_take (i := 8) (oi := ⟨some 47, .move (.tmp 55), 147, "keyring.go:140", #[⟨7, .data⟩], none⟩) (v := ?_) rfl (by kernel_rfl) (by kernel_rfl) (by kernel_rfl) (fun _ _ _ h => h) (Or.inl ⟨by rfl, fun w hSw => ?_⟩) hH2 ?_
        rotate_left 1
        · (try simp only [SgS] at hSw); go_simp; (try with_reducible rfl)
        try simp only [Act.put, List.setIfInBounds_toArray, List.set_cons_zero, List.set_cons_succ]
        refine wpAnyH_take (i := 9) (oi := ⟨some 56, .extract (.tmp 47) 0, 49, "keyring.go:140", #[⟨8, .data⟩], none⟩) (v := ?_) rfl (by kernel_rfl) (by kernel_rfl) (by kernel_rfl) (fun _ _ _ h => h) (Or.inl ⟨by rfl, fun w hSw => ?_⟩) hH2 ?_
        rotate_left 1
        · (try simp only [SgS] at hSw); go_simp; (try with_reducible rfl)
        try simp only [Act.put, List.setIfInBounds_toArray, List.set_cons_zero, List.set_cons_succ]
        refine wpAnyH_take (i := 10) (oi := ⟨some 57, .extract (.tmp 47) 1, 31, "keyring.go:140", #[⟨8, .data⟩, ⟨12, .gcOnly .lateStores⟩], none⟩) (v := ?_) rfl (by kernel_rfl) (by kernel_rfl) (by kernel_rfl) (fun _ _ _ h => h) (Or.inl ⟨by rfl, fun w hSw => ?_⟩) hH2 ?_
        rotate_left 1
        · (try simp only [SgS] at hSw); go_simp; (try with_reducible rfl)
        try simp only [Act.put, List.setIfInBounds_toArray, List.set_cons_zero, List.set_cons_succ]
        refine wpAnyH_ready (rs := [11]) (by kernel_rfl) (by simp) ?_
        refine AllReadyH.cons (o := ⟨some 9, .alloc 49, 0, "keyring.go:140", #[], none⟩) rfl (fun K hK => ?_) AllReadyH.nil
        go_simp
        obtain ⟨hsb, hsl⟩ := sg_alloc hH2.2.2
        try change Blk (World.drew (World.alloc wA (.cells [.int .i64 0, .string ⟨#[]⟩, .slice none 0 0].toArray 49))) wA.heap.size _ _ at hsb
        try change wA.heap.size ≤ wA.heap.size at hsl
        try have HR4 := Lib.hid (sg_rowa HR4.out (.cells [.int .i64 0, .string ⟨#[]⟩, .slice none 0 0].toArray 49))
        refine hK.out _ _ (sgS_next hH2 hhb ((Kept.refl _ _).alloc _)) (fun hH3 => ?_)
        clear hK K
        try simp only [Act.put, List.setIfInBounds_toArray, List.set_cons_zero, List.set_cons_succ]
        first | generalize World.alloc _ _ = wS at hsb HR4 hH3 ⊢ | generalize World.alloc _ _ = wS at hsb hH3 ⊢
        refine wpAnyH_ready (rs := [12]) (by kernel_rfl) (by simp) ?_
        refine AllReadyH.cons (o := ⟨none, .store 49 (.tmp 9) (.tmp 56), 0, "keyring.go:140", #[⟨11, .data⟩, ⟨9, .data⟩, ⟨7, .chain⟩, ⟨0, .phase⟩, ⟨1, .phase⟩, ⟨2, .phase⟩, ⟨3, .phase⟩, ⟨4, .phase⟩, ⟨5, .phase⟩, ⟨6, .phase⟩, ⟨7, .phase⟩, ⟨8, .phase⟩, ⟨9, .phase⟩, ⟨10, .textOnly .lateStores⟩, ⟨11, .phase⟩], none⟩) rfl (fun K hK => ?_) AllReadyH.nil
        try replace hsb : Blk w4 wA.heap.size [.int .i64 0, .string ⟨#[]⟩, .slice none 0 0] 49 := hsb
        have q0 := hsb.cell (i := 0) rfl
        have q1 := hsb.cell (i := 1) rfl
        have q2 := hsb.cell (i := 2) rfl
        have f0 := hsb.free 0
        have f1 := hsb.free 1
        have f2 := hsb.free 2
        go_simp
        have HR5 := Lib.hid (sg_rows HR4.out hsb (.int .i64 (i : Int)) (.string ⟨SG.toArray⟩) (.slice pa pn pc))
        have HSB : Hid (Blk _ _ [.int .i64 (i : Int), .string ⟨SG.toArray⟩, .slice pa pn pc] 49) := Lib.hid (((hsb.set 0 (.int .i64 (i : Int))).set 1 (.string ⟨SG.toArray⟩)).set 2 (.slice pa pn pc))
        refine hK.out _ _ (sgS_set hH3 hhb hsl _ _ _ hrlA) (fun hH4 => ?_)
        clear hK K
        try simp only [Act.put, List.setIfInBounds_toArray, List.set_cons_zero, List.set_cons_succ]
        refine wpAnyH_ready (rs := [13]) (by kernel_rfl) (by simp) ?_
        refine AllReadyH.cons (o := ⟨some 8, .assign (.tmp 57), 31, "keyring.go:140", #[⟨10, .data⟩, ⟨12, .chain⟩, ⟨0, .phase⟩, ⟨1, .phase⟩, ⟨2, .phase⟩, ⟨3, .phase⟩, ⟨4, .phase⟩, ⟨5, .phase⟩, ⟨6, .phase⟩, ⟨7, .phase⟩, ⟨8, .phase⟩, ⟨9, .phase⟩, ⟨10, .phase⟩, ⟨11, .phase⟩, ⟨12, .phase⟩], none⟩) rfl (fun K hK => ?_) AllReadyH.nil
        go_simp
        refine hK.out _ _ (hH4) (fun hH5 => ?_)
        clear hK K
        try simp only [Act.put, List.setIfInBounds_toArray, List.set_cons_zero, List.set_cons_succ]
        refine wpAnyH_done (by kernel_rfl) ?_ _
        generalize World.setCell (World.setCell (World.setCell _ _ _) _ _) _ _ = wF at HSB HR5 hH5 ⊢
        have kF := hH5.2.2
        have rF := hH5.2.1
        have s0 := HSB.out.cell (i := 0) rfl
        have s1 := HSB.out.cell (i := 1) rfl
        have s2 := HSB.out.cell (i := 2) rfl
        have lC : C.length = 33 := HLC.out
        obtain ⟨X, Y, hfA, lX, hfB, HY⟩ := sign_build C lC (.int .i64 (i : Int)) (.string ⟨SG.toArray⟩) (.slice pa pn pc)
        simp only [zeros, List.replicate, List.cons_append, List.nil_append] at hfA
        have lY : Hid (Y.length = 36) := Lib.hid (by rw [HY.out, List.length_append, lC]; rfl)
        have HZF := Lib.hid (sign_fin (HFIN.out.2.2.1.kept kF id) lY.out)
        go_wp2_with (first | ((with_reducible show wpList _ _ _ (⟨some 58, _, _, _, _, _⟩ :: _) _ _); refine wpList_load_mid rfl 46 _ rfl w.heap.size 0 rfl C _ rF Tryz.underlying46 rfl HI.out ?_) | ((with_reducible show wpList _ _ _ (⟨none, .store _ (.tmp 4) _, _, _, _, _⟩ :: _) _ _); refine wpList_store_mid rfl 51 _ _ rfl (w.heap.size + 1) 0 Y.toArray rfl rfl ?htv01 ?hiv01 ?h1v01 ?_))
        case htv01 => exact HZF.out.1
        case hiv01 => first | exact info_sized lY.out | simpa using info_sized lY.out
        case h1v01 => first | exact sign_one HY.out HCC.out | exact all_oneCell_toArray (sign_one HY.out HCC.out)
        refine bodyPost_ret (HZF.out.2.result2 rfl rfl Tryz.underlying51 rfl (info_sized lY.out)) rfl ?_
        exact sign_yes (S' := fun k => S k ∨ (Value.slice a1 n1 c1).ownBlock = some k) HFIN.out.1 (fun k hk => hk.elim Or.inl (fun q => (HFA2.out k q).imp id (fun o => by have := HSZ.out; omega))) HH.out.2.1 HH.out.2.2.1 HFIN.out.2.2.2.1 HFIN.out.2.2.2.2 kF HR5.out HY.out HCC.out HSG.out HDG2.out
      refine AllReadyH.cons (o := ⟨some 9, .alloc 49, 0, "keyring.go:140", #[], none⟩) rfl (fun K hK => ?_) AllReadyH.nil
      go_simp
      obtain ⟨hsb, hsl⟩ := sg_alloc hH1.2.2
      try change Blk (World.drew (World.alloc wA (.cells [.int .i64 0, .string ⟨#[]⟩, .slice none 0 0].toArray 49))) wA.heap.size _ _ at hsb
      try change wA.heap.size ≤ wA.heap.size at hsl
      try have HR4 := Lib.hid (sg_rowa HR4.out (.cells [.int .i64 0, .string ⟨#[]⟩, .slice none 0 0].toArray 49))
      refine hK.out _ _ (sgS_next hH1 hhb ((Kept.refl _ _).alloc _)) (fun hH2 => ?_)
      clear hK K
      try simp only [Act.put, List.setIfInBounds_toArray, List.set_cons_zero, List.set_cons_succ]
      first | generalize World.alloc _ _ = wS at hsb HR4 hH2 ⊢ | generalize World.alloc _ _ = wS at hsb hH2 ⊢
      refine wpAnyH_ready (rs := [7]) (by kernel_rfl) (by simp) ?_
      refine AllReadyH.cons (o := ⟨some 55, .call { callee := .value (.func 83), args := #[.tmp 51, .tmp 52, .tmp 54], argTypes := #[144, 3, 24] }, 147, "keyring.go:140", #[⟨3, .data⟩, ⟨4, .data⟩, ⟨6, .data⟩, ⟨6, .chain⟩], none⟩) rfl (fun K hK => ?_) AllReadyH.nil
      go_simp
      refine (HTS.out _ hH2.2.2).mono ?_
      rintro e w4 ⟨v, rfl, hrow4, hown4, hk4⟩
      obtain ⟨pa, pn, pc, rfl, -⟩ := hrow4.form (by omega)
      have HR4 := Lib.hid (sg_row hH2.2.2 hrow4 hown4)
      try have hsb := hsb.kept hk4 id
      refine hK.out _ _ (sgS_next hH2 hhb hk4) (fun hH3 => ?_)
      clear hK K
      try simp only [Act.put, List.setIfInBounds_toArray, List.set_cons_zero, List.set_cons_succ]
      refine wpAnyH_take (i := 8) (oi := ⟨some 47, .move (.tmp 55), 147, "keyring.go:140", #[⟨7, .data⟩], none⟩) (v := ?_) rfl (by kernel_rfl) (by kernel_rfl) (by kernel_rfl) (fun _ _ _ h => h) (Or.inl ⟨by rfl, fun w hSw => ?_⟩) hH3 ?_
      rotate_left 1
      · (try simp only [SgS] at hSw); go_simp; (try with_reducible rfl)
      try simp only [Act.put, List.setIfInBounds_toArray, List.set_cons_zero, List.set_cons_succ]
      refine wpAnyH_take (i := 9) (oi := ⟨some 56, .extract (.tmp 47) 0, 49, "keyring.go:140", #[⟨8, .data⟩], none⟩) (v := ?_) rfl (by kernel_rfl) (by kernel_rfl) (by kernel_rfl) (fun _ _ _ h => h) (Or.inl ⟨by rfl, fun w hSw => ?_⟩) hH3 ?_
      rotate_left 1
      · (try simp only [SgS] at hSw); go_simp; (try with_reducible rfl)
      try simp only [Act.put, List.setIfInBounds_toArray, List.set_cons_zero, List.set_cons_succ]
      refine wpAnyH_take (i := 10) (oi := ⟨some 57, .extract (.tmp 47) 1, 31, "keyring.go:140", #[⟨8, .data⟩, ⟨12, .gcOnly .lateStores⟩], none⟩) (v := ?_) rfl (by kernel_rfl) (by kernel_rfl) (by kernel_rfl) (fun _ _ _ h => h) (Or.inl ⟨by rfl, fun w hSw => ?_⟩) hH3 ?_
      rotate_left 1
      · (try simp only [SgS] at hSw); go_simp; (try with_reducible rfl)
      try simp only [Act.put, List.setIfInBounds_toArray, List.set_cons_zero, List.set_cons_succ]
      refine wpAnyH_ready (rs := [12]) (by kernel_rfl) (by simp) ?_
      refine AllReadyH.cons (o := ⟨none, .store 49 (.tmp 9) (.tmp 56), 0, "keyring.go:140", #[⟨11, .data⟩, ⟨9, .data⟩, ⟨7, .chain⟩, ⟨0, .phase⟩, ⟨1, .phase⟩, ⟨2, .phase⟩, ⟨3, .phase⟩, ⟨4, .phase⟩, ⟨5, .phase⟩, ⟨6, .phase⟩, ⟨7, .phase⟩, ⟨8, .phase⟩, ⟨9, .phase⟩, ⟨10, .textOnly .lateStores⟩, ⟨11, .phase⟩], none⟩) rfl (fun K hK => ?_) AllReadyH.nil
      try replace hsb : Blk w4 wA.heap.size [.int .i64 0, .string ⟨#[]⟩, .slice none 0 0] 49 := hsb
      have q0 := hsb.cell (i := 0) rfl
      have q1 := hsb.cell (i := 1) rfl
      have q2 := hsb.cell (i := 2) rfl
      have f0 := hsb.free 0
      have f1 := hsb.free 1
      have f2 := hsb.free 2
      go_simp
      have HR5 := Lib.hid (sg_rows HR4.out hsb (.int .i64 (i : Int)) (.string ⟨SG.toArray⟩) (.slice pa pn pc))
      have HSB : Hid (Blk _ _ [.int .i64 (i : Int), .string ⟨SG.toArray⟩, .slice pa pn pc] 49) := Lib.hid (((hsb.set 0 (.int .i64 (i : Int))).set 1 (.string ⟨SG.toArray⟩)).set 2 (.slice pa pn pc))
      refine hK.out _ _ (sgS_set hH3 hhb hsl _ _ _ hrlA) (fun hH4 => ?_)
      clear hK K
      try simp only [Act.put, List.setIfInBounds_toArray, List.set_cons_zero, List.set_cons_succ]
      refine wpAnyH_ready (rs := [13]) (by kernel_rfl) (by simp) ?_
      refine AllReadyH.cons (o := ⟨some 8, .assign (.tmp 57), 31, "keyring.go:140", #[⟨10, .data⟩, ⟨12, .chain⟩, ⟨0, .phase⟩, ⟨1, .phase⟩, ⟨2, .phase⟩, ⟨3, .phase⟩, ⟨4, .phase⟩, ⟨5, .phase⟩, ⟨6, .phase⟩, ⟨7, .phase⟩, ⟨8, .phase⟩, ⟨9, .phase⟩, ⟨10, .phase⟩, ⟨11, .phase⟩, ⟨12, .phase⟩], none⟩) rfl (fun K hK => ?_) AllReadyH.nil
      go_simp
      refine hK.out _ _ (hH4) (fun hH5 => ?_)
      clear hK K
      try simp only [Act.put, List.setIfInBounds_toArray, List.set_cons_zero, List.set_cons_succ]
      refine wpAnyH_done (by kernel_rfl) ?_ _
      generalize World.setCell (World.setCell (World.setCell _ _ _) _ _) _ _ = wF at HSB HR5 hH5 ⊢
      have kF := hH5.2.2
      have rF := hH5.2.1
      have s0 := HSB.out.cell (i := 0) rfl
      have s1 := HSB.out.cell (i := 1) rfl
      have s2 := HSB.out.cell (i := 2) rfl
      have lC : C.length = 33 := HLC.out
      obtain ⟨X, Y, hfA, lX, hfB, HY⟩ := sign_build C lC (.int .i64 (i : Int)) (.string ⟨SG.toArray⟩) (.slice pa pn pc)
      simp only [zeros, List.replicate, List.cons_append, List.nil_append] at hfA
      have lY : Hid (Y.length = 36) := Lib.hid (by rw [HY.out, List.length_append, lC]; rfl)
      have HZF := Lib.hid (sign_fin (HFIN.out.2.2.1.kept kF id) lY.out)
      go_wp2_with (first | ((with_reducible show wpList _ _ _ (⟨some 58, _, _, _, _, _⟩ :: _) _ _); refine wpList_load_mid rfl 46 _ rfl w.heap.size 0 rfl C _ rF Tryz.underlying46 rfl HI.out ?_) | ((with_reducible show wpList _ _ _ (⟨none, .store _ (.tmp 4) _, _, _, _, _⟩ :: _) _ _); refine wpList_store_mid rfl 51 _ _ rfl (w.heap.size + 1) 0 Y.toArray rfl rfl ?htv02 ?hiv02 ?h1v02 ?_))
      case htv02 => exact HZF.out.1
      case hiv02 => first | exact info_sized lY.out | simpa using info_sized lY.out
      case h1v02 => first | exact sign_one HY.out HCC.out | exact all_oneCell_toArray (sign_one HY.out HCC.out)
      refine bodyPost_ret (HZF.out.2.result2 rfl rfl Tryz.underlying51 rfl (info_sized lY.out)) rfl ?_
      exact sign_yes (S' := fun k => S k ∨ (Value.slice a1 n1 c1).ownBlock = some k) HFIN.out.1 (fun k hk => hk.elim Or.inl (fun q => (HFA2.out k q).imp id (fun o => by have := HSZ.out; omega))) HH.out.2.1 HH.out.2.2.1 HFIN.out.2.2.2.1 HFIN.out.2.2.2.2 kF HR5.out HY.out HCC.out HSG.out HDG2.out
    refine AllReadyH.cons (o := ⟨some 9, .alloc 49, 0, "keyring.go:140", #[], none⟩) rfl (fun K hK => ?_) AllReadyH.nil
    go_simp
    obtain ⟨hsb, hsl⟩ := sg_alloc hH0.2.2
    try change Blk (World.drew (World.alloc wA (.cells [.int .i64 0, .string ⟨#[]⟩, .slice none 0 0].toArray 49))) wA.heap.size _ _ at hsb
    try change wA.heap.size ≤ wA.heap.size at hsl
    try have HR4 := Lib.hid (sg_rowa HR4.out (.cells [.int .i64 0, .string ⟨#[]⟩, .slice none 0 0].toArray 49))
    refine hK.out _ _ (sgS_next hH0 hhb ((Kept.refl _ _).alloc _)) (fun hH1 => ?_)
    clear hK K
    try simp only [Act.put, List.setIfInBounds_toArray, List.set_cons_zero, List.set_cons_succ]
    first | generalize World.alloc _ _ = wS at hsb HR4 hH1 ⊢ | generalize World.alloc _ _ = wS at hsb hH1 ⊢
    refine wpAnyH_ready (rs := [6]) (by kernel_rfl) (by simp) ?_
    refine AllReadyH.cons (o := ⟨some 54, .call { callee := .value (.func 57), args := #[.tmp 53], argTypes := #[46] }, 24, "keyring.go:140", #[⟨5, .data⟩], none⟩) rfl (fun K hK => ?_) AllReadyH.nil
    go_simp
    refine (HDG.out _ (HTB.out _ hH1.2.2)).mono ?_
    rintro e w3 ⟨rfl, hk3⟩
    try have hsb := hsb.kept hk3 id
    refine hK.out _ _ (sgS_next hH1 hhb hk3) (fun hH2 => ?_)
    clear hK K
    try simp only [Act.put, List.setIfInBounds_toArray, List.set_cons_zero, List.set_cons_succ]
    refine wpAnyH_ready (rs := [7]) (by kernel_rfl) (by simp) ?_
    refine AllReadyH.cons (o := ⟨some 55, .call { callee := .value (.func 83), args := #[.tmp 51, .tmp 52, .tmp 54], argTypes := #[144, 3, 24] }, 147, "keyring.go:140", #[⟨3, .data⟩, ⟨4, .data⟩, ⟨6, .data⟩, ⟨6, .chain⟩], none⟩) rfl (fun K hK => ?_) AllReadyH.nil
    go_simp
    refine (HTS.out _ hH2.2.2).mono ?_
    rintro e w4 ⟨v, rfl, hrow4, hown4, hk4⟩
    obtain ⟨pa, pn, pc, rfl, -⟩ := hrow4.form (by omega)
    have HR4 := Lib.hid (sg_row hH2.2.2 hrow4 hown4)
    try have hsb := hsb.kept hk4 id
    refine hK.out _ _ (sgS_next hH2 hhb hk4) (fun hH3 => ?_)
    clear hK K
    try simp only [Act.put, List.setIfInBounds_toArray, List.set_cons_zero, List.set_cons_succ]
    refine wpAnyH_take (i := 8) (oi := ⟨some 47, .move (.tmp 55), 147, "keyring.go:140", #[⟨7, .data⟩], none⟩) (v := ?_) rfl (by kernel_rfl) (by kernel_rfl) (by kernel_rfl) (fun _ _ _ h => h) (Or.inl ⟨by rfl, fun w hSw => ?_⟩) hH3 ?_
    rotate_left 1
    · (try simp only [SgS] at hSw); go_simp; (try with_reducible rfl)
    try simp only [Act.put, List.setIfInBounds_toArray, List.set_cons_zero, List.set_cons_succ]
    refine wpAnyH_take (i := 9) (oi := ⟨some 56, .extract (.tmp 47) 0, 49, "keyring.go:140", #[⟨8, .data⟩], none⟩) (v := ?_) rfl (by kernel_rfl) (by kernel_rfl) (by kernel_rfl) (fun _ _ _ h => h) (Or.inl ⟨by rfl, fun w hSw => ?_⟩) hH3 ?_
    rotate_left 1
    · (try simp only [SgS] at hSw); go_simp; (try with_reducible rfl)
    try simp only [Act.put, List.setIfInBounds_toArray, List.set_cons_zero, List.set_cons_succ]
    refine wpAnyH_take (i := 10) (oi := ⟨some 57, .extract (.tmp 47) 1, 31, "keyring.go:140", #[⟨8, .data⟩, ⟨12, .gcOnly .lateStores⟩], none⟩) (v := ?_) rfl (by kernel_rfl) (by kernel_rfl) (by kernel_rfl) (fun _ _ _ h => h) (Or.inl ⟨by rfl, fun w hSw => ?_⟩) hH3 ?_
    rotate_left 1
    · (try simp only [SgS] at hSw); go_simp; (try with_reducible rfl)
    try simp only [Act.put, List.setIfInBounds_toArray, List.set_cons_zero, List.set_cons_succ]
    refine wpAnyH_ready (rs := [12]) (by kernel_rfl) (by simp) ?_
    refine AllReadyH.cons (o := ⟨none, .store 49 (.tmp 9) (.tmp 56), 0, "keyring.go:140", #[⟨11, .data⟩, ⟨9, .data⟩, ⟨7, .chain⟩, ⟨0, .phase⟩, ⟨1, .phase⟩, ⟨2, .phase⟩, ⟨3, .phase⟩, ⟨4, .phase⟩, ⟨5, .phase⟩, ⟨6, .phase⟩, ⟨7, .phase⟩, ⟨8, .phase⟩, ⟨9, .phase⟩, ⟨10, .textOnly .lateStores⟩, ⟨11, .phase⟩], none⟩) rfl (fun K hK => ?_) AllReadyH.nil
    try replace hsb : Blk w4 wA.heap.size [.int .i64 0, .string ⟨#[]⟩, .slice none 0 0] 49 := hsb
    have q0 := hsb.cell (i := 0) rfl
    have q1 := hsb.cell (i := 1) rfl
    have q2 := hsb.cell (i := 2) rfl
    have f0 := hsb.free 0
    have f1 := hsb.free 1
    have f2 := hsb.free 2
    go_simp
    have HR5 := Lib.hid (sg_rows HR4.out hsb (.int .i64 (i : Int)) (.string ⟨SG.toArray⟩) (.slice pa pn pc))
    have HSB : Hid (Blk _ _ [.int .i64 (i : Int), .string ⟨SG.toArray⟩, .slice pa pn pc] 49) := Lib.hid (((hsb.set 0 (.int .i64 (i : Int))).set 1 (.string ⟨SG.toArray⟩)).set 2 (.slice pa pn pc))
    refine hK.out _ _ (sgS_set hH3 hhb hsl _ _ _ hrlA) (fun hH4 => ?_)
    clear hK K
    try simp only [Act.put, List.setIfInBounds_toArray, List.set_cons_zero, List.set_cons_succ]
    refine wpAnyH_ready (rs := [13]) (by kernel_rfl) (by simp) ?_
    refine AllReadyH.cons (o := ⟨some 8, .assign (.tmp 57), 31, "keyring.go:140", #[⟨10, .data⟩, ⟨12, .chain⟩, ⟨0, .phase⟩, ⟨1, .phase⟩, ⟨2, .phase⟩, ⟨3, .phase⟩, ⟨4, .phase⟩, ⟨5, .phase⟩, ⟨6, .phase⟩, ⟨7, .phase⟩, ⟨8, .phase⟩, ⟨9, .phase⟩, ⟨10, .phase⟩, ⟨11, .phase⟩, ⟨12, .phase⟩], none⟩) rfl (fun K hK => ?_) AllReadyH.nil
    go_simp
    refine hK.out _ _ (hH4) (fun hH5 => ?_)
    clear hK K
    try simp only [Act.put, List.setIfInBounds_toArray, List.set_cons_zero, List.set_cons_succ]
    refine wpAnyH_done (by kernel_rfl) ?_ _
    generalize World.setCell (World.setCell (World.setCell _ _ _) _ _) _ _ = wF at HSB HR5 hH5 ⊢
    have kF := hH5.2.2
    have rF := hH5.2.1
    have s0 := HSB.out.cell (i := 0) rfl
    have s1 := HSB.out.cell (i := 1) rfl
    have s2 := HSB.out.cell (i := 2) rfl
    have lC : C.length = 33 := HLC.out
    obtain ⟨X, Y, hfA, lX, hfB, HY⟩ := sign_build C lC (.int .i64 (i : Int)) (.string ⟨SG.toArray⟩) (.slice pa pn pc)
    simp only [zeros, List.replicate, List.cons_append, List.nil_append] at hfA
    have lY : Hid (Y.length = 36) := Lib.hid (by rw [HY.out, List.length_append, lC]; rfl)
    have HZF := Lib.hid (sign_fin (HFIN.out.2.2.1.kept kF id) lY.out)
    go_wp2_with (first | ((with_reducible show wpList _ _ _ (⟨some 58, _, _, _, _, _⟩ :: _) _ _); refine wpList_load_mid rfl 46 _ rfl w.heap.size 0 rfl C _ rF Tryz.underlying46 rfl HI.out ?_) | ((with_reducible show wpList _ _ _ (⟨none, .store _ (.tmp 4) _, _, _, _, _⟩ :: _) _ _); refine wpList_store_mid rfl 51 _ _ rfl (w.heap.size + 1) 0 Y.toArray rfl rfl ?htv03 ?hiv03 ?h1v03 ?_))
    case htv03 => exact HZF.out.1
    case hiv03 => first | exact info_sized lY.out | simpa using info_sized lY.out
    case h1v03 => first | exact sign_one HY.out HCC.out | exact all_oneCell_toArray (sign_one HY.out HCC.out)
    refine bodyPost_ret (HZF.out.2.result2 rfl rfl Tryz.underlying51 rfl (info_sized lY.out)) rfl ?_
    exact sign_yes (S' := fun k => S k ∨ (Value.slice a1 n1 c1).ownBlock = some k) HFIN.out.1 (fun k hk => hk.elim Or.inl (fun q => (HFA2.out k q).imp id (fun o => by have := HSZ.out; omega))) HH.out.2.1 HH.out.2.2.1 HFIN.out.2.2.2.1 HFIN.out.2.2.2.2 kF HR5.out HY.out HCC.out HSG.out HDG2.out
  refine AllReadyH.cons (o := ⟨some 43, .buildSlice 143 1 #[(0, .tmp 42)], 143, "keyring.go:138", #[⟨5, .data⟩], none⟩) rfl (fun K hK => ?_) AllReadyH.nil
  go_simp
  refine hK.out _ _ (s12_alloc hH0 _ hbl) (fun hH1 => ?_)
  clear hK K
  try simp only [Act.put, List.setIfInBounds_toArray, List.set_cons_zero, List.set_cons_succ]
  refine wpAnyH_ready (rs := [4]) (by kernel_rfl) (by simp) ?_
  refine AllReadyH.cons (o := ⟨some 41, .load 143 (.tmp 40), 143, "keyring.go:138", #[⟨3, .data⟩], none⟩) rfl (fun K hK => ?_) AllReadyH.nil
  go_simp
  refine hK.out _ _ (hH1) (fun hH2 => ?_)
  clear hK K
  try simp only [Act.put, List.setIfInBounds_toArray, List.set_cons_zero, List.set_cons_succ]
  refine wpAnyH_ready (rs := [7]) (by kernel_rfl) (by simp) ?_
  refine AllReadyH.cons (o := ⟨some 44, .call { callee := .builtin .append, args := #[.tmp 41, .tmp 43], argTypes := #[143, 143] }, 143, "keyring.go:138", #[⟨4, .data⟩, ⟨6, .data⟩], none⟩) rfl (fun K hK => ?_) AllReadyH.nil
  refine step_append_run rfl _ _ 143 143 rfl _ _ rfl rfl _ _ hr1 ?_
  refine hK.out _ _ (HS7.out _ hH2) (fun hH3 => ?_)
  clear hK K
  try simp only [Act.put, List.setIfInBounds_toArray, List.set_cons_zero, List.set_cons_succ]
  refine wpAnyH_take (i := 8) (oi := ⟨some 45, .nilCheck (.tmp 37), 0, "keyring.go:138", #[⟨0, .data⟩, ⟨0, .phase⟩, ⟨1, .phase⟩, ⟨2, .phase⟩, ⟨3, .phase⟩, ⟨4, .phase⟩, ⟨5, .phase⟩, ⟨6, .phase⟩, ⟨7, .phase⟩], none⟩) (v := ?_) rfl (by kernel_rfl) (by kernel_rfl) (by kernel_rfl) (fun _ _ _ h => h) (Or.inl ⟨by rfl, fun w hSw => ?_⟩) hH3 ?_
  rotate_left 1
  · (try simp only [S12] at hSw); go_simp; (try with_reducible rfl)
  try simp only [Act.put, List.setIfInBounds_toArray, List.set_cons_zero, List.set_cons_succ]
  refine wpAnyH_take (i := 9) (oi := ⟨some 46, .fieldAddr 146 (.tmp 45) 2, 0, "keyring.go:138", #[⟨8, .data⟩, ⟨0, .phase⟩, ⟨1, .phase⟩, ⟨2, .phase⟩, ⟨3, .phase⟩, ⟨4, .phase⟩, ⟨5, .phase⟩, ⟨6, .phase⟩, ⟨7, .phase⟩], none⟩) (v := ?_) rfl (by kernel_rfl) (by kernel_rfl) (by kernel_rfl) (fun _ _ _ h => h) (Or.inl ⟨by rfl, fun w hSw => ?_⟩) hH3 ?_
  rotate_left 1
  · (try simp only [S12] at hSw); go_simp; (try with_reducible rfl)
  try simp only [Act.put, List.setIfInBounds_toArray, List.set_cons_zero, List.set_cons_succ]
  refine wpAnyH_ready (rs := [10]) (by kernel_rfl) (by simp) ?_
  refine AllReadyH.cons (o := ⟨none, .store 143 (.tmp 46) (.tmp 44), 0, "keyring.go:138", #[⟨9, .data⟩, ⟨7, .data⟩, ⟨7, .chain⟩, ⟨0, .phase⟩, ⟨1, .phase⟩, ⟨2, .phase⟩, ⟨3, .phase⟩, ⟨4, .phase⟩, ⟨5, .phase⟩, ⟨6, .phase⟩, ⟨7, .phase⟩], none⟩) rfl (fun K hK => ?_) AllReadyH.nil
  have q7 := HC7.out.1
  have f7 := HC7.out.2
  go_simp
  refine hK.out _ _ (HS8.out) (fun hH4 => ?_)
  clear hK K
  try simp only [Act.put, List.setIfInBounds_toArray, List.set_cons_zero, List.set_cons_succ]
  refine wpAnyH_done (by kernel_rfl) ?_ _
  go_wp2_with fail
  generalize World.setCell w7 _ (Value.slice a1 n1 c1) = wA at HFA ⊢
  have hrA := HFA.out.1
  have kS := HFA.out.2.1
  have HFA2 := Lib.hid HFA.out.2.2
  have HSZ := Lib.hid (show w.heap.size + 2 ≤ wB.heap.size from HSB2.out)
  have hbA : Blk wA w.heap.size (headC (size : Int) root) 46 := HBB.out.1.kept kS (nS _ (Nat.le_refl _))
  have hzA := HBB.out.2.1.kept kS (nS _ (by omega))
  have htA := HBB.out.2.2.2.2.kept kS HTS0.out.1 HTS0.out.2
  have kA : Kept (fun k => ¬ ownW w B k ∨ S k) (signW w (size : Int) root) wA := HBB.out.2.2.2.1.then_ kS (fun k _ q => Or.inr q)
  have haA : Apart (fun k => ownW w B k ∨ (S k ∨ (Value.slice a1 n1 c1).ownBlock = some k)) d M' wA := HBB.out.2.2.1.grow kS (fun k _ q => Or.inl (hS k q)) (fun k q => q.elim Or.inl (fun q => q.elim (fun q => Or.inl (Or.inl (hS k q))) (fun q => (HFA.out.2.2 k q).elim (fun q => Or.inl (Or.inl (hS k q))) Or.inr)))
  obtain ⟨⟨t, vv, hrb, htree, -, -, -⟩, -, -, -, hsh⟩ := id hrA
  have hrlA := hrA.lt
  have hhb : w.heap.size < wA.heap.size := hbA.lt
  have HTS := Lib.hid (fun w' (k : Kept (fun _ => False) wA w') => treeSign_any (htree.kept k id) i (digestF size root) hsh hi hDl (htA.same k))
  have HTB := Lib.hid (fun w' (k : Kept (fun _ => False) wA w') => htA.same k)
  have HFIN := Lib.hid (And.intro hrA (And.intro hbA (And.intro hzA (And.intro haA kA))))
  obtain ⟨SG, hSG⟩ : ∃ SG, signF R.seed.data.toList i (digestF size root) = SG := ⟨_, rfl⟩
  rw [hSG] at HTS
  have HSG := Lib.hid hSG
  obtain ⟨C, hC⟩ : ∃ C, headC (size : Int) root = C := ⟨_, rfl⟩
  have HCC := Lib.hid hC
  have SA : SgS wA wA.drew r t w.heap.size C := ⟨(hrb.drew).cell (i := 1) rfl, by rw [← hC]; exact (hbA.drew).range0, (Kept.refl _ _).drew⟩
  have HI : Hid ((Tryz.prog.info? 46).map (·.size) = some C.length) := by rw [← hC]; exact HI0
  have HLC := Lib.hid (show C.length = 33 by rw [← hC]; exact headC_len hroot)
  have HDG := Lib.hid (fun w' ht' => (by rw [← hC]; exact HDI.out w' ht' : Calls Tryz.prog 57 #[.agg C.toArray] w' fun e w'' => e = .returned (hashV (digestF size root)) ∧ Kept (fun _ => False) w' w''))
  generalize hDG : digestF size root = DG at *
  have HDG2 := Lib.hid hDG
  clear hDG hSG hrA hbA hzA haA htA kA hrb htree hsh hC
  refine wp_region_held_drew (S := (fun w' => SgS wA w' r t w.heap.size C)) (by kernel_rfl) SA (fun hH0 => ?_)
  refine wpAnyH_take (i := 0) (oi := ⟨some 48, .move (.tmp 0), 63, "keyring.go:140", #[], none⟩) (v := ?_) rfl (by kernel_rfl) (by kernel_rfl) (by kernel_rfl) (fun _ _ _ h => h) (Or.inl ⟨by rfl, fun w hSw => ?_⟩) hH0 ?_
  rotate_left 1
  · (try simp only [SgS] at hSw); go_simp; (try with_reducible rfl)
  try simp only [Act.put, List.setIfInBounds_toArray, List.set_cons_zero, List.set_cons_succ]
  refine wpAnyH_take (i := 1) (oi := ⟨some 49, .nilCheck (.tmp 48), 0, "keyring.go:140", #[⟨0, .data⟩], none⟩) (v := ?_) rfl (by kernel_rfl) (by kernel_rfl) (by kernel_rfl) (fun _ _ _ h => h) (Or.inl ⟨by rfl, fun w hSw => ?_⟩) hH0 ?_
  rotate_left 1
  · (try simp only [SgS] at hSw); go_simp; (try with_reducible rfl)
  try simp only [Act.put, List.setIfInBounds_toArray, List.set_cons_zero, List.set_cons_succ]
  refine wpAnyH_take (i := 2) (oi := ⟨some 50, .fieldAddr 146 (.tmp 49) 1, 0, "keyring.go:140", #[⟨1, .data⟩], none⟩) (v := ?_) rfl (by kernel_rfl) (by kernel_rfl) (by kernel_rfl) (fun _ _ _ h => h) (Or.inl ⟨by rfl, fun w hSw => ?_⟩) hH0 ?_
  rotate_left 1
  · (try simp only [SgS] at hSw); go_simp; (try with_reducible rfl)
  try simp only [Act.put, List.setIfInBounds_toArray, List.set_cons_zero, List.set_cons_succ]
  refine wpAnyH_take (i := 3) (oi := ⟨some 51, .load 144 (.tmp 50), 144, "keyring.go:140", #[⟨2, .data⟩], none⟩) (v := ?_) rfl (by kernel_rfl) (by kernel_rfl) (by kernel_rfl) (fun _ _ _ h => h) (Or.inl ⟨by rfl, fun w hSw => ?_⟩) hH0 ?_
  rotate_left 1
  · (try simp only [SgS] at hSw); go_simp; (try with_reducible rfl)
  try simp only [Act.put, List.setIfInBounds_toArray, List.set_cons_zero, List.set_cons_succ]
  refine wpAnyH_take (i := 4) (oi := ⟨some 52, .move (.tmp 6), 3, "keyring.go:140", #[], none⟩) (v := ?_) rfl (by kernel_rfl) (by kernel_rfl) (by kernel_rfl) (fun _ _ _ h => h) (Or.inl ⟨by rfl, fun w hSw => ?_⟩) hH0 ?_
  rotate_left 1
  · (try simp only [SgS] at hSw); go_simp; (try with_reducible rfl)
  try simp only [Act.put, List.setIfInBounds_toArray, List.set_cons_zero, List.set_cons_succ]
  refine wpAnyH_take (i := 5) (oi := ⟨some 53, .load 46 (.tmp 3), 46, "keyring.go:140", #[], none⟩) (v := .agg (C).toArray) rfl (by kernel_rfl) (by kernel_rfl) (by kernel_rfl) (fun _ _ _ h => h) (yieldsIf_load_mid (by rfl) _ _ rfl (w.heap.size) (0) rfl (C) _ (fun w q => q.2.1) Tryz.underlying46 rfl HI.out) hH0 ?_
  try simp only [Act.put, List.setIfInBounds_toArray, List.set_cons_zero, List.set_cons_succ]
  refine wpAnyH_ready (rs := [6, 11]) (by kernel_rfl) (by simp) ?_
  refine AllReadyH.cons (o := ⟨some 54, .call { callee := .value (.func 57), args := #[.tmp 53], argTypes := #[46] }, 24, "keyring.go:140", #[⟨5, .data⟩], none⟩) rfl (fun K hK => ?_) ?_
  · go_simp
    refine (HDG.out _ (HTB.out _ hH0.2.2)).mono ?_
    rintro e w3 ⟨rfl, hk3⟩
    try have hsb := hsb.kept hk3 id
    refine hK.out _ _ (sgS_next hH0 hhb hk3) (fun hH1 => ?_)
    clear hK K
    try simp only [Act.put, List.setIfInBounds_toArray, List.set_cons_zero, List.set_cons_succ]
    refine wpAnyH_ready (rs := [7, 11]) (by kernel_rfl) (by simp) ?_
    refine AllReadyH.cons (o := ⟨some 55, .call { callee := .value (.func 83), args := #[.tmp 51, .tmp 52, .tmp 54], argTypes := #[144, 3, 24] }, 147, "keyring.go:140", #[⟨3, .data⟩, ⟨4, .data⟩, ⟨6, .data⟩, ⟨6, .chain⟩], none⟩) rfl (fun K hK => ?_) ?_
    · go_simp
      refine (HTS.out _ hH1.2.2).mono ?_
      rintro e w4 ⟨v, rfl, hrow4, hown4, hk4⟩
      obtain ⟨pa, pn, pc, rfl, -⟩ := hrow4.form (by omega)
      have HR4 := Lib.hid (sg_row hH1.2.2 hrow4 hown4)
      try have hsb := hsb.kept hk4 id
      refine hK.out _ _ (sgS_next hH1 hhb hk4) (fun hH2 => ?_)
      clear hK K
      try simp only [Act.put, List.setIfInBounds_toArray, List.set_cons_zero, List.set_cons_succ]
      refine wpAnyH_take (i := 8) (oi := ⟨some 47, .move (.tmp 55), 147, "keyring.go:140", #[⟨7, .data⟩], none⟩) (v := ?_) rfl (by kernel_rfl) (by kernel_rfl) (by kernel_rfl) (fun _ _ _ h => h) (Or.inl ⟨by rfl, fun w hSw => ?_⟩) hH2 ?_
      rotate_left 1
      · (try simp only [SgS] at hSw); go_simp; (try with_reducible rfl)
      try simp only [Act.put, List.setIfInBounds_toArray, List.set_cons_zero, List.set_cons_succ]
      refine wpAnyH_take (i := 9) (oi := ⟨some 56, .extract (.tmp 47) 0, 49, "keyring.go:140", #[⟨8, .data⟩], none⟩) (v := ?_) rfl (by kernel_rfl) (by kernel_rfl) (by kernel_rfl) (fun _ _ _ h => h) (Or.inl ⟨by rfl, fun w hSw => ?_⟩) hH2 ?_
      rotate_left 1
      · (try simp only [SgS] at hSw); go_simp; (try with_reducible rfl)
      try simp only [Act.put, List.setIfInBounds_toArray, List.set_cons_zero, List.set_cons_succ]
      refine wpAnyH_take (i := 10) (oi := ⟨some 57, .extract (.tmp 47) 1, 31, "keyring.go:140", #[⟨8, .data⟩, ⟨12, .gcOnly .lateStores⟩], none⟩) (v := ?_) rfl (by kernel_rfl) (by kernel_rfl) (by kernel_rfl) (fun _ _ _ h => h) (Or.inl ⟨by rfl, fun w hSw => ?_⟩) hH2 ?_
      rotate_left 1
      · (try simp only [SgS] at hSw); go_simp; (try with_reducible rfl)
      try simp only [Act.put, List.setIfInBounds_toArray, List.set_cons_zero, List.set_cons_succ]
      refine wpAnyH_ready (rs := [11]) (by kernel_rfl) (by simp) ?_
      refine AllReadyH.cons (o := ⟨some 9, .alloc 49, 0, "keyring.go:140", #[], none⟩) rfl (fun K hK => ?_) AllReadyH.nil
      go_simp
      obtain ⟨hsb, hsl⟩ := sg_alloc hH2.2.2
      try change Blk (World.drew (World.alloc wA (.cells [.int .i64 0, .string ⟨#[]⟩, .slice none 0 0].toArray 49))) wA.heap.size _ _ at hsb
      try change wA.heap.size ≤ wA.heap.size at hsl
      try have HR4 := Lib.hid (sg_rowa HR4.out (.cells [.int .i64 0, .string ⟨#[]⟩, .slice none 0 0].toArray 49))
      refine hK.out _ _ (sgS_next hH2 hhb ((Kept.refl _ _).alloc _)) (fun hH3 => ?_)
      clear hK K
      try simp only [Act.put, List.setIfInBounds_toArray, List.set_cons_zero, List.set_cons_succ]
      first | generalize World.alloc _ _ = wS at hsb HR4 hH3 ⊢ | generalize World.alloc _ _ = wS at hsb hH3 ⊢
      refine wpAnyH_ready (rs := [12]) (by kernel_rfl) (by simp) ?_
      refine AllReadyH.cons (o := ⟨none, .store 49 (.tmp 9) (.tmp 56), 0, "keyring.go:140", #[⟨11, .data⟩, ⟨9, .data⟩, ⟨7, .chain⟩, ⟨0, .phase⟩, ⟨1, .phase⟩, ⟨2, .phase⟩, ⟨3, .phase⟩, ⟨4, .phase⟩, ⟨5, .phase⟩, ⟨6, .phase⟩, ⟨7, .phase⟩, ⟨8, .phase⟩, ⟨9, .phase⟩, ⟨10, .textOnly .lateStores⟩, ⟨11, .phase⟩], none⟩) rfl (fun K hK => ?_) AllReadyH.nil
      try replace hsb : Blk w4 wA.heap.size [.int .i64 0, .string ⟨#[]⟩, .slice none 0 0] 49 := hsb
      have q0 := hsb.cell (i := 0) rfl
      have q1 := hsb.cell (i := 1) rfl
      have q2 := hsb.cell (i := 2) rfl
      have f0 := hsb.free 0
      have f1 := hsb.free 1
      have f2 := hsb.free 2
      go_simp
      have HR5 := Lib.hid (sg_rows HR4.out hsb (.int .i64 (i : Int)) (.string ⟨SG.toArray⟩) (.slice pa pn pc))
      have HSB : Hid (Blk _ _ [.int .i64 (i : Int), .string ⟨SG.toArray⟩, .slice pa pn pc] 49) := Lib.hid (((hsb.set 0 (.int .i64 (i : Int))).set 1 (.string ⟨SG.toArray⟩)).set 2 (.slice pa pn pc))
      refine hK.out _ _ (sgS_set hH3 hhb hsl _ _ _ hrlA) (fun hH4 => ?_)
      clear hK K
      try simp only [Act.put, List.setIfInBounds_toArray, List.set_cons_zero, List.set_cons_succ]
      refine wpAnyH_ready (rs := [13]) (by kernel_rfl) (by simp) ?_
      refine AllReadyH.cons (o := ⟨some 8, .assign (.tmp 57), 31, "keyring.go:140", #[⟨10, .data⟩, ⟨12, .chain⟩, ⟨0, .phase⟩, ⟨1, .phase⟩, ⟨2, .phase⟩, ⟨3, .phase⟩, ⟨4, .phase⟩, ⟨5, .phase⟩, ⟨6, .phase⟩, ⟨7, .phase⟩, ⟨8, .phase⟩, ⟨9, .phase⟩, ⟨10, .phase⟩, ⟨11, .phase⟩, ⟨12, .phase⟩], none⟩) rfl (fun K hK => ?_) AllReadyH.nil
      go_simp
      refine hK.out _ _ (hH4) (fun hH5 => ?_)
      clear hK K
      try simp only [Act.put, List.setIfInBounds_toArray, List.set_cons_zero, List.set_cons_succ]
      refine wpAnyH_done (by kernel_rfl) ?_ _
      generalize World.setCell (World.setCell (World.setCell _ _ _) _ _) _ _ = wF at HSB HR5 hH5 ⊢
      have kF := hH5.2.2
      have rF := hH5.2.1
      have s0 := HSB.out.cell (i := 0) rfl
      have s1 := HSB.out.cell (i := 1) rfl
      have s2 := HSB.out.cell (i := 2) rfl
      have lC : C.length = 33 := HLC.out
      obtain ⟨X, Y, hfA, lX, hfB, HY⟩ := sign_build C lC (.int .i64 (i : Int)) (.string ⟨SG.toArray⟩) (.slice pa pn pc)
      simp only [zeros, List.replicate, List.cons_append, List.nil_append] at hfA
      have lY : Hid (Y.length = 36) := Lib.hid (by rw [HY.out, List.length_append, lC]; rfl)
      have HZF := Lib.hid (sign_fin (HFIN.out.2.2.1.kept kF id) lY.out)
      go_wp2_with (first | ((with_reducible show wpList _ _ _ (⟨some 58, _, _, _, _, _⟩ :: _) _ _); refine wpList_load_mid rfl 46 _ rfl w.heap.size 0 rfl C _ rF Tryz.underlying46 rfl HI.out ?_) | ((with_reducible show wpList _ _ _ (⟨none, .store _ (.tmp 4) _, _, _, _, _⟩ :: _) _ _); refine wpList_store_mid rfl 51 _ _ rfl (w.heap.size + 1) 0 Y.toArray rfl rfl ?htv11 ?hiv11 ?h1v11 ?_))
      case htv11 => exact HZF.out.1
      case hiv11 => first | exact info_sized lY.out | simpa using info_sized lY.out
      case h1v11 => first | exact sign_one HY.out HCC.out | exact all_oneCell_toArray (sign_one HY.out HCC.out)
      refine bodyPost_ret (HZF.out.2.result2 rfl rfl Tryz.underlying51 rfl (info_sized lY.out)) rfl ?_
      exact sign_yes (S' := fun k => S k ∨ (Value.slice a1 n1 c1).ownBlock = some k) HFIN.out.1 (fun k hk => hk.elim Or.inl (fun q => (HFA2.out k q).imp id (fun o => by have := HSZ.out; omega))) HH.out.2.1 HH.out.2.2.1 HFIN.out.2.2.2.1 HFIN.out.2.2.2.2 kF HR5.out HY.out HCC.out HSG.out HDG2.out
    refine AllReadyH.cons (o := ⟨some 9, .alloc 49, 0, "keyring.go:140", #[], none⟩) rfl (fun K hK => ?_) AllReadyH.nil
    go_simp
    obtain ⟨hsb, hsl⟩ := sg_alloc hH1.2.2
    try change Blk (World.drew (World.alloc wA (.cells [.int .i64 0, .string ⟨#[]⟩, .slice none 0 0].toArray 49))) wA.heap.size _ _ at hsb
    try change wA.heap.size ≤ wA.heap.size at hsl
    try have HR4 := Lib.hid (sg_rowa HR4.out (.cells [.int .i64 0, .string ⟨#[]⟩, .slice none 0 0].toArray 49))
    refine hK.out _ _ (sgS_next hH1 hhb ((Kept.refl _ _).alloc _)) (fun hH2 => ?_)
    clear hK K
    try simp only [Act.put, List.setIfInBounds_toArray, List.set_cons_zero, List.set_cons_succ]
    first | generalize World.alloc _ _ = wS at hsb HR4 hH2 ⊢ | generalize World.alloc _ _ = wS at hsb hH2 ⊢
    refine wpAnyH_ready (rs := [7]) (by kernel_rfl) (by simp) ?_
    refine AllReadyH.cons (o := ⟨some 55, .call { callee := .value (.func 83), args := #[.tmp 51, .tmp 52, .tmp 54], argTypes := #[144, 3, 24] }, 147, "keyring.go:140", #[⟨3, .data⟩, ⟨4, .data⟩, ⟨6, .data⟩, ⟨6, .chain⟩], none⟩) rfl (fun K hK => ?_) AllReadyH.nil
    go_simp
    refine (HTS.out _ hH2.2.2).mono ?_
    rintro e w4 ⟨v, rfl, hrow4, hown4, hk4⟩
    obtain ⟨pa, pn, pc, rfl, -⟩ := hrow4.form (by omega)
    have HR4 := Lib.hid (sg_row hH2.2.2 hrow4 hown4)
    try have hsb := hsb.kept hk4 id
    refine hK.out _ _ (sgS_next hH2 hhb hk4) (fun hH3 => ?_)
    clear hK K
    try simp only [Act.put, List.setIfInBounds_toArray, List.set_cons_zero, List.set_cons_succ]
    refine wpAnyH_take (i := 8) (oi := ⟨some 47, .move (.tmp 55), 147, "keyring.go:140", #[⟨7, .data⟩], none⟩) (v := ?_) rfl (by kernel_rfl) (by kernel_rfl) (by kernel_rfl) (fun _ _ _ h => h) (Or.inl ⟨by rfl, fun w hSw => ?_⟩) hH3 ?_
    rotate_left 1
    · (try simp only [SgS] at hSw); go_simp; (try with_reducible rfl)
    try simp only [Act.put, List.setIfInBounds_toArray, List.set_cons_zero, List.set_cons_succ]
    refine wpAnyH_take (i := 9) (oi := ⟨some 56, .extract (.tmp 47) 0, 49, "keyring.go:140", #[⟨8, .data⟩], none⟩) (v := ?_) rfl (by kernel_rfl) (by kernel_rfl) (by kernel_rfl) (fun _ _ _ h => h) (Or.inl ⟨by rfl, fun w hSw => ?_⟩) hH3 ?_
    rotate_left 1
    · (try simp only [SgS] at hSw); go_simp; (try with_reducible rfl)
    try simp only [Act.put, List.setIfInBounds_toArray, List.set_cons_zero, List.set_cons_succ]
    refine wpAnyH_take (i := 10) (oi := ⟨some 57, .extract (.tmp 47) 1, 31, "keyring.go:140", #[⟨8, .data⟩, ⟨12, .gcOnly .lateStores⟩], none⟩) (v := ?_) rfl (by kernel_rfl) (by kernel_rfl) (by kernel_rfl) (fun _ _ _ h => h) (Or.inl ⟨by rfl, fun w hSw => ?_⟩) hH3 ?_
    rotate_left 1
    · (try simp only [SgS] at hSw); go_simp; (try with_reducible rfl)
    try simp only [Act.put, List.setIfInBounds_toArray, List.set_cons_zero, List.set_cons_succ]
    refine wpAnyH_ready (rs := [12]) (by kernel_rfl) (by simp) ?_
    refine AllReadyH.cons (o := ⟨none, .store 49 (.tmp 9) (.tmp 56), 0, "keyring.go:140", #[⟨11, .data⟩, ⟨9, .data⟩, ⟨7, .chain⟩, ⟨0, .phase⟩, ⟨1, .phase⟩, ⟨2, .phase⟩, ⟨3, .phase⟩, ⟨4, .phase⟩, ⟨5, .phase⟩, ⟨6, .phase⟩, ⟨7, .phase⟩, ⟨8, .phase⟩, ⟨9, .phase⟩, ⟨10, .textOnly .lateStores⟩, ⟨11, .phase⟩], none⟩) rfl (fun K hK => ?_) AllReadyH.nil
    try replace hsb : Blk w4 wA.heap.size [.int .i64 0, .string ⟨#[]⟩, .slice none 0 0] 49 := hsb
    have q0 := hsb.cell (i := 0) rfl
    have q1 := hsb.cell (i := 1) rfl
    have q2 := hsb.cell (i := 2) rfl
    have f0 := hsb.free 0
    have f1 := hsb.free 1
    have f2 := hsb.free 2
    go_simp
    have HR5 := Lib.hid (sg_rows HR4.out hsb (.int .i64 (i : Int)) (.string ⟨SG.toArray⟩) (.slice pa pn pc))
    have HSB : Hid (Blk _ _ [.int .i64 (i : Int), .string ⟨SG.toArray⟩, .slice pa pn pc] 49) := Lib.hid (((hsb.set 0 (.int .i64 (i : Int))).set 1 (.string ⟨SG.toArray⟩)).set 2 (.slice pa pn pc))
    refine hK.out _ _ (sgS_set hH3 hhb hsl _ _ _ hrlA) (fun hH4 => ?_)
    clear hK K
    try simp only [Act.put, List.setIfInBounds_toArray, List.set_cons_zero, List.set_cons_succ]
    refine wpAnyH_ready (rs := [13]) (by kernel_rfl) (by simp) ?_
    refine AllReadyH.cons (o := ⟨some 8, .assign (.tmp 57), 31, "keyring.go:140", #[⟨10, .data⟩, ⟨12, .chain⟩, ⟨0, .phase⟩, ⟨1, .phase⟩, ⟨2, .phase⟩, ⟨3, .phase⟩, ⟨4, .phase⟩, ⟨5, .phase⟩, ⟨6, .phase⟩, ⟨7, .phase⟩, ⟨8, .phase⟩, ⟨9, .phase⟩, ⟨10, .phase⟩, ⟨11, .phase⟩, ⟨12, .phase⟩], none⟩) rfl (fun K hK => ?_) AllReadyH.nil
    go_simp
    refine hK.out _ _ (hH4) (fun hH5 => ?_)
    clear hK K
    try simp only [Act.put, List.setIfInBounds_toArray, List.set_cons_zero, List.set_cons_succ]
    refine wpAnyH_done (by kernel_rfl) ?_ _
    generalize World.setCell (World.setCell (World.setCell _ _ _) _ _) _ _ = wF at HSB HR5 hH5 ⊢
    have kF := hH5.2.2
    have rF := hH5.2.1
    have s0 := HSB.out.cell (i := 0) rfl
    have s1 := HSB.out.cell (i := 1) rfl
    have s2 := HSB.out.cell (i := 2) rfl
    have lC : C.length = 33 := HLC.out
    obtain ⟨X, Y, hfA, lX, hfB, HY⟩ := sign_build C lC (.int .i64 (i : Int)) (.string ⟨SG.toArray⟩) (.slice pa pn pc)
    simp only [zeros, List.replicate, List.cons_append, List.nil_append] at hfA
    have lY : Hid (Y.length = 36) := Lib.hid (by rw [HY.out, List.length_append, lC]; rfl)
    have HZF := Lib.hid (sign_fin (HFIN.out.2.2.1.kept kF id) lY.out)
    go_wp2_with (first | ((with_reducible show wpList _ _ _ (⟨some 58, _, _, _, _, _⟩ :: _) _ _); refine wpList_load_mid rfl 46 _ rfl w.heap.size 0 rfl C _ rF Tryz.underlying46 rfl HI.out ?_) | ((with_reducible show wpList _ _ _ (⟨none, .store _ (.tmp 4) _, _, _, _, _⟩ :: _) _ _); refine wpList_store_mid rfl 51 _ _ rfl (w.heap.size + 1) 0 Y.toArray rfl rfl ?htv12 ?hiv12 ?h1v12 ?_))
    case htv12 => exact HZF.out.1
    case hiv12 => first | exact info_sized lY.out | simpa using info_sized lY.out
    case h1v12 => first | exact sign_one HY.out HCC.out | exact all_oneCell_toArray (sign_one HY.out HCC.out)
    refine bodyPost_ret (HZF.out.2.result2 rfl rfl Tryz.underlying51 rfl (info_sized lY.out)) rfl ?_
    exact sign_yes (S' := fun k => S k ∨ (Value.slice a1 n1 c1).ownBlock = some k) HFIN.out.1 (fun k hk => hk.elim Or.inl (fun q => (HFA2.out k q).imp id (fun o => by have := HSZ.out; omega))) HH.out.2.1 HH.out.2.2.1 HFIN.out.2.2.2.1 HFIN.out.2.2.2.2 kF HR5.out HY.out HCC.out HSG.out HDG2.out
  refine AllReadyH.cons (o := ⟨some 9, .alloc 49, 0, "keyring.go:140", #[], none⟩) rfl (fun K hK => ?_) AllReadyH.nil
  go_simp
  obtain ⟨hsb, hsl⟩ := sg_alloc hH0.2.2
  try change Blk (World.drew (World.alloc wA (.cells [.int .i64 0, .string ⟨#[]⟩, .slice none 0 0].toArray 49))) wA.heap.size _ _ at hsb
  try change wA.heap.size ≤ wA.heap.size at hsl
  try have HR4 := Lib.hid (sg_rowa HR4.out (.cells [.int .i64 0, .string ⟨#[]⟩, .slice none 0 0].toArray 49))
  refine hK.out _ _ (sgS_next hH0 hhb ((Kept.refl _ _).alloc _)) (fun hH1 => ?_)
  clear hK K
  try simp only [Act.put, List.setIfInBounds_toArray, List.set_cons_zero, List.set_cons_succ]
  first | generalize World.alloc _ _ = wS at hsb HR4 hH1 ⊢ | generalize World.alloc _ _ = wS at hsb hH1 ⊢
  refine wpAnyH_ready (rs := [6]) (by kernel_rfl) (by simp) ?_
  refine AllReadyH.cons (o := ⟨some 54, .call { callee := .value (.func 57), args := #[.tmp 53], argTypes := #[46] }, 24, "keyring.go:140", #[⟨5, .data⟩], none⟩) rfl (fun K hK => ?_) AllReadyH.nil
  go_simp
  refine (HDG.out _ (HTB.out _ hH1.2.2)).mono ?_
  rintro e w3 ⟨rfl, hk3⟩
  try have hsb := hsb.kept hk3 id
  refine hK.out _ _ (sgS_next hH1 hhb hk3) (fun hH2 => ?_)
  clear hK K
  try simp only [Act.put, List.setIfInBounds_toArray, List.set_cons_zero, List.set_cons_succ]
  refine wpAnyH_ready (rs := [7]) (by kernel_rfl) (by simp) ?_
  refine AllReadyH.cons (o := ⟨some 55, .call { callee := .value (.func 83), args := #[.tmp 51, .tmp 52, .tmp 54], argTypes := #[144, 3, 24] }, 147, "keyring.go:140", #[⟨3, .data⟩, ⟨4, .data⟩, ⟨6, .data⟩, ⟨6, .chain⟩], none⟩) rfl (fun K hK => ?_) AllReadyH.nil
  go_simp
  refine (HTS.out _ hH2.2.2).mono ?_
  rintro e w4 ⟨v, rfl, hrow4, hown4, hk4⟩
  obtain ⟨pa, pn, pc, rfl, -⟩ := hrow4.form (by omega)
  have HR4 := Lib.hid (sg_row hH2.2.2 hrow4 hown4)
  try have hsb := hsb.kept hk4 id
  refine hK.out _ _ (sgS_next hH2 hhb hk4) (fun hH3 => ?_)
  clear hK K
  try simp only [Act.put, List.setIfInBounds_toArray, List.set_cons_zero, List.set_cons_succ]
  refine wpAnyH_take (i := 8) (oi := ⟨some 47, .move (.tmp 55), 147, "keyring.go:140", #[⟨7, .data⟩], none⟩) (v := ?_) rfl (by kernel_rfl) (by kernel_rfl) (by kernel_rfl) (fun _ _ _ h => h) (Or.inl ⟨by rfl, fun w hSw => ?_⟩) hH3 ?_
  rotate_left 1
  · (try simp only [SgS] at hSw); go_simp; (try with_reducible rfl)
  try simp only [Act.put, List.setIfInBounds_toArray, List.set_cons_zero, List.set_cons_succ]
  refine wpAnyH_take (i := 9) (oi := ⟨some 56, .extract (.tmp 47) 0, 49, "keyring.go:140", #[⟨8, .data⟩], none⟩) (v := ?_) rfl (by kernel_rfl) (by kernel_rfl) (by kernel_rfl) (fun _ _ _ h => h) (Or.inl ⟨by rfl, fun w hSw => ?_⟩) hH3 ?_
  rotate_left 1
  · (try simp only [SgS] at hSw); go_simp; (try with_reducible rfl)
  try simp only [Act.put, List.setIfInBounds_toArray, List.set_cons_zero, List.set_cons_succ]
  refine wpAnyH_take (i := 10) (oi := ⟨some 57, .extract (.tmp 47) 1, 31, "keyring.go:140", #[⟨8, .data⟩, ⟨12, .gcOnly .lateStores⟩], none⟩) (v := ?_) rfl (by kernel_rfl) (by kernel_rfl) (by kernel_rfl) (fun _ _ _ h => h) (Or.inl ⟨by rfl, fun w hSw => ?_⟩) hH3 ?_
  rotate_left 1
  · (try simp only [SgS] at hSw); go_simp; (try with_reducible rfl)
  try simp only [Act.put, List.setIfInBounds_toArray, List.set_cons_zero, List.set_cons_succ]
  refine wpAnyH_ready (rs := [12]) (by kernel_rfl) (by simp) ?_
  refine AllReadyH.cons (o := ⟨none, .store 49 (.tmp 9) (.tmp 56), 0, "keyring.go:140", #[⟨11, .data⟩, ⟨9, .data⟩, ⟨7, .chain⟩, ⟨0, .phase⟩, ⟨1, .phase⟩, ⟨2, .phase⟩, ⟨3, .phase⟩, ⟨4, .phase⟩, ⟨5, .phase⟩, ⟨6, .phase⟩, ⟨7, .phase⟩, ⟨8, .phase⟩, ⟨9, .phase⟩, ⟨10, .textOnly .lateStores⟩, ⟨11, .phase⟩], none⟩) rfl (fun K hK => ?_) AllReadyH.nil
  try replace hsb : Blk w4 wA.heap.size [.int .i64 0, .string ⟨#[]⟩, .slice none 0 0] 49 := hsb
  have q0 := hsb.cell (i := 0) rfl
  have q1 := hsb.cell (i := 1) rfl
  have q2 := hsb.cell (i := 2) rfl
  have f0 := hsb.free 0
  have f1 := hsb.free 1
  have f2 := hsb.free 2
  go_simp
  have HR5 := Lib.hid (sg_rows HR4.out hsb (.int .i64 (i : Int)) (.string ⟨SG.toArray⟩) (.slice pa pn pc))
  have HSB : Hid (Blk _ _ [.int .i64 (i : Int), .string ⟨SG.toArray⟩, .slice pa pn pc] 49) := Lib.hid (((hsb.set 0 (.int .i64 (i : Int))).set 1 (.string ⟨SG.toArray⟩)).set 2 (.slice pa pn pc))
  refine hK.out _ _ (sgS_set hH3 hhb hsl _ _ _ hrlA) (fun hH4 => ?_)
  clear hK K
  try simp only [Act.put, List.setIfInBounds_toArray, List.set_cons_zero, List.set_cons_succ]
  refine wpAnyH_ready (rs := [13]) (by kernel_rfl) (by simp) ?_
  refine AllReadyH.cons (o := ⟨some 8, .assign (.tmp 57), 31, "keyring.go:140", #[⟨10, .data⟩, ⟨12, .chain⟩, ⟨0, .phase⟩, ⟨1, .phase⟩, ⟨2, .phase⟩, ⟨3, .phase⟩, ⟨4, .phase⟩, ⟨5, .phase⟩, ⟨6, .phase⟩, ⟨7, .phase⟩, ⟨8, .phase⟩, ⟨9, .phase⟩, ⟨10, .phase⟩, ⟨11, .phase⟩, ⟨12, .phase⟩], none⟩) rfl (fun K hK => ?_) AllReadyH.nil
  go_simp
  refine hK.out _ _ (hH4) (fun hH5 => ?_)
  clear hK K
  try simp only [Act.put, List.setIfInBounds_toArray, List.set_cons_zero, List.set_cons_succ]
  refine wpAnyH_done (by kernel_rfl) ?_ _
  generalize World.setCell (World.setCell (World.setCell _ _ _) _ _) _ _ = wF at HSB HR5 hH5 ⊢
  have kF := hH5.2.2
  have rF := hH5.2.1
  have s0 := HSB.out.cell (i := 0) rfl
  have s1 := HSB.out.cell (i := 1) rfl
  have s2 := HSB.out.cell (i := 2) rfl
  have lC : C.length = 33 := HLC.out
  obtain ⟨X, Y, hfA, lX, hfB, HY⟩ := sign_build C lC (.int .i64 (i : Int)) (.string ⟨SG.toArray⟩) (.slice pa pn pc)
  simp only [zeros, List.replicate, List.cons_append, List.nil_append] at hfA
  have lY : Hid (Y.length = 36) := Lib.hid (by rw [HY.out, List.length_append, lC]; rfl)
  have HZF := Lib.hid (sign_fin (HFIN.out.2.2.1.kept kF id) lY.out)
  go_wp2_with (first | ((with_reducible show wpList _ _ _ (⟨some 58, _, _, _, _, _⟩ :: _) _ _); refine wpList_load_mid rfl 46 _ rfl w.heap.size 0 rfl C _ rF Tryz.underlying46 rfl HI.out ?_) | ((with_reducible show wpList _ _ _ (⟨none, .store _ (.tmp 4) _, _, _, _, _⟩ :: _) _ _); refine wpList_store_mid rfl 51 _ _ rfl (w.heap.size + 1) 0 Y.toArray rfl rfl ?htv13 ?hiv13 ?h1v13 ?_))
  case htv13 => exact HZF.out.1
  case hiv13 => first | exact info_sized lY.out | simpa using info_sized lY.out
  case h1v13 => first | exact sign_one HY.out HCC.out | exact all_oneCell_toArray (sign_one HY.out HCC.out)
  refine bodyPost_ret (HZF.out.2.result2 rfl rfl Tryz.underlying51 rfl (info_sized lY.out)) rfl ?_
  exact sign_yes (S' := fun k => S k ∨ (Value.slice a1 n1 c1).ownBlock = some k) HFIN.out.1 (fun k hk => hk.elim Or.inl (fun q => (HFA2.out k q).imp id (fun o => by have := HSZ.out; omega))) HH.out.2.1 HH.out.2.2.1 HFIN.out.2.2.2.1 HFIN.out.2.2.2.2 kF HR5.out HY.out HCC.out HSG.out HDG2.out
end
end Go.Proofs.YtpmdlkogccojmaaGreatDoor
