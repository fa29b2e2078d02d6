/- The law ChecksNone, walked. -/
import Derived.Test.YtlgeijbgkipliaaGreatDoorUChecksNone46
import Derived.Test.YtlgeijbgkipliaaGreatDoorUChecksNone28
import Derived.Test.YtlgeijbgkipliaaGreatDoorUChecksNone42
import Derived.Test.YtlgeijbgkipliaaGreatDoorUChecksNone48
set_option linter.unusedVariables false
set_option linter.unusedSimpArgs false
namespace Go.Proofs.YtlgeijbgkipliaaGreatDoor
open Go.RowKit Go.WideShapes Go.ChangeShapes

def z32 : By := List.replicate 32 0
theorem signZ_eq : signZ = signedC 0 z32 0 ⟨#[]⟩ (.slice none 0 0) := by rfl
theorem same_zero (w : World) : Calls Tryz.prog 24 #[.agg signZ.toArray, .agg signZ.toArray] w fun e w' => e = .returned (.bool true) ∧ Kept (fun _ => False) w w' := by
  rw [signZ_eq]
  refine (same10_any w 0 0 z32 z32 0 0 ⟨#[]⟩ ⟨#[]⟩ none none 0 0 0 0 [] [] rfl rfl (View.nil w 32) (View.nil w 32) (fun x hx => by cases hx) (fun x hx => by cases hx) (by decide) (by decide)).mono ?_
  rintro e w' ⟨rfl, hk⟩
  exact ⟨by simp, hk⟩
set_option maxRecDepth 100000 in
set_option maxHeartbeats 8000000 in
theorem checksNone_walk0 (w : World) (ht : Tab w) (sz sd : Nat) (hsz : sz < 65536) (hsd : sd < 256) : Calls Tryz.prog 4 #[.agg (ptC sz sd).toArray] w fun e w' => e = .returned (.bool true) ∧ Kept (fun _ => False) w w' := by
  obtain ⟨p, hp⟩ : ∃ p, PtM.of sz sd = p := ⟨_, rfl⟩
  have hok := PtM.of_ok sz sd
  rw [hp] at hok
  have k0 : Kept (fun _ => False) w (w.alloc (.cells (ptC sz sd).toArray 52)) := (Kept.refl _ _).alloc _
  have HOF := Lib.hid (pt_of2 _ sz sd hsz hsd (ht.same k0) hp)
  have HX := Lib.hid (And.intro ht (And.intro hok k0))
  have hr32 : p.root.length = 32 := hok.hr
  clear hp hok k0 ht
  go_enter Tryz.func4, Tryz.ntmps4
  go_upto_region 2 with first
    | (go_at_call 21; refine HOF.out.mono ?_; rintro e w1 ⟨a1, c1, b1, d1, rfl, H1⟩; have HS := Lib.hid (two_stored w1 [.int .i64 (p.size : Int), .slice a1 p.hs.length c1] (signedC (p.z : Int) p.root (p.i : Int) p.sig (.slice b1 3 d1)) (signedC_len hr32)))
    | ((with_reducible show wpList _ _ _ (⟨none, .store _ (.tmp 4) _, _, _, _, _⟩ :: _) _ _); refine wpList_store_mid rfl 63 _ _ rfl (w1.heap.size + 1) 0 (signedC (p.z : Int) p.root (p.i : Int) p.sig (.slice b1 3 d1)).toArray rfl rfl HS.out.1 (info_signed_of hr32) (all_oneCell_toArray (signed_one _ _ _ _ _ rfl)) ?_)
  generalize hW2 : World.setCells _ _ _ _ = W2
  have H2 := Lib.hid (HS.out.2 W2 hW2)
  have K2 := Lib.hid (HX.out.2.2.trans (H1.out.2.2.2.2.2.trans H2.out.2.2))
  clear hW2 HS HOF H1
  generalize w1.heap.size + 1 = p4 at *
  generalize w1.heap.size = p3 at *
  go_wp2_with fail
  go_loopw [5, 6] (fun v x wr => ∃ k : Nat, k ≤ 2 ∧ x = .int .i64 (k : Int) ∧ Hid (NoChk wr v ∧ Kept (fun _ => False) W2 wr)) (fun _ x _ => 2 - (intOf x).toNat)
  case atStart => exact ⟨0, by omega, rfl, Lib.hid ⟨Or.inl rfl, Kept.refl _ _⟩⟩
  case round =>
    obtain ⟨k, hk, rfl, HR⟩ := hrel
    by_cases hlt : k < 2
    · have y1 : decide ((k : Int) < 2) = true := decide_eq_true (by omega)
      obtain ⟨Z, hZ⟩ : ∃ Z, Z = signZ := ⟨_, rfl⟩
      have HLA := Lib.hid (nochk_last wr u5 HR.out.1)
      have HSM := Lib.hid (fun X => same_zero X)
      rw [← hZ] at HLA
      have HZ := Lib.hid (zed_facts hZ)
      have HZ2 := Lib.hid hZ
      clear hZ
      go_upto_region 7 with first
        | (go_at_call 22; refine HLA.out.mono ?_; rintro e w3 ⟨rfl, k3⟩; have HS := Lib.hid (two_stored w3 [.int .i64 0, .slice none 0 0] Z HZ.out.1); have K3 := Lib.hid k3; clear k3)
        | ((with_reducible show wpList _ _ _ (⟨none, .store _ (.tmp 8) _, _, _, _, _⟩ :: _) _ _); refine wpList_store_mid rfl 63 _ _ rfl (w3.heap.size + 1) 0 Z.toArray rfl rfl HS.out.1 HZ.out.2.1 HZ.out.2.2 ?_)
      generalize hW4 : World.setCells _ _ _ _ = W4
      have H4 := Lib.hid (HS.out.2 W4 hW4)
      have K4 := Lib.hid (K3.out.trans H4.out.2.2)
      clear hW4 HS HLA K3
      generalize w3.heap.size + 1 = p8 at *
      generalize w3.heap.size = p7 at *
      have KK := Lib.hid (HR.out.2.trans K4.out)
      have v0 := (H2.out.1.kept KK.out id).cell (i := 0) rfl
      have v1 := (H2.out.1.kept KK.out id).cell (i := 1) rfl
      have is1 : (Tryz.prog.info? 63).map (·.size) = some (signedC (p.z : Int) p.root (p.i : Int) p.sig (.slice b1 3 d1)).length := by rw [signedC_len hr32]; exact info_signed_
      have HR6 := Lib.hid (And.intro (H2.out.2.1.kept KK.out id).range0 is1)
      have HPT := Lib.hid (nochk_put W4 u5 (HR.out.1.kept K4.out) (p.size : Int) (.slice a1 p.hs.length c1) (p.z : Int) p.root (p.i : Int) p.sig (.slice b1 3 d1))
      have HZL := Lib.hid (show (Tryz.prog.info? 63).map (·.size) = some Z.length by rw [HZ.out.1]; exact info_signed_)
      have HAF := Lib.hid (show ∀ X, Kept (fun _ => False) W4 X → X.cell? ⟨p7, 0, none⟩ = some (.int .i64 0) ∧ X.cell? ⟨p7, 1, none⟩ = some (.slice none 0 0) ∧ X.rangeAt p8 0 Z from fun X kx => ⟨(H4.out.1.kept kx id).cell (i := 0) rfl, (H4.out.1.kept kx id).cell (i := 1) rfl, (H4.out.2.1.kept kx id).range0⟩)
      clear is1
      go_upto_region 9 with first
        | ((with_reducible show wpList _ _ _ (⟨some 36, _, _, _, _, _⟩ :: _) _ _); refine wpList_load_mid rfl 63 _ rfl p4 0 rfl _ _ HR6.out.1 Tryz.underlying63 rfl HR6.out.2 ?_)
        | (go_at_call 23; refine HPT.out.mono ?_; rintro e w5 ⟨rfl, k5⟩; have K5 := Lib.hid k5; have x0 := (HAF.out w5 k5).1; have x1 := (HAF.out w5 k5).2.1; have HRZ := Lib.hid (HAF.out w5 k5).2.2; clear k5)
        | ((with_reducible show wpList _ _ _ (⟨some 51, _, _, _, _, _⟩ :: _) _ _); refine wpList_load_wanted (by rfl) 63 _ rfl p8 0 rfl _ _ HRZ.out Tryz.underlying63 rfl HZL.out ?_)
        | (go_at_call 24; rw [HZ2.out]; refine (HSM.out _).mono ?_; rintro e w6 ⟨rfl, k6⟩; have K6 := Lib.hid k6; clear k6)
      have K7 := Lib.hid (HR.out.2.trans (K4.out.trans (K5.out.trans K6.out)))
      clear HR HSM HZ HZ2 H4 KK HR6 HPT HZL HAF K4 K5 K6 HRZ v0 v1 x0 x1
      go_wp2_with fail
      go_roundw
      case rel => exact ⟨k + 1, by omega, by go_num, Lib.hid ⟨Or.inr ⟨_, rfl, by simp⟩, K7.out.trans ((Kept.refl _ _).alloc _)⟩⟩
      case measure => simp [intOf]; omega
    · obtain rfl : k = 2 := by omega
      have y1 : decide (((2 : Nat) : Int) < 2) = false := by decide
      have HK := Lib.hid (K2.out.trans HR.out.2)
      have HT2 := Lib.hid (HX.out.1.same HK.out)
      clear HR K2 HX hlt H2
      go_upto_region 11 with (go_at_call 9; refine (new_ok _ 100 (by omega) (by omega)).mono ?_; rintro e w8 hnew; obtain ⟨d, rfl, hA1, k1⟩ := Apart.made _ hnew; have HO1 : Hid (Owg wr w8 d (ckD [] 100 0) []) := Lib.hid (Owg.made hA1 HT2.out k1); clear hnew hA1 k1)
      have HN1 := Lib.hid (chkOpen_no w8 (.pointer none) (Or.inl rfl))
      go_upto_region 12 with (go_at_call 25; refine HN1.out.mono ?_; rintro e w9 ⟨rfl, k9⟩; have HO2 := Lib.hid (HO1.out.same k9); clear k9)
      have HO3 := Lib.hid (HO2.out.same ((Kept.refl (fun _ => False) w9).alloc (.cells #[.map none, .slice none 0 0, .int .i64 0, .bool false, .int .i64 0, .bool false, .int .i64 0, .int .i64 0] 80)))
      have HN2 := Lib.hid (chkOpen_no (w9.alloc (.cells #[.map none, .slice none 0 0, .int .i64 0, .bool false, .int .i64 0, .bool false, .int .i64 0, .int .i64 0] 80)) (.pointer (some ⟨w9.heap.size, 0, none⟩)) (Or.inr ⟨_, rfl, by simp⟩))
      go_upto_region 13 with (go_at_call 25; refine HN2.out.mono ?_; rintro e w10 ⟨rfl, k10⟩; have HO4 := Lib.hid (HO3.out.same k10); clear k10)
      have HCR := Lib.hid (HO4.out.crash (y := 0) (M' := (ckD [] 100 0).crash 0) 0 (by omega) rfl)
      go_upto_region 14 with (go_at_call 26; refine HCR.out.mono ?_; rintro e w11 ⟨rfl, h11⟩; have HO5 := Lib.hid h11; clear h11)
      have HN3 := Lib.hid (chkOpen_down HO5.out rfl)
      go_upto_region 15 with (go_at_call 25; refine HN3.out.mono ?_; rintro e w12 ⟨rfl, k12⟩; have HO6 := Lib.hid (HO5.out.same k12); clear k12)
      have HCK := Lib.hid (checked_any w12 HO6.out.tab)
      clear HN1 HN2 HN3 HCR
      go_wp2_with (go_at_call 27; refine HCK.out.mono ?_; rintro e w13 ⟨rfl, k13⟩)
      go_ret
      exact ⟨rfl, HK.out.trans (HO6.out.old.trans k13)⟩
set_option maxRecDepth 100000 in
theorem trod_pt {H : Type} {enc : TypeId × Value → H} {W : World} {base : Nat} {spare : Nat → Bool} {hd : Bool} {fuel : Nat} {cs : List Value} {x : DataW H × List MemPlace}
    (h : DataW.trod enc Tryz.prog W base spare hd fuel 52 cs = some x) : ∃ sz sd : Nat, sz < 65536 ∧ sd < 256 ∧ cs = ptC sz sd := by
  obtain ⟨xs, n, _, _, hcl, hl, hg⟩ := DataW.trod_struct Tryz.underlying52 h
  have c1 : Tryz.prog.cellsOf 50 = 1 := by kernel_rfl
  have c2 : Tryz.prog.cellsOf 52 = 2 := by kernel_rfl
  match xs, hl with
  | [y0, y1], _ =>
    have g0 := hg 0 _ rfl
    have g1 := hg 1 _ rfl
    rw [c2] at hcl
    simp [c1] at g0
    simp [c_u8] at g1
    obtain ⟨a0, e0, _, w0⟩ := DataW.trod_int Tryz.underlying50 g0
    obtain ⟨a1, e1, _, w1⟩ := DataW.trod_int Tryz.underlying5 g1
    have w0 := wf_u16 w0
    have w1 := wf_u8 w1
    match cs, hcl with
    | [b0, b1], _ =>
      simp at e0 e1
      refine ⟨a0.toNat, a1.toNat, by omega, by omega, ?_⟩
      rw [e0, e1]
      simp [ptC]
      omega
set_option maxRecDepth 100000 in
theorem checksNone_walk (v : Value) (W : World) (ht : Tab W) {base : Nat} {H : Type} {enc : TypeId × Value → H} {dd : DataW H} {pp : List MemPlace} (hv : Value.okWide Tryz.prog W .any base 52 v) (h : DataW.Trod enc Tryz.prog W 0 (fun _ => true) true 52 v dd pp) :
    Calls Tryz.prog 4 #[v] W fun e w' => e = .returned (.bool true) ∧ Below W.heap.size W w' := by
  have hagg : ∃ cs, v = .agg cs := by
    simp only [Value.okWide, Tryz.underlying52] at hv
    obtain ⟨cs, h1, _⟩ := hv
    exact ⟨cs, h1⟩
  obtain ⟨cs, rfl⟩ := hagg
  obtain ⟨fuel, hf⟩ := h
  obtain ⟨l⟩ := cs
  obtain ⟨sz, sd, h1, h2, e⟩ := trod_pt hf
  have e : l = ptC sz sd := e
  subst e
  exact (checksNone_walk0 W ht sz sd h1 h2).mono (fun e w' ⟨he, hk⟩ => ⟨he, hk.below (fun _ _ => id) (Nat.le_refl _)⟩)
end Go.Proofs.YtlgeijbgkipliaaGreatDoor
