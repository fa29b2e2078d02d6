/- The law ChecksNone, walked. Law 15: a hash of a row of one's own is written over; points that came in. Law 15: what ChecksFew's walk holds. The law ChecksFew, walked. -/
import Derived.Test.YtlgeijbgkipliaaGreatDoorUChecksFew46
import Derived.Test.YtlgeijbgkipliaaGreatDoorUChecksFew28
import Derived.Test.YtlgeijbgkipliaaGreatDoorUChecksFew42
import Derived.Test.YtlgeijbgkipliaaGreatDoorUChecksFew48
set_option linter.unusedVariables false
set_option linter.unusedSimpArgs false
namespace Go.Proofs.YtlgeijbgkipliaaGreatDoor
open Go.RowKit Go.WideShapes Go.ChangeShapes

def z32 : By := List.replicate 32 0
theorem signZ_eq : signZ = signedC 0 z32 0 ⟨#[]⟩ (.slice none 0 0) := by rfl
theorem same_zero (w : World) : Calls Tryz.prog 24 #[.agg signZ.toArray, .agg signZ.toArray] w fun e w' => e = .returned (.bool true) ∧ Kept (fun _ => False) w w' := by
  rw [signZ_eq]
  refine (same10_any w 0 0 z32 z32 0 0 ⟨#[]⟩ ⟨#[]⟩ none none 0 0 0 0 [] [] rfl rfl (View.nil w 32) (View.nil w 32) (fun x hx => by cases hx) (fun x hx => by cases hx) (by decide) (by decide)).mono ?_
  rintro e w' ⟨rfl, hk⟩
  exact ⟨by simp, hk⟩
set_option maxRecDepth 100000 in
set_option maxHeartbeats 8000000 in
theorem checksNone_walk0 (w : World) (ht : Tab w) (sz sd : Nat) (hsz : sz < 65536) (hsd : sd < 256) : Calls Tryz.prog 4 #[.agg (ptC sz sd).toArray] w fun e w' => e = .returned (.bool true) ∧ Kept (fun _ => False) w w' := by
  obtain ⟨p, hp⟩ : ∃ p, PtM.of sz sd = p := ⟨_, rfl⟩
  have hok := PtM.of_ok sz sd
  rw [hp] at hok
  have k0 : Kept (fun _ => False) w (w.alloc (.cells (ptC sz sd).toArray 52)) := (Kept.refl _ _).alloc _
  have HOF := Lib.hid (pt_of2 _ sz sd hsz hsd (ht.same k0) hp)
  have HX := Lib.hid (And.intro ht (And.intro hok k0))
  have hr32 : p.root.length = 32 := hok.hr
  clear hp hok k0 ht
  go_enter Tryz.func4, Tryz.ntmps4
  go_upto_region 2 with first
    | (go_at_call 21; refine HOF.out.mono ?_; rintro e w1 ⟨a1, c1, b1, d1, rfl, H1⟩; have HS := Lib.hid (two_stored w1 [.int .i64 (p.size : Int), .slice a1 p.hs.length c1] (signedC (p.z : Int) p.root (p.i : Int) p.sig (.slice b1 3 d1)) (signedC_len hr32)))
    | ((with_reducible show wpList _ _ _ (⟨none, .store _ (.tmp 4) _, _, _, _, _⟩ :: _) _ _); refine wpList_store_mid rfl 63 _ _ rfl (w1.heap.size + 1) 0 (signedC (p.z : Int) p.root (p.i : Int) p.sig (.slice b1 3 d1)).toArray rfl rfl HS.out.1 (info_signed_of hr32) (all_oneCell_toArray (signed_one _ _ _ _ _ rfl)) ?_)
  generalize hW2 : World.setCells _ _ _ _ = W2
  have H2 := Lib.hid (HS.out.2 W2 hW2)
  have K2 := Lib.hid (HX.out.2.2.trans (H1.out.2.2.2.2.2.trans H2.out.2.2))
  clear hW2 HS HOF H1
  generalize w1.heap.size + 1 = p4 at *
  generalize w1.heap.size = p3 at *
  go_wp2_with fail
  go_loopw [5, 6] (fun v x wr => ∃ k : Nat, k ≤ 2 ∧ x = .int .i64 (k : Int) ∧ Hid (NoChk wr v ∧ Kept (fun _ => False) W2 wr)) (fun _ x _ => 2 - (intOf x).toNat)
  case atStart => exact ⟨0, by omega, rfl, Lib.hid ⟨Or.inl rfl, Kept.refl _ _⟩⟩
  case round =>
    obtain ⟨k, hk, rfl, HR⟩ := hrel
    by_cases hlt : k < 2
    · have y1 : decide ((k : Int) < 2) = true := decide_eq_true (by omega)
      obtain ⟨Z, hZ⟩ : ∃ Z, Z = signZ := ⟨_, rfl⟩
      have HLA := Lib.hid (nochk_last wr u5 HR.out.1)
      have HSM := Lib.hid (fun X => same_zero X)
      rw [← hZ] at HLA
      have HZ := Lib.hid (zed_facts hZ)
      have HZ2 := Lib.hid hZ
      clear hZ
      go_upto_region 7 with first
        | (go_at_call 22; refine HLA.out.mono ?_; rintro e w3 ⟨rfl, k3⟩; have HS := Lib.hid (two_stored w3 [.int .i64 0, .slice none 0 0] Z HZ.out.1); have K3 := Lib.hid k3; clear k3)
        | ((with_reducible show wpList _ _ _ (⟨none, .store _ (.tmp 8) _, _, _, _, _⟩ :: _) _ _); refine wpList_store_mid rfl 63 _ _ rfl (w3.heap.size + 1) 0 Z.toArray rfl rfl HS.out.1 HZ.out.2.1 HZ.out.2.2 ?_)
      generalize hW4 : World.setCells _ _ _ _ = W4
      have H4 := Lib.hid (HS.out.2 W4 hW4)
      have K4 := Lib.hid (K3.out.trans H4.out.2.2)
      clear hW4 HS HLA K3
      generalize w3.heap.size + 1 = p8 at *
      generalize w3.heap.size = p7 at *
      have KK := Lib.hid (HR.out.2.trans K4.out)
      have v0 := (H2.out.1.kept KK.out id).cell (i := 0) rfl
      have v1 := (H2.out.1.kept KK.out id).cell (i := 1) rfl
      have is1 : (Tryz.prog.info? 63).map (·.size) = some (signedC (p.z : Int) p.root (p.i : Int) p.sig (.slice b1 3 d1)).length := by rw [signedC_len hr32]; exact info_signed_
      have HR6 := Lib.hid (And.intro (H2.out.2.1.kept KK.out id).range0 is1)
      have HPT := Lib.hid (nochk_put W4 u5 (HR.out.1.kept K4.out) (p.size : Int) (.slice a1 p.hs.length c1) (p.z : Int) p.root (p.i : Int) p.sig (.slice b1 3 d1))
      have HZL := Lib.hid (show (Tryz.prog.info? 63).map (·.size) = some Z.length by rw [HZ.out.1]; exact info_signed_)
      have HAF := Lib.hid (show ∀ X, Kept (fun _ => False) W4 X → X.cell? ⟨p7, 0, none⟩ = some (.int .i64 0) ∧ X.cell? ⟨p7, 1, none⟩ = some (.slice none 0 0) ∧ X.rangeAt p8 0 Z from fun X kx => ⟨(H4.out.1.kept kx id).cell (i := 0) rfl, (H4.out.1.kept kx id).cell (i := 1) rfl, (H4.out.2.1.kept kx id).range0⟩)
      clear is1
      go_upto_region 9 with first
        | ((with_reducible show wpList _ _ _ (⟨some 36, _, _, _, _, _⟩ :: _) _ _); refine wpList_load_mid rfl 63 _ rfl p4 0 rfl _ _ HR6.out.1 Tryz.underlying63 rfl HR6.out.2 ?_)
        | (go_at_call 23; refine HPT.out.mono ?_; rintro e w5 ⟨rfl, k5⟩; have K5 := Lib.hid k5; have x0 := (HAF.out w5 k5).1; have x1 := (HAF.out w5 k5).2.1; have HRZ := Lib.hid (HAF.out w5 k5).2.2; clear k5)
        | ((with_reducible show wpList _ _ _ (⟨some 51, _, _, _, _, _⟩ :: _) _ _); refine wpList_load_wanted (by rfl) 63 _ rfl p8 0 rfl _ _ HRZ.out Tryz.underlying63 rfl HZL.out ?_)
        | (go_at_call 24; rw [HZ2.out]; refine (HSM.out _).mono ?_; rintro e w6 ⟨rfl, k6⟩; have K6 := Lib.hid k6; clear k6)
      have K7 := Lib.hid (HR.out.2.trans (K4.out.trans (K5.out.trans K6.out)))
      clear HR HSM HZ HZ2 H4 KK HR6 HPT HZL HAF K4 K5 K6 HRZ v0 v1 x0 x1
      go_wp2_with fail
      go_roundw
      case rel => exact ⟨k + 1, by omega, by go_num, Lib.hid ⟨Or.inr ⟨_, rfl, by simp⟩, K7.out.trans ((Kept.refl _ _).alloc _)⟩⟩
      case measure => simp [intOf]; omega
    · obtain rfl : k = 2 := by omega
      have y1 : decide (((2 : Nat) : Int) < 2) = false := by decide
      have HK := Lib.hid (K2.out.trans HR.out.2)
      have HT2 := Lib.hid (HX.out.1.same HK.out)
      clear HR K2 HX hlt H2
      go_upto_region 11 with (go_at_call 9; refine (new_ok _ 100 (by omega) (by omega)).mono ?_; rintro e w8 hnew; obtain ⟨d, rfl, hA1, k1⟩ := Apart.made _ hnew; have HO1 : Hid (Owg wr w8 d (ckD [] 100 0) []) := Lib.hid (Owg.made hA1 HT2.out k1); clear hnew hA1 k1)
      have HN1 := Lib.hid (chkOpen_no w8 (.pointer none) (Or.inl rfl))
      go_upto_region 12 with (go_at_call 25; refine HN1.out.mono ?_; rintro e w9 ⟨rfl, k9⟩; have HO2 := Lib.hid (HO1.out.same k9); clear k9)
      have HO3 := Lib.hid (HO2.out.same ((Kept.refl (fun _ => False) w9).alloc (.cells #[.map none, .slice none 0 0, .int .i64 0, .bool false, .int .i64 0, .bool false, .int .i64 0, .int .i64 0] 80)))
      have HN2 := Lib.hid (chkOpen_no (w9.alloc (.cells #[.map none, .slice none 0 0, .int .i64 0, .bool false, .int .i64 0, .bool false, .int .i64 0, .int .i64 0] 80)) (.pointer (some ⟨w9.heap.size, 0, none⟩)) (Or.inr ⟨_, rfl, by simp⟩))
      go_upto_region 13 with (go_at_call 25; refine HN2.out.mono ?_; rintro e w10 ⟨rfl, k10⟩; have HO4 := Lib.hid (HO3.out.same k10); clear k10)
      have HCR := Lib.hid (HO4.out.crash (y := 0) (M' := (ckD [] 100 0).crash 0) 0 (by omega) rfl)
      go_upto_region 14 with (go_at_call 26; refine HCR.out.mono ?_; rintro e w11 ⟨rfl, h11⟩; have HO5 := Lib.hid h11; clear h11)
      have HN3 := Lib.hid (chkOpen_down HO5.out rfl)
      go_upto_region 15 with (go_at_call 25; refine HN3.out.mono ?_; rintro e w12 ⟨rfl, k12⟩; have HO6 := Lib.hid (HO5.out.same k12); clear k12)
      have HCK := Lib.hid (checked_any w12 HO6.out.tab)
      clear HN1 HN2 HN3 HCR
      go_wp2_with (go_at_call 27; refine HCK.out.mono ?_; rintro e w13 ⟨rfl, k13⟩)
      go_ret
      exact ⟨rfl, HK.out.trans (HO6.out.old.trans k13)⟩
set_option maxRecDepth 100000 in
theorem trod_pt {H : Type} {enc : TypeId × Value → H} {W : World} {base : Nat} {spare : Nat → Bool} {hd : Bool} {fuel : Nat} {cs : List Value} {x : DataW H × List MemPlace}
    (h : DataW.trod enc Tryz.prog W base spare hd fuel 52 cs = some x) : ∃ sz sd : Nat, sz < 65536 ∧ sd < 256 ∧ cs = ptC sz sd := by
  obtain ⟨xs, n, _, _, hcl, hl, hg⟩ := DataW.trod_struct Tryz.underlying52 h
  have c1 : Tryz.prog.cellsOf 50 = 1 := by kernel_rfl
  have c2 : Tryz.prog.cellsOf 52 = 2 := by kernel_rfl
  match xs, hl with
  | [y0, y1], _ =>
    have g0 := hg 0 _ rfl
    have g1 := hg 1 _ rfl
    rw [c2] at hcl
    simp [c1] at g0
    simp [c_u8] at g1
    obtain ⟨a0, e0, _, w0⟩ := DataW.trod_int Tryz.underlying50 g0
    obtain ⟨a1, e1, _, w1⟩ := DataW.trod_int Tryz.underlying5 g1
    have w0 := wf_u16 w0
    have w1 := wf_u8 w1
    match cs, hcl with
    | [b0, b1], _ =>
      simp at e0 e1
      refine ⟨a0.toNat, a1.toNat, by omega, by omega, ?_⟩
      rw [e0, e1]
      simp [ptC]
      omega
set_option maxRecDepth 100000 in
theorem checksNone_walk (v : Value) (W : World) (ht : Tab W) {base : Nat} {H : Type} {enc : TypeId × Value → H} {dd : DataW H} {pp : List MemPlace} (hv : Value.okWide Tryz.prog W .any base 52 v) (h : DataW.Trod enc Tryz.prog W 0 (fun _ => true) true 52 v dd pp) :
    Calls Tryz.prog 4 #[v] W fun e w' => e = .returned (.bool true) ∧ Below W.heap.size W w' := by
  have hagg : ∃ cs, v = .agg cs := by
    simp only [Value.okWide, Tryz.underlying52] at hv
    obtain ⟨cs, h1, _⟩ := hv
    exact ⟨cs, h1⟩
  obtain ⟨cs, rfl⟩ := hagg
  obtain ⟨fuel, hf⟩ := h
  obtain ⟨l⟩ := cs
  obtain ⟨sz, sd, h1, h2, e⟩ := trod_pt hf
  have e : l = ptC sz sd := e
  subst e
  exact (checksNone_walk0 W ht sz sd h1 h2).mono (fun e w' ⟨he, hk⟩ => ⟨he, hk.below (fun _ _ => id) (Nat.le_refl _)⟩)
end Go.Proofs.YtlgeijbgkipliaaGreatDoor

namespace Go.Proofs.YtlgeijbgkipliaaGreatDoor
open Go.RowKit Go.WideShapes Go.ChangeShapes

theorem hc_split {L : List By} (h : ∀ x ∈ L, x.length = 32) (k : Nat) (hk : k ≤ L.length) : (hcells L).take (k * 32) = hcells (L.take k) ∧ (hcells L).drop (k * 32) = hcells (L.drop k) := by
  have e : hcells L = hcells (L.take k) ++ hcells (L.drop k) := by rw [← hcells_append, List.take_append_drop]
  have hl : (hcells (L.take k)).length = k * 32 := by rw [hcells_len (fun x q => h x (List.mem_of_mem_take q)), List.length_take]; omega
  rw [e]
  exact ⟨by rw [List.take_append_of_le_length (by omega), List.take_of_length_le (by omega)], by rw [List.drop_append_of_le_length (by omega), List.drop_of_length_le (by omega), List.nil_append]⟩
theorem hc_set {L : List By} (h : ∀ x ∈ L, x.length = 32) {k : Nat} (hk : k < L.length) {z : By} (hz : z.length = 32) (rest : List Value) : splice (hcells L ++ rest) (k * 32) (bytes8 z) = hcells (L.set k z) ++ rest := by
  have hl := hcells_len h
  obtain ⟨h1, _⟩ := hc_split h k (by omega)
  obtain ⟨_, h2⟩ := hc_split h (k + 1) (by omega)
  unfold splice
  rw [bytes8_len, hz, List.take_append_of_le_length (by omega), show k * 32 + 32 = (k + 1) * 32 by omega, List.drop_append_of_le_length (by omega), h1, h2]
  have e : L.set k z = L.take k ++ ([z] ++ L.drop (k + 1)) := by rw [List.set_eq_take_append_cons_drop, if_pos hk]; rfl
  rw [e, hcells_append, hcells_append, hcells_one]
  simp
section
variable {w0 w : World} {d : Nat} {M : DiskM} {Os : List Og}
/-- A hash of a row of one's own is written over. -/
theorem row_set {a : Option Addr} {n c k : Nat} {l : List By} (h : Owg w0 w d M (.hrow (.slice a n c) l :: Os)) (h32 : ∀ x ∈ l, x.length = 32) (hk : k < l.length) {z : By} (hz : z.length = 32) :
    ∃ g, a = some ⟨g, 0, none⟩ ∧ n = l.length ∧ w.there g (k * 32) 32 ∧ Owg w0 (w.setCells g (k * 32) (bytes8 z)) d M (.hrow (.slice a n c) (l.set k z) :: Os) := by
  have hr : Row w 57 32 (.slice a n c) (hcells l) := by
    have q := h.has (x := .hrow (.slice a n c) l) (List.mem_cons_self ..)
    exact q
  have hl := hcells_len h32
  rcases hr with ⟨_, h0⟩ | ⟨g, n', c', rest, e, h1, hb, h2, h3, h4⟩
  · rw [h0] at hl; simp at hl; omega
  · cases e
    have hn : n = l.length := by omega
    have hset := hb.setCells (k * 32) (bytes8 z) (by rw [List.length_append, bytes8_len, hz, hl]; omega)
    rw [hc_set h32 hk hz rest] at hset
    have hl2 : (hcells (l.set k z)).length = l.length * 32 := by
      rw [hcells_len (fun x q => by
        rcases List.mem_or_eq_of_mem_set q with q | q
        · exact h32 x q
        · rw [q]; exact hz), List.length_set]
    refine ⟨g, rfl, hn, hb.there (k * 32) 32 (by rw [List.length_append, hl]; omega), ?_⟩
    obtain ⟨B, h⟩ := h
    have hB := ((h.obs _ (List.mem_cons_self ..)).2 g (by simp [Og.hrow, Value.ownBlock])).1
    have hk2 := kept_setCells w g (k * 32) (bytes8 z)
    have own : ∀ j, (Og.hrow (.slice (some ⟨g, 0, none⟩) n c) (l.set k z)).own j → j = g := fun j q => by simp [Og.hrow, Value.ownBlock] at q; exact q.symm
    exact ⟨_, h.swap (x := .hrow (.slice (some ⟨g, 0, none⟩) n c) (l.set k z)) (hk2.mono (fun j _ e => Or.inr (by rw [show j = g from e]; simp [Og.hrow, Value.ownBlock])))
      ((h.ap.turn hk2 (fun j e => by rw [show j = g from e]; exact hB)).fewer (fun j q => q.elim id (fun q => by rw [own j q]; exact hB)))
      (Or.inr ⟨g, n, c, rest, rfl, by rw [hl2]; omega, hset, h2, by rw [hl2]; omega, h4⟩) (fun j q => Or.inl (by rw [own j q]; simp [Og.hrow, Value.ownBlock]))⟩
end
/-- Points that came in. -/
def Pts (w : World) (a : Option Addr) (L : List (Nat × Nat)) : Prop := ∀ i x, L[i]? = some x → ElemAt w a 2 i (ptC x.1 x.2) ∧ x.1 < 65536 ∧ x.2 < 256
theorem Pts.same {w w' : World} {a : Option Addr} {L : List (Nat × Nat)} (h : Pts w a L) (hb : Below w.heap.size w w') : Pts w' a L := fun i x q => ⟨(h i x q).1.below hb, (h i x q).2⟩
theorem c_pt : Tryz.prog.cellsOf 52 = 2 := by kernel_rfl
set_option maxRecDepth 100000 in
theorem pts_of {H : Type} {enc : TypeId × Value → H} {w : World} {base : Nat} {v : Value} {dd : DataW H} {p : List MemPlace} (hv : Value.okWide Tryz.prog w .any base 82 v) (h : DataW.Trod enc Tryz.prog w 0 (fun _ => true) true 82 v dd p) :
    ∃ (a : Option Addr) (L : List (Nat × Nat)) (c : Nat), v = .slice a L.length c ∧ L.length ≤ maxLen ∧ Pts w a L := by
  obtain ⟨a, len, cap, rfl, hl, hx⟩ := open_rows Tryz.underlying82 c_pt (by omega) hv h
  obtain ⟨V, hV⟩ := Deep.choose_lt (α := Nat × Nat) (p := fun i y => ElemAt w a 2 i (ptC y.1 y.2) ∧ y.1 < 65536 ∧ y.2 < 256) (n := len) (fun i hi => by
    obtain ⟨cs, m, x, _, he, ht⟩ := hx i hi
    obtain ⟨sz, sd, h1, h2, rfl⟩ := trod_pt ht
    exact ⟨(sz, sd), he, h1, h2⟩)
  have hlen : ((List.range len).map V).length = len := by rw [List.length_map, List.length_range]
  refine ⟨a, (List.range len).map V, cap, by rw [hlen], by rw [hlen]; exact hl, fun i x hi => ?_⟩
  have hlt : i < len := by have := (List.getElem?_eq_some_iff.1 hi).1; omega
  rw [List.getElem?_map, List.getElem?_range hlt] at hi
  simp only [Option.map_some, Option.some.injEq] at hi
  subst hi
  exact hV i hlt
theorem Pts.cell {w : World} {a : Option Addr} {L : List (Nat × Nat)} (h : Pts w a L) {i : Nat} {x : Nat × Nat} (hx : L[i]? = some x) : ∃ g off, a = some ⟨g, off, none⟩ ∧ w.cell? ⟨g, off + i * 2, none⟩ = some (.int .u16 (x.1 : Int)) ∧ w.cell? ⟨g, off + i * 2 + 1, none⟩ = some (.int .u8 (x.2 : Int)) := by
  obtain ⟨⟨b, off, rfl, hlt, hc⟩, _⟩ := h i x hx
  exact ⟨b, off, rfl, hc 0 _ rfl, hc 1 _ rfl⟩
end Go.Proofs.YtlgeijbgkipliaaGreatDoor

namespace Go.Proofs.YtlgeijbgkipliaaGreatDoor
open Go.RowKit

/-- How checks stand ahead of a round. -/
def FewC (i : Nat) (n m : Int) (fs : List (Int × By)) : Prop :=
  (i = 0 ∧ n = -1 ∧ m = 0 ∧ fs = []) ∨ (0 < i ∧ n = (((i - 1) / 3 : Nat) : Int) ∧ m = (((i - 1) % 3 + 1 : Nat) : Int) ∧ ∃ B, fs = [(n, B)] ∧ B.length ≤ 30012 * ((i - 1) % 3 + 1))
/-- Ahead of a round. -/
def FewS (w : World) (d c i : Nat) (W : World) : Prop :=
  ∃ (n m : Int) (fs : List (Int × By)) (P : List Value), Owg w W d (ckD fs 1048576 0) (.blk c (chkC d n m P 0 false) 74 :: []) ∧ P.length = 38 ∧ FewC i n m fs
theorem few_put {w W : World} {d c i : Nat} {n m : Int} {fs : List (Int × By)} {P : List Value} {p : PtM} {a b : Option Addr} {ca cb : Nat} {Os : List Og} (hp : p.Ok) (hm : p.may = true) (hi : i ≤ 20) (h : Owg w W d (ckD fs 1048576 0) (.blk c (chkC d n m P 0 false) 74 :: .hrow (.slice a p.hs.length ca) p.hs :: .hrow (.slice b 3 cb) p.path :: Os)) (hP : P.length = 38) (hc : FewC i n m fs) :
    Calls Tryz.prog 23 #[.pointer (some ⟨c, 0, none⟩), rngV (p.size : Int) (.slice a p.hs.length ca), signedV (p.z : Int) p.root (p.i : Int) p.sig (.slice b 3 cb)] W fun e w' => e = .returned (.int .i64 0) ∧ ∃ B', B'.length ≤ 30012 * (i % 3 + 1) ∧ ChkHold w w' d c (ckD [(((i / 3 : Nat) : Int), B')] 1048576 0) ((i / 3 : Nat) : Int) ((i % 3 + 1 : Nat) : Int) 0 p (.hrow (.slice a p.hs.length ca) p.hs :: .hrow (.slice b 3 cb) p.path :: Os) := by
  have hl := PtM.frame_len hp
  have hv : ∀ w' M', Owg w w' d M' (.hrow (.slice a p.hs.length ca) p.hs :: .hrow (.slice b 3 cb) p.path :: Os) → View w' 32 (.slice a p.hs.length ca) (hcells p.hs) ∧ View w' 32 (.slice b 3 cb) (hcells p.path) := held_views (fun w' M' q => q.sub (((List.nil_sublist _).cons_cons _).cons_cons _))
  rcases hc with ⟨rfl, rfl, rfl, rfl⟩ | ⟨h0, hn, hm2, B, rfl, hB⟩
  · refine (chk_put (C := ⟨-1, 0, 0, false⟩) (C' := ⟨0, 1, 0, false⟩) (M' := ckD [(0, p.frame)] 1048576 0) (y := 0) (P := P) (p := p) (a := a) (b := b) (ca := ca) (cb := cb) h hP hp hv ⟨by decide, by decide⟩ ⟨by decide, by decide⟩ (by show 0 + 0 < _; omega) (by rw [hm]; exact put_first (by omega))).mono ?_
    rintro e w' ⟨rfl, h2, _⟩
    obtain ⟨a1, c1, b1, d1, h3⟩ := (h2 rfl).out
    exact ⟨rfl, p.frame, by omega, a1, c1, b1, d1, h3⟩
  · refine (put_again hp hm h hP (by omega) (by omega) (by omega) (by omega) (by omega)).mono ?_
    rintro e w' ⟨rfl, n', m', B', hx, hh⟩
    have e1 : n' = ((i / 3 : Nat) : Int) := by rcases hx with ⟨q, rfl, _⟩ | ⟨q, rfl, _⟩ <;> omega
    have e2 : m' = ((i % 3 + 1 : Nat) : Int) := by rcases hx with ⟨q, _, rfl, _⟩ | ⟨q, _, rfl, _⟩ <;> omega
    refine ⟨rfl, B', ?_, by rw [← e1, ← e2]; exact hh⟩
    rcases hx with ⟨q, _, _, rfl⟩ | ⟨q, _, _, rfl⟩
    · rw [List.length_append]; omega
    · omega
theorem z32_len : z32.length = 32 := by simp [z32]
/-- The caller writes over a row of its own: how it stands behind k hashes. -/
def RowK (w : World) (d : Nat) (M : DiskM) (v : Value) (n : Nat) (Os : List Og) (W : World) : Prop := ∃ l : List By, l.length = n ∧ (∀ x ∈ l, x.length = 32) ∧ Owg w W d M (.hrow v l :: Os)
theorem RowK.set {w W : World} {d : Nat} {M : DiskM} {a : Option Addr} {m c n k : Nat} {Os : List Og} (h : RowK w d M (.slice a m c) n Os W) (hk : k < n) : ∃ g, a = some ⟨g, 0, none⟩ ∧ m = n ∧ W.there g (k * 32) 32 ∧ ∀ W2, W.setCells g (k * 32) (bytes8 z32) = W2 → RowK w d M (.slice a m c) n Os W2 := by
  obtain ⟨l, h1, h2, h3⟩ := h
  obtain ⟨g, e1, e2, e3, e4⟩ := row_set (k := k) (z := z32) h3 h2 (by omega) z32_len
  refine ⟨g, e1, by omega, e3, fun W2 e => ⟨l.set k z32, by rw [List.length_set]; exact h1, fun x q => ?_, by rw [← e]; exact e4⟩⟩
  rcases List.mem_or_eq_of_mem_set q with q | q
  · exact h2 x q
  · rw [q]; exact z32_len
theorem RowK.has {w W : World} {d : Nat} {M : DiskM} {v : Value} {n b : Nat} {Os : List Og} {C : List Value} {t : TypeId} (h : RowK w d M v n Os W) (hx : Og.blk b C t ∈ Os) : Blk W b C t := by
  obtain ⟨l, _, _, h3⟩ := h
  exact h3.has (x := .blk b C t) (List.mem_cons_of_mem _ hx)
theorem RowK.drop {w W : World} {d : Nat} {M : DiskM} {v : Value} {n : Nat} {Os : List Og} (h : RowK w d M v n Os W) : Owg w W d M Os := by
  obtain ⟨l, _, _, h3⟩ := h
  exact h3.drop
theorem RowK.start {w W : World} {d : Nat} {M : DiskM} {v : Value} {l : List By} {n : Nat} {Os : List Og} (h : Owg w W d M (.hrow v l :: Os)) (h32 : ∀ x ∈ l, x.length = 32) (hn : l.length = n) : RowK w d M v n Os W := ⟨l, hn, h32, h⟩
theorem hold_is2 {w0 W : World} {d c : Nat} {M : DiskM} {file many st : Int} {q : PtM} {Os : List Og} (h : ChkHold w0 W d c M file many st q Os) (hq : q.Ok) (hf : 0 ≤ file) (sz sd : Nat) (hsz : sz < 65536) (hsd : sd < 256) (he : PtM.of sz sd = q) :
    Calls Tryz.prog 29 #[.agg (ptC sz sd).toArray, .pointer (some ⟨c, 0, none⟩)] W fun e w' => e = .returned (.bool true) ∧ ChkHold w0 w' d c M file many st q Os ∧ Kept (fun _ => False) W w' := by
  obtain ⟨a1, c1, b1, d1, h⟩ := h
  have hr : Row W 57 32 (.slice a1 q.hs.length c1) (hcells q.hs) := h.has (x := .hrow (.slice a1 q.hs.length c1) q.hs) (by simp)
  have hr2 : Row W 57 32 (.slice b1 3 d1) (hcells q.path) := h.has (x := .hrow (.slice b1 3 d1) q.path) (by simp)
  refine (is_any hq a1 b1 c1 d1 sz sd hsz hsd (chk_blk h) hf hr.view hr2.view h.tab).mono ?_
  rintro e w' ⟨rfl, hk⟩
  exact ⟨by rw [he, PtM.same_self], ⟨a1, c1, b1, d1, h.same hk⟩, hk⟩
theorem hold_old {w0 W : World} {d c : Nat} {M : DiskM} {file many st : Int} {q : PtM} {Os : List Og} (h : ChkHold w0 W d c M file many st q Os) : Kept (fun _ => False) w0 W := by
  obtain ⟨a1, c1, b1, d1, h⟩ := h
  exact h.old
theorem FewS.next {w W : World} {d c i : Nat} {p : PtM} {B : By} (h : ChkHold w W d c (ckD [(((i / 3 : Nat) : Int), B)] 1048576 0) ((i / 3 : Nat) : Int) ((i % 3 + 1 : Nat) : Int) 0 p []) (hp : p.Ok) (hB : B.length ≤ 30012 * (i % 3 + 1)) : FewS w d c (i + 1) W := by
  obtain ⟨a1, c1, b1, d1, h⟩ := h
  exact ⟨_, _, _, _, h.sub ((List.nil_sublist _).cons_cons _), p.cells_len hp _ _, Or.inr ⟨by omega, rfl, rfl, B, rfl, hB⟩⟩
end Go.Proofs.YtlgeijbgkipliaaGreatDoor

namespace Go.Proofs.YtlgeijbgkipliaaGreatDoor
open Go.RowKit

theorem div3 (i : Nat) : (i : Int).tdiv 3 = ((i / 3 : Nat) : Int) := by rw [Int.tdiv_eq_ediv_of_nonneg (by omega)]; rfl
set_option maxRecDepth 100000 in
set_option maxHeartbeats 16000000 in
theorem checksFew_walk0 (w : World) (ht : Tab w) (a : Option Addr) (L : List (Nat × Nat)) (lc : Nat) (hl : L.length ≤ maxLen) (hL : Pts w a L) : Calls Tryz.prog 5 #[.slice a L.length lc] w fun e w' => e = .returned (.bool true) ∧ Kept (fun _ => False) w w' := by
  have hl9 : L.length ≤ 9223372036854775807 := hl
  have HT := Lib.hid (And.intro ht hL)
  clear ht hL hl
  by_cases h20 : 20 < L.length
  · have x1 : decide ((20 : Int) < (L.length : Int)) = true := decide_eq_true (by omega)
    have x2 : decide (20 < L.length) = true := decide_eq_true h20
    have HST := Lib.hid (checked_any w HT.out.1)
    clear h20
    go_enter Tryz.func5, Tryz.ntmps5
    go_wp2_with (go_at_call 27; refine HST.out.mono ?_; rintro e w1 ⟨rfl, hk⟩)
    go_ret
    exact ⟨rfl, hk⟩
  · have x1 : decide ((20 : Int) < (L.length : Int)) = false := decide_eq_false (by omega)
    have x2 : decide (20 < L.length) = false := decide_eq_false h20
    have HL20 := Lib.hid (show L.length ≤ 20 by omega)
    clear h20
    go_enter Tryz.func5, Tryz.ntmps5
    go_upto_region 4 with (go_at_call 9; refine (new_ok _ 1048576 (by omega) (by omega)).mono ?_; rintro e w1 hnew; obtain ⟨d, rfl, hA1, k1⟩ := Apart.made _ hnew; have HO1 : Hid (Owg w w1 d (ckD [] 1048576 0) []) := Lib.hid (Owg.made hA1 HT.out.1 k1); clear hnew hA1 k1)
    have HOP := Lib.hid (chk_open0 HO1.out rfl rfl ck_sync)
    go_upto_region 7 with (go_at_call 25; refine HOP.out.mono ?_; rintro e w2 ⟨c, rfl, h2⟩; have HS0 : Hid (FewS w d c 0 w2) := Lib.hid ⟨-1, 0, [], pointZ, h2, pointZ_len, Or.inl ⟨rfl, rfl, rfl, rfl⟩⟩; clear h2)
    clear HOP HO1
    go_wp2_with fail
    go_loopw [7] (fun x wr => ∃ i : Nat, i ≤ L.length ∧ x = .int .i64 (i : Int) ∧ Hid (FewS w d c i wr)) (fun x _ => L.length - (intOf x).toNat)
    case atStart => exact ⟨0, Nat.zero_le _, rfl, HS0⟩
    case round =>
      obtain ⟨i, hi, rfl, HR⟩ := hrel
      by_cases hlt : i < L.length
      · have y1 : decide ((i : Int) < (L.length : Int)) = true := decide_eq_true (by omega)
        have y2 : decide (i < L.length) = true := decide_eq_true hlt
        obtain ⟨⟨sz, sd⟩, hx⟩ : ∃ x, L[i]? = some x := ⟨_, List.getElem?_eq_getElem hlt⟩
        obtain ⟨n, m, fs, P, HO, hP, hc⟩ := HR.out
        obtain ⟨hsz, hsd⟩ := (HT.out.2 i _ hx).2
        obtain ⟨g, off, rfl, cw0, cw1⟩ := HT.out.2.cell hx
        dsimp only at cw0 cw1 hsz hsd
        have HCW := Lib.hid (And.intro cw0 cw1)
        have cc0 := HO.old.cell cw0 id
        have cc1 := HO.old.cell cw1 id
        obtain ⟨p, hp⟩ : ∃ p, PtM.of sz sd = p := ⟨_, rfl⟩
        have hok := PtM.of_ok sz sd
        have hmay := PtM.of_may sz sd
        rw [hp] at hok hmay
        have HOF := Lib.hid (pt_of2 wr sz sd hsz hsd HO.tab hp)
        have HX := Lib.hid (And.intro hok (And.intro hmay (And.intro HO (And.intro hP (And.intro hc (And.intro hx (And.intro hp (And.intro hsz hsd))))))))
        have hr32 : p.root.length = 32 := hok.hr
        have hi20 : i ≤ 19 := by have := HL20.out; omega
        clear hok hmay HO hP hc hx hp hsz hsd cw0 cw1 HR
        go_upto_region 11 with first
          | (go_at_call 21; refine HOF.out.mono ?_; rintro e w5 ⟨a5, c5, b5, d5, rfl, H5⟩; have HS := Lib.hid (two_stored w5 [.int .i64 (p.size : Int), .slice a5 p.hs.length c5] (signedC (p.z : Int) p.root (p.i : Int) p.sig (.slice b5 3 d5)) (signedC_len hr32)))
          | ((with_reducible show wpList _ _ _ (⟨none, .store _ (.tmp 9) _, _, _, _, _⟩ :: _) _ _); refine wpList_store_mid rfl 63 _ _ rfl (w5.heap.size + 1) 0 (signedC (p.z : Int) p.root (p.i : Int) p.sig (.slice b5 3 d5)).toArray rfl rfl HS.out.1 (info_signed_of hr32) (all_oneCell_toArray (signed_one _ _ _ _ _ rfl)) ?_)
        generalize hW6 : World.setCells _ _ _ _ = W6
        have H6 := Lib.hid (HS.out.2 W6 hW6)
        have h6 := (of_held HX.out.2.2.1 H5.out).add2 (x := .blk w5.heap.size [.int .i64 (p.size : Int), .slice a5 p.hs.length c5] 55) (y := .blk (w5.heap.size + 1) (signedC (p.z : Int) p.root (p.i : Int) p.sig (.slice b5 3 d5)) 63) H6.out.2.2 H6.out.1 H6.out.2.1 (fun k q => by have : k = w5.heap.size := q; omega) (fun k q => by have : k = w5.heap.size + 1 := q; omega) (fun k q q2 => by have : k = w5.heap.size := q; have : k = w5.heap.size + 1 := q2; omega)
        generalize w5.heap.size + 1 = p9 at *
        generalize w5.heap.size = p8 at *
        have HO6 : Hid (Owg w W6 d (ckD fs 1048576 0) (.blk c (chkC d n m P 0 false) 74 :: .hrow (.slice a5 p.hs.length c5) p.hs :: .hrow (.slice b5 3 d5) p.path :: .blk p8 [.int .i64 (p.size : Int), .slice a5 p.hs.length c5] 55 :: .blk p9 (signedC (p.z : Int) p.root (p.i : Int) p.sig (.slice b5 3 d5)) 63 :: [])) := Lib.hid (h6.perm (((List.perm_middle (l₁ := [_, _, _, _])).trans ((List.Perm.cons _ (List.perm_append_comm (l₁ := [_, _]) (l₂ := [_, _])))))))
        have HPT := Lib.hid (few_put HX.out.1 HX.out.2.1 (by omega) HO6.out HX.out.2.2.2.1 HX.out.2.2.2.2.1)
        have v0 := H6.out.1.cell (i := 0) rfl
        have v1 := H6.out.1.cell (i := 1) rfl
        have is1 : (Tryz.prog.info? 63).map (·.size) = some (signedC (p.z : Int) p.root (p.i : Int) p.sig (.slice b5 3 d5)).length := by rw [signedC_len hr32]; exact info_signed_
        have HR6 := Lib.hid (And.intro H6.out.2.1.range0 is1)
        clear h6 is1 HS hW6 H5 HOF
        go_upto_region 13 with first
          | ((with_reducible show wpList _ _ _ (⟨some 52, _, _, _, _, _⟩ :: _) _ _); refine wpList_load_mid rfl 63 _ rfl p9 0 rfl _ _ HR6.out.1 Tryz.underlying63 rfl HR6.out.2 ?_)
          | (go_at_call 23; refine HPT.out.mono ?_; rintro e w7 ⟨rfl, B, hB, a7, c7, b7, d7, h7⟩; have HO7 := Lib.hid (And.intro hB h7); clear h7 hB)
        have HK1 := Lib.hid (RowK.start (v := .slice a5 p.hs.length c5) (n := p.hs.length) (show Owg w w7 d (ckD [(((i / 3 : Nat) : Int), B)] 1048576 0) (.hrow (.slice a5 p.hs.length c5) p.hs :: .blk c (chkC d ((i / 3 : Nat) : Int) ((i % 3 + 1 : Nat) : Int) (p.cells (.slice a7 p.hs.length c7) (.slice b7 3 d7)) 0 false) 74 :: .hrow (.slice a7 p.hs.length c7) p.hs :: .hrow (.slice b7 3 d7) p.path :: .hrow (.slice b5 3 d5) p.path :: .blk p8 [.int .i64 (p.size : Int), .slice a5 p.hs.length c5] 55 :: .blk p9 (signedC (p.z : Int) p.root (p.i : Int) p.sig (.slice b5 3 d5)) 63 :: []) from HO7.out.2.perm (List.perm_middle (l₁ := [_, _, _]))) HX.out.1.h32 rfl)
        clear HO6 HPT v0 v1 HR6 H6
        have hN64 : p.hs.length ≤ 64 := HX.out.1.hlen
        go_wp2_with fail
        go_loopw [10] (fun x wr => ∃ k : Nat, k ≤ p.hs.length ∧ x = .int .i64 (k : Int) ∧ Hid (RowK w d (ckD [(((i / 3 : Nat) : Int), B)] 1048576 0) (.slice a5 p.hs.length c5) p.hs.length (.blk c (chkC d ((i / 3 : Nat) : Int) ((i % 3 + 1 : Nat) : Int) (p.cells (.slice a7 p.hs.length c7) (.slice b7 3 d7)) 0 false) 74 :: .hrow (.slice a7 p.hs.length c7) p.hs :: .hrow (.slice b7 3 d7) p.path :: .hrow (.slice b5 3 d5) p.path :: .blk p8 [.int .i64 (p.size : Int), .slice a5 p.hs.length c5] 55 :: .blk p9 (signedC (p.z : Int) p.root (p.i : Int) p.sig (.slice b5 3 d5)) 63 :: []) wr)) (fun x _ => p.hs.length - (intOf x).toNat)
        case atStart => exact ⟨0, Nat.zero_le _, rfl, HK1⟩
        case round =>
          obtain ⟨ka, hka, rfl, HRK⟩ := hrel
          have w1 := Blk.cell (w := wr) (HRK.out.has (b := p8) (C := [.int .i64 (p.size : Int), .slice a5 p.hs.length c5]) (t := 55) (by simp)) (i := 1) rfl
          by_cases hlta : ka < p.hs.length
          · have y3 : decide ((ka : Int) < (p.hs.length : Int)) = true := decide_eq_true (by omega)
            have y4 : decide (ka < p.hs.length) = true := decide_eq_true hlta
            have y5 : ((ka : Int) < (p.hs.length : Int)) = True := eq_true (by omega)
            obtain ⟨gz, rfl, -, hth, hset⟩ := HRK.out.set hlta
            have HLT := Lib.hid hlta
            have HST := Lib.hid (And.intro hth hset)
            clear hth hset
            go_upto_region 16 with fail
            refine wp_region_lit ?_
            refine wpList_plain rfl (fun K hK => ?_)
            go_simp
            refine hK _ _ ?_
            clear hK K
            refine wpList_plain rfl (fun K hK => ?_)
            go_simp
            refine hK _ _ ?_
            clear hK K
            refine wpList_plain rfl (fun K hK => ?_)
            go_simp
            refine hK _ _ ?_
            clear hK K
            refine wpList_plain rfl (fun K hK => ?_)
            go_simp
            refine hK _ _ ?_
            clear hK K
            refine wpList_plain rfl (fun K hK => ?_)
            go_simp
            refine hK _ _ ?_
            clear hK K
            refine wpList_store_mid rfl 57 _ _ rfl gz (ka * 32) (bytes8 z32).toArray rfl (by rfl) HST.out.1 (by kernel_rfl) (all_oneCell_toArray (fun y hy => u8_oneCell y hy)) ?_
            generalize hWz : World.setCells _ _ _ _ = Wz
            have HKz := Lib.hid (HST.out.2 Wz hWz)
            clear hWz HST HRK
            go_wp2_with fail
            go_roundw
            case rel => exact ⟨ka + 1, by have := HLT.out; omega, by go_num, HKz⟩
            case measure => have := HLT.out; simp [intOf]; omega
          · obtain rfl : ka = p.hs.length := by omega
            have y3 : decide ((p.hs.length : Int) < (p.hs.length : Int)) = false := decide_eq_false (by omega)
            have y4 : decide (p.hs.length < p.hs.length) = false := decide_eq_false (by omega)
            clear hlta hka
            have HK2 := Lib.hid (RowK.start (v := .slice b5 3 d5) (n := 3) (show Owg w wr d (ckD [(((i / 3 : Nat) : Int), B)] 1048576 0) (.hrow (.slice b5 3 d5) p.path :: .blk c (chkC d ((i / 3 : Nat) : Int) ((i % 3 + 1 : Nat) : Int) (p.cells (.slice a7 p.hs.length c7) (.slice b7 3 d7)) 0 false) 74 :: .hrow (.slice a7 p.hs.length c7) p.hs :: .hrow (.slice b7 3 d7) p.path :: .blk p8 [.int .i64 (p.size : Int), .slice a5 p.hs.length c5] 55 :: .blk p9 (signedC (p.z : Int) p.root (p.i : Int) p.sig (.slice b5 3 d5)) 63 :: []) from HRK.out.drop.perm (List.perm_middle (l₁ := [_, _, _]))) HX.out.1.p32 HX.out.1.p3)
            clear HRK HK1
            have w9 := Blk.cell (w := wr) (HK2.out.has (b := p9) (C := signedC (p.z : Int) p.root (p.i : Int) p.sig (.slice b5 3 d5)) (t := 63) (by simp)) (i := 35) (signed_at hr32).2.2.2
            obtain ⟨gz, rfl, -, hth, hset⟩ := HK2.out.set (k := 0) (by omega)
            have HST := Lib.hid (And.intro hth hset)
            clear hth hset
            go_upto_region 17 with fail
            refine wp_region_lit ?_
            refine wpList_plain rfl (fun K hK => ?_)
            go_simp
            refine hK _ _ ?_
            clear hK K
            refine wpList_plain rfl (fun K hK => ?_)
            go_simp
            refine hK _ _ ?_
            clear hK K
            refine wpList_plain rfl (fun K hK => ?_)
            go_simp
            refine hK _ _ ?_
            clear hK K
            refine wpList_plain rfl (fun K hK => ?_)
            go_simp
            refine hK _ _ ?_
            clear hK K
            refine wpList_plain rfl (fun K hK => ?_)
            go_simp
            refine hK _ _ ?_
            clear hK K
            refine wpList_store_mid rfl 57 _ _ rfl gz (0 * 32) (bytes8 z32).toArray rfl (by rfl) HST.out.1 (by kernel_rfl) (all_oneCell_toArray (fun y hy => u8_oneCell y hy)) ?_
            generalize hWz : World.setCells _ _ _ _ = Wz
            have HKz := Lib.hid (HST.out.2 Wz hWz)
            clear hWz HST HK2 w9 w1
            have hrow7 := HKz.out.drop.has (x := .hrow (.slice a7 p.hs.length c7) p.hs) (by simp)
            have hrow7b := HKz.out.drop.has (x := .hrow (.slice b7 3 d7) p.path) (by simp)
            have HLA := Lib.hid (chk_last (w := Wz) (p.size : Int) a7 b7 p.hs.length c7 3 d7 p.hs p.path (p.z : Int) p.root (p.i : Int) p.sig (chk_blk HKz.out.drop) (by omega) hr32 (Row.view hrow7) (Row.view hrow7b) HX.out.1.h32 HX.out.1.p32 (by omega) (by have := HX.out.1.p3; omega))
            clear hrow7 hrow7b
            go_upto_region 19 with first
              | (go_at_call 22; refine HLA.out.mono ?_; rintro e w10 ⟨a10, c10, b10, d10, rfl, H10⟩; have HS := Lib.hid (two_stored w10 [.int .i64 (p.size : Int), .slice a10 p.hs.length c10] (signedC (p.z : Int) p.root (p.i : Int) p.sig (.slice b10 3 d10)) (signedC_len hr32)))
              | ((with_reducible show wpList _ _ _ (⟨none, .store _ (.tmp 12) _, _, _, _, _⟩ :: _) _ _); refine wpList_store_mid rfl 63 _ _ rfl (w10.heap.size + 1) 0 (signedC (p.z : Int) p.root (p.i : Int) p.sig (.slice b10 3 d10)).toArray rfl rfl HS.out.1 (info_signed_of hr32) (all_oneCell_toArray (signed_one _ _ _ _ _ rfl)) ?_)
            generalize hW11 : World.setCells _ _ _ _ = W11
            have H11 := Lib.hid (HS.out.2 W11 hW11)
            have hA1 : Owg w Wz d (ckD [(((i / 3 : Nat) : Int), B)] 1048576 0) (.blk c (chkC d ((i / 3 : Nat) : Int) ((i % 3 + 1 : Nat) : Int) (p.cells (.slice a7 p.hs.length c7) (.slice b7 3 d7)) 0 false) 74 :: .hrow (.slice a7 p.hs.length c7) p.hs :: .hrow (.slice b7 3 d7) p.path :: []) := HKz.out.drop.sub (((List.nil_sublist _).cons_cons _).cons_cons _ |>.cons_cons _)
            have hA2 := hA1.add2 (x := .hrow (.slice a10 p.hs.length c10) p.hs) (y := .hrow (.slice b10 3 d10) p.path) H10.out.2.2.2 H10.out.1.1 H10.out.2.1.1 H10.out.1.2 H10.out.2.1.2 H10.out.2.2.1
            have hA3 := hA2.add2 (x := .blk w10.heap.size [.int .i64 (p.size : Int), .slice a10 p.hs.length c10] 55) (y := .blk (w10.heap.size + 1) (signedC (p.z : Int) p.root (p.i : Int) p.sig (.slice b10 3 d10)) 63) H11.out.2.2 H11.out.1 H11.out.2.1 (fun k q => by have : k = w10.heap.size := q; omega) (fun k q => by have : k = w10.heap.size + 1 := q; omega) (fun k q q2 => by have : k = w10.heap.size := q; have : k = w10.heap.size + 1 := q2; omega)
            generalize w10.heap.size + 1 = p12 at *
            generalize w10.heap.size = p11 at *
            have HK3 := Lib.hid (RowK.start (v := .slice a10 p.hs.length c10) (n := p.hs.length) (show Owg w W11 d (ckD [(((i / 3 : Nat) : Int), B)] 1048576 0) (.hrow (.slice a10 p.hs.length c10) p.hs :: .blk p11 [.int .i64 (p.size : Int), .slice a10 p.hs.length c10] 55 :: .blk p12 (signedC (p.z : Int) p.root (p.i : Int) p.sig (.slice b10 3 d10)) 63 :: .hrow (.slice b10 3 d10) p.path :: .blk c (chkC d ((i / 3 : Nat) : Int) ((i % 3 + 1 : Nat) : Int) (p.cells (.slice a7 p.hs.length c7) (.slice b7 3 d7)) 0 false) 74 :: .hrow (.slice a7 p.hs.length c7) p.hs :: .hrow (.slice b7 3 d7) p.path :: []) from hA3.perm (List.perm_middle (l₁ := [_, _]))) HX.out.1.h32 rfl)
            clear hA1 hA2 hA3 hW11 HS HLA H10 H11 HKz
            go_wp2_with fail
            go_loopw [14] (fun x wr => ∃ k : Nat, k ≤ p.hs.length ∧ x = .int .i64 (k : Int) ∧ Hid (RowK w d (ckD [(((i / 3 : Nat) : Int), B)] 1048576 0) (.slice a10 p.hs.length c10) p.hs.length (.blk p11 [.int .i64 (p.size : Int), .slice a10 p.hs.length c10] 55 :: .blk p12 (signedC (p.z : Int) p.root (p.i : Int) p.sig (.slice b10 3 d10)) 63 :: .hrow (.slice b10 3 d10) p.path :: .blk c (chkC d ((i / 3 : Nat) : Int) ((i % 3 + 1 : Nat) : Int) (p.cells (.slice a7 p.hs.length c7) (.slice b7 3 d7)) 0 false) 74 :: .hrow (.slice a7 p.hs.length c7) p.hs :: .hrow (.slice b7 3 d7) p.path :: []) wr)) (fun x _ => p.hs.length - (intOf x).toNat)
            case atStart => exact ⟨0, Nat.zero_le _, rfl, HK3⟩
            case round =>
              obtain ⟨kb, hkb, rfl, HRK⟩ := hrel
              have w2 := Blk.cell (w := wr) (HRK.out.has (b := p11) (C := [.int .i64 (p.size : Int), .slice a10 p.hs.length c10]) (t := 55) (by simp)) (i := 1) rfl
              by_cases hltb : kb < p.hs.length
              · have y3 : decide ((kb : Int) < (p.hs.length : Int)) = true := decide_eq_true (by omega)
                have y4 : decide (kb < p.hs.length) = true := decide_eq_true hltb
                have y5 : ((kb : Int) < (p.hs.length : Int)) = True := eq_true (by omega)
                obtain ⟨gz, rfl, -, hth, hset⟩ := HRK.out.set hltb
                have HLT := Lib.hid hltb
                have HST := Lib.hid (And.intro hth hset)
                clear hth hset
                go_upto_region 22 with fail
                refine wp_region_lit ?_
                refine wpList_plain rfl (fun K hK => ?_)
                go_simp
                refine hK _ _ ?_
                clear hK K
                refine wpList_plain rfl (fun K hK => ?_)
                go_simp
                refine hK _ _ ?_
                clear hK K
                refine wpList_plain rfl (fun K hK => ?_)
                go_simp
                refine hK _ _ ?_
                clear hK K
                refine wpList_plain rfl (fun K hK => ?_)
                go_simp
                refine hK _ _ ?_
                clear hK K
                refine wpList_plain rfl (fun K hK => ?_)
                go_simp
                refine hK _ _ ?_
                clear hK K
                refine wpList_store_mid rfl 57 _ _ rfl gz (kb * 32) (bytes8 z32).toArray rfl (by rfl) HST.out.1 (by kernel_rfl) (all_oneCell_toArray (fun y hy => u8_oneCell y hy)) ?_
                generalize hWz : World.setCells _ _ _ _ = Wz
                have HKz := Lib.hid (HST.out.2 Wz hWz)
                clear hWz HST HRK
                go_wp2_with fail
                go_roundw
                case rel => exact ⟨kb + 1, by have := HLT.out; omega, by go_num, HKz⟩
                case measure => have := HLT.out; simp [intOf]; omega
              · obtain rfl : kb = p.hs.length := by omega
                have y3 : decide ((p.hs.length : Int) < (p.hs.length : Int)) = false := decide_eq_false (by omega)
                have y4 : decide (p.hs.length < p.hs.length) = false := decide_eq_false (by omega)
                clear hltb hkb
                have HK4 := Lib.hid (RowK.start (v := .slice b10 3 d10) (n := 3) (show Owg w wr d (ckD [(((i / 3 : Nat) : Int), B)] 1048576 0) (.hrow (.slice b10 3 d10) p.path :: .blk p11 [.int .i64 (p.size : Int), .slice a10 p.hs.length c10] 55 :: .blk p12 (signedC (p.z : Int) p.root (p.i : Int) p.sig (.slice b10 3 d10)) 63 :: .blk c (chkC d ((i / 3 : Nat) : Int) ((i % 3 + 1 : Nat) : Int) (p.cells (.slice a7 p.hs.length c7) (.slice b7 3 d7)) 0 false) 74 :: .hrow (.slice a7 p.hs.length c7) p.hs :: .hrow (.slice b7 3 d7) p.path :: []) from HRK.out.drop.perm (List.perm_middle (l₁ := [_, _]))) HX.out.1.p32 HX.out.1.p3)
                clear HRK HK3
                go_wp2_with fail
                go_loopw [15] (fun x wr => ∃ k : Nat, k ≤ 3 ∧ x = .int .i64 (k : Int) ∧ Hid (RowK w d (ckD [(((i / 3 : Nat) : Int), B)] 1048576 0) (.slice b10 3 d10) 3 (.blk p11 [.int .i64 (p.size : Int), .slice a10 p.hs.length c10] 55 :: .blk p12 (signedC (p.z : Int) p.root (p.i : Int) p.sig (.slice b10 3 d10)) 63 :: .blk c (chkC d ((i / 3 : Nat) : Int) ((i % 3 + 1 : Nat) : Int) (p.cells (.slice a7 p.hs.length c7) (.slice b7 3 d7)) 0 false) 74 :: .hrow (.slice a7 p.hs.length c7) p.hs :: .hrow (.slice b7 3 d7) p.path :: []) wr)) (fun x _ => 3 - (intOf x).toNat)
                case atStart => exact ⟨0, Nat.zero_le _, rfl, HK4⟩
                case round =>
                  obtain ⟨kc, hkc, rfl, HRK⟩ := hrel
                  have w3 := Blk.cell (w := wr) (HRK.out.has (b := p12) (C := signedC (p.z : Int) p.root (p.i : Int) p.sig (.slice b10 3 d10)) (t := 63) (by simp)) (i := 35) (signed_at hr32).2.2.2
                  by_cases hltc : kc < 3
                  · have y3 : decide ((kc : Int) < (3 : Int)) = true := decide_eq_true (by omega)
                    have y4 : decide (kc < 3) = true := decide_eq_true hltc
                    have y5 : ((kc : Int) < (3 : Int)) = True := eq_true (by omega)
                    obtain ⟨gz, rfl, -, hth, hset⟩ := HRK.out.set hltc
                    have HLT := Lib.hid hltc
                    have HST := Lib.hid (And.intro hth hset)
                    clear hth hset
                    go_upto_region 26 with fail
                    refine wp_region_lit ?_
                    refine wpList_plain rfl (fun K hK => ?_)
                    go_simp
                    refine hK _ _ ?_
                    clear hK K
                    refine wpList_plain rfl (fun K hK => ?_)
                    go_simp
                    refine hK _ _ ?_
                    clear hK K
                    refine wpList_plain rfl (fun K hK => ?_)
                    go_simp
                    refine hK _ _ ?_
                    clear hK K
                    refine wpList_plain rfl (fun K hK => ?_)
                    go_simp
                    refine hK _ _ ?_
                    clear hK K
                    refine wpList_plain rfl (fun K hK => ?_)
                    go_simp
                    refine hK _ _ ?_
                    clear hK K
                    refine wpList_plain rfl (fun K hK => ?_)
                    go_simp
                    refine hK _ _ ?_
                    clear hK K
                    refine wpList_store_mid rfl 57 _ _ rfl gz (kc * 32) (bytes8 z32).toArray rfl (by rfl) HST.out.1 (by kernel_rfl) (all_oneCell_toArray (fun y hy => u8_oneCell y hy)) ?_
                    generalize hWz : World.setCells _ _ _ _ = Wz
                    have HKz := Lib.hid (HST.out.2 Wz hWz)
                    clear hWz HST HRK
                    go_wp2_with fail
                    go_roundw
                    case rel => exact ⟨kc + 1, by have := HLT.out; omega, by go_num, HKz⟩
                    case measure => have := HLT.out; simp [intOf]; omega
                  · obtain rfl : kc = 3 := by omega
                    have y3 : decide ((3 : Int) < (3 : Int)) = false := decide_eq_false (by omega)
                    have y4 : decide (3 < 3) = false := decide_eq_false (by omega)
                    clear hltc hkc
                    have HH := Lib.hid (show ChkHold w wr d c (ckD [(((i / 3 : Nat) : Int), B)] 1048576 0) ((i / 3 : Nat) : Int) ((i % 3 + 1 : Nat) : Int) 0 p [] from ⟨a7, c7, b7, d7, HRK.out.drop.drop.drop⟩)
                    have x3 := div3 i
                    clear HRK HK4
                    go_wp2_with first
                      | (go_at_call 28; refine (hold_files HH.out).mono ?_; rintro e w13 ⟨g3, c13, rfl, hg3, h13⟩; have HO13 := Lib.hid h13; have cd0 := (hold_old h13).cell HCW.out.1 id; have cd1 := (hold_old h13).cell HCW.out.2 id; clear h13)
                      | (go_at_call 29; refine (hold_is2 HO13.out HX.out.1 (by omega) sz sd HX.out.2.2.2.2.2.2.2.1 HX.out.2.2.2.2.2.2.2.2 HX.out.2.2.2.2.2.2.1).mono ?_; rintro e w14 ⟨rfl, h14, k14⟩; have hg4 := k14.cell hg3 id; have HO14 := Lib.hid h14; clear h14 k14)
                    exact ⟨⟨i + 1, by omega, by go_num, Lib.hid (FewS.next HO14.out HX.out.1 HO7.out.1)⟩, by simp [intOf]; omega⟩
      · obtain rfl : i = L.length := by omega
        have y1 : decide ((L.length : Int) < (L.length : Int)) = false := decide_eq_false (by omega)
        have y2 : decide (L.length < L.length) = false := decide_eq_false (by omega)
        obtain ⟨n, m, fs, P, HO, hP, hc⟩ := HR.out
        have HST := Lib.hid (And.intro HO.old (checked_any wr HO.tab))
        clear hlt hi HO hP hc HR
        go_wp2_with (go_at_call 27; refine HST.out.2.mono ?_; rintro e w3 ⟨rfl, k3⟩)
        go_ret
        exact ⟨rfl, HST.out.1.trans k3⟩
set_option maxRecDepth 100000 in
theorem checksFew_walk (v : Value) (W : World) (ht : Tab W) {base : Nat} {H : Type} {enc : TypeId × Value → H} {dd : DataW H} {pp : List MemPlace} (hv : Value.okWide Tryz.prog W .any base 82 v) (h : DataW.Trod enc Tryz.prog W 0 (fun _ => true) true 82 v dd pp) :
    Calls Tryz.prog 5 #[v] W fun e w' => e = .returned (.bool true) ∧ Below W.heap.size W w' := by
  obtain ⟨a, L, c, rfl, hl, hL⟩ := pts_of hv h
  exact (checksFew_walk0 W ht a L c hl hL).mono (fun e w' ⟨he, hk⟩ => ⟨he, hk.below (fun _ _ => id) (Nat.le_refl _)⟩)
end Go.Proofs.YtlgeijbgkipliaaGreatDoor
