/- Law 15: Is. -/
import Derived.Test.YtlgeijbgkipliaaGreatDoorUChecksFew42
import Derived.Test.YtlgeijbgkipliaaGreatDoorUChecksFew44
set_option linter.unusedVariables false
set_option linter.unusedSimpArgs false
namespace Go.Proofs.YtlgeijbgkipliaaGreatDoor
open Go.RowKit

/-- The point of a size and a seed. -/
def PtM.of (sz sd : Nat) : PtM := ⟨ptSize sz, ptHs sz sd, ptSize sz, ptRoot sz sd, sd % 8, ptSig sz sd, ptPath sd⟩
theorem PtM.of_ok (sz sd : Nat) : (PtM.of sz sd).Ok := by
  have h1 := ptHs_ok sz sd
  have h2 := ptHs_len sz sd
  have h3 := ptSize_le sz
  have h4 := ptRoot_32 sz sd
  have h5 := ptSig_size sz sd
  have h6 := ptHs_32 (sz := sz) (sd := sd)
  have h7 := ptPath_32 (sd := sd)
  have h8 : (ptPath sd).length = 3 := rfl
  have h9 : sd % 8 < 8 := Nat.mod_lt _ (by decide)
  unfold PtM.of
  generalize ptSize sz = zq at *
  generalize ptHs sz sd = hq_ at *
  generalize ptRoot sz sd = rq at *
  generalize ptSig sz sd = sq at *
  generalize ptPath sd = pq at *
  generalize sd % 8 = iq at *
  exact ⟨h6, by show hq_.length ≤ 64; omega, h7, h8, h1, h3, h4, h3, h9, h5⟩
theorem PtM.of_may (sz sd : Nat) : (PtM.of sz sd).may = true := decide_eq_true ⟨rfl, rfl⟩
/-- Are two points the same? -/
def PtM.same (p q : PtM) : Bool := decide ((p.size : Int) = (q.size : Int) ∧ p.hs = q.hs) && decide (((p.z : Int) = (q.z : Int) ∧ p.root = q.root) ∧ (p.i : Int) = (q.i : Int) ∧ p.sig = q.sig ∧ p.path = q.path)
/-- A range and a signed head, in blocks of their own. -/
theorem two_stored (w1 : World) (x y : List Value) (hy : y.length = 36) :
    ((w1.alloc (.cells x.toArray 55)).alloc (.cells signZ.toArray 63)).there (w1.heap.size + 1) 0 y.toArray.size ∧ ∀ W2, ((w1.alloc (.cells x.toArray 55)).alloc (.cells signZ.toArray 63)).setCells (w1.heap.size + 1) 0 y = W2 →
      Blk W2 w1.heap.size x 55 ∧ Blk W2 (w1.heap.size + 1) y 63 ∧ Kept (fun _ => False) w1 W2 := by
  have b0 := (Blk.new w1 x 55).alloc (.cells signZ.toArray 63)
  have b1 := Blk.new (w1.alloc (.cells x.toArray 55)) signZ 63
  rw [World.size_alloc] at b1
  have k1 : Kept (fun _ => False) w1 ((w1.alloc (.cells x.toArray 55)).alloc (.cells signZ.toArray 63)) := ((Kept.refl _ _).alloc _).alloc _
  refine ⟨b1.there 0 _ (by rw [List.size_toArray, hy, signZ_len]; omega), fun W2 e => ?_⟩
  have b2 := b1.setCells 0 y (by rw [hy, signZ_len]; omega)
  rw [splice_whole (by rw [hy, signZ_len])] at b2
  have k2 := kept_setCells ((w1.alloc (.cells x.toArray 55)).alloc (.cells signZ.toArray 63)) (w1.heap.size + 1) 0 y
  rw [e] at b2 k2
  exact ⟨b0.kept k2 (by omega), b2, k1.then_ k2 (fun i hi q => by omega)⟩
theorem info_signed_of {z : Int} {root : By} {i : Int} {s : ByteArray} {v : Value} (hr : root.length = 32) : (Tryz.prog.info? 63).map (·.size) = some (signedC z root i s v).toArray.size := by rw [List.size_toArray, signedC_len hr]; exact info_signed_
theorem pathRow {w : World} {pb : Nat} {l : List By} (h : Blk w pb (hcells l) 57) (h32 : ∀ x ∈ l, x.length = 32) (h3 : l.length = 3) : Row w 57 32 (.slice (some ⟨pb, 0, none⟩) 3 3) (hcells l) :=
  Or.inr ⟨pb, 3, 3, [], rfl, by rw [hcells_len h32, h3], by rw [List.append_nil]; exact h, Nat.le_refl _, by rw [hcells_len h32, h3]; exact Nat.le_refl _, by decide⟩
theorem pathView {w : World} {pb : Nat} {l : List By} (h : Blk w pb (hcells l) 57) (h32 : ∀ x ∈ l, x.length = 32) (h3 : l.length = 3) : View w 32 (.slice (some ⟨pb, 0, none⟩) 3 3) (hcells l) := (pathRow h h32 h3).view
set_option maxRecDepth 100000 in
set_option maxHeartbeats 4000000 in
theorem is_any {w : World} {d c : Nat} {file many : Int} {st : Int} {dead : Bool} {p : PtM} (hp : p.Ok) (a b : Option Addr) (ca cb : Nat) (sz sd : Nat) (hsz : sz < 65536) (hsd : sd < 256) (hb : Blk w c (chkC d file many (p.cells (.slice a p.hs.length ca) (.slice b 3 cb)) st dead) 74) (hf : 0 ≤ file)
    (hL : View w 32 (.slice a p.hs.length ca) (hcells p.hs)) (hM : View w 32 (.slice b 3 cb) (hcells p.path)) (ht : Tab w) :
    Calls Tryz.prog 29 #[.agg (ptC sz sd).toArray, .pointer (some ⟨c, 0, none⟩)] w fun e w' => e = .returned (.bool (p.same (PtM.of sz sd))) ∧ Kept (fun _ => False) w w' := by
  have k0 : Kept (fun _ => False) w (w.alloc (.cells (ptC sz sd).toArray 52)) := (Kept.refl _ _).alloc _
  have HOF := Lib.hid (pt_of _ sz sd hsz hsd (ht.same k0))
  have hq := PtM.of_ok sz sd
  have hq2 : PtM.of sz sd = ⟨ptSize sz, ptHs sz sd, ptSize sz, ptRoot sz sd, sd % 8, ptSig sz sd, ptPath sd⟩ := rfl
  have em : ((sd : Int) % 8) = ((sd % 8 : Nat) : Int) := by omega
  unfold PtOf at HOF
  rw [em] at HOF
  clear em
  generalize PtM.of sz sd = q at *
  obtain ⟨q1, q2, q3, q4, q5, q6, q7⟩ := q
  simp only [PtM.mk.injEq] at hq2
  obtain ⟨rfl, rfl, e3, rfl, rfl, rfl, rfl⟩ := hq2
  subst e3
  generalize ptSize sz = zq at *
  generalize ptHs sz sd = hq_ at *
  generalize ptRoot sz sd = rq at *
  generalize ptSig sz sd = sq at *
  generalize ptPath sd = pq at *
  generalize sd % 8 = iq at *
  have HQ := Lib.hid hq
  have HP := Lib.hid (And.intro hp (And.intro hL (And.intro hM (And.intro hb k0))))
  clear hp hL hM hb k0 ht hq
  have hq32 : rq.length = 32 := HQ.out.hr
  have hl3 : pq.length = 3 := HQ.out.p3
  go_enter Tryz.func29, Tryz.ntmps29
  go_upto_region 2 with first
    | (go_at_call 21; refine HOF.out.mono ?_; rintro e w1 ⟨a1, c1, pb, rfl, H1⟩; have HS := Lib.hid (two_stored w1 [.int .i64 (zq : Int), .slice a1 hq_.length c1] (signedC (zq : Int) rq (iq : Int) sq (.slice (some ⟨pb, 0, none⟩) 3 3)) (signedC_len hq32)))
    | ((with_reducible show wpList _ _ _ (⟨none, .store _ (.tmp 6) _, _, _, _, _⟩ :: _) _ _); refine wpList_store_mid rfl 63 _ _ rfl (w1.heap.size + 1) 0 (signedC (zq : Int) rq (iq : Int) sq (.slice (some ⟨pb, 0, none⟩) 3 3)).toArray rfl rfl HS.out.1 (info_signed_of hq32) (all_oneCell_toArray (signed_one _ _ _ _ _ rfl)) ?_)
  generalize hW2 : World.setCells _ _ _ _ = W2
  have H2 := Lib.hid (HS.out.2 W2 hW2)
  clear hW2 HS HOF
  have K02 := Lib.hid (HP.out.2.2.2.2.trans (H1.out.2.2.2.2.trans H2.out.2.2))
  have HLA := Lib.hid (chk_last (w := W2) (p.size : Int) a b p.hs.length ca 3 cb p.hs p.path (p.z : Int) p.root (p.i : Int) p.sig (HP.out.2.2.2.1.kept K02.out id) hf HP.out.1.hr (HP.out.2.1.same K02.out (by omega)) (HP.out.2.2.1.same K02.out (by omega)) HP.out.1.h32 HP.out.1.p32 (by have := HP.out.1.hlen; omega) (by have := HP.out.1.p3; omega))
  have hr32 : p.root.length = 32 := HP.out.1.hr
  go_upto_region 3 with first
    | (go_at_call 22; refine HLA.out.mono ?_; rintro e w3 ⟨a3, c3, b3, d3, rfl, H3⟩; have HS := Lib.hid (two_stored w3 [.int .i64 (p.size : Int), .slice a3 p.hs.length c3] (signedC (p.z : Int) p.root (p.i : Int) p.sig (.slice b3 3 d3)) (signedC_len hr32)))
    | ((with_reducible show wpList _ _ _ (⟨none, .store _ (.tmp 8) _, _, _, _, _⟩ :: _) _ _); refine wpList_store_mid rfl 63 _ _ rfl (w3.heap.size + 1) 0 (signedC (p.z : Int) p.root (p.i : Int) p.sig (.slice b3 3 d3)).toArray rfl rfl HS.out.1 (info_signed_of hr32) (all_oneCell_toArray (signed_one _ _ _ _ _ rfl)) ?_)
  generalize hW4 : World.setCells _ _ _ _ = W4
  have H4 := Lib.hid (HS.out.2 W4 hW4)
  clear hW4 HS HLA
  have K24 := Lib.hid (H3.out.2.2.2.trans H4.out.2.2)
  have x0 := H4.out.1.cell (i := 0) rfl
  have x1 := H4.out.1.cell (i := 1) rfl
  have hr1 := H2.out.1.kept K24.out id
  have y0 := hr1.cell (i := 0) rfl
  have y1 := hr1.cell (i := 1) rfl
  have HV1 := Lib.hid ((H3.out.1.1.kept H4.out.2.2 (fun _ _ => id)).view)
  have HV2 := Lib.hid ((H3.out.2.1.1.kept H4.out.2.2 (fun _ _ => id)).view)
  have HV3 := Lib.hid ((H1.out.1.kept (H2.out.2.2.trans K24.out) (fun _ _ => id)).view)
  have HV4 := Lib.hid (pathView (H1.out.2.2.1.kept (H2.out.2.2.trans K24.out) id) HQ.out.p32 hl3)
  have HSA := Lib.hid (rsame5_any W4 (p.size : Int) (zq : Int) a3 a1 p.hs.length c3 hq_.length c1 p.hs hq_ HV1.out HV3.out HP.out.1.h32 HQ.out.h32 (by have := HP.out.1.hlen; omega) (by have := HQ.out.hlen; show hq_.length ≤ _; have h : hq_.length ≤ 64 := HQ.out.hlen; omega))
  have HSB := Lib.hid (fun (W : World) (k : Kept (fun _ => False) W4 W) => same10_any W (p.z : Int) (zq : Int) p.root rq (p.i : Int) (iq : Int) p.sig sq b3 (some ⟨pb, 0, none⟩) 3 d3 3 3 p.path pq HP.out.1.hr hq32 (HV2.out.same k (by omega)) (HV4.out.same k (by omega)) HP.out.1.p32 HQ.out.p32 (by have := HP.out.1.p3; omega) (by omega))
  have HA := Lib.hid (show ∀ X, Kept (fun _ => False) W4 X → X.rangeAt (w3.heap.size + 1) 0 (signedC (p.z : Int) p.root (p.i : Int) p.sig (.slice b3 3 d3)) ∧ X.rangeAt (w1.heap.size + 1) 0 (signedC (zq : Int) rq (iq : Int) sq (.slice (some ⟨pb, 0, none⟩) 3 3)) from fun X k => ⟨(H4.out.2.1.kept k id).range0, (H2.out.2.1.kept (K24.out.trans k) id).range0⟩)
  have K04 := Lib.hid (K02.out.trans K24.out)
  have is1 : (Tryz.prog.info? 63).map (·.size) = some (signedC (p.z : Int) p.root (p.i : Int) p.sig (.slice b3 3 d3)).length := by rw [signedC_len hr32]; exact info_signed_
  have is2 : (Tryz.prog.info? 63).map (·.size) = some (signedC (zq : Int) rq (iq : Int) sq (.slice (some ⟨pb, 0, none⟩) 3 3)).length := by rw [signedC_len hq32]; exact info_signed_
  have IS := Lib.hid (And.intro is1 is2)
  have HSM := Lib.hid (show p.same ⟨zq, hq_, zq, rq, iq, sq, pq⟩ = (decide ((p.size : Int) = (zq : Int) ∧ p.hs = hq_) && decide (((p.z : Int) = (zq : Int) ∧ p.root = rq) ∧ (p.i : Int) = (iq : Int) ∧ p.sig = sq ∧ p.path = pq)) from rfl)
  clear hr1 H1 H2 H3 H4 HV1 HV2 HV3 HV4 HP HQ is1 is2
  generalize decide ((p.size : Int) = (zq : Int) ∧ p.hs = hq_) = D1 at *
  generalize decide (((p.z : Int) = (zq : Int) ∧ p.root = rq) ∧ (p.i : Int) = (iq : Int) ∧ p.sig = sq ∧ p.path = pq) = D2 at *
  cases D1 with
  | false =>
    go_wp2_with (go_at_call 87; refine HSA.out.mono ?_; rintro e w5 ⟨rfl, k5⟩)
    go_ret
    exact ⟨by rw [HSM.out]; rfl, K04.out.trans k5⟩
  | true =>
    go_wp2_with first
      | (go_at_call 87; refine HSA.out.mono ?_; rintro e w5 ⟨rfl, k5⟩; have HR := Lib.hid (HA.out w5 k5))
      | ((with_reducible show wpList _ _ _ (⟨some 28, _, _, _, _, _⟩ :: _) _ _); refine wpList_load_wanted (by rfl) 63 _ rfl (w3.heap.size + 1) 0 rfl _ _ HR.out.1 Tryz.underlying63 rfl IS.out.1 ?_)
      | ((with_reducible show wpList _ _ _ (⟨some 29, _, _, _, _, _⟩ :: _) _ _); refine wpList_load_wanted (by rfl) 63 _ rfl (w1.heap.size + 1) 0 rfl _ _ HR.out.2 Tryz.underlying63 rfl IS.out.2 ?_)
      | (go_at_call 24; refine (HSB.out w5 k5).mono ?_; rintro e w6 ⟨rfl, k6⟩)
    go_ret
    exact ⟨by rw [HSM.out]; rfl, (K04.out.trans k5).trans k6⟩
end Go.Proofs.YtlgeijbgkipliaaGreatDoor
