/- The law KeyringNone, walked. -/
import Derived.Test.YtaimokclhcfohaaDoorUKeyringNone35
import Derived.Test.YtaimokclhcfohaaDoorUKeyringNone37
set_option linter.unusedVariables false
set_option linter.unusedSimpArgs false
namespace Go.Proofs.YtaimokclhcfohaaDoor
open Go.RowKit Go.WideShapes Go.ChangeShapes Go.Joins

set_option maxRecDepth 100000 in
set_option maxHeartbeats 1000000 in
theorem noring_sign (w : World) (v : Value) (hv : NoRing w v) (size : Int) (root : By) :
    Calls Tryd.prog 5 #[v, headV size root] w fun e w' => e = .returned (.tuple #[.agg signed0C.toArray, .int .i64 1]) ∧ Kept (fun _ => False) w w' := by
  have HN := Lib.hid (noring_none (signW w size root) v (hv.elim Or.inl (fun ⟨r, h1, h2⟩ => Or.inr ⟨r, h1, (signW_kept w size root).cell h2 id⟩)))
  have HQ := Lib.hid (sign_store (signW_res w size root) signed0_len)
  clear hv
  go_enter Tryd.func5, Tryd.ntmps5
  go_wp2_with (first | (go_at_call 19; refine HN.out.mono ?_; rintro e w' ⟨rfl, rfl⟩) | ((with_reducible show wpList _ _ _ (⟨none, .store _ (.tmp 4) _, _, _, _, _⟩ :: _) _ _); refine wpList_store_mid rfl 31 _ _ rfl (w.heap.size + 1) 0 signed0C.toArray rfl rfl ?hth ?hi ?h1 ?_))
  case hth => exact HQ.out.1
  case hi => exact (by rw [List.size_toArray]; exact info_signed0)
  case h1 => exact signed0_one
  refine bodyPost_ret (HQ.out.2.result2 rfl rfl Tryd.underlying31 rfl info_signed0) rfl ⟨rfl, ?_⟩
  exact (signW_kept w size root).then_ (kept_setCells _ (w.heap.size + 1) 0 _) (fun i hi e => by omega)
/-- A head in a block of its own. -/
theorem store_head (w4 : World) (x : Int) : (w4.alloc (.cells (headC 0 zeroRoot).toArray 25)).there w4.heap.size 0 (headC x zeroRoot).toArray.size ∧ Kept (fun _ => False) w4 ((w4.alloc (.cells (headC 0 zeroRoot).toArray 25)).setCells w4.heap.size 0 (headC x zeroRoot)) := by
  have l0 : ∀ z : Int, (headC z zeroRoot).length = 33 := fun z => headC_len (by simp)
  exact ⟨(Blk.new w4 (headC 0 zeroRoot) 25).there 0 _ (by rw [List.size_toArray, l0, l0]; omega), ((Kept.refl (fun _ => False) w4).alloc _).then_ (kept_setCells _ w4.heap.size 0 _) (fun i hi e => by omega)⟩
theorem NoRing.kept {w w' : World} {v : Value} (h : NoRing w v) (hk : Kept (fun _ => False) w w') : NoRing w' v := h.elim Or.inl (fun ⟨r, h1, h2⟩ => Or.inr ⟨r, h1, hk.cell h2 id⟩)
theorem neq_zero (w : World) : (binOp .neq 23 (.agg (zeros 32).toArray) (.agg #[.int .u8 0, .int .u8 0, .int .u8 0, .int .u8 0, .int .u8 0, .int .u8 0, .int .u8 0, .int .u8 0, .int .u8 0, .int .u8 0, .int .u8 0, .int .u8 0, .int .u8 0, .int .u8 0, .int .u8 0, .int .u8 0, .int .u8 0, .int .u8 0, .int .u8 0, .int .u8 0, .int .u8 0, .int .u8 0, .int .u8 0, .int .u8 0, .int .u8 0, .int .u8 0, .int .u8 0, .int .u8 0, .int .u8 0, .int .u8 0, .int .u8 0, .int .u8 0])).run Tryd.prog w = .ok (.bool false) w := neq_hash w zeroRoot zeroRoot (by simp) (by simp)
/-- The loop's relation. -/
def RNone (w : World) (size : Int) (root : By) (v : Value) (n : Nat) (wr : World) : Prop := n ≤ 2 ∧ NoRing wr v ∧ Blk wr w.heap.size (headC size root) 25 ∧ Kept (fun _ => False) w wr
set_option maxRecDepth 100000 in
set_option maxHeartbeats 4000000 in
theorem keyringNone_walk0 (size : Int) (root : By) (hroot : root.length = 32) (w : World) (ht : Tab w) :
    Calls Tryd.prog 3 #[headV size root] w fun e w' => e = .returned (.bool true) ∧ Kept (fun _ => False) w w' := by
  have HI := Lib.hid (show (Tryd.prog.info? 25).map (·.size) = some (headC size root).length by rw [headC_len hroot]; exact info_head)
  have HT := Lib.hid (And.intro ht hroot)
  clear ht hroot
  go_enter Tryd.func3, Tryd.ntmps3
  go_wp2_with fail
  go_loopw [3, 4] (fun v i wr => ∃ (u : Value) (n : Nat), u = v ∧ i = .int .i64 (n : Int) ∧ Hid (RNone w size root u n wr)) (fun _ i _ => 2 - (intOf i).toNat)
  case atStart => exact ⟨_, 0, rfl, rfl, Lib.hid ⟨by omega, Or.inl rfl, Blk.new w (headC size root) 25, (Kept.refl _ _).alloc _⟩⟩
  case round =>
    obtain ⟨v, n, hvv, rfl, hrel⟩ := hrel
    subst hvv
    have hn := hrel.out.1
    rcases Nat.lt_or_ge n 2 with hlt | hge
    · have hx : decide ((n : Int) < 2) = true := by simp; omega
      have HS := Lib.hid (noring_sign wr v hrel.out.2.1 size root)
      go_upto_region 6 with (first | ((with_reducible show wpList _ _ _ (⟨some 24, _, _, _, _, _⟩ :: _) _ _); refine wpList_load_mid rfl 25 _ rfl w.heap.size 0 rfl (headC size root) _ hrel.out.2.2.1.range0 Tryd.underlying25 rfl HI.out ?_) | (go_at_call 5; refine HS.out.mono ?_; rintro e u1 ⟨rfl, hk1⟩; have HK1 := Lib.hid hk1; clear hk1) | ((with_reducible show wpList _ _ _ (⟨none, .store _ (.tmp 5) _, _, _, _, _⟩ :: _) _ _); refine wpList_store_mid rfl 31 _ _ rfl u1.heap.size 0 signed0C.toArray rfl rfl ?hta ?hia ?h1a ?_))
      case hta => first | exact (store_signed u1 signed0_len).1 | simpa using (store_signed u1 signed0_len).1
      case hia => first | exact info_signed0 | (rw [List.size_toArray]; exact info_signed0)
      case h1a => exact signed0_one
      generalize hw1 : World.setCells _ u1.heap.size 0 _ = w1
      have k1 : Kept (fun _ => False) wr w1 := HK1.out.trans (by rw [← hw1]; exact (store_signed u1 signed0_len).2.2)
      have HR1 : Hid (RNone w size root v n w1) := Lib.hid ⟨hrel.out.1, hrel.out.2.1.kept k1, hrel.out.2.2.1.kept k1 id, hrel.out.2.2.2.trans k1⟩
      clear hw1 k1 hrel HK1 HS
      have HL := Lib.hid (noring_last w1 v HR1.out.2.1)
      go_upto_region 7 with (first | (go_at_call 6; refine HL.out.mono ?_; rintro e u2 ⟨rfl, hk2⟩; have HK2 := Lib.hid hk2; clear hk2) | ((with_reducible show wpList _ _ _ (⟨none, .store _ (.tmp 7) _, _, _, _, _⟩ :: _) _ _); refine wpList_store_mid rfl 25 _ _ rfl u2.heap.size 0 (headC 0 zeroRoot).toArray rfl rfl ?htb ?hib ?h1b ?_))
      case htb => exact (store_head u2 0).1
      case hib => exact info_headz 0
      case h1b => exact all_oneCell_toArray head_oneCell
      generalize hw2 : World.setCells _ u2.heap.size 0 _ = w2
      have k2 : Kept (fun _ => False) w1 w2 := HK2.out.trans (by rw [← hw2]; exact (store_head u2 0).2)
      have HR2 : Hid (RNone w size root v n w2) := Lib.hid ⟨HR1.out.1, HR1.out.2.1.kept k2, HR1.out.2.2.1.kept k2 id, HR1.out.2.2.2.trans k2⟩
      clear hw2 k2 HR1 HK2 HL
      have HU := Lib.hid (noring_used w2 v HR2.out.2.1)
      have HY := Lib.hid (noring_key w2 v HR2.out.2.1)
      go_wp2_with (first | (go_at_call 7; refine HU.out.mono ?_; rintro e w' ⟨rfl, rfl⟩) | (go_at_call 8; refine HY.out.mono ?_; rintro e w3 ⟨rfl, hk3⟩; have HK3 := Lib.hid hk3; clear hk3; generalize hz : zeros 32 = z32; have neq := hz ▸ neq_zero))
      go_roundw
      case rel => exact ⟨_, n + 1, rfl, by go_num, Lib.hid ⟨by omega, Or.inr ⟨_, rfl, (Blk.new w3 [.pointer none, .pointer none, .slice none 0 0, .int .i64 0, .bool false] 43).cell (i := 0) rfl⟩, (HR2.out.2.2.1.kept HK3.out id).alloc _, (HR2.out.2.2.2.trans HK3.out).alloc _⟩⟩
      case measure => simp [intOf]; omega
    · have hx : decide ((n : Int) < 2) = false := by simp; omega
      have HK := Lib.hid hrel.out.2.2.2
      clear hrel HI
      go_upto_region 11 with (go_at_call 9; refine (new_ok _ 100 (by omega) (by omega)).mono ?_; rintro e w1 hnew; obtain ⟨d, rfl, hA1, k1⟩ := Apart.made _ hnew; have HA := Lib.hid hA1; have HK1 := Lib.hid k1; clear hnew hA1 k1)
      go_upto_region 12 with (go_at_call 10; refine (open_no _ _ (Or.inl rfl) _).mono ?_; rintro e w' ⟨rfl, rfl⟩)
      have HA2 := Lib.hid (HA.out.same ((Kept.refl (fun _ => False) w1).alloc (.cells #[.map none, .slice none 0 0, .int .i64 0, .bool false, .int .i64 0, .bool false, .int .i64 0, .int .i64 0] 51)))
      go_upto_region 13 with (go_at_call 10; refine (open_no _ _ (Or.inr ⟨_, rfl, by simp⟩) _).mono ?_; rintro e w' ⟨rfl, rfl⟩)
      have HK2 := Lib.hid ((HK.out.trans HK1.out).alloc (.cells #[.map none, .slice none 0 0, .int .i64 0, .bool false, .int .i64 0, .bool false, .int .i64 0, .int .i64 0] 51))
      generalize World.alloc w1 _ = w2 at HA2 HK2 ⊢
      have hcr := crash_ap HA2.out 0 (by omega) (r := 0) (M' := (DiskM.new 100).crash 0) rfl
      have HCR := Lib.hid hcr
      clear hcr HA HK1
      go_upto_region 14 with (go_at_call 11; refine HCR.out.mono ?_; rintro e w3 ⟨rfl, hA3, k3⟩; have HA3 := Lib.hid hA3; have HK3 := Lib.hid (HK2.out.then_ k3 (fun i hi n => n (Nat.lt_of_lt_of_le hi HK.out.size))); clear hA3 k3)
      have hop := open_any HA3.out ⟨#[115]⟩ (by decide) (by decide) ⟨Nat.lt_of_lt_of_le (tab_lt HT.out.1).1 HK.out.size, Nat.lt_of_lt_of_le (tab_lt HT.out.1).2 HK.out.size⟩ (HT.out.1.same HK3.out)
      rw [show ((DiskM.new 100).crash 0).openR = (61, [], (DiskM.new 100).crash 0) from rfl] at hop
      have HOP := Lib.hid hop
      clear hop HCR HA2 HK2
      go_upto_region 15 with (go_at_call 10; refine HOP.out.mono ?_; intro e w4 ho; obtain ⟨rfl, -, k4⟩ : e = .returned (.tuple #[.pointer none, .int .i64 61]) ∧ True ∧ Kept (fun k => ¬ k < wr.heap.size) w3 w4 := (ho.elim (fun q => ⟨q.2.1, trivial, q.2.2.2⟩) (fun q => absurd q.1 (by decide))); have HK4 := Lib.hid (HK3.out.then_ k4 (fun i hi n => n (Nat.lt_of_lt_of_le hi HK.out.size))); clear ho k4)
      have HRG := Lib.hid (ringed_any w4 (HT.out.1.same HK4.out))
      go_wp2_with (go_at_call 12; refine HRG.out.mono ?_; rintro e w5 ⟨rfl, k5⟩)
      go_ret
      exact ⟨rfl, HK4.out.trans k5⟩
set_option maxRecDepth 100000 in
theorem keyringNone_walk (v : Value) (W : World) (ht : Tab W) {base : Nat} {H : Type} {enc : TypeId × Value → H} {dd : DataW H} {pp : List MemPlace} (hv : Value.okWide Tryd.prog W .any base 25 v) (h : DataW.Trod enc Tryd.prog W 0 (fun _ => true) true 25 v dd pp) :
    Calls Tryd.prog 3 #[v] W fun e w' => e = .returned (.bool true) ∧ Below W.heap.size W w' := by
  obtain ⟨cs, rfl, hsz⟩ := okWide_struct Tryd.underlying25 hv
  obtain ⟨fuel, hf⟩ := h
  obtain ⟨l⟩ := cs
  obtain ⟨size, root, hr, _, _, e⟩ := trod_head hf
  have e : l = headC size root := e
  subst e
  exact (keyringNone_walk0 size root hr W ht).mono (fun e w' ⟨he, hk⟩ => ⟨he, hk.below (fun _ _ => id) (Nat.le_refl _)⟩)
end Go.Proofs.YtaimokclhcfohaaDoor
