/- Scr9 -/
import Derived.Test.YtpmdlkogccojmaaGreatDoorUScrubNone46
import Derived.Test.YtpmdlkogccojmaaGreatDoorUScrubNone47
set_option linter.unusedVariables false
set_option linter.unusedSimpArgs false
set_option maxRecDepth 100000
set_option maxHeartbeats 16000000
namespace Go.Proofs.YtpmdlkogccojmaaGreatDoor
open Go.RowKit Go.WideShapes Go.ChangeShapes
theorem info_rfind : (Tryz.prog.info? 28).map (fun i=>(i.zero, i.size, i.bytes)) = some (some (.agg #[.int .i64 0, .int .i64 0, .int .i64 0]), 3, 24):=by kernel_rfl
theorem append_rfind {w w2 : World} {x : Value} {l : List Fd} (hrow : Row w2 28 3 x (findV l)) (hk : Kept (fun _=>False) w w2) (ho : ∀ k, x.ownBlock = some k → w.heap.size ≤ k) (y : Fd) (hl : l.length ≤ 1000000) :
  ∃ a n c w', (Builtin.append_ #[26, 26] 26 #[x, .slice (some ⟨w2.heap.size, 0, none⟩) 1 1]).run Tryz.prog (w2.alloc (.cells (fdC y).toArray 28)) = .ok (.slice a n c) w' ∧
   Hid (Row w' 28 3 (.slice a n c) (findV (l ++ [y]))∧Kept (fun _=>False) w w'∧∀ k, (Value.slice a n c).ownBlock = some k → w.heap.size ≤ k):=by
 obtain ⟨i0, hi, hz0, hz1, hz2⟩:=info_parts info_rfind
 have hb:=Blk.new w2 (fdC y) 28
 obtain ⟨v', w', hr, hrow2, hk2, ho2⟩:=(hrow.alloc (.cells (fdC y).toArray 28)).append_cells (P:=Tryz.prog) (t:=26) Tryz.underlying26 hi hz0 hz1 (by rfl) (by omega) (by omega) ⟨w2.heap.size, 0, none⟩ 1 1 (fdC y) rfl (fun j u hu=>by rw [addr0_add]; exact hb.cell hu) (fun u hu=>by
  simp only [fdC, List.mem_cons, List.not_mem_nil, or_false] at hu
  rcases hu with rfl | rfl | rfl <;> rfl) (by omega) (by rw [findV_len]; simp; omega) 26
 obtain ⟨a, n, c, rfl, _⟩:=hrow2.shape
 have hz:=hk.size
 refine ⟨a, n, c, w', hr, Lib.hid ⟨by rw [findV_snoc]; exact hrow2, (hk.alloc _).then_ hk2 (fun i hi q=>by have:=ho i q; omega), fun k hk=>?_⟩⟩
 rcases ho2 k hk with h | h
 ·exact ho k h
 ·rw [World.size_alloc] at h; omega
theorem scr_crash : (DiskM.new 100).crashR 0 = (0, (DiskM.new 100).crash 0):=rfl
theorem key_range (w : World) (k : By) {w' : World} (hk : Kept (fun _=>False) (w.alloc (.cells (bytes8 k).toArray 24)) w') : w'.rangeAt w.heap.size 0 (bytes8 k):=((Blk.new w (bytes8 k) 24).kept hk id).range0
theorem size_hash (k : By) (hk : k.length = 32) : (Tryz.prog.info? 24).map (·.size) = some (bytes8 k).length:=by rw [bytes8_len, hk]; exact info_h32
theorem scrubNone_walk0 (w : World) (ht : Tab w) (a : Option Addr) (L : List Fd) (c : Nat) (hl : L.length ≤ maxLen) (hf : Fds w a L) (k : By) (hk : k.length = 32) :
  Calls Tryz.prog 3 #[.slice a L.length c, keyV k] w fun e w'=>e = .returned (.bool true)∧Kept (fun _=>False) w w':=by
 have hl9 : L.length ≤ 9223372036854775807:=hl
 have HT:=Lib.hid (And.intro ht (And.intro hf hk))
 have ka : Kept (fun _=>False) w (w.alloc (.cells (bytes8 k).toArray 24)):=(Kept.refl _ _).alloc _
 clear ht hf hl hk
 by_cases h20 : 20 < L.length
 ·have x1 : decide ((20 : Int) < (L.length : Int)) = true:=decide_eq_true (by omega)
  have x2 : decide (20 < L.length) = true:=decide_eq_true h20
  have HST:=Lib.hid (scrubbed_any _ (HT.out.1.same ka))
  clear h20
  go_enter Tryz.func3, Tryz.ntmps3
  go_wp2_with (go_at_call 6; refine HST.out.mono ?_; rintro e w1 ⟨rfl, hk⟩)
  go_ret
  exact ⟨rfl, ka.trans hk⟩
 ·have x1 : decide ((20 : Int) < (L.length : Int)) = false:=decide_eq_false (by omega)
  have x2 : decide (20 < L.length) = false:=decide_eq_false h20
  have HL20:=Lib.hid (show L.length ≤ 20 by omega)
  clear h20
  obtain ⟨W1, hW1⟩ : ∃ W1, W1 = w.alloc (.cells (bytes8 k).toArray 24):=⟨_, rfl⟩
  rw [← hW1] at ka
  have HW1:=Lib.hid (And.intro hW1 ka)
  go_enter Tryz.func3, Tryz.ntmps3
  go_upto_region 4 with (fail)
  rw [← hW1]
  clear hW1 ka
  go_wp2_with fail
  go_loopw [5, 6] (fun x y wr=>∃ (i : Nat) (xa : Option Addr) (xn xc : Nat), i ≤ L.length∧x = .slice xa xn xc∧y = .int .i64 (i : Int)∧Hid (Row wr 28 3 (.slice xa xn xc) (findV (L.take i))∧Kept (fun _=>False) W1 wr∧∀ k, (Value.slice xa xn xc).ownBlock = some k → W1.heap.size ≤ k)) (fun _ y _=>L.length - (intOf y).toNat)
  case atStart=>exact ⟨0, none, 0, 0, Nat.zero_le _, rfl, rfl, Lib.hid ⟨Row.nil _ _ _, Kept.refl _ _, fun k q=>by simp [Value.ownBlock] at q⟩⟩
  case round =>
   obtain ⟨i, xa, xn, xc, hi, rfl, rfl, HR⟩:=hrel
   by_cases hlt : i < L.length
   ·have y1 : decide ((i : Int) < (L.length : Int)) = true:=decide_eq_true (by omega)
    have y2 : decide (i < L.length) = true:=decide_eq_true hlt
    obtain ⟨⟨p1, p2, p3⟩, hx⟩ : ∃ x, L[i]? = some x:=⟨_, List.getElem?_eq_getElem hlt⟩
    obtain ⟨g, off, rfl, c0, c1, c2⟩:=(HT.out.2.1.same ((HW1.out.2.trans HR.out.2.1).below_of)).cell hx
    dsimp only at c0 c1 c2
    obtain ⟨ya, yn, yc, w2, hr, HN⟩:=append_rfind HR.out.1 HR.out.2.1 HR.out.2.2 (p1, p2, p3) (by rw [List.length_take]; have:=HL20.out; omega)
    have HE:=Lib.hid (show L.take (i + 1) = L.take i ++ [(p1, p2, p3)] from by rw [List.take_add_one, hx]; rfl)
    clear hx
    go_wp2_with (refine Lib.wpList_append_run _ rfl _ _ 26 26 rfl _ _ rfl rfl _ _ hr ?_)
    go_roundw
    case rel=>exact ⟨i + 1, ya, yn, yc, by omega, rfl, by go_num, Lib.hid ⟨by rw [HE.out]; exact HN.out.1, HN.out.2⟩⟩
    case measure=>simp [intOf]; omega
   ·obtain rfl : i = L.length:=by omega
    have y1 : decide ((L.length : Int) < (L.length : Int)) = false:=decide_eq_false (by omega)
    have y2 : decide (L.length < L.length) = false:=decide_eq_false (by omega)
    have hrow:=HR.out.1
    rw [List.take_of_length_le (Nat.le_refl _)] at hrow
    obtain ⟨_, _, _, ev, hn, _⟩:=hrow.form (by omega)
    cases ev
    rw [findV_len] at hn
    obtain rfl : xn = L.length:=by omega
    have HM:=Lib.hid (And.intro (fds_of_row hrow) HR.out.2.1)
    clear hn hrow hlt hi HR
    have HKR:=Lib.hid (show ∀ w', Kept (fun _=>False) W1 w' → w'.rangeAt w.heap.size 0 (bytes8 k) from fun w' q=>key_range w k (by rw [← HW1.out.1]; exact q))
    have HSZ:=Lib.hid (size_hash k HT.out.2.2)
    have HTR:=Lib.hid (HT.out.1.same (HW1.out.2.trans HM.out.2))
    go_upto_region 9 with (go_at_call 7; refine (new_ok _ 100 (by omega) (by omega)).mono ?_; rintro e w1 hnew; obtain ⟨d, rfl, hA1, k1⟩:=Apart.made _ hnew; have HO1 : Hid (Ows wr w1 d (DiskM.new 100) []):=Lib.hid (Ows.made hA1 HTR.out k1); clear hnew hA1 k1)
    have HS1:=Lib.hid (scan_no w1 (.pointer none) k (Or.inl rfl))
    go_upto_region 10 with (first
     | ((with_reducible show wpList _ _ _ (⟨some 38, _, _, _, _, _⟩::_) _ _); refine wpList_load_mid rfl 24 _ rfl w.heap.size 0 rfl (bytes8 k) _ (HKR.out _ (HM.out.2.trans HO1.out.old)) Tryz.underlying24 rfl HSZ.out ?_)
     | (go_at_call 8; refine HS1.out.mono ?_; rintro e w2 ⟨rfl, k2⟩; have HO2:=Lib.hid (HO1.out.same k2); clear k2))
    have HO3:=Lib.hid (HO2.out.same ((Kept.refl (fun _=>False) w2).alloc (.cells #[.map none, .slice none 0 0, .int .i64 0, .bool false, .int .i64 0, .bool false, .int .i64 0, .int .i64 0] 39)))
    have HS2:=Lib.hid (scan_no (w2.alloc (.cells #[.map none, .slice none 0 0, .int .i64 0, .bool false, .int .i64 0, .bool false, .int .i64 0, .int .i64 0] 39)) (.pointer (some ⟨w2.heap.size, 0, none⟩)) k (Or.inr ⟨_, rfl, by simp⟩))
    go_upto_region 11 with (first
     | ((with_reducible show wpList _ _ _ (⟨some 45, _, _, _, _, _⟩::_) _ _); refine wpList_load_mid rfl 24 _ rfl w.heap.size 0 rfl (bytes8 k) _ (HKR.out _ (HM.out.2.trans HO3.out.old)) Tryz.underlying24 rfl HSZ.out ?_)
     | (go_at_call 8; refine HS2.out.mono ?_; rintro e w3 ⟨rfl, k3⟩; have HO4:=Lib.hid (HO3.out.same k3); clear k3))
    have HCR:=Lib.hid (HO4.out.crash 0 (by omega) scr_crash)
    go_upto_region 12 with (go_at_call 9; refine HCR.out.mono ?_; rintro e w4 ⟨rfl, h4⟩; have HO5:=Lib.hid h4; clear h4)
    have HS3:=Lib.hid (scan_down HO5.out rfl k)
    go_upto_region 13 with (first
     | ((with_reducible show wpList _ _ _ (⟨some 53, _, _, _, _, _⟩::_) _ _); refine wpList_load_mid rfl 24 _ rfl w.heap.size 0 rfl (bytes8 k) _ (HKR.out _ (HM.out.2.trans HO5.out.old)) Tryz.underlying24 rfl HSZ.out ?_)
     | (go_at_call 8; refine HS3.out.mono ?_; rintro e w5 ⟨rfl, k5⟩; have HO6:=Lib.hid (HO5.out.same k5); clear k5))
    have HSO:=Lib.hid (scrSound w5 a L c (by have:=HL20.out; omega) (HT.out.2.1.same ((HW1.out.2.trans (HM.out.2.trans HO6.out.old)).below_of)))
    have HRO:=Lib.hid (fun w6 (q : Kept (fun _=>False) w5 w6)=>refSound w6 xa L xc (by have:=HL20.out; omega) (HM.out.1.same ((HO6.out.old.trans q).below_of)))
    have HST:=Lib.hid (fun w6 (q : Kept (fun _=>False) w5 w6)=>scrubbed_any w6 (HTR.out.same (HO6.out.old.trans q)))
    generalize (!L.any badF) = q at *
    clear HS1 HS2 HS3 HCR HKR
    go_wp2_with (first
     | (go_at_call 10; refine HSO.out.mono ?_; rintro e w6 ⟨rfl, k6⟩; have HK6:=Lib.hid k6; clear k6)
     | (go_at_call 11; refine (HRO.out _ HK6.out).mono ?_; rintro e w' ⟨rfl, rfl⟩)
     | (go_at_call 6; refine (HST.out _ HK6.out).mono ?_; rintro e w7 ⟨rfl, k7⟩; have HK7:=Lib.hid k7; clear k7))
    go_ret
    exact ⟨rfl, ((HW1.out.2.trans (HM.out.2.trans HO6.out.old)).trans HK6.out).trans HK7.out⟩
theorem scrubNone_walk (v v1 : Value) (W : World) (ht : Tab W) {base : Nat} {H : Type} {enc : TypeId × Value → H} {dd dd1 : DataW H} {pp pp1 : List MemPlace} (hv : Value.okWide Tryz.prog W .any base 22 v) (h : DataW.Trod enc Tryz.prog W 0 (fun _=>true) true 22 v dd pp)
  (hv1 : Value.okWide Tryz.prog W .any base 24 v1) (h1 : DataW.Trod enc Tryz.prog W 0 (fun _=>true) true 24 v1 dd1 pp1) :
  Calls Tryz.prog 3 #[v, v1] W fun e w'=>e = .returned (.bool true)∧Below W.heap.size W w':=by
 obtain ⟨a, L, c, rfl, hl, hF⟩:=finds_of hv h
 have hagg : ∃ cs, v1 = .agg cs:=by
  simp only [Value.okWide, Tryz.underlying24] at hv1
  obtain ⟨cs, h1, _⟩:=hv1
  exact ⟨cs, h1⟩
 obtain ⟨cs, rfl⟩:=hagg
 obtain ⟨fuel, hf⟩:=h1
 obtain ⟨l⟩:=cs
 obtain ⟨k, hk, e⟩:=trod_bytes Tryz.underlying24 c_hash hf
 have e : l = bytes8 k:=e
 subst e
 exact (scrubNone_walk0 W ht a L c hl hF k hk).mono (fun e w' ⟨he, hk⟩=>⟨he, hk.below (fun _ _=>id) (Nat.le_refl _)⟩)
end Go.Proofs.YtpmdlkogccojmaaGreatDoor
