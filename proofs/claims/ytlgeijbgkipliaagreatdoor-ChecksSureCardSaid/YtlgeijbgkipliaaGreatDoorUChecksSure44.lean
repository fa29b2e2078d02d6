/- Sames Sames4 Sames2 Sames3 -/
import Derived.Test.YtlgeijbgkipliaaGreatDoorUChecksSure43
import Derived.Test.YtlgeijbgkipliaaGreatDoorUChecksSure33
import Derived.Test.YtlgeijbgkipliaaGreatDoorUChecksSure29
set_option linter.unusedVariables false
set_option linter.unusedSimpArgs false
namespace Go.Proofs.YtlgeijbgkipliaaGreatDoor
open Go.RowKit
theorem hash_at {w : World} {a : Option Addr} {n c : Nat} {L : List By} (h : View w 32 (.slice a n c) (hcells L)) (h32 : ∀ x ∈ L, x.length = 32) {j : Nat} {x : By} (hx : L[j]? = some x) : ∃ g off, a = some ⟨g, off, none⟩ ∧ n = L.length ∧ w.rangeAt g (off + j * 32) (bytes8 x) := by
  obtain ⟨_, _, _, e, h1, h2, h3, h4, h5⟩ := h
  cases e
  rw [hcells_len h32] at h1
  have hj := (List.getElem?_eq_some_iff.1 hx).1
  obtain ⟨g, off, rfl, hg, hc⟩ := h5 (by omega)
  exact ⟨g, off, rfl, by omega, hash_range h32 hc hx⟩
theorem view_len {w : World} {a : Option Addr} {n c : Nat} {L : List By} (h : View w 32 (.slice a n c) (hcells L)) (h32 : ∀ x ∈ L, x.length = 32) : n = L.length := by
  obtain ⟨_, _, _, e, h1, _⟩ := h
  cases e
  rw [hcells_len h32] at h1
  omega
set_option maxRecDepth 100000 in
set_option maxHeartbeats 2000000 in
theorem same3_any (w : World) (a b : Option Addr) (n c n' c' : Nat) (A B : List By) (ha : View w 32 (.slice a n c) (hcells A)) (hb : View w 32 (.slice b n' c') (hcells B)) (hA : ∀ x ∈ A, x.length = 32) (hB : ∀ x ∈ B, x.length = 32) (hl : A.length ≤ 1000000) (hl2 : B.length ≤ 1000000) :
    Calls Tryz.prog 118 #[.slice a n c, .slice b n' c'] w fun e w' => e = .returned (.bool (decide (A = B))) ∧ Kept (fun _ => False) w w' := by
  obtain rfl := view_len ha hA
  obtain rfl := view_len hb hB
  by_cases hlen : A.length = B.length
  · have y1 : ((A.length : Int) != (B.length : Int)) = false := by rw [bne_eq_false_iff_eq]; omega
    have HV := Lib.hid (And.intro ha (And.intro hb (And.intro hA (And.intro hB hlen))))
    clear ha hb hA hB
    have hlen2 := hlen
    clear hlen
    generalize hbl : B.length = m at *
    subst hlen2
    clear y1
    have HBL := Lib.hid hbl
    clear hbl
    go_enter Tryz.func118, Tryz.ntmps118
    go_wp2_with fail
    go_loopw [5] (fun x wr => ∃ (j : Nat), x = .int .i64 (j : Int) ∧ j ≤ A.length ∧ Hid (A.take j = B.take j ∧ Kept (fun _ => False) w wr)) (fun x _ => A.length - (intOf x).toNat)
    case atStart => exact ⟨0, rfl, by omega, Lib.hid ⟨rfl, Kept.refl _ _⟩⟩
    case round =>
      obtain ⟨j, rfl, hj, HR⟩ := hrel
      by_cases hjl : j < A.length
      · have q1 : decide ((j : Int) < (A.length : Int)) = true := decide_eq_true (by omega)
        obtain ⟨x, HX⟩ : ∃ x, Hid (A[j]? = some x ∧ x.length = 32) := ⟨A[j], Lib.hid ⟨List.getElem?_eq_getElem hjl, HV.out.2.2.1 _ (by simp)⟩⟩
        obtain ⟨y, HY⟩ : ∃ y, Hid (B[j]? = some y ∧ y.length = 32) := ⟨B[j]'(by have := HBL.out; omega), Lib.hid ⟨List.getElem?_eq_getElem (by have := HBL.out; omega), HV.out.2.2.2.1 _ (by simp)⟩⟩
        obtain ⟨g, off, rfl, -, hr1⟩ := hash_at (HV.out.1.same HR.out.2 (by omega)) HV.out.2.2.1 HX.out.1
        obtain ⟨g', off', rfl, -, hr2⟩ := hash_at (HV.out.2.1.same HR.out.2 (by omega)) HV.out.2.2.2.1 HY.out.1
        have hx32 := HX.out.2
        have hy32 := HY.out.2
        have IX := Lib.hid (And.intro (show (Tryz.prog.info? 57).map (·.size) = some (bytes8 x).length by rw [bytes8_len, hx32]; exact info_h32) (show (Tryz.prog.info? 57).map (·.size) = some (bytes8 y).length by rw [bytes8_len, hy32]; exact info_h32))
        have HL := Lib.hid (show Kept (fun _ => False) w wr.drew ∧ wr.drew.rangeAt g (off + j * 32) (bytes8 x) ∧ wr.drew.rangeAt g' (off' + j * 32) (bytes8 y) from ⟨HR.out.2.drew, hr1, hr2⟩)
        have HT := Lib.hid HR.out.1
        clear HR hr1 hr2
        go_upto_region 6 with (fail)
        refine wp_region_held_drew (S := fun W => W.rangeAt g (off + j * 32) (bytes8 x) ∧ W.rangeAt g' (off' + j * 32) (bytes8 y)) (by kernel_rfl) HL.out.2 (fun hH0 => ?_)
        generalize World.drew wr = Wd at *
        refine tk 0 rfl (fun _ _ _ h => h) hH0 ?_
        refine tk 1 rfl (fun _ _ _ h => h) hH0 ?_
        refine tk (v := .pointer (some ⟨g, off + j * 32, none⟩)) 2 rfl (fun _ _ _ h => h) hH0 ?_
        refine tky 3 rfl (fun _ _ _ h => h) (yieldsIf_load_mid (by rfl) _ _ rfl _ _ rfl (bytes8 x) _ (fun w h => h.1) Tryz.underlying57 rfl IX.out.1) hH0 ?_
        refine tk 4 rfl (fun _ _ _ h => h) hH0 ?_
        refine tk 5 rfl (fun _ _ _ h => h) hH0 ?_
        refine tk (v := .pointer (some ⟨g', off' + j * 32, none⟩)) 6 rfl (fun _ _ _ h => h) hH0 ?_
        refine tky 7 rfl (fun _ _ _ h => h) (yieldsIf_load_mid (by rfl) _ _ rfl _ _ rfl (bytes8 y) _ (fun w h => h.2) Tryz.underlying57 rfl IX.out.2) hH0 ?_
        refine tk (v := .bool (!decide (x = y))) 8 rfl (fun _ _ _ h => h) hH0 ?_ (hy := Or.inl ⟨by rfl, fun w hSw => by clear hSw; have hq : (Op.equalIn 10000 57 (.agg (bytes8 x).toArray) (.agg (bytes8 y).toArray)).run Tryz.prog w = .ok (decide (x = y)) w := equalIn_hash w 9998 x y hx32 hy32; go_simp⟩)
        refine wpAnyH_done (by kernel_rfl) ?_ _
        by_cases hxy : x = y
        · have y3 : (!decide (x = y)) = false := by rw [decide_eq_true hxy]; rfl
          have HN := Lib.hid (show A.take (j + 1) = B.take (j + 1) by rw [List.take_add_one, List.take_add_one, HT.out, HX.out.1, HY.out.1, hxy])
          rw [y3]
          clear hxy y3
          go_wp2_with fail
          go_roundw
          case rel => exact ⟨j + 1, by go_num, by omega, Lib.hid ⟨HN.out, HL.out.1⟩⟩
          case measure => simp [intOf]; omega
        · have y3 : (!decide (x = y)) = true := by rw [decide_eq_false hxy]; rfl
          have HN := Lib.hid (show ¬ A = B from fun e => by
            have h1 := HX.out.1
            rw [e, HY.out.1] at h1
            exact hxy (Option.some.inj h1).symm)
          rw [y3]
          clear hxy y3
          go_wp2_with fail
          go_ret
          exact ⟨by rw [decide_eq_false HN.out]; rfl, HL.out.1⟩
      · have q1 : decide ((j : Int) < (A.length : Int)) = false := decide_eq_false (by omega)
        have HN := Lib.hid (show A = B from by
          have h1 := HR.out.1
          obtain rfl : j = A.length := by omega
          rw [List.take_length, List.take_of_length_le (by have := HBL.out; omega)] at h1
          exact h1)
        have HK := Lib.hid HR.out.2
        clear HR
        go_wp2_with fail
        go_ret
        exact ⟨by rw [decide_eq_true HN.out]; rfl, HK.out⟩
  · have y1 : ((A.length : Int) != (B.length : Int)) = true := by rw [bne_iff_ne]; omega
    have HN := Lib.hid (show ¬ A = B from fun e => hlen (by rw [e]))
    clear ha hb hA hB hlen
    go_enter Tryz.func118, Tryz.ntmps118
    go_wp2_with fail
    go_ret
    exact ⟨by rw [decide_eq_false HN.out]; rfl, Kept.refl _ _⟩
end Go.Proofs.YtlgeijbgkipliaaGreatDoor

namespace Go.Proofs.YtlgeijbgkipliaaGreatDoor
open Go.RowKit
abbrev rngC (z : Int) (v : Value) : List Value := [.int .i64 z, v]
def Sm5 (p q g o g' o' : Nat) (u v : Value) (x y : By) (W : World) : Prop :=
  W.cell? ⟨p, 1, none⟩ = some u ∧ W.cell? ⟨q, 1, none⟩ = some v ∧ W.rangeAt g o (bytes8 x) ∧ W.rangeAt g' o' (bytes8 y)
set_option maxRecDepth 100000 in
set_option maxHeartbeats 2000000 in
theorem rsame5_any (w : World) (z z' : Int) (a b : Option Addr) (n c n' c' : Nat) (A B : List By) (ha : View w 32 (.slice a n c) (hcells A)) (hb : View w 32 (.slice b n' c') (hcells B)) (hA : ∀ x ∈ A, x.length = 32) (hB : ∀ x ∈ B, x.length = 32) (hl : A.length ≤ 1000000) (hl2 : B.length ≤ 1000000) :
    Calls Tryz.prog 87 #[rngV z (.slice a n c), rngV z' (.slice b n' c')] w fun e w' => e = .returned (.bool (decide (z = z' ∧ A = B))) ∧ Kept (fun _ => False) w w' := by
  obtain rfl := view_len ha hA
  obtain rfl := view_len hb hB
  obtain ⟨W0, hW⟩ : ∃ W : World, W = (w.alloc (.cells (rngC z (.slice a A.length c)).toArray 55)).alloc (.cells (rngC z' (.slice b B.length c')).toArray 55) := ⟨_, rfl⟩
  have b0 : Blk W0 w.heap.size (rngC z (.slice a A.length c)) 55 := by rw [hW]; exact (Blk.new w (rngC z (.slice a A.length c)) 55).alloc _
  have b1 : Blk W0 (w.heap.size + 1) (rngC z' (.slice b B.length c')) 55 := by
    have := Blk.new (w.alloc (.cells (rngC z (.slice a A.length c)).toArray 55)) (rngC z' (.slice b B.length c')) 55
    rw [World.size_alloc] at this
    rw [hW]; exact this
  have kW : Kept (fun _ => False) w W0 := by rw [hW]; exact ((Kept.refl _ _).alloc _).alloc _
  have c0 := b0.cell (i := 0) rfl
  have c1 := b0.cell (i := 1) rfl
  have d0 := b1.cell (i := 0) rfl
  have d1 := b1.cell (i := 1) rfl
  by_cases hz : z = z'
  · have y0 : (z != z') = false := by rw [bne_eq_false_iff_eq]; exact hz
    by_cases hlen : A.length = B.length
    · have HV := Lib.hid (And.intro (ha.same kW (by omega)) (And.intro (hb.same kW (by omega)) (And.intro hA (And.intro hB kW))))
      have HB := Lib.hid (And.intro b0 b1)
      have HQ := Lib.hid (show decide (z = z' ∧ A = B) = decide (A = B) from by rw [decide_eq_decide]; exact ⟨fun h => h.2, fun h => ⟨hz, h⟩⟩)
      rw [HQ.out]
      clear ha hb hA hB kW b0 b1 HQ hz
      have hlen2 := hlen
      clear hlen
      generalize hbl : B.length = m at *
      subst hlen2
      have HBL := Lib.hid hbl
      clear hbl
      go_enter Tryz.func87, Tryz.ntmps87
      go_upto_region 1 with (fail)
      change Code.wp _ _ _ _ ((w.alloc (.cells (rngC z (.slice a A.length c)).toArray 55)).alloc (.cells (rngC z' (.slice b A.length c')).toArray 55))
      rw [← hW]
      clear hW
      go_wp2_with fail
      go_loopw [5] (fun x wr => ∃ (j : Nat), x = .int .i64 (j : Int) ∧ j ≤ A.length ∧ Hid (A.take j = B.take j ∧ Kept (fun _ => False) W0 wr)) (fun x _ => A.length - (intOf x).toNat)
      case atStart => exact ⟨0, rfl, by omega, Lib.hid ⟨rfl, Kept.refl _ _⟩⟩
      case round =>
        obtain ⟨j, rfl, hj, HR⟩ := hrel
        have cr1 := HR.out.2.cell c1 id
        have dr1 := HR.out.2.cell d1 id
        by_cases hjl : j < A.length
        · have q1 : decide ((j : Int) < (A.length : Int)) = true := decide_eq_true (by omega)
          obtain ⟨x, HX⟩ : ∃ x, Hid (A[j]? = some x ∧ x.length = 32) := ⟨A[j], Lib.hid ⟨List.getElem?_eq_getElem hjl, HV.out.2.2.1 _ (by simp)⟩⟩
          obtain ⟨y, HY⟩ : ∃ y, Hid (B[j]? = some y ∧ y.length = 32) := ⟨B[j]'(by have := HBL.out; omega), Lib.hid ⟨List.getElem?_eq_getElem (by have := HBL.out; omega), HV.out.2.2.2.1 _ (by simp)⟩⟩
          obtain ⟨g, off, rfl, -, hr1⟩ := hash_at (HV.out.1.same HR.out.2 (by omega)) HV.out.2.2.1 HX.out.1
          obtain ⟨g', off', rfl, -, hr2⟩ := hash_at (HV.out.2.1.same HR.out.2 (by omega)) HV.out.2.2.2.1 HY.out.1
          have hx32 := HX.out.2
          have hy32 := HY.out.2
          have IX := Lib.hid (And.intro (show (Tryz.prog.info? 57).map (·.size) = some (bytes8 x).length by rw [bytes8_len, hx32]; exact info_h32) (show (Tryz.prog.info? 57).map (·.size) = some (bytes8 y).length by rw [bytes8_len, hy32]; exact info_h32))
          have HL := Lib.hid (show Kept (fun _ => False) W0 wr.drew ∧ Sm5 w.heap.size (w.heap.size + 1) g (off + j * 32) g' (off' + j * 32) (.slice (some ⟨g, off, none⟩) A.length c) (.slice (some ⟨g', off', none⟩) A.length c') x y wr.drew from ⟨HR.out.2.drew, cr1, dr1, hr1, hr2⟩)
          have HT := Lib.hid HR.out.1
          clear HR hr1 hr2
          go_upto_region 6 with (fail)
          refine wp_region_held_drew (S := Sm5 w.heap.size (w.heap.size + 1) g (off + j * 32) g' (off' + j * 32) (.slice (some ⟨g, off, none⟩) A.length c) (.slice (some ⟨g', off', none⟩) A.length c') x y) (by kernel_rfl) HL.out.2 (fun hH0 => ?_)
          generalize World.drew wr = Wd at *
          refine tk 0 rfl (fun _ _ _ h => h) hH0 ?_
          refine tk (v := .slice (some ⟨g, off, none⟩) A.length c) 1 rfl (fun _ _ _ h => h) hH0 ?_ (hy := Or.inl ⟨by rfl, fun w hSw => by have hq := hSw.1; clear hSw; go_simp⟩)
          refine tk 2 rfl (fun _ _ _ h => h) hH0 ?_
          refine tk (v := .pointer (some ⟨g, off + j * 32, none⟩)) 3 rfl (fun _ _ _ h => h) hH0 ?_
          refine tky 4 rfl (fun _ _ _ h => h) (yieldsIf_load_mid (by rfl) _ _ rfl _ _ rfl (bytes8 x) _ (fun w h => h.2.2.1) Tryz.underlying57 rfl IX.out.1) hH0 ?_
          refine tk 5 rfl (fun _ _ _ h => h) hH0 ?_
          refine tk (v := .slice (some ⟨g', off', none⟩) A.length c') 6 rfl (fun _ _ _ h => h) hH0 ?_ (hy := Or.inl ⟨by rfl, fun w hSw => by have hq := hSw.2.1; clear hSw; go_simp⟩)
          refine tk 7 rfl (fun _ _ _ h => h) hH0 ?_
          refine tk (v := .pointer (some ⟨g', off' + j * 32, none⟩)) 8 rfl (fun _ _ _ h => h) hH0 ?_
          refine tky 9 rfl (fun _ _ _ h => h) (yieldsIf_load_mid (by rfl) _ _ rfl _ _ rfl (bytes8 y) _ (fun w h => h.2.2.2) Tryz.underlying57 rfl IX.out.2) hH0 ?_
          refine tk (v := .bool (!decide (x = y))) 10 rfl (fun _ _ _ h => h) hH0 ?_ (hy := Or.inl ⟨by rfl, fun w hSw => by clear hSw; have hq : (Op.equalIn 10000 57 (.agg (bytes8 x).toArray) (.agg (bytes8 y).toArray)).run Tryz.prog w = .ok (decide (x = y)) w := equalIn_hash w 9998 x y hx32 hy32; go_simp⟩)
          refine wpAnyH_done (by kernel_rfl) ?_ _
          by_cases hxy : x = y
          · have y3 : (!decide (x = y)) = false := by rw [decide_eq_true hxy]; rfl
            have HN := Lib.hid (show A.take (j + 1) = B.take (j + 1) by rw [List.take_add_one, List.take_add_one, HT.out, HX.out.1, HY.out.1, hxy])
            rw [y3]
            clear hxy y3
            go_wp2_with fail
            go_roundw
            case rel => exact ⟨j + 1, by go_num, by omega, Lib.hid ⟨HN.out, HL.out.1⟩⟩
            case measure => simp [intOf]; omega
          · have y3 : (!decide (x = y)) = true := by rw [decide_eq_false hxy]; rfl
            have HN := Lib.hid (show ¬ A = B from fun e => by
              have h1 := HX.out.1
              rw [e, HY.out.1] at h1
              exact hxy (Option.some.inj h1).symm)
            rw [y3]
            clear hxy y3
            go_wp2_with fail
            go_ret
            exact ⟨by rw [decide_eq_false HN.out]; rfl, HV.out.2.2.2.2.trans HL.out.1⟩
        · have q1 : decide ((j : Int) < (A.length : Int)) = false := decide_eq_false (by omega)
          have HN := Lib.hid (show A = B from by
            have h1 := HR.out.1
            obtain rfl : j = A.length := by omega
            rw [List.take_length, List.take_of_length_le (by have := HBL.out; omega)] at h1
            exact h1)
          have HK := Lib.hid HR.out.2
          clear HR
          go_wp2_with fail
          go_ret
          exact ⟨by rw [decide_eq_true HN.out]; rfl, HV.out.2.2.2.2.trans HK.out⟩
    · have y1 : ((A.length : Int) != (B.length : Int)) = true := by rw [bne_iff_ne]; omega
      have HQ := Lib.hid (show decide (z = z' ∧ A = B) = false from decide_eq_false (fun h => hlen (by rw [h.2])))
      rw [HQ.out]
      have HK := Lib.hid kW
      clear ha hb hA hB kW b0 b1 hlen hz HQ
      go_enter Tryz.func87, Tryz.ntmps87
      go_upto_region 1 with (fail)
      change Code.wp _ _ _ _ ((w.alloc (.cells (rngC z (.slice a A.length c)).toArray 55)).alloc (.cells (rngC z' (.slice b B.length c')).toArray 55))
      rw [← hW]
      clear hW
      go_wp2_with fail
      go_ret
      exact ⟨rfl, HK.out⟩
  · have y0 : (z != z') = true := by rw [bne_iff_ne]; exact hz
    have HQ := Lib.hid (show decide (z = z' ∧ A = B) = false from decide_eq_false (fun h => hz h.1))
    rw [HQ.out]
    have HK := Lib.hid kW
    clear ha hb hA hB kW b0 b1 hz HQ
    go_enter Tryz.func87, Tryz.ntmps87
    go_upto_region 1 with (fail)
    change Code.wp _ _ _ _ ((w.alloc (.cells (rngC z (.slice a A.length c)).toArray 55)).alloc (.cells (rngC z' (.slice b B.length c')).toArray 55))
    rw [← hW]
    clear hW
    go_wp2_with fail
    go_ret
    exact ⟨rfl, HK.out⟩
end Go.Proofs.YtlgeijbgkipliaaGreatDoor

namespace Go.Proofs.YtlgeijbgkipliaaGreatDoor
open Go.RowKit
abbrev sealC (i : Int) (s : ByteArray) (v : Value) : List Value := [.int .i64 i, .string s, v]
theorem bl_inj {s t : ByteArray} (h : s.toList = t.toList) : s = t := by
  rw [ByteArray.toList_eq, ByteArray.toList_eq] at h
  exact ByteArray.ext (Array.ext' h)
def Sm9 (p q : Nat) (i j : Int) (s t : ByteArray) (u v : Value) (W : World) : Prop :=
  (W.cell? ⟨p, 0, none⟩ = some (.int .i64 i) ∧ W.cell? ⟨p, 1, none⟩ = some (.string s) ∧ W.cell? ⟨p, 2, none⟩ = some u) ∧ (W.cell? ⟨q, 0, none⟩ = some (.int .i64 j) ∧ W.cell? ⟨q, 1, none⟩ = some (.string t) ∧ W.cell? ⟨q, 2, none⟩ = some v)
set_option maxRecDepth 100000 in
set_option maxHeartbeats 2000000 in
theorem same9_any (w : World) (i j : Int) (s t : ByteArray) (a b : Option Addr) (n c n' c' : Nat) (A B : List By) (ha : View w 32 (.slice a n c) (hcells A)) (hb : View w 32 (.slice b n' c') (hcells B)) (hA : ∀ x ∈ A, x.length = 32) (hB : ∀ x ∈ B, x.length = 32) (hl : A.length ≤ 1000000) (hl2 : B.length ≤ 1000000) :
    Calls Tryz.prog 78 #[.agg (sealC i s (.slice a n c)).toArray, .agg (sealC j t (.slice b n' c')).toArray] w fun e w' => e = .returned (.bool (decide (i = j ∧ s = t ∧ A = B))) ∧ Kept (fun _ => False) w w' := by
  obtain ⟨W, hW⟩ : ∃ W : World, W = (w.alloc (.cells (sealC i s (.slice a n c)).toArray 61)).alloc (.cells (sealC j t (.slice b n' c')).toArray 61) := ⟨_, rfl⟩
  have b0 : Blk W w.heap.size (sealC i s (.slice a n c)) 61 := by rw [hW]; exact (Blk.new w (sealC i s (.slice a n c)) 61).alloc _
  have b1 : Blk W (w.heap.size + 1) (sealC j t (.slice b n' c')) 61 := by
    have := Blk.new (w.alloc (.cells (sealC i s (.slice a n c)).toArray 61)) (sealC j t (.slice b n' c')) 61
    rw [World.size_alloc] at this
    rw [hW]; exact this
  have kW : Kept (fun _ => False) w W := by rw [hW]; exact ((Kept.refl _ _).alloc _).alloc _
  have HS := Lib.hid (show Sm9 w.heap.size (w.heap.size + 1) i j s t (.slice a n c) (.slice b n' c') W ∧ Kept (fun _ => False) w W from ⟨⟨⟨b0.cell (i := 0) rfl, b0.cell (i := 1) rfl, b0.cell (i := 2) rfl⟩, ⟨b1.cell (i := 0) rfl, b1.cell (i := 1) rfl, b1.cell (i := 2) rfl⟩⟩, kW⟩)
  have H3 := Lib.hid (fun (X : World) (hk : Kept (fun _ => False) w X) => same3_any X a b n c n' c' A B (ha.same hk (by omega)) (hb.same hk (by omega)) hA hB hl hl2)
  clear b0 b1 kW ha hb hA hB hl hl2
  have c0 := HS.out.1.1.1
  have c1 := HS.out.1.1.2.1
  have c2 := HS.out.1.1.2.2
  have d0 := HS.out.1.2.1
  have d1 := HS.out.1.2.2.1
  have d2 := HS.out.1.2.2.2
  by_cases hij : i = j
  · have y1 : (i == j) = true := by rw [beq_iff_eq]; exact hij
    have y0 : decide (i = j) = true := decide_eq_true hij
    by_cases hst : s = t
    · have y2 : (s.toList == t.toList) = true := by rw [beq_iff_eq, hst]
      have HE := Lib.hid (show decide (i = j ∧ s = t ∧ A = B) = decide (A = B) from by rw [decide_eq_decide]; exact ⟨fun h => h.2.2, fun h => ⟨hij, hst, h⟩⟩)
      rw [HE.out]
      clear hij hst HE
      go_enter Tryz.func78, Tryz.ntmps78
      go_upto_region 1 with (fail)
      change Code.wp _ _ _ _ ((w.alloc (.cells (sealC i s (.slice a n c)).toArray 61)).alloc (.cells (sealC j t (.slice b n' c')).toArray 61))
      rw [← hW]
      clear hW
      go_wp2_with (go_at_call 118; refine (H3.out W HS.out.2).mono ?_; rintro e w5 ⟨rfl, hk5⟩)
      go_ret
      exact ⟨rfl, HS.out.2.trans hk5⟩
    · have y2 : (s.toList == t.toList) = false := by rw [beq_eq_false_iff_ne]; exact fun h => hst (bl_inj h)
      have HE := Lib.hid (show decide (i = j ∧ s = t ∧ A = B) = false from decide_eq_false (fun h => hst h.2.1))
      rw [HE.out]
      clear hij hst HE
      go_enter Tryz.func78, Tryz.ntmps78
      go_upto_region 1 with (fail)
      change Code.wp _ _ _ _ ((w.alloc (.cells (sealC i s (.slice a n c)).toArray 61)).alloc (.cells (sealC j t (.slice b n' c')).toArray 61))
      rw [← hW]
      clear hW
      go_wp2_with fail
      go_ret
      exact ⟨rfl, HS.out.2⟩
  · have y1 : (i == j) = false := by rw [beq_eq_false_iff_ne]; exact hij
    have y0 : decide (i = j) = false := decide_eq_false hij
    have HE := Lib.hid (show decide (i = j ∧ s = t ∧ A = B) = false from decide_eq_false (fun h => hij h.1))
    rw [HE.out]
    clear hij HE
    go_enter Tryz.func78, Tryz.ntmps78
    go_upto_region 1 with (fail)
    change Code.wp _ _ _ _ ((w.alloc (.cells (sealC i s (.slice a n c)).toArray 61)).alloc (.cells (sealC j t (.slice b n' c')).toArray 61))
    rw [← hW]
    clear hW
    go_wp2_with fail
    go_ret
    exact ⟨rfl, HS.out.2⟩
end Go.Proofs.YtlgeijbgkipliaaGreatDoor

namespace Go.Proofs.YtlgeijbgkipliaaGreatDoor
open Go.RowKit
theorem signed_head_at {w : World} {b : Nat} {size : Int} {root : By} {i : Int} {sig : ByteArray} {v : Value} {t : TypeId} (h : Blk w b (signedC size root i sig v) t) : w.rangeAt b 0 (headC size root) := by
  intro j u hu
  rw [Nat.zero_add]
  exact h.cell (by unfold signedC; rw [List.getElem?_append_left (List.getElem?_eq_some_iff.1 hu).1]; exact hu)
set_option maxRecDepth 100000 in
set_option maxHeartbeats 2000000 in
theorem same10_any (w : World) (z z' : Int) (r r' : By) (i j : Int) (s t : ByteArray) (a b : Option Addr) (n c n' c' : Nat) (A B : List By) (hr : r.length = 32) (hr' : r'.length = 32) (ha : View w 32 (.slice a n c) (hcells A)) (hb : View w 32 (.slice b n' c') (hcells B)) (hA : ∀ x ∈ A, x.length = 32) (hB : ∀ x ∈ B, x.length = 32) (hl : A.length ≤ 1000000) (hl2 : B.length ≤ 1000000) :
    Calls Tryz.prog 24 #[signedV z r i s (.slice a n c), signedV z' r' j t (.slice b n' c')] w fun e w' => e = .returned (.bool (decide ((z = z' ∧ r = r') ∧ i = j ∧ s = t ∧ A = B))) ∧ Kept (fun _ => False) w w' := by
  have b0 := (Blk.new w (signedC z r i s (.slice a n c)) 63).alloc (.cells (signedC z' r' j t (.slice b n' c')).toArray 63)
  have b1 := Blk.new (w.alloc (.cells (signedC z r i s (.slice a n c)).toArray 63)) (signedC z' r' j t (.slice b n' c')) 63
  rw [World.size_alloc] at b1
  have kW : Kept (fun _ => False) w ((w.alloc (.cells (signedC z r i s (.slice a n c)).toArray 63)).alloc (.cells (signedC z' r' j t (.slice b n' c')).toArray 63)) := ((Kept.refl _ _).alloc _).alloc _
  obtain ⟨q0, q1, q2, q3⟩ := signed_at (size := z) (i := i) (sig := s) (v := .slice a n c) hr
  obtain ⟨p0, p1, p2, p3⟩ := signed_at (size := z') (i := j) (sig := t) (v := .slice b n' c') hr'
  have c1 := b0.cell q1
  have c2 := b0.cell q2
  have c3 := b0.cell q3
  have d1 := b1.cell p1
  have d2 := b1.cell p2
  have d3 := b1.cell p3
  have HR0 := Lib.hid (signed_head_at b0)
  have HR1 := Lib.hid (signed_head_at b1)
  have HI := Lib.hid (And.intro (show (Tryz.prog.info? 59).map (·.size) = some (headC z r).length by rw [List.length_cons, bytes8_len, hr]; exact info_head_) (show (Tryz.prog.info? 59).map (·.size) = some (headC z' r').length by rw [List.length_cons, bytes8_len, hr']; exact info_head_))
  have heq := fun w' => eql_head w' z z' r r' hr hr'
  have HE := Lib.hid (same9_any _ i j s t a b n c n' c' A B (ha.same kW (by omega)) (hb.same kW (by omega)) hA hB hl hl2)
  have HK := Lib.hid kW
  clear q0 q1 q2 q3 p0 p1 p2 p3 b0 b1 ha hb kW hA hB hl hl2
  by_cases hh : z = z' ∧ r = r'
  · have HQ := Lib.hid (show decide ((z = z' ∧ r = r') ∧ i = j ∧ s = t ∧ A = B) = decide (i = j ∧ s = t ∧ A = B) from by rw [decide_eq_decide]; exact ⟨fun h => h.2, fun h => ⟨hh, h⟩⟩)
    rw [HQ.out]
    simp only [decide_eq_true hh] at heq
    clear hh HQ hr hr'
    generalize decide (i = j ∧ s = t ∧ A = B) = R at *
    go_enter Tryz.func24, Tryz.ntmps24
    go_wp2_with (first
      | ((with_reducible show wpList _ _ _ (⟨some 6, _, _, _, _, _⟩ :: _) _ _); refine wpList_load_mid rfl 59 _ rfl w.heap.size 0 rfl (headC z r) _ HR0.out Tryz.underlying59 rfl HI.out.1 ?_)
      | ((with_reducible show wpList _ _ _ (⟨some 8, _, _, _, _, _⟩ :: _) _ _); refine wpList_load_mid rfl 59 _ rfl (w.heap.size + 1) 0 rfl (headC z' r') _ HR1.out Tryz.underlying59 rfl HI.out.2 ?_)
      | (go_at_call 78; refine HE.out.mono ?_; rintro e w5 ⟨rfl, hk5⟩))
    go_ret
    exact ⟨rfl, HK.out.trans hk5⟩
  · have HQ := Lib.hid (show decide ((z = z' ∧ r = r') ∧ i = j ∧ s = t ∧ A = B) = false from decide_eq_false (fun h => hh h.1))
    rw [HQ.out]
    simp only [decide_eq_false hh] at heq
    clear hh HQ hr hr'
    go_enter Tryz.func24, Tryz.ntmps24
    go_wp2_with (first
      | ((with_reducible show wpList _ _ _ (⟨some 6, _, _, _, _, _⟩ :: _) _ _); refine wpList_load_mid rfl 59 _ rfl w.heap.size 0 rfl (headC z r) _ HR0.out Tryz.underlying59 rfl HI.out.1 ?_)
      | ((with_reducible show wpList _ _ _ (⟨some 8, _, _, _, _, _⟩ :: _) _ _); refine wpList_load_mid rfl 59 _ rfl (w.heap.size + 1) 0 rfl (headC z' r') _ HR1.out Tryz.underlying59 rfl HI.out.2 ?_))
    go_ret
    exact ⟨rfl, HK.out⟩
end Go.Proofs.YtlgeijbgkipliaaGreatDoor
