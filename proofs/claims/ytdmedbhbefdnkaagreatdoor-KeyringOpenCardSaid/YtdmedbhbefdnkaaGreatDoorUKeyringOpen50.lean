/- RK10 -/
import Derived.OpenShut
import Derived.Test.YtdmedbhbefdnkaaGreatDoorUKeyringOpen49
import Derived.Test.YtdmedbhbefdnkaaGreatDoorUKeyringOpen47
import Derived.Test.YtdmedbhbefdnkaaGreatDoorUKeyringOpen25
import Derived.Test.YtdmedbhbefdnkaaGreatDoorUKeyringOpen37
set_option linter.unusedVariables false
set_option linter.unusedSimpArgs false
namespace Go.Proofs.YtdmedbhbefdnkaaGreatDoor
open Go.RowKit Go.WideShapes Go.ChangeShapes Go.Joins
def HeadsAt (w : World) (a : Option Addr) (L : List (Int × By)) : Prop :=
  ∀ (i : Nat) (p : Int × By), L[i]? = some p → p.2.length = 32 ∧ ∃ g off, a = some ⟨g, off, none⟩ ∧ g < w.heap.size ∧ w.rangeAt g (off + i * 33) (headC p.1 p.2)
set_option maxRecDepth 100000 in
theorem heads_of {H : Type} {enc : TypeId × Value → H} {w : World} {base : Nat} {v : Value} {dd : DataW H} {p : List MemPlace} (hv : Value.okWide Tryz.prog w .any base 22 v) (h : DataW.Trod enc Tryz.prog w 0 (fun _ => true) true 22 v dd p) :
    ∃ (a : Option Addr) (A : List (Int × By)) (c : Nat), v = .slice a A.length c ∧ A.length ≤ maxLen ∧ HeadsAt w a A := by
  obtain ⟨a, len, cap, rfl, hl, hx⟩ := open_rows Tryz.underlying22 c_head (by omega) hv h
  have hex : ∀ i, ∃ y : Int × By, i < len → ElemAt w a 33 i (headC y.1 y.2) ∧ y.2.length = 32 := fun i => by
    by_cases hi : i < len
    · obtain ⟨cs, m, x, _, he, ht⟩ := hx i hi
      obtain ⟨size, root, hr, s1, s2, rfl⟩ := trod_head ht
      exact ⟨(size, root), fun _ => ⟨he, hr⟩⟩
    · exact ⟨(0, []), fun h => absurd h hi⟩
  obtain ⟨V, hV⟩ : ∃ V : Nat → Int × By, ∀ i, i < len → ElemAt w a 33 i (headC (V i).1 (V i).2) ∧ (V i).2.length = 32 := ⟨fun i => Classical.choose (hex i), fun i => Classical.choose_spec (hex i)⟩
  have hlen : ((List.range len).map V).length = len := by rw [List.length_map, List.length_range]
  refine ⟨a, (List.range len).map V, cap, by rw [hlen], by rw [hlen]; exact hl, fun i x hi => ?_⟩
  have hlt : i < len := by have := (List.getElem?_eq_some_iff.1 hi).1; omega
  rw [List.getElem?_map, List.getElem?_range hlt] at hi
  simp only [Option.map_some, Option.some.injEq] at hi
  subst hi
  obtain ⟨⟨g, off, rfl, hg, hc⟩, h1⟩ := hV i hlt
  exact ⟨h1, g, off, rfl, hg, fun j u hu => hc j u hu⟩
def KOpen0 (w W : World) (d r : Nat) : Prop := ∃ M x y, Owg w W d M [Og.ref r M x y] ∧ Calm M ∧ Pieces M 0
theorem kopen_start {w w1 w2 : World} {d r : Nat} (hA : Apart (fun k => k < w.heap.size) d (DiskM.new 10000) w1) (ht : Tab w) (hk : Kept (fun _ => False) w w1) (hr : w1.heap.size ≤ r) (hR : IsRef w2 r ⟨10000, [], [], false, 0, 0, 0⟩ (.slice none 0 0) (.slice none 0 0)) (hk2 : Kept (fun _ => False) w1 w2) : KOpen0 w w2 d r := by
  refine ⟨DiskM.new 10000, .slice none 0 0, .slice none 0 0, (Owg.made hA ht hk).add (x := Og.ref r (DiskM.new 10000) (.slice none 0 0) (.slice none 0 0)) hk2 ⟨_, hR, rel_new 10000 hA.ok⟩ ?_, ⟨rfl, rfl, AM.rise_nil⟩, Nat.le_refl _⟩
  rintro k (q | q | q)
  · omega
  · simp [Value.ownBlock] at q
  · simp [Value.ownBlock] at q
set_option maxRecDepth 100000 in
set_option maxHeartbeats 8000000 in
theorem keyringOpen_walk0 (w : World) (ht : Tab w) (la : Option Addr) (L : List (Int × By)) (lc : Nat) (hl : HeadsAt w la L) (hlm : L.length ≤ maxLen) (behind : ByteArray) (hbm : behind.size ≤ maxLen) (cut : Nat) (hcut : cut < 65536) :
    Calls Tryz.prog 3 #[.slice la L.length lc, .string behind, .int .u16 (cut : Int)] w fun e w' => e = .returned (.bool true) ∧ Kept (fun _ => False) w w' := by
  have HT := Lib.hid ht
  have HL := Lib.hid hl
  unfold maxLen at hlm hbm
  have HRG := Lib.hid (fun w1 (hk : Kept (fun _ => False) w w1) => ringed_any w1 (HT.out.same hk))
  clear ht hl
  by_cases h12 : 12 < L.length
  · have x1 : decide ((12 : Int) < (L.length : Int)) = true := decide_eq_true (by omega)
    have x2 : decide (12 < L.length) = true := decide_eq_true h12
    clear h12
    go_enter Tryz.func3, Tryz.ntmps3
    go_wp2_with (go_at_call 5; refine (HRG.out _ (Kept.refl _ _)).mono ?_; rintro e w1 ⟨rfl, hk1⟩)
    go_ret
    exact ⟨rfl, hk1⟩
  have x1 : decide ((12 : Int) < (L.length : Int)) = false := decide_eq_false (by omega)
  have x2 : decide (12 < L.length) = false := decide_eq_false h12
  have hl12 : L.length ≤ 12 := by omega
  clear h12
  by_cases h300 : 300 < behind.size
  · have x3 : decide ((300 : Int) < (behind.size : Int)) = true := decide_eq_true (by omega)
    have x4 : decide (300 < behind.size) = true := decide_eq_true h300
    clear h300
    go_enter Tryz.func3, Tryz.ntmps3
    go_wp2_with (go_at_call 5; refine (HRG.out _ (Kept.refl _ _)).mono ?_; rintro e w1 ⟨rfl, hk1⟩)
    go_ret
    exact ⟨rfl, hk1⟩
  have x3 : decide ((300 : Int) < (behind.size : Int)) = false := decide_eq_false (by omega)
  have x4 : decide (300 < behind.size) = false := decide_eq_false h300
  have hb300 : behind.size ≤ 300 := by omega
  clear h300 hbm hlm
  go_enter Tryz.func3, Tryz.ntmps3
  go_wp2_with fail
  clear x1 x2 x3 x4
  go_loopw [7, 8] (fun x y wr => ∃ (i : Nat) (b : ByteArray), i ≤ L.length ∧ x = .string b ∧ y = .int .i64 (i : Int) ∧ b.size ≤ 150 * i ∧ Hid (Kept (fun _ => False) w wr)) (fun _ y _ => L.length - (intOf y).toNat)
  case atStart => exact ⟨0, ⟨#[]⟩, Nat.zero_le _, rfl, rfl, by decide, Lib.hid (Kept.refl _ _)⟩
  case round =>
    obtain ⟨i, b, hi, rfl, rfl, hb, HK⟩ := hrel
    by_cases hlt : i < L.length
    · have y1 : decide ((i : Int) < (L.length : Int)) = true := decide_eq_true (by omega)
      have y2 : decide (i < L.length) = true := decide_eq_true hlt
      obtain ⟨p, hp⟩ : ∃ p, L[i]? = some p := ⟨_, List.getElem?_eq_getElem hlt⟩
      obtain ⟨hr32, g, off, rfl, hg, hrg⟩ := HL.out i p hp
      obtain ⟨size, root⟩ := p
      have hr32 : root.length = 32 := hr32
      have hrgk := rangeAt_kept hrg HK.out hg id
      obtain ⟨C, hC⟩ : ∃ C, headC size root = C := ⟨_, rfl⟩
      have lC : C.length = 33 := by rw [← hC]; exact headC_len hr32
      have HIC := Lib.hid (show (Tryz.prog.info? 32).map (·.size) = some C.length by rw [lC]; exact info_head)
      have hrec := fun w' => rrecord_any w' size root hr32
      have hn := recG_len size hr32
      have hfr := fun w' => rframe_any w' (strB (recG size root)) (by rw [strB_size]; omega)
      have hfl := frameF_len (recG size root)
      rw [strB_data] at hfr
      rw [show headV size root = .agg C.toArray from by rw [← hC]] at hrec
      rw [show headC (size, root).1 (size, root).2 = C from hC] at hrgk
      generalize recG size root = N at *
      obtain ⟨F, hF⟩ : ∃ F, strB (frameF N) = F := ⟨_, rfl⟩
      have hFs : F.size ≤ 144 := by rw [← hF, strB_size, hfl]; omega
      rw [hF] at hfr
      have HRC := Lib.hid hrec
      have HFR := Lib.hid hfr
      have HRK := Lib.hid hrgk
      have HB := Lib.hid (show (b ++ F).size ≤ 150 * (i + 1) by rw [ByteArray.size_append]; omega)
      have q1 : (9223372036854775807 < b.size + F.size) = False := eq_false (by omega)
      have HLT := Lib.hid hlt
      clear hp hr32 hg hrg hrgk hC lC hrec hn hfr hfl hF
      go_wp2_with (first
        | ((with_reducible show wpList _ _ _ (⟨some 38, _, _, _, _, _⟩ :: _) _ _); refine wpList_load_mid rfl 32 _ rfl g (off + i * 33) rfl C _ HRK.out Tryz.underlying32 rfl HIC.out ?_)
        | (go_at_call 7; refine (HRC.out _).mono ?_; rintro e w1 ⟨rfl, hk1⟩)
        | (go_at_call 6; refine (HFR.out _).mono ?_; rintro e w2 ⟨rfl, hk2⟩; have HK2 := Lib.hid ((HK.out.trans hk1).trans hk2)))
      go_roundw
      case rel => exact ⟨i + 1, _, HLT.out, rfl, by go_num, HB.out, HK2⟩
      case measure => have := HLT.out; simp [intOf]; omega
    · obtain rfl : i = L.length := by omega
      have y1 : decide ((L.length : Int) < (L.length : Int)) = false := decide_eq_false (by omega)
      have y2 : decide (L.length < L.length) = false := decide_eq_false hlt
      obtain ⟨m, hm⟩ : ∃ m : Nat, min b.size 60 = m := ⟨_, rfl⟩
      have hm1 : min (b.size : Int) 60 = (m : Int) := by omega
      obtain ⟨r, hr⟩ : ∃ r : Nat, cut % (m + 1) = r := ⟨_, rfl⟩
      have hr1 : (cut : Int) % ((m : Int) + 1) = (r : Int) := by rw [← hr]; simp
      have hrb : r ≤ b.size := by have : r < m + 1 := by rw [← hr]; exact Nat.mod_lt _ (by omega)
                                  omega
      have HHK := HK
      have hbs : b.size ≤ 1800 := by omega
      clear hi hlt hb hm hr HK
      have hTs : (b.extract 0 (b.size - r) ++ behind).size ≤ 2200 := by rw [ByteArray.size_append, ByteArray.size_extract]; omega
      go_upto_region 10 with fail
      generalize b.extract 0 (b.size - r) ++ behind = T at *
      have HTW := Lib.hid (HT.out.same HHK.out)
      clear y1 y2 hm1 hr1 hrb hbs hcut hb300 hl12
      go_upto_region 12 with (first
        | (go_at_call 8; refine (new_ok _ 10000 (by omega) (by omega)).mono ?_; rintro e w1 hnew; obtain ⟨d, rfl, hA1, k1⟩ := Apart.made _ hnew; have H1 := Lib.hid (And.intro hA1 k1); clear hnew hA1 k1)
        | (go_at_call 9; refine (new_ref _ 10000 (by omega) (by omega)).mono ?_; rintro e w2 ⟨r0, rfl, hr, hR, hk2⟩; have H2 := Lib.hid (kopen_start H1.out.1 HTW.out H1.out.2 hr hR hk2); clear hr hR hk2))
      clear H1
      obtain ⟨M0, x0, y0, h2, hcm0, hpc0⟩ := H2.out
      obtain ⟨e1, M1, hcr⟩ : ∃ e1 M1, M0.create 990 = (e1, M1) := ⟨_, _, rfl⟩
      obtain ⟨e2, M2, hap⟩ : ∃ e2 M2, M1.append 990 T.data.toList = (e2, M2) := ⟨_, _, rfl⟩
      obtain ⟨R0, -, hrel0⟩ := h2.has (x := Og.ref r0 M0 x0 y0) (List.mem_cons_self ..)
      have hpc1 := create_pieces hrel0 hpc0 hcr
      obtain ⟨R1, -, hrel1⟩ := hrel0.create (by omega) (by unfold Pieces at hpc0; omega) hcr
      have hpc2 := append_pieces hrel1 hpc1 hap
      have hcm1 : Calm M1 := by have := (hcm0.create 990).1; rwa [hcr] at this
      have hcm2 : Calm M2 := by have := (hcm1.append 990 T.data.toList).1; rwa [hap] at this
      have hb1 : M0.files.length + M0.loose.length < 300000000 := by unfold Pieces at hpc0; omega
      have hb2 : M1.files.length + M1.loose.length < 300000000 := by unfold Pieces at hpc1; omega
      have HB3 := Lib.hid (And.intro hcm2 (show M2.files.length + M2.loose.length < 300000000 by unfold Pieces at hpc2; omega))
      have HC1 := Lib.hid (h2.dcreate 990 (by omega) hb1 hcr)
      have HBB := Lib.hid (And.intro hb1 (And.intro hb2 (And.intro hcr (And.intro hap hTs))))
      have v1 : (e1 != e1) = false := by simp
      have v2 : (e2 != e2) = false := by simp
      clear h2 hcr hap hrel0 hrel1 hpc0 hpc1 hpc2 hcm0 hcm1 hcm2 hb1 hb2 hTs H2
      go_upto_region 14 with (first
        | (go_at_call 10; refine HC1.out.mono ?_; rintro e' w3 ⟨rfl, h3⟩; have HC2 := Lib.hid (create_at (h3.has (x := Og.ref r0 M0 x0 y0) (List.mem_cons_self ..)) 990 (by omega) HBB.out.1 HBB.out.2.2.1); have H3 := Lib.hid h3; clear h3)
        | (go_at_call 11; refine HC2.out.mono ?_; rintro e' w4 ⟨rfl, hg4⟩; obtain ⟨x4, y4, h4⟩ := H3.out.refd hg4; have HC3 := Lib.hid (h4.dappend 990 (by omega) T HBB.out.2.1 HBB.out.2.2.2.1); clear h4 hg4)
        | (go_at_call 12; refine HC3.out.mono ?_; rintro e' w5 ⟨rfl, h5⟩; have hc4 := append_at (h5.has (x := Og.ref r0 M1 x4 y4) (List.mem_cons_self ..)) 990 T.data.toList (by have := HBB.out.2.2.2.2; show T.data.toList.length ≤ 2000000; simp; omega) HBB.out.2.1 HBB.out.2.2.2.1; rw [strB_eq] at hc4; have HC4 := Lib.hid hc4; have H5 := Lib.hid h5; clear h5 hc4)
        | (go_at_call 13; refine HC4.out.mono ?_; rintro e' w6 ⟨rfl, hg6⟩; obtain ⟨x6, y6, h6⟩ := H5.out.refd hg6; have H6 := Lib.hid h6; clear h6 hg6))
      clear HC1 HC2 H3 HC3 HC4 H5 HBB v1 v2
      obtain ⟨z, hz⟩ : ∃ z, M2.openR = z := ⟨_, rfl⟩
      have hseed : (strB [114, 105, 110, 103]).size ≤ 1000 := by decide
      have HKO := Lib.hid (H6.out.kopen (strB [114, 105, 110, 103]) hseed HB3.out.2 hz)
      have HRO := Lib.hid (fun (W : World) x y (h : RefAt W r0 M2 x y) => rropen_up h HB3.out.1.up HB3.out.2 (strB [114, 105, 110, 103]) hseed)
      rw [hz] at HRO
      have HDN := Lib.hid (show z.2.2.down = false by rw [← hz]; exact HB3.out.1.mend.up)
      obtain ⟨ze, zl, zM⟩ := z
      clear hz
      by_cases hz0 : ze = 0
      · subst hz0
        go_upto_region 16 with (first
          | (go_at_call 14; refine HKO.out.mono ?_; rintro e' w7 hq7; obtain ⟨kb, S, rfl, h7⟩ := (hq7.resolve_left (fun q => q.1 rfl)).2; have H7 := Lib.hid (Owg.two h7); clear hq7 h7)
          | (go_at_call 15; refine (HRO.out _ _ _ (H7.out.has (x := Og.ref r0 M2 x6 y6) (List.mem_cons_self ..))).mono ?_; rintro e' w8 hq8; obtain ⟨q8, ks, vs, x8, y8, rfl, h8⟩ := ((H7.out.rropen hq8).resolve_left (fun q => q.1 rfl)).2; have H8 := Lib.hid h8; clear hq8 h8))
        have hrr := H8.out.has (x := Og.rring r0 x8 y8 zM q8 ks vs ⟨strB [114, 105, 110, 103], zl, M2.starts, false⟩) (by simp)
        have hrg := H8.out.has (x := Og.ring kb ⟨strB [114, 105, 110, 103], zl, zM.starts, false⟩ S) (by simp)
        have HAL := Lib.hid (alike_any hrg.1 hrr.2 rfl rfl H8.out.tab)
        have HSM := Lib.hid (fun (W : World) (hk : Kept (fun _ => False) w8 W) => (H8.out.same hk).sameK (hrr.1.keep hk (fun _ _ => id)) HDN.out)
        have HKW := Lib.hid (HHK.out.trans H8.out.old)
        clear hrr hrg HKO HRO H6 H7
        go_wp2_with (first
          | (go_at_call 16; refine HAL.out.mono ?_; rintro e' w9 ⟨rfl, hk9⟩; have HK9 := Lib.hid hk9; clear hk9)
          | (go_at_call 17; refine (HSM.out _ HK9.out).mono ?_; rintro e' w10 ⟨rfl, h10⟩; have HK10 := Lib.hid (HHK.out.trans h10.old); have HRX := Lib.hid (HRG.out _ HK10.out); clear h10)
          | (go_at_call 5; refine HRX.out.mono ?_; rintro e w11 ⟨rfl, hk11⟩))
        go_ret
        exact ⟨rfl, HK10.out.trans hk11⟩
      · have HZ0 := Lib.hid hz0
        have v1 : (ze == ze) = true := by simp
        clear hz0
        go_upto_region 16 with (first
          | (go_at_call 14; refine HKO.out.mono ?_; rintro e' w7 hq7; obtain ⟨-, rfl, h7⟩ := hq7.resolve_right (fun q => HZ0.out q.1); have H7 := Lib.hid h7; clear hq7 h7)
          | (go_at_call 15; refine (HRO.out _ _ _ (H7.out.has (x := Og.ref r0 M2 x6 y6) (List.mem_cons_self ..))).mono ?_; rintro e' w8 hq8; obtain ⟨-, rfl, x8, y8, h8⟩ := (H7.out.rropen hq8).resolve_right (fun q => HZ0.out q.1); have H8 := Lib.hid h8; clear hq8 h8))
        have hrr := H8.out.has (x := Og.ref r0 zM x8 y8) (by simp)
        have HSM := Lib.hid (H8.out.sameK hrr HDN.out)
        clear hrr HKO HRO H6 H7
        go_wp2_with (first
          | (go_at_call 16; refine (alike_nil _).mono ?_; rintro e' w9 ⟨rfl, rfl⟩)
          | (go_at_call 17; refine HSM.out.mono ?_; rintro e' w10 ⟨rfl, h10⟩; have HK10 := Lib.hid (HHK.out.trans h10.old); have HRX := Lib.hid (HRG.out _ HK10.out); clear h10)
          | (go_at_call 5; refine HRX.out.mono ?_; rintro e w11 ⟨rfl, hk11⟩))
        go_ret
        exact ⟨rfl, HK10.out.trans hk11⟩
set_option maxRecDepth 100000 in
theorem keyringOpen_walk (v0 : Value) (a1 : ByteArray) (a2 : Int) (W : World) (ht : Tab W) {base0 : Nat} {H : Type} {enc : TypeId × Value → H} {d0 : DataW H} {p0 : List MemPlace} (hv0 : Value.okWide Tryz.prog W .any base0 22 v0) (h0 : DataW.Trod enc Tryz.prog W 0 (fun _ => true) true 22 v0 d0 p0) (w1 : a1.size ≤ maxLen) (w2 : (Lit.int .u16 a2).wf = true) :
    Calls Tryz.prog 3 #[v0, .string a1, .int .u16 a2] W fun e w' => e = .returned (.bool true) ∧ Below W.heap.size W w' := by
  obtain ⟨a, L, c, rfl, h1, h2⟩ := heads_of hv0 h0
  have hw := wf_u16 w2
  obtain ⟨k, rfl⟩ : ∃ k : Nat, a2 = (k : Int) := ⟨a2.toNat, by omega⟩
  exact (keyringOpen_walk0 W ht a L c h2 h1 a1 w1 k (by omega)).mono (fun e w' ⟨he, hk⟩ => ⟨he, hk.below (fun _ _ => id) (Nat.le_refl _)⟩)
end Go.Proofs.YtdmedbhbefdnkaaGreatDoor
