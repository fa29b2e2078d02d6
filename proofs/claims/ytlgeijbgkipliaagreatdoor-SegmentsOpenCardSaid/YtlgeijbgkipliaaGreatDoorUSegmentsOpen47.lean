/- Sm5 Sm6 -/
import Derived.OpenShut
import Derived.Test.YtlgeijbgkipliaaGreatDoorUSegmentsOpen46
import Derived.Test.YtlgeijbgkipliaaGreatDoorUSegmentsOpen42
import Derived.Test.YtlgeijbgkipliaaGreatDoorUSegmentsOpen39
set_option linter.unusedVariables false
set_option linter.unusedSimpArgs false
namespace Go.Proofs.YtlgeijbgkipliaaGreatDoor
open Go.RowKit
def FilesAt (w : World) (a : Option Addr) (L : List (Int × ByteArray)) : Prop :=
  ∀ (i : Nat) (p : Int × ByteArray), L[i]? = some p → ∃ g off, a = some ⟨g, off, none⟩ ∧ g < w.heap.size ∧ w.cell? ⟨g, off + i * 2, none⟩ = some (.int .i64 p.1) ∧ w.cell? ⟨g, off + i * 2 + 1, none⟩ = some (.string p.2) ∧ -9223372036854775808 ≤ p.1 ∧ p.1 ≤ 9223372036854775807
section
variable {w0 w w' : World} {d r s sb : Nat} {M M' N : DiskM} {Os : List Og} {x y v : Value} {G G' : SegM} {S : Nat → Prop}
theorem rel_new (cap : Int) (h : (DiskM.new cap).Ok) : Rel (DiskM.new cap) ⟨cap, [], [], false, 0, 0, 0⟩ := ⟨h, by show 0 ≤ 100; omega, rfl, rfl, rfl, rfl, rfl, rfl, rfl⟩
def LoopF (w wr : World) (d r i : Nat) : Prop := ∃ M x y, Owg w wr d M [Og.ref r M x y] ∧ Calm M ∧ M.files.length + M.loose.length ≤ 3 * i
theorem loopF_start {w1 w2 : World} (hA : Apart (fun k => k < w.heap.size) d (DiskM.new 60000) w1) (ht : Tab w) (hk : Kept (fun _ => False) w w1) (hr : w1.heap.size ≤ r) (hR : IsRef w2 r ⟨60000, [], [], false, 0, 0, 0⟩ (.slice none 0 0) (.slice none 0 0)) (hk2 : Kept (fun _ => False) w1 w2) : LoopF w w2 d r 0 := by
  refine ⟨DiskM.new 60000, .slice none 0 0, .slice none 0 0, (Owg.made hA ht hk).add (x := Og.ref r (DiskM.new 60000) (.slice none 0 0) (.slice none 0 0)) hk2 ⟨_, hR, rel_new 60000 hA.ok⟩ ?_, ⟨rfl, rfl, AM.rise_nil⟩, Nat.le_refl _⟩
  rintro k (q | q | q)
  · omega
  · simp [Value.ownBlock] at q
  · simp [Value.ownBlock] at q
theorem actsAt_one5 {w : World} {la : Option Addr} {l : List By} {c : Nat} (hl : View w 1 (.slice la l.length c) (strV l)) (hs : ∀ p ∈ l, p.length ≤ maxLen) :
    ActsAt (w.alloc (.cells #[.int .u8 0, .slice la l.length c, .int .i64 0, .int .i64 0] 26)) (some ⟨w.heap.size, 0, none⟩) [⟨0, la, c, l, 0, 0⟩] := by
  intro i x hx
  have hi : i < 1 := (List.getElem?_eq_some_iff.1 hx).1
  obtain rfl : i = 0 := by omega
  simp at hx
  subst hx
  have hb := Blk.new w [.int .u8 0, .slice la l.length c, .int .i64 0, .int .i64 0] 26
  refine ⟨⟨w.heap.size, 0, rfl, hb.lt, fun j v hv => ?_⟩, hl.alloc _ (by omega), hs, by show (0 : Int) ≤ 0 ∧ (0 : Int) ≤ 255; omega, by show -9223372036854775808 ≤ (0 : Int) ∧ (0 : Int) ≤ 9223372036854775807; omega, by show -9223372036854775808 ≤ (0 : Int) ∧ (0 : Int) ≤ 9223372036854775807; omega⟩
  simpa using hb.cell hv
set_option maxRecDepth 100000 in
set_option maxHeartbeats 8000000 in
theorem segmentsOpen_walk0 (w : World) (ht : Tab w) (fa : Option Addr) (F : List (Int × ByteArray)) (fc : Nat) (hf : FilesAt w fa F) (hfl : F.length ≤ maxLen) (la : Option Addr) (l : List By) (c : Nat) (hl : View w 1 (.slice la l.length c) (strV l)) (hz : ∀ p ∈ l, p.length ≤ maxLen) :
    Calls Tryz.prog 3 #[.slice fa F.length fc, .slice la l.length c] w fun e w' => e = .returned (.bool true) ∧ Kept (fun _ => False) w w' := by
  have HT := Lib.hid ht
  have HL := Lib.hid hl
  have HF := Lib.hid hf
  obtain ⟨hl1, hl2⟩ := view_len hl
  unfold maxLen at hl2 hfl
  have hgr := great13 _ (some ⟨w.heap.size, 0, none⟩) [⟨0, la, c, l, 0, 0⟩] 1 1 (by omega) (by unfold maxLen; simp) (actsAt_one5 hl hz)
  have HLD := Lib.hid (fun w1 (hk : Kept (fun _ => False) w w1) => laid_any w1 (HT.out.same hk))
  have k0 := Lib.hid ((Kept.refl (fun _ => False) w).alloc (.cells #[.int .u8 0, .slice la l.length c, .int .i64 0, .int .i64 0] 26))
  clear ht hl hz hl1 hf
  by_cases h6 : 6 < F.length
  · have x1 : decide ((6 : Int) < (F.length : Int)) = true := (dec_gt h6).1
    have x2 : decide (6 < F.length) = true := (dec_gt h6).2
    have hld := HLD.out w (Kept.refl _ _)
    clear h6 hgr k0
    go_enter Tryz.func3, Tryz.ntmps3
    go_wp2_with (go_at_call 8; refine hld.mono ?_; rintro e w1 ⟨rfl, hk1⟩)
    go_ret
    exact ⟨rfl, hk1⟩
  have x1 : decide ((6 : Int) < (F.length : Int)) = false := (dec_le h6).1
  have x2 : decide (6 < F.length) = false := (dec_le h6).2
  have hF6 : F.length ≤ 6 := by omega
  clear h6
  by_cases h10 : 10 < l.length
  · have x3 : decide ((10 : Int) < (l.length : Int)) = true := (dec_gt h10).1
    have x4 : decide (10 < l.length) = true := (dec_gt h10).2
    clear h10
    go_enter Tryz.func3, Tryz.ntmps3
    go_upto_region 2 with (go_at_call 7; refine hgr.mono ?_; rintro e w' ⟨b, rfl, _, rfl⟩; rcases b)
    all_goals
      generalize hW : World.alloc w _ = W at *
      have hld := HLD.out W k0.out
      go_wp2_with (go_at_call 8; refine hld.mono ?_; rintro e w1 ⟨rfl, hk1⟩)
      go_ret
      exact ⟨rfl, k0.out.trans hk1⟩
  have x3 : decide ((10 : Int) < (l.length : Int)) = false := (dec_le h10).1
  have x4 : decide (10 < l.length) = false := (dec_le h10).2
  have hle10 : l.length ≤ 10 := by omega
  clear h10
  go_enter Tryz.func3, Tryz.ntmps3
  go_upto_region 2 with (go_at_call 7; refine hgr.mono ?_; rintro e w' ⟨b, rfl, _, rfl⟩; rcases b)
  all_goals generalize hW : World.alloc w _ = W at *
  rotate_left 1
  · have hld := HLD.out W k0.out
    go_wp2_with (go_at_call 8; refine hld.mono ?_; rintro e w1 ⟨rfl, hk1⟩)
    go_ret
    exact ⟨rfl, k0.out.trans hk1⟩
  have HKW := k0
  have HTW := Lib.hid (HT.out.same k0.out)
  have HLV := Lib.hid (HL.out.same k0.out (by omega))
  have HOW := Lib.hid (show ∀ k, l ≠ [] → (Value.slice la l.length c).ownBlock = some k → k < W.heap.size from fun k h0 q => Nat.lt_of_lt_of_le (HL.out.ownlt (fun e => h0 (by
    have := congrArg List.length e
    rw [strV_len] at this
    exact List.eq_nil_of_length_eq_zero this)) k q) k0.out.size)
  clear hgr x1 x2 x3 x4
  go_upto_region 8 with (first
    | (go_at_call 9; refine (new_ok _ 60000 (by omega) (by omega)).mono ?_; rintro e w1 hnew; obtain ⟨d, rfl, hA1, k1⟩ := Apart.made _ hnew; have H1 := Lib.hid (And.intro hA1 k1); clear hnew hA1 k1)
    | (go_at_call 10; refine (new_ref _ 60000 (by omega) (by omega)).mono ?_; rintro e w2 ⟨r, rfl, hr, hR, hk2⟩; have HS0 := Lib.hid (loopF_start H1.out.1 HTW.out H1.out.2 hr hR hk2); clear hr hR hk2))
  clear H1 hW
  go_loopw [9] (fun z wr => ∃ i : Nat, i ≤ F.length ∧ z = .int .i64 (i : Int) ∧ Hid (LoopF W wr d r i)) (fun z _ => F.length - (intOf z).toNat)
  case atStart => exact ⟨0, Nat.zero_le _, rfl, HS0⟩
  case round =>
    obtain ⟨i, hi, rfl, HI⟩ := hrel
    by_cases hlt : i < F.length
    · obtain ⟨y1, y2⟩ := dec_gtr hlt
      obtain ⟨p, hp⟩ : ∃ p, F[i]? = some p := ⟨_, List.getElem?_eq_getElem hlt⟩
      obtain ⟨g, off, rfl, hgl, q0, q1, n0⟩ := HF.out i p hp
      obtain ⟨n, bs⟩ := p
      obtain ⟨M, x, y, ho, hcm, hpc⟩ := HI.out
      have hkw := HKW.out.trans ho.old
      have c0 := hkw.cell q0 id
      have c1 := hkw.cell q1 id
      have HLT := Lib.hid (And.intro hlt (And.intro q0 (And.intro q1 n0)))
      by_cases h60 : 6000 < bs.size
      · have z1 : decide ((6000 : Int) < (bs.size : Int)) = true := decide_eq_true (by omega)
        have z2 : decide (6000 < bs.size) = true := decide_eq_true h60
        have hld := Lib.hid (HLD.out _ hkw)
        have HKK := Lib.hid hkw
        clear hp hgl q0 q1 n0 ho hcm hpc hkw c0 hi HLT h60 HI
        go_wp2_with (go_at_call 8; refine hld.out.mono ?_; rintro e w1 ⟨rfl, hk1⟩)
        go_ret
        exact ⟨rfl, HKK.out.trans hk1⟩
      · have z1 : decide ((6000 : Int) < (bs.size : Int)) = false := decide_eq_false (by omega)
        have z2 : decide (6000 < bs.size) = false := decide_eq_false h60
        have HN := Lib.hid n0
        have HCM := Lib.hid (And.intro hcm (And.intro hpc (And.intro hi h60)))
        have HO := Lib.hid ho
        clear hp hgl q0 q1 n0 ho hcm hpc hkw c0 hi h60 HI
        go_upto_region 12 with fail
        have ho := HO.out.same (Kept.refl _ _).drew
        have hk1 := HKW.out.trans ho.old
        refine wp_region_held_drew (S := fun W => W.cell? ⟨g, off + i * 2, none⟩ = some (.int .i64 n) ∧ W.cell? ⟨g, off + i * 2 + 1, none⟩ = some (.string bs)) (by kernel_rfl) ⟨hk1.cell HLT.out.2.1 id, hk1.cell HLT.out.2.2.1 id⟩ (fun hS0 => ?_)
        generalize World.drew _ = W0 at *
        obtain ⟨e1, M1, hcr⟩ : ∃ e1 M1, M.create n = (e1, M1) := ⟨_, _, rfl⟩
        obtain ⟨e2, M2, hap⟩ : ∃ e2 M2, M1.append n bs.data.toList = (e2, M2) := ⟨_, _, rfl⟩
        obtain ⟨R0, -, hrel0⟩ := ho.has (x := Og.ref r M x y) (List.mem_cons_self ..)
        have hpc : Pieces M (3 * i) := HCM.out.2.1
        have hpc1 := create_pieces hrel0 hpc hcr
        obtain ⟨R1, -, hrel1⟩ := hrel0.create HN.out.2 (by unfold Pieces at hpc; have := HLT.out.1; omega) hcr
        have hpc2 := append_pieces hrel1 hpc1 hap
        have hcm1 : Calm M1 := by have := (HCM.out.1.create n).1; rwa [hcr] at this
        have hcm2 : Calm M2 := by have := (hcm1.append n bs.data.toList).1; rwa [hap] at this
        have HFIN := Lib.hid (And.intro hcm2 (show M2.files.length + M2.loose.length ≤ 3 * (i + 1) from by unfold Pieces at hpc2; omega))
        have hb1 : M.files.length + M.loose.length < 300000000 := by unfold Pieces at hpc; have := HLT.out.1; omega
        have hb2 : M1.files.length + M1.loose.length < 300000000 := by unfold Pieces at hpc1; have := HLT.out.1; omega
        have HB := Lib.hid (And.intro hb1 (And.intro hb2 (And.intro hcr hap)))
        have HC1 := Lib.hid (ho.dcreate n (by have := HN.out; omega) hb1 hcr)
        have v1 : (e1 != e1) = false := by simp
        have v2 : (e2 != e2) = false := by simp
        have hst : i < F.length := HLT.out.1
        clear ho hk1 hcr hap hrel0 hrel1 hpc hpc1 hpc2 hcm1 hcm2 hb1 hb2 HO
        refine tk 0 rfl (fun _ _ _ h => h) hS0 ?_
        refine tk 1 rfl (fun _ _ _ h => h) hS0 ?_
        refine tk 2 rfl (fun _ _ _ h => h) hS0 ?_
        refine tk 3 rfl (fun _ _ _ h => h) hS0 ?_
        refine tk 4 rfl (fun _ _ _ h => h) hS0 ?_
        refine tk 5 rfl (fun _ _ _ h => h) hS0 ?_ (hy := by (refine Or.inl ⟨by rfl, fun w hSw => ?_⟩; obtain ⟨s1, s2⟩ := hSw; go_simp; (try with_reducible rfl)))
        refine tk 7 rfl (fun _ _ _ h => h) hS0 ?_
        refine tk 8 rfl (fun _ _ _ h => h) hS0 ?_
        refine tk 9 rfl (fun _ _ _ h => h) hS0 ?_
        refine tk 10 rfl (fun _ _ _ h => h) hS0 ?_
        refine tk 11 rfl (fun _ _ _ h => h) hS0 ?_
        refine tk 12 rfl (fun _ _ _ h => h) hS0 ?_ (hy := by (refine Or.inl ⟨by rfl, fun w hSw => ?_⟩; obtain ⟨s1, s2⟩ := hSw; go_simp; (try with_reducible rfl)))
        refine rd1 6 (fun K hK => ?_)
        go_simp
        refine HC1.out.mono ?_
        rintro e' w3 ⟨rfl, h3⟩
        have hk3 := HKW.out.trans h3.old
        have hS3 := And.intro (hk3.cell HLT.out.2.1 id) (hk3.cell HLT.out.2.2.1 id)
        have HC2 := Lib.hid (create_at (h3.has (x := Og.ref r M x y) (List.mem_cons_self ..)) n (by have := HN.out; omega) HB.out.1 HB.out.2.2.1)
        have H3 := Lib.hid h3
        clear h3 hk3 HC1
        refine hK.out _ _ hS3 (fun _ => ?_)
        clear hK K
        try simp only [lyA, lyB, lyC, lyD]
        refine rd1 13 (fun K hK => ?_)
        go_simp
        refine HC2.out.mono ?_
        rintro e' w4 ⟨rfl, hg4⟩
        obtain ⟨x4, y4, h4⟩ := H3.out.refd hg4
        have hk4 := HKW.out.trans h4.old
        have hS4 := And.intro (hk4.cell HLT.out.2.1 id) (hk4.cell HLT.out.2.2.1 id)
        have HC3 := Lib.hid (h4.dappend n (by have := HN.out; omega) bs HB.out.2.1 HB.out.2.2.2)
        clear h4 hk4 HC2 hg4 H3
        refine hK.out _ _ hS4 (fun _ => ?_)
        clear hK K
        try simp only [lyA, lyB, lyC, lyD]
        refine tk 14 rfl (fun _ _ _ h => h) hS4 ?_
        refine tk 15 rfl (fun _ _ _ h => h) hS4 ?_
        refine tk 16 rfl (fun _ _ _ h => h) hS4 ?_
        refine tk 17 rfl (fun _ _ _ h => h) hS4 ?_
        refine tk 18 rfl (fun _ _ _ h => h) hS4 ?_
        refine tk 19 rfl (fun _ _ _ h => h) hS4 ?_
        refine tk 20 rfl (fun _ _ _ h => h) hS4 ?_
        refine tk 21 rfl (fun _ _ _ h => h) hS4 ?_ (hy := by (refine Or.inl ⟨by rfl, fun w hSw => ?_⟩; obtain ⟨s1, s2⟩ := hSw; go_simp; (try with_reducible rfl)))
        refine tk 22 rfl (fun _ _ _ h => h) hS4 ?_
        refine tk 23 rfl (fun _ _ _ h => h) hS4 ?_
        refine tk 24 rfl (fun _ _ _ h => h) hS4 ?_
        refine tk 25 rfl (fun _ _ _ h => h) hS4 ?_
        refine tk 26 rfl (fun _ _ _ h => h) hS4 ?_ (hy := by (refine Or.inl ⟨by rfl, fun w hSw => ?_⟩; obtain ⟨s1, s2⟩ := hSw; go_simp; (try with_reducible rfl)))
        refine tk 28 rfl (fun _ _ _ h => h) hS4 ?_
        refine tk 29 rfl (fun _ _ _ h => h) hS4 ?_
        refine tk 30 rfl (fun _ _ _ h => h) hS4 ?_
        refine tk 31 rfl (fun _ _ _ h => h) hS4 ?_
        refine tk 32 rfl (fun _ _ _ h => h) hS4 ?_
        refine tk 33 rfl (fun _ _ _ h => h) hS4 ?_ (hy := by (refine Or.inl ⟨by rfl, fun w hSw => ?_⟩; obtain ⟨s1, s2⟩ := hSw; go_simp; (try with_reducible rfl)))
        refine tk 34 rfl (fun _ _ _ h => h) hS4 ?_
        refine tk 35 rfl (fun _ _ _ h => h) hS4 ?_
        refine tk 36 rfl (fun _ _ _ h => h) hS4 ?_
        refine tk 37 rfl (fun _ _ _ h => h) hS4 ?_
        refine tk 38 rfl (fun _ _ _ h => h) hS4 ?_ (hy := by (refine Or.inl ⟨by rfl, fun w hSw => ?_⟩; obtain ⟨s1, s2⟩ := hSw; go_simp; (try with_reducible rfl)))
        refine rd1 27 (fun K hK => ?_)
        go_simp
        refine HC3.out.mono ?_
        rintro e' w5 ⟨rfl, h5⟩
        have hk5 := HKW.out.trans h5.old
        have hS5 := And.intro (hk5.cell HLT.out.2.1 id) (hk5.cell HLT.out.2.2.1 id)
        have hc4 := append_at (h5.has (x := Og.ref r M1 x4 y4) (List.mem_cons_self ..)) n bs.data.toList (by have : bs.data.toList.length = bs.size := rfl; have := HCM.out.2.2.2; omega) HB.out.2.1 HB.out.2.2.2
        rw [strB_eq] at hc4
        have HC4 := Lib.hid hc4
        have H5 := Lib.hid h5
        clear h5 hk5 HC3 hc4
        refine hK.out _ _ hS5 (fun _ => ?_)
        clear hK K
        try simp only [lyA, lyB, lyC, lyD]
        refine rd1 39 (fun K hK => ?_)
        go_simp
        refine HC4.out.mono ?_
        rintro e' w6 ⟨rfl, hg6⟩
        obtain ⟨x6, y6, h6⟩ := H5.out.refd hg6
        have hk6 := HKW.out.trans h6.old
        have hS6 := And.intro (hk6.cell HLT.out.2.1 id) (hk6.cell HLT.out.2.2.1 id)
        have HE := Lib.hid (show LoopF W w6 d r (i + 1) from ⟨M2, x6, y6, h6, HFIN.out.1, HFIN.out.2⟩)
        clear h6 hk6 HC4 hg6 H5
        refine hK.out _ _ hS6 (fun _ => ?_)
        clear hK K
        try simp only [lyA, lyB, lyC, lyD]
        refine tk 40 rfl (fun _ _ _ h => h) hS6 ?_
        refine tk 41 rfl (fun _ _ _ h => h) hS6 ?_
        refine wpAnyH_done (by kernel_rfl) ?_ _
        clear hS0 hS3 hS4 hS5 hS6 HB HFIN HN HCM v1 v2
        go_wp2_with fail
        go_roundw
        case rel => exact ⟨i + 1, HLT.out.1, by go_num, HE⟩
        case measure => have := HLT.out.1; simp [intOf]; omega
    · obtain rfl : i = F.length := by omega
      obtain ⟨y1, y2⟩ := dec_ler hlt
      obtain ⟨M, x, y, ho, hcm, hpc⟩ := HI.out
      obtain ⟨o1, o2, o3, o4⟩ := hcm.opens
      obtain ⟨E, M1, hz⟩ : ∃ E M1, M.openS = (0, E, M1) := ⟨M.openS.2.1, M.openS.2.2, by rw [← o1]⟩
      rw [hz] at o2 o3 o4
      have HOP := Lib.hid ((ho.sopen (by omega) hz).mono (fun e w' q => (q.resolve_left (fun q => q.1 rfl)).2))
      have HRO := Lib.hid (show ∀ w3 : World, RefAt w3 r M x y → Calls Tryz.prog 16 #[.pointer (some ⟨r, 0, none⟩)] w3 (ROpenTo w3 r x y M.starts (0, E, M1)) from fun w3 h => by have := ropen_up h hcm.up; rwa [hz] at this)
      have hfw : M1.files.length + M1.loose.length < 80000000 ∨ True := Or.inr trivial
      have HC := Lib.hid (And.intro o2 (And.intro o3 o4))
      clear hlt hi ho hcm hpc o1 o2 o3 o4 HI hfw
      go_upto_region 16 with (first
        | (go_at_call 15; refine HOP.out.mono ?_; rintro e' w3 ⟨s, S, rfl, h3⟩; have H3 := Lib.hid h3.two; clear h3)
        | (go_at_call 16; refine (HRO.out _ (H3.out.has (x := Og.ref r M x y) (List.mem_cons_self ..))).mono ?_; rintro e' w4 hq; have HQ := Lib.hid ((H3.out.ropen hq).resolve_left (fun q => q.1 rfl)).2; clear hq; obtain ⟨sb, v, x4, y4, rfl, h4⟩ := HQ.out; have H4 := Lib.hid (show EndS W w4 d r s sb M1 ⟨E, M.starts, false⟩ from ⟨x4, y4, v, S, h4⟩); have HFW := Lib.hid (show M1.files.length ≤ 100 from (let ⟨R, _, h2⟩ := (h4.has (x := Og.rseg r x4 y4 M1 sb v ⟨E, M.starts, false⟩) (by simp)).1; h2.few)); clear HQ h4))
      clear HOP HRO H3
      obtain ⟨e9, G2, M2, hap⟩ : ∃ e9 G2 M2, (⟨E, M.starts, false⟩ : SegM).append M1 l = (e9, G2, M2) := ⟨_, _, _, rfl⟩
      have hcm2 : Calm M2 := by have := HC.out.1.gappend ⟨E, M.starts, false⟩ l; rwa [hap] at this
      have HAP := Lib.hid (And.intro hap hcm2)
      have v1 : (e9 == e9) = true := by simp
      clear hap hcm2
      have hl3 : M1.files.length + M1.loose.length < 80000000 := by have h1 := HFW.out; rw [HC.out.2.2]; simp; omega
      have HL3 := Lib.hid hl3
      clear hl3
      go_upto_region 18 with (first
        | (go_at_call 17; refine H4.out.alike.mono ?_; rintro e' w5 ⟨rfl, h5⟩; have H5 := Lib.hid h5; clear h5)
        | (go_at_call 18; refine (H5.out.sameD HC.out.1.up).mono ?_; rintro e' w6 ⟨rfl, h6⟩; have H6 := Lib.hid h6; clear h6))
      clear H4 H5
      go_wp2_with (first
        | (go_at_call 19; refine (H6.out.append la c (HLV.out.same H6.out.old (by omega)) (fun h0 k q => HOW.out k h0 q) HL3.out HAP.out.1).mono ?_; rintro e' w7 ⟨rfl, h7⟩; have H7 := Lib.hid h7; clear h7)
        | (go_at_call 20; refine (H7.out.append HC.out.1 HC.out.2.1 rfl hle10 H6.out.few la c (HLV.out.same H7.out.old (by omega)) (fun h0 k q => HOW.out k h0 q) HL3.out HAP.out.1).mono ?_; rintro e' w8 ⟨rfl, h8⟩; have H8 := Lib.hid h8; clear h8)
        | (go_at_call 17; refine H8.out.alike.mono ?_; rintro e' w9 ⟨rfl, h9⟩; have H9 := Lib.hid h9; clear h9)
        | (go_at_call 18; refine (H9.out.sameD HAP.out.2.up).mono ?_; rintro e' w10 ⟨rfl, h10⟩; have H10 := Lib.hid (HKW.out.trans h10.old); have HLL := Lib.hid (HLD.out _ H10.out); clear h10)
        | (go_at_call 8; refine HLL.out.mono ?_; rintro e w11 ⟨rfl, hk11⟩))
      go_ret
      exact ⟨rfl, H10.out.trans hk11⟩
end
end Go.Proofs.YtlgeijbgkipliaaGreatDoor

namespace Go.Proofs.YtlgeijbgkipliaaGreatDoor
open Go.RowKit Go.WideShapes Go.ChangeShapes Go.Joins
abbrev fileC (x : Int × ByteArray) : List Value := [.int .i64 x.1, .string x.2]
theorem c_file13 : Tryz.prog.cellsOf 37 = 2 := by kernel_rfl
theorem c_int_f13 : Tryz.prog.cellsOf 3 = 1 := by kernel_rfl
theorem c_str_f13 : Tryz.prog.cellsOf 9 = 1 := by kernel_rfl
set_option maxRecDepth 100000 in
theorem file13_in {H : Type} {enc : TypeId × Value → H} {W : World} {base : Nat} {spare : Nat → Bool} {hd : Bool} {fuel : Nat} {cs : List Value} {x : DataW H × List MemPlace}
    (h : DataW.trod enc Tryz.prog W base spare hd fuel 37 cs = some x) : ∃ y : Int × ByteArray, cs = fileC y ∧ (-9223372036854775808 ≤ y.1 ∧ y.1 ≤ 9223372036854775807) := by
  obtain ⟨xs, n, _, _, hcl, hl, hg⟩ := DataW.trod_struct Tryz.underlying37 h
  match xs, hl with
  | [y0, y1], _ =>
    have g0 := hg 0 _ rfl
    have g1 := hg 1 _ rfl
    rw [c_file13] at hcl
    simp [c_int_f13, c_str_f13] at g0 g1
    obtain ⟨a2, e2, _, w2⟩ := DataW.trod_int Tryz.underlying3 g0
    obtain ⟨a4, e4, _, w4⟩ := DataW.trod_string Tryz.underlying9 g1
    refine ⟨(a2, a4), ?_, wf_i64 w2⟩
    match cs, hcl with
    | [b0, b1], _ =>
      simp at e2 e4
      subst e2; subst e4
      rfl
set_option maxRecDepth 100000 in
theorem files13_of {H : Type} {enc : TypeId × Value → H} {w : World} {base : Nat} {v : Value} {dd : DataW H} {p : List MemPlace} (hv : Value.okWide Tryz.prog w .any base 22 v) (h : DataW.Trod enc Tryz.prog w 0 (fun _ => true) true 22 v dd p) :
    ∃ (a : Option Addr) (A : List (Int × ByteArray)) (c : Nat), v = .slice a A.length c ∧ A.length ≤ maxLen ∧ FilesAt w a A := by
  obtain ⟨a, len, cap, rfl, hl, hx⟩ := open_rows Tryz.underlying22 c_file13 (by omega) hv h
  have hex : ∀ i, ∃ y : Int × ByteArray, i < len → ElemAt w a 2 i (fileC y) ∧ (-9223372036854775808 ≤ y.1 ∧ y.1 ≤ 9223372036854775807) := fun i => by
    by_cases hi : i < len
    · obtain ⟨cs, m, x, _, he, ht⟩ := hx i hi
      obtain ⟨y, rfl, h1⟩ := file13_in ht
      exact ⟨y, fun _ => ⟨he, h1⟩⟩
    · exact ⟨⟨0, ⟨#[]⟩⟩, fun h => absurd h hi⟩
  obtain ⟨V, hV⟩ : ∃ V : Nat → Int × ByteArray, ∀ i, i < len → ElemAt w a 2 i (fileC (V i)) ∧ (-9223372036854775808 ≤ (V i).1 ∧ (V i).1 ≤ 9223372036854775807) := ⟨fun i => Classical.choose (hex i), fun i => Classical.choose_spec (hex i)⟩
  have hlen : ((List.range len).map V).length = len := by rw [List.length_map, List.length_range]
  refine ⟨a, (List.range len).map V, cap, by rw [hlen], by rw [hlen]; exact hl, fun i x hi => ?_⟩
  have hlt : i < len := by have := (List.getElem?_eq_some_iff.1 hi).1; omega
  rw [List.getElem?_map, List.getElem?_range hlt] at hi
  simp only [Option.map_some, Option.some.injEq] at hi
  subst hi
  obtain ⟨⟨g, off, rfl, hg, hc⟩, h1, h2⟩ := hV i hlt
  exact ⟨g, off, rfl, hg, hc 0 _ rfl, hc 1 _ rfl, h1, h2⟩
set_option maxRecDepth 100000 in
theorem segmentsOpen_walk (v0 v1 : Value) (W : World) (ht : Tab W) {base0 base1 : Nat} {H : Type} {enc : TypeId × Value → H} {d0 d1 : DataW H} {p0 p1 : List MemPlace} (hv0 : Value.okWide Tryz.prog W .any base0 22 v0) (h0 : DataW.Trod enc Tryz.prog W 0 (fun _ => true) true 22 v0 d0 p0) (hv1 : Value.okWide Tryz.prog W .any base1 23 v1) (h1 : DataW.Trod enc Tryz.prog W 0 (fun _ => true) true 23 v1 d1 p1) :
    Calls Tryz.prog 3 #[v0, v1] W fun e w' => e = .returned (.bool true) ∧ Below W.heap.size W w' := by
  obtain ⟨fa, F, fc, rfl, f1, f2⟩ := files13_of hv0 h0
  obtain ⟨a, l, c, rfl, h1, h2⟩ := texts_of h1 (okWide_slice Tryz.underlying23 hv1)
  exact (segmentsOpen_walk0 W ht fa F fc f2 f1 a l c h1 h2).mono (fun e w' ⟨he, hk⟩ => ⟨he, hk.below (fun _ _ => id) (Nat.le_refl _)⟩)
end Go.Proofs.YtlgeijbgkipliaaGreatDoor
