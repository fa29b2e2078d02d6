/- Sm1 -/
import Derived.Test.YtdmedbhbefdnkaaGreatDoorUKeyringOpen34
import Derived.Test.YtdmedbhbefdnkaaGreatDoorUKeyringOpen21
import Derived.Test.YtdmedbhbefdnkaaGreatDoorUKeyringOpen24
import Derived.Test.YtdmedbhbefdnkaaGreatDoorUKeyringOpen35
set_option linter.unusedVariables false
set_option linter.unusedSimpArgs false
namespace Go.Proofs.YtdmedbhbefdnkaaGreatDoor
open Go.RowKit
section
variable {w w1 w2 w' : World} {d r : Nat} {M : DiskM} {B : Nat → Prop} {x y : Value}
theorem expand_len (l : List (Int × Nat)) : (expandL l).length = DiskM.looseAll l := by
  induction l with
  | nil => rfl
  | cons p q ih =>
    have e : expandL (p :: q) = List.replicate p.2 p.1 ++ expandL q := by simp [expandL]
    have e2 : DiskM.looseAll (p :: q) = p.2 + DiskM.looseAll q := by simp [DiskM.looseAll]
    rw [e, e2, List.length_append, List.length_replicate, ih]
theorem loose_ap (h : Apart B d M w) : Calls Tryz.prog 51 #[.pointer (some ⟨d, 0, none⟩)] w fun e w' => e = .returned (.int .i64 (expandL M.loose).length) ∧ Kept (fun _ => False) w w' := by
  obtain ⟨_, _, fp, h1, _⟩ := h
  have := loose_any w h1
  rwa [← expand_len] at this
structure SameS (B : Nat → Prop) (d r : Nat) (M : DiskM) (x y : Value) (w W : World) : Prop where
  disk : Apart B d M W
  ref : RefAt W r M x y
  kept : Kept (fun _ => False) w W
theorem SameS.same (h : SameS B d r M x y w w1) (hk : Kept (fun _ => False) w1 w2) : SameS B d r M x y w w2 := ⟨h.disk.same hk, h.ref.keep hk (fun _ _ => id), h.kept.trans hk⟩
def SameC (r : Nat) (x y : Value) (st : Int) (W : World) : Prop := W.cell? ⟨r, 1, none⟩ = some x ∧ W.cell? ⟨r, 2, none⟩ = some y ∧ W.cell? ⟨r, 3, none⟩ = some (.bool false) ∧ W.cell? ⟨r, 4, none⟩ = some (.int .i64 st)
theorem RefAt.sameC (h : RefAt w r M x y) (hm : M.down = false) : SameC r x y M.starts w := by
  obtain ⟨xa, xc, rfl, c1, c3, c4, c2, -⟩ := h.cells
  rw [hm] at c3
  exact ⟨c1, c2, c3, c4⟩
set_option maxRecDepth 100000 in
set_option maxHeartbeats 8000000 in
theorem same_any (h : Apart B d M w) (hr : RefAt w r M x y) (hm : M.down = false) :
    Calls Tryz.prog 17 #[.pointer (some ⟨d, 0, none⟩), .pointer (some ⟨r, 0, none⟩)] w fun e w' => e = .returned (.bool true) ∧ Kept (fun _ => False) w w' := by
  have HS := Lib.hid (show SameS B d r M x y w w from ⟨h, hr, Kept.refl _ _⟩)
  have HF := Lib.hid h.files
  have HM := Lib.hid hm
  clear h hr hm
  go_enter Tryz.func17, Tryz.ntmps17
  go_upto_region 2 with (go_at_call 50; refine HF.out.mono ?_; rintro e' w1 ⟨v, rfl, hrow, hk, ho⟩; have H1 := Lib.hid (And.intro hrow (HS.out.same hk)); clear hrow hk ho)
  obtain ⟨fa, fn, fc, rfl, hfn, -⟩ := H1.out.1.form (by omega)
  have hfl : (icells (M.files.map (·.1))).length = M.files.length := by simp [icells]
  obtain rfl : fn = M.files.length := by omega
  obtain ⟨xa, xc, hxe, -, -, -, -, ⟨ya, yc, hye⟩, -⟩ := H1.out.2.ref.cells
  subst hxe hye
  have hc0 := (H1.out.2.same (Kept.refl _ _).drew).ref.sameC HM.out
  have hfew : M.files.length ≤ 100 := (let ⟨R, _, h2⟩ := H1.out.2.ref; h2.few : M.files.length ≤ 100)
  obtain ⟨nl, hnl⟩ : ∃ nl, M.files.length = nl := ⟨_, rfl⟩
  obtain ⟨nz, hnz⟩ : ∃ nz, (expandL M.loose).length = nz := ⟨_, rfl⟩
  rw [hnl, hnz] at hc0
  simp only [hnl]
  refine wp_region_held_drew (S := SameC r (.slice xa nl xc) (.slice ya nz yc) M.starts) (by kernel_rfl) hc0 (fun hS0 => ?_)
  have H2 := Lib.hid (And.intro (H1.out.1.kept (Kept.refl (fun _ => False) w1).drew (fun _ _ => id)) (H1.out.2.same (Kept.refl _ _).drew))
  generalize World.drew w1 = W0 at *
  have hlo := loose_ap H2.out.2.disk
  rw [hnz] at hlo
  rw [hnl] at hfew
  have HLO := Lib.hid hlo
  have hup := up_ap H2.out.2.disk (b := true) (by rw [HM.out]; rfl)
  have z0 : ((nl : Int) != (nl : Int)) = false := by simp
  have z1 : ((nz : Int) != (nz : Int)) = false := by simp
  have z2 : ((M.cap - M.total : Int) != (M.cap - M.total : Int)) = false := by simp
  have z3 : (M.starts != M.starts) = false := by simp
  clear hfn hfl HF hc0 HS H1 hlo hup
  refine tk 0 rfl (fun _ _ _ h => h) hS0 ?_
  refine tk 1 rfl (fun _ _ _ h => h) hS0 ?_
  refine tk 2 rfl (fun _ _ _ h => h) hS0 ?_
  refine tk 3 rfl (fun _ _ _ h => h) hS0 ?_
  refine tk 4 rfl (fun _ _ _ h => h) hS0 ?_
  refine tk 5 rfl (fun _ _ _ h => h) hS0 ?_ (hy := by (refine Or.inl ⟨by rfl, fun w hSw => ?_⟩; unfold SameC at hSw; go_simp; (try with_reducible rfl)))
  refine tk 6 rfl (fun _ _ _ h => h) hS0 ?_
  refine tk 7 rfl (fun _ _ _ h => h) hS0 ?_
  refine tk 8 rfl (fun _ _ _ h => h) hS0 ?_
  refine tk 9 rfl (fun _ _ _ h => h) hS0 ?_
  refine tk 11 rfl (fun _ _ _ h => h) hS0 ?_
  refine tk 12 rfl (fun _ _ _ h => h) hS0 ?_
  refine tk 13 rfl (fun _ _ _ h => h) hS0 ?_
  refine tk 14 rfl (fun _ _ _ h => h) hS0 ?_ (hy := by (refine Or.inl ⟨by rfl, fun w hSw => ?_⟩; unfold SameC at hSw; go_simp; (try with_reducible rfl)))
  refine tk 15 rfl (fun _ _ _ h => h) hS0 ?_
  refine rd1 10 (fun K hK => ?_)
  go_simp
  refine HLO.out.mono ?_
  rintro e' w3 ⟨rfl, hk3⟩
  have H3 := Lib.hid (And.intro (H2.out.1.kept hk3 (fun _ _ => id)) (H2.out.2.same hk3))
  have hS3 := H3.out.2.ref.sameC HM.out
  rw [hnl, hnz] at hS3
  have HFR := Lib.hid (free_ap H3.out.2.disk)
  clear hk3 HLO H2
  refine hK.out _ _ hS3 (fun _ => ?_)
  clear hK K
  try simp only [lyA, lyB, lyC, lyD]
  refine tk 16 rfl (fun _ _ _ h => h) hS3 ?_
  refine tk 17 rfl (fun _ _ _ h => h) hS3 ?_
  refine tk 18 rfl (fun _ _ _ h => h) hS3 ?_
  refine tk 19 rfl (fun _ _ _ h => h) hS3 ?_
  refine tk 21 rfl (fun _ _ _ h => h) hS3 ?_
  refine rd1 20 (fun K hK => ?_)
  go_simp
  refine HFR.out.mono ?_
  rintro e' w4 ⟨rfl, hk4⟩
  have H4 := Lib.hid (And.intro (H3.out.1.kept hk4 (fun _ _ => id)) (H3.out.2.same hk4))
  have hS4 := H4.out.2.ref.sameC HM.out
  rw [hnl, hnz] at hS4
  have HFR2 := Lib.hid (free_at H4.out.2.ref)
  have HUP := Lib.hid (up_ap H4.out.2.disk (b := true) (by rw [HM.out]; rfl))
  have HST := Lib.hid (starts_ap H4.out.2.disk rfl)
  clear hk4 HFR H3
  refine hK.out _ _ hS4 (fun _ => ?_)
  clear hK K
  try simp only [lyA, lyB, lyC, lyD]
  refine rd1 22 (fun K hK => ?_)
  go_simp
  refine HFR2.out.mono ?_
  rintro e' w5 ⟨rfl, rfl⟩
  refine hK.out _ _ hS4 (fun _ => ?_)
  clear hK K
  try simp only [lyA, lyB, lyC, lyD]
  refine tk 23 rfl (fun _ _ _ h => h) hS4 ?_
  refine tk 24 rfl (fun _ _ _ h => h) hS4 ?_
  refine tk 25 rfl (fun _ _ _ h => h) hS4 ?_
  refine tk 26 rfl (fun _ _ _ h => h) hS4 ?_
  refine tk 28 rfl (fun _ _ _ h => h) hS4 ?_
  refine tk 29 rfl (fun _ _ _ h => h) hS4 ?_
  refine tk 30 rfl (fun _ _ _ h => h) hS4 ?_
  refine tk 31 rfl (fun _ _ _ h => h) hS4 ?_ (hy := by (refine Or.inl ⟨by rfl, fun w hSw => ?_⟩; unfold SameC at hSw; go_simp; (try with_reducible rfl)))
  refine rd1 27 (fun K hK => ?_)
  go_simp
  refine HUP.out.mono ?_
  rintro e' w5 ⟨rfl, rfl⟩
  refine hK.out _ _ hS4 (fun _ => ?_)
  clear hK K
  try simp only [lyA, lyB, lyC, lyD]
  refine tk 32 rfl (fun _ _ _ h => h) hS4 ?_
  refine tk 33 rfl (fun _ _ _ h => h) hS4 ?_
  refine tk 34 rfl (fun _ _ _ h => h) hS4 ?_
  refine tk 35 rfl (fun _ _ _ h => h) hS4 ?_
  refine tk 37 rfl (fun _ _ _ h => h) hS4 ?_
  refine tk 38 rfl (fun _ _ _ h => h) hS4 ?_
  refine tk 39 rfl (fun _ _ _ h => h) hS4 ?_
  refine tk 40 rfl (fun _ _ _ h => h) hS4 ?_ (hy := by (refine Or.inl ⟨by rfl, fun w hSw => ?_⟩; unfold SameC at hSw; go_simp; (try with_reducible rfl)))
  refine rd1 36 (fun K hK => ?_)
  go_simp
  refine HST.out.mono ?_
  rintro e' w5 ⟨rfl, rfl⟩
  refine hK.out _ _ hS4 (fun _ => ?_)
  clear hK K
  try simp only [lyA, lyB, lyC, lyD]
  refine tk 41 rfl (fun _ _ _ h => h) hS4 ?_
  refine tk 42 rfl (fun _ _ _ h => h) hS4 ?_
  refine wpAnyH_done (by kernel_rfl) ?_ _
  clear HFR2 HUP HST hS0 hS3
  obtain ⟨hx1, hx2, hx3, hx4⟩ := hS4
  go_wp2_with fail
  go_loopw [6] (fun z wr => ∃ i : Nat, i ≤ nl ∧ z = .int .i64 (i : Int) ∧ Hid (Row wr 3 1 (.slice fa nl fc) (icells (M.files.map (·.1))) ∧ SameS B d r M (.slice xa M.files.length xc) (.slice ya (expandL M.loose).length yc) w wr)) (fun z _ => nl - (intOf z).toNat)
  case atStart => exact ⟨0, Nat.zero_le _, rfl, Lib.hid (by rw [← hnl]; exact H4.out)⟩
  case round =>
    obtain ⟨i, hi, rfl, HI⟩ := hrel
    by_cases hlt : i < nl
    · obtain ⟨y1, y2⟩ := dec_gtr hlt
      obtain ⟨p, hp⟩ : ∃ p, M.files[i]? = some p := ⟨_, List.getElem?_eq_getElem (by omega)⟩
      clear hx1 hx2 hx3 hx4 H4
      go_upto_region 7 with fail
      have HJ := Lib.hid (And.intro (HI.out.1.kept (Kept.refl (fun _ => False) _).drew (fun _ _ => id)) (HI.out.2.same (Kept.refl _ _).drew))
      clear HI
      obtain ⟨xa', xc', hq, hx1, hx3, -, -, -, hcells⟩ := HJ.out.2.ref.cells
      simp only [Value.slice.injEq] at hq
      obtain ⟨rfl, -, rfl⟩ := hq
      obtain ⟨g, rfl, q0, q1⟩ := hcells i p hp
      obtain ⟨fg, fo, rfl, f0⟩ := view_int HJ.out.1.view (i := i) (p := p.1) (by rw [List.getElem?_map, hp]; rfl)
      have hgt : AM.get M.files p.1 = some p.2 := (AM.get_some HJ.out.2.disk.ok.rise).2 (List.mem_of_getElem? hp)
      have hn := (HJ.out.2.disk.ok.keys _ (List.mem_of_getElem? hp))
      obtain ⟨tb, htb⟩ : ∃ tb, strB p.2 = tb := ⟨_, rfl⟩
      have e9 : (⟨((p.2.drop 0).take p.2.length).toArray⟩ : ByteArray) = tb := by rw [List.drop_zero, List.take_length, ← htb]
      rw [htb] at q1
      rw [hnl] at hx1
      rw [HM.out] at hx3
      obtain ⟨n, hpn⟩ : ∃ n, p.1 = n := ⟨_, rfl⟩
      have HSZ := Lib.hid (fun (w5 : World) (h5 : Apart B d M w5) => (show Calls Tryz.prog 38 #[.pointer (some ⟨d, 0, none⟩), .int .i64 n] w5 _ from (let ⟨_, _, fp, h1, _⟩ := h5; hpn ▸ size_ok w5 p.1 (by omega) p.2 h1 HM.out hgt)))
      have HRD := Lib.hid (fun (w5 : World) (h5 : Apart B d M w5) => (show Calls Tryz.prog 52 #[.pointer (some ⟨d, 0, none⟩), .int .i64 n, .int .i64 0, .int .i64 (p.2.length : Int)] w5 (fun e w' => e = .returned (.tuple #[.string tb, .int .i64 0]) ∧ w5 = w') from by rw [← hpn, ← e9]; exact read_ap h5 p.1 (by omega) 0 p.2.length p.2 HM.out hgt (by omega)))
      rw [hpn] at q0 f0
      have v0 : (n != n) = false := by simp
      have v2 : (tb.toList == tb.toList) = true := by simp
      have HLT := Lib.hid hlt
      have hi5 : i ≤ 100 := by omega
      have HP := Lib.hid hp
      refine wp_region_held_drew (S := fun W => W.cell? ⟨fg, fo + i, none⟩ = some (.int .i64 n) ∧ W.cell? ⟨r, 1, none⟩ = some (.slice (some ⟨g, 0, none⟩) nl xc) ∧ W.cell? ⟨g, i * 2, none⟩ = some (.int .i64 n)) (by kernel_rfl) ⟨f0, hx1, q0⟩ (fun hS7 => ?_)
      generalize World.drew _ = W7 at *
      clear hp hgt hn e9 htb hpn hi hcells
      refine tk 0 rfl (fun _ _ _ h => h) hS7 ?_
      refine tk 1 rfl (fun _ _ _ h => h) hS7 ?_
      refine tk 2 rfl (fun _ _ _ h => h) hS7 ?_
      refine tk 3 rfl (fun _ _ _ h => h) hS7 ?_ (hy := by (refine Or.inl ⟨by rfl, fun w hSw => ?_⟩; obtain ⟨s1, s2, s3⟩ := hSw; go_simp; (try with_reducible rfl)))
      refine tk 4 rfl (fun _ _ _ h => h) hS7 ?_
      refine tk 5 rfl (fun _ _ _ h => h) hS7 ?_
      refine tk 6 rfl (fun _ _ _ h => h) hS7 ?_
      refine tk 7 rfl (fun _ _ _ h => h) hS7 ?_ (hy := by (refine Or.inl ⟨by rfl, fun w hSw => ?_⟩; obtain ⟨s1, s2, s3⟩ := hSw; go_simp; (try with_reducible rfl)))
      refine tk 8 rfl (fun _ _ _ h => h) hS7 ?_
      refine tk 9 rfl (fun _ _ _ h => h) hS7 ?_
      refine tk 10 rfl (fun _ _ _ h => h) hS7 ?_
      refine tk 11 rfl (fun _ _ _ h => h) hS7 ?_ (hy := by (refine Or.inl ⟨by rfl, fun w hSw => ?_⟩; obtain ⟨s1, s2, s3⟩ := hSw; go_simp; (try with_reducible rfl)))
      refine tk 12 rfl (fun _ _ _ h => h) hS7 ?_
      refine wpAnyH_done (by kernel_rfl) ?_ _
      have HSZ7 := Lib.hid (HSZ.out W7 HJ.out.2.disk)
      have HRD7 := Lib.hid (HRD.out W7 HJ.out.2.disk)
      clear HSZ HRD q0 f0
      go_wp2_with (first
        | (go_at_call 38; refine HSZ7.out.mono ?_; rintro e' w5 ⟨rfl, rfl⟩)
        | (go_at_call 52; refine HRD7.out.mono ?_; rintro e' w5 ⟨rfl, rfl⟩))
      go_roundw
      case rel => exact ⟨i + 1, HLT.out, by go_num, HJ⟩
      case measure => have := HLT.out; simp [intOf]; omega
    · obtain rfl : i = nl := by omega
      obtain ⟨y1, y2⟩ := dec_ler hlt
      clear hi hlt
      go_wp2_with fail
      go_ret
      exact ⟨rfl, HI.out.2.kept⟩
end
end Go.Proofs.YtdmedbhbefdnkaaGreatDoor
