/- Sm1 RS10 Sm2 Sm3 Sm4 -/
import Derived.Test.YtlgeijbgkipliaaGreatDoorUSegmentsOpen43
import Derived.Test.YtlgeijbgkipliaaGreatDoorUSegmentsOpen16
import Derived.Test.YtlgeijbgkipliaaGreatDoorUSegmentsOpen35
import Derived.Test.YtlgeijbgkipliaaGreatDoorUSegmentsOpen39
import Derived.Test.YtlgeijbgkipliaaGreatDoorUSegmentsOpen45
import Derived.Test.YtlgeijbgkipliaaGreatDoorUSegmentsOpen38
import Derived.Test.YtlgeijbgkipliaaGreatDoorUSegmentsOpen36
set_option linter.unusedVariables false
set_option linter.unusedSimpArgs false
namespace Go.Proofs.YtlgeijbgkipliaaGreatDoor
open Go.RowKit
section
variable {w w1 w2 w' : World} {d r : Nat} {M : DiskM} {B : Nat → Prop} {x y : Value}
theorem expand_len (l : List (Int × Nat)) : (expandL l).length = DiskM.looseAll l := by
  induction l with
  | nil => rfl
  | cons p q ih =>
    have e : expandL (p :: q) = List.replicate p.2 p.1 ++ expandL q := by simp [expandL]
    have e2 : DiskM.looseAll (p :: q) = p.2 + DiskM.looseAll q := by simp [DiskM.looseAll]
    rw [e, e2, List.length_append, List.length_replicate, ih]
theorem loose_ap (h : Apart B d M w) : Calls Tryz.prog 62 #[.pointer (some ⟨d, 0, none⟩)] w fun e w' => e = .returned (.int .i64 (expandL M.loose).length) ∧ Kept (fun _ => False) w w' := by
  obtain ⟨_, _, fp, h1, _⟩ := h
  have := loose_any w h1
  rwa [← expand_len] at this
structure SameS (B : Nat → Prop) (d r : Nat) (M : DiskM) (x y : Value) (w W : World) : Prop where
  disk : Apart B d M W
  ref : RefAt W r M x y
  kept : Kept (fun _ => False) w W
theorem SameS.same (h : SameS B d r M x y w w1) (hk : Kept (fun _ => False) w1 w2) : SameS B d r M x y w w2 := ⟨h.disk.same hk, h.ref.keep hk (fun _ _ => id), h.kept.trans hk⟩
def SameC (r : Nat) (x y : Value) (st : Int) (W : World) : Prop := W.cell? ⟨r, 1, none⟩ = some x ∧ W.cell? ⟨r, 2, none⟩ = some y ∧ W.cell? ⟨r, 3, none⟩ = some (.bool false) ∧ W.cell? ⟨r, 4, none⟩ = some (.int .i64 st)
theorem RefAt.sameC (h : RefAt w r M x y) (hm : M.down = false) : SameC r x y M.starts w := by
  obtain ⟨xa, xc, rfl, c1, c3, c4, c2, -⟩ := h.cells
  rw [hm] at c3
  exact ⟨c1, c2, c3, c4⟩
set_option maxRecDepth 100000 in
set_option maxHeartbeats 8000000 in
theorem same_any (h : Apart B d M w) (hr : RefAt w r M x y) (hm : M.down = false) :
    Calls Tryz.prog 18 #[.pointer (some ⟨d, 0, none⟩), .pointer (some ⟨r, 0, none⟩)] w fun e w' => e = .returned (.bool true) ∧ Kept (fun _ => False) w w' := by
  have HS := Lib.hid (show SameS B d r M x y w w from ⟨h, hr, Kept.refl _ _⟩)
  have HF := Lib.hid h.files
  have HM := Lib.hid hm
  clear h hr hm
  go_enter Tryz.func18, Tryz.ntmps18
  go_upto_region 2 with (go_at_call 28; refine HF.out.mono ?_; rintro e' w1 ⟨v, rfl, hrow, hk, ho⟩; have H1 := Lib.hid (And.intro hrow (HS.out.same hk)); clear hrow hk ho)
  obtain ⟨fa, fn, fc, rfl, hfn, -⟩ := H1.out.1.form (by omega)
  have hfl : (icells (M.files.map (·.1))).length = M.files.length := by simp [icells]
  obtain rfl : fn = M.files.length := by omega
  obtain ⟨xa, xc, hxe, -, -, -, -, ⟨ya, yc, hye⟩, -⟩ := H1.out.2.ref.cells
  subst hxe hye
  have hc0 := (H1.out.2.same (Kept.refl _ _).drew).ref.sameC HM.out
  have hfew : M.files.length ≤ 100 := (let ⟨R, _, h2⟩ := H1.out.2.ref; h2.few : M.files.length ≤ 100)
  obtain ⟨nl, hnl⟩ : ∃ nl, M.files.length = nl := ⟨_, rfl⟩
  obtain ⟨nz, hnz⟩ : ∃ nz, (expandL M.loose).length = nz := ⟨_, rfl⟩
  rw [hnl, hnz] at hc0
  simp only [hnl]
  refine wp_region_held_drew (S := SameC r (.slice xa nl xc) (.slice ya nz yc) M.starts) (by kernel_rfl) hc0 (fun hS0 => ?_)
  have H2 := Lib.hid (And.intro (H1.out.1.kept (Kept.refl (fun _ => False) w1).drew (fun _ _ => id)) (H1.out.2.same (Kept.refl _ _).drew))
  generalize World.drew w1 = W0 at *
  have hlo := loose_ap H2.out.2.disk
  rw [hnz] at hlo
  rw [hnl] at hfew
  have HLO := Lib.hid hlo
  have hup := up_ap H2.out.2.disk (b := true) (by rw [HM.out]; rfl)
  have z0 : ((nl : Int) != (nl : Int)) = false := by simp
  have z1 : ((nz : Int) != (nz : Int)) = false := by simp
  have z2 : ((M.cap - M.total : Int) != (M.cap - M.total : Int)) = false := by simp
  have z3 : (M.starts != M.starts) = false := by simp
  clear hfn hfl HF hc0 HS H1 hlo hup
  refine tk 0 rfl (fun _ _ _ h => h) hS0 ?_
  refine tk 1 rfl (fun _ _ _ h => h) hS0 ?_
  refine tk 2 rfl (fun _ _ _ h => h) hS0 ?_
  refine tk 3 rfl (fun _ _ _ h => h) hS0 ?_
  refine tk 4 rfl (fun _ _ _ h => h) hS0 ?_
  refine tk 5 rfl (fun _ _ _ h => h) hS0 ?_ (hy := by (refine Or.inl ⟨by rfl, fun w hSw => ?_⟩; unfold SameC at hSw; go_simp; (try with_reducible rfl)))
  refine tk 6 rfl (fun _ _ _ h => h) hS0 ?_
  refine tk 7 rfl (fun _ _ _ h => h) hS0 ?_
  refine tk 8 rfl (fun _ _ _ h => h) hS0 ?_
  refine tk 9 rfl (fun _ _ _ h => h) hS0 ?_
  refine tk 11 rfl (fun _ _ _ h => h) hS0 ?_
  refine tk 12 rfl (fun _ _ _ h => h) hS0 ?_
  refine tk 13 rfl (fun _ _ _ h => h) hS0 ?_
  refine tk 14 rfl (fun _ _ _ h => h) hS0 ?_ (hy := by (refine Or.inl ⟨by rfl, fun w hSw => ?_⟩; unfold SameC at hSw; go_simp; (try with_reducible rfl)))
  refine tk 15 rfl (fun _ _ _ h => h) hS0 ?_
  refine rd1 10 (fun K hK => ?_)
  go_simp
  refine HLO.out.mono ?_
  rintro e' w3 ⟨rfl, hk3⟩
  have H3 := Lib.hid (And.intro (H2.out.1.kept hk3 (fun _ _ => id)) (H2.out.2.same hk3))
  have hS3 := H3.out.2.ref.sameC HM.out
  rw [hnl, hnz] at hS3
  have HFR := Lib.hid (free_ap H3.out.2.disk)
  clear hk3 HLO H2
  refine hK.out _ _ hS3 (fun _ => ?_)
  clear hK K
  try simp only [lyA, lyB, lyC, lyD]
  refine tk 16 rfl (fun _ _ _ h => h) hS3 ?_
  refine tk 17 rfl (fun _ _ _ h => h) hS3 ?_
  refine tk 18 rfl (fun _ _ _ h => h) hS3 ?_
  refine tk 19 rfl (fun _ _ _ h => h) hS3 ?_
  refine tk 21 rfl (fun _ _ _ h => h) hS3 ?_
  refine rd1 20 (fun K hK => ?_)
  go_simp
  refine HFR.out.mono ?_
  rintro e' w4 ⟨rfl, hk4⟩
  have H4 := Lib.hid (And.intro (H3.out.1.kept hk4 (fun _ _ => id)) (H3.out.2.same hk4))
  have hS4 := H4.out.2.ref.sameC HM.out
  rw [hnl, hnz] at hS4
  have HFR2 := Lib.hid (free_at H4.out.2.ref)
  have HUP := Lib.hid (up_ap H4.out.2.disk (b := true) (by rw [HM.out]; rfl))
  have HST := Lib.hid (starts_ap H4.out.2.disk rfl)
  clear hk4 HFR H3
  refine hK.out _ _ hS4 (fun _ => ?_)
  clear hK K
  try simp only [lyA, lyB, lyC, lyD]
  refine rd1 22 (fun K hK => ?_)
  go_simp
  refine HFR2.out.mono ?_
  rintro e' w5 ⟨rfl, rfl⟩
  refine hK.out _ _ hS4 (fun _ => ?_)
  clear hK K
  try simp only [lyA, lyB, lyC, lyD]
  refine tk 23 rfl (fun _ _ _ h => h) hS4 ?_
  refine tk 24 rfl (fun _ _ _ h => h) hS4 ?_
  refine tk 25 rfl (fun _ _ _ h => h) hS4 ?_
  refine tk 26 rfl (fun _ _ _ h => h) hS4 ?_
  refine tk 28 rfl (fun _ _ _ h => h) hS4 ?_
  refine tk 29 rfl (fun _ _ _ h => h) hS4 ?_
  refine tk 30 rfl (fun _ _ _ h => h) hS4 ?_
  refine tk 31 rfl (fun _ _ _ h => h) hS4 ?_ (hy := by (refine Or.inl ⟨by rfl, fun w hSw => ?_⟩; unfold SameC at hSw; go_simp; (try with_reducible rfl)))
  refine rd1 27 (fun K hK => ?_)
  go_simp
  refine HUP.out.mono ?_
  rintro e' w5 ⟨rfl, rfl⟩
  refine hK.out _ _ hS4 (fun _ => ?_)
  clear hK K
  try simp only [lyA, lyB, lyC, lyD]
  refine tk 32 rfl (fun _ _ _ h => h) hS4 ?_
  refine tk 33 rfl (fun _ _ _ h => h) hS4 ?_
  refine tk 34 rfl (fun _ _ _ h => h) hS4 ?_
  refine tk 35 rfl (fun _ _ _ h => h) hS4 ?_
  refine tk 37 rfl (fun _ _ _ h => h) hS4 ?_
  refine tk 38 rfl (fun _ _ _ h => h) hS4 ?_
  refine tk 39 rfl (fun _ _ _ h => h) hS4 ?_
  refine tk 40 rfl (fun _ _ _ h => h) hS4 ?_ (hy := by (refine Or.inl ⟨by rfl, fun w hSw => ?_⟩; unfold SameC at hSw; go_simp; (try with_reducible rfl)))
  refine rd1 36 (fun K hK => ?_)
  go_simp
  refine HST.out.mono ?_
  rintro e' w5 ⟨rfl, rfl⟩
  refine hK.out _ _ hS4 (fun _ => ?_)
  clear hK K
  try simp only [lyA, lyB, lyC, lyD]
  refine tk 41 rfl (fun _ _ _ h => h) hS4 ?_
  refine tk 42 rfl (fun _ _ _ h => h) hS4 ?_
  refine wpAnyH_done (by kernel_rfl) ?_ _
  clear HFR2 HUP HST hS0 hS3
  obtain ⟨hx1, hx2, hx3, hx4⟩ := hS4
  go_wp2_with fail
  go_loopw [6] (fun z wr => ∃ i : Nat, i ≤ nl ∧ z = .int .i64 (i : Int) ∧ Hid (Row wr 3 1 (.slice fa nl fc) (icells (M.files.map (·.1))) ∧ SameS B d r M (.slice xa M.files.length xc) (.slice ya (expandL M.loose).length yc) w wr)) (fun z _ => nl - (intOf z).toNat)
  case atStart => exact ⟨0, Nat.zero_le _, rfl, Lib.hid (by rw [← hnl]; exact H4.out)⟩
  case round =>
    obtain ⟨i, hi, rfl, HI⟩ := hrel
    by_cases hlt : i < nl
    · obtain ⟨y1, y2⟩ := dec_gtr hlt
      obtain ⟨p, hp⟩ : ∃ p, M.files[i]? = some p := ⟨_, List.getElem?_eq_getElem (by omega)⟩
      clear hx1 hx2 hx3 hx4 H4
      go_upto_region 7 with fail
      have HJ := Lib.hid (And.intro (HI.out.1.kept (Kept.refl (fun _ => False) _).drew (fun _ _ => id)) (HI.out.2.same (Kept.refl _ _).drew))
      clear HI
      obtain ⟨xa', xc', hq, hx1, hx3, -, -, -, hcells⟩ := HJ.out.2.ref.cells
      simp only [Value.slice.injEq] at hq
      obtain ⟨rfl, -, rfl⟩ := hq
      obtain ⟨g, rfl, q0, q1⟩ := hcells i p hp
      obtain ⟨fg, fo, rfl, f0⟩ := view_int HJ.out.1.view (i := i) (p := p.1) (by rw [List.getElem?_map, hp]; rfl)
      have hgt : AM.get M.files p.1 = some p.2 := (AM.get_some HJ.out.2.disk.ok.rise).2 (List.mem_of_getElem? hp)
      have hn := (HJ.out.2.disk.ok.keys _ (List.mem_of_getElem? hp))
      obtain ⟨tb, htb⟩ : ∃ tb, strB p.2 = tb := ⟨_, rfl⟩
      have e9 : (⟨((p.2.drop 0).take p.2.length).toArray⟩ : ByteArray) = tb := by rw [List.drop_zero, List.take_length, ← htb]
      rw [htb] at q1
      rw [hnl] at hx1
      rw [HM.out] at hx3
      obtain ⟨n, hpn⟩ : ∃ n, p.1 = n := ⟨_, rfl⟩
      have HSZ := Lib.hid (fun (w5 : World) (h5 : Apart B d M w5) => (show Calls Tryz.prog 48 #[.pointer (some ⟨d, 0, none⟩), .int .i64 n] w5 _ from (let ⟨_, _, fp, h1, _⟩ := h5; hpn ▸ size_ok w5 p.1 (by omega) p.2 h1 HM.out hgt)))
      have HRD := Lib.hid (fun (w5 : World) (h5 : Apart B d M w5) => (show Calls Tryz.prog 63 #[.pointer (some ⟨d, 0, none⟩), .int .i64 n, .int .i64 0, .int .i64 (p.2.length : Int)] w5 (fun e w' => e = .returned (.tuple #[.string tb, .int .i64 0]) ∧ w5 = w') from by rw [← hpn, ← e9]; exact read_ap h5 p.1 (by omega) 0 p.2.length p.2 HM.out hgt (by omega)))
      rw [hpn] at q0 f0
      have v0 : (n != n) = false := by simp
      have v2 : (tb.toList == tb.toList) = true := by simp
      have HLT := Lib.hid hlt
      have hi5 : i ≤ 100 := by omega
      have HP := Lib.hid hp
      refine wp_region_held_drew (S := fun W => W.cell? ⟨fg, fo + i, none⟩ = some (.int .i64 n) ∧ W.cell? ⟨r, 1, none⟩ = some (.slice (some ⟨g, 0, none⟩) nl xc) ∧ W.cell? ⟨g, i * 2, none⟩ = some (.int .i64 n)) (by kernel_rfl) ⟨f0, hx1, q0⟩ (fun hS7 => ?_)
      generalize World.drew _ = W7 at *
      clear hp hgt hn e9 htb hpn hi hcells
      refine tk 0 rfl (fun _ _ _ h => h) hS7 ?_
      refine tk 1 rfl (fun _ _ _ h => h) hS7 ?_
      refine tk 2 rfl (fun _ _ _ h => h) hS7 ?_
      refine tk 3 rfl (fun _ _ _ h => h) hS7 ?_ (hy := by (refine Or.inl ⟨by rfl, fun w hSw => ?_⟩; obtain ⟨s1, s2, s3⟩ := hSw; go_simp; (try with_reducible rfl)))
      refine tk 4 rfl (fun _ _ _ h => h) hS7 ?_
      refine tk 5 rfl (fun _ _ _ h => h) hS7 ?_
      refine tk 6 rfl (fun _ _ _ h => h) hS7 ?_
      refine tk 7 rfl (fun _ _ _ h => h) hS7 ?_ (hy := by (refine Or.inl ⟨by rfl, fun w hSw => ?_⟩; obtain ⟨s1, s2, s3⟩ := hSw; go_simp; (try with_reducible rfl)))
      refine tk 8 rfl (fun _ _ _ h => h) hS7 ?_
      refine tk 9 rfl (fun _ _ _ h => h) hS7 ?_
      refine tk 10 rfl (fun _ _ _ h => h) hS7 ?_
      refine tk 11 rfl (fun _ _ _ h => h) hS7 ?_ (hy := by (refine Or.inl ⟨by rfl, fun w hSw => ?_⟩; obtain ⟨s1, s2, s3⟩ := hSw; go_simp; (try with_reducible rfl)))
      refine tk 12 rfl (fun _ _ _ h => h) hS7 ?_
      refine wpAnyH_done (by kernel_rfl) ?_ _
      have HSZ7 := Lib.hid (HSZ.out W7 HJ.out.2.disk)
      have HRD7 := Lib.hid (HRD.out W7 HJ.out.2.disk)
      clear HSZ HRD q0 f0
      go_wp2_with (first
        | (go_at_call 48; refine HSZ7.out.mono ?_; rintro e' w5 ⟨rfl, rfl⟩)
        | (go_at_call 63; refine HRD7.out.mono ?_; rintro e' w5 ⟨rfl, rfl⟩))
      go_roundw
      case rel => exact ⟨i + 1, HLT.out, by go_num, HJ⟩
      case measure => have := HLT.out; simp [intOf]; omega
    · obtain rfl : i = nl := by omega
      obtain ⟨y1, y2⟩ := dec_ler hlt
      clear hi hlt
      go_wp2_with fail
      go_ret
      exact ⟨rfl, HI.out.2.kept⟩
end
end Go.Proofs.YtlgeijbgkipliaaGreatDoor

namespace Go.Proofs.YtlgeijbgkipliaaGreatDoor
open Go.RowKit
theorem frames_short {ps : List By} (h : ∀ p ∈ ps, p.length ≤ 200) : (framesF ps).length ≤ 212 * ps.length := by
  induction ps with
  | nil => simp [framesF]
  | cons a r ih =>
    have h1 := ih (fun p hp => h p (by simp [hp]))
    have h2 := h a (by simp)
    rw [framesF_cons, List.length_append, frameF_len, List.length_cons]
    omega
theorem StepAt.form {w W : World} {r sb : Nat} {x y v x1 y1 v1 : Value} {G : SegM} {M : DiskM} (h : StepAt w r x y sb v G x1 y1 v1 M W) : ∃ va vc, v1 = .slice va G.entries.length vc := by
  obtain ⟨a, n, c, rfl, q, _⟩ := h.seg.2.1.2.form (by omega)
  rw [strV_len] at q
  exact ⟨a, c, by rw [show n = G.entries.length by omega]⟩
section
variable {w w1 w2 w' W : World} {sb r : Nat} {G : SegM} {v : Value} {x y : Value} {M M' M1 M2 : DiskM} {e : Int} {l : List By}
set_option maxRecDepth 100000 in
set_option maxHeartbeats 16000000 in
theorem rappend_any (h : SegR w r x y M sb v G) (hd : G.dead = false) (hm : M.down = false) (hs : M.starts = G.starts) (hp : Pieces M 200000000) (la : Option Addr) (lc : Nat) (hv : View w 1 (.slice la l.length lc) (strV l)) (hlB : l ≠ [] → ∀ k, (Value.slice la l.length lc).ownBlock = some k → k ≠ r ∧ k ≠ sb) (hll : l.length ≤ 10000) (hEl : G.entries.length ≤ 100000) :
    Calls Tryz.prog 20 #[.pointer (some ⟨sb, 0, none⟩), .slice la l.length lc] w fun e' w' => e' = .returned (.int .i64 (G.append M l).1) ∧ SegGoR w r x y sb v (G.append M l).2.2 (G.append M l).2.1 w' := by
  have HOV := Lib.hid (over_no h hd hm hs)
  have ho := over_not hd hm hs
  have HV := Lib.hid (show ∀ w1, Kept (fun k => k = r ∨ k = sb) w w1 → View w1 1 (.slice la l.length lc) (strV l) from fun w1 hk => by
    by_cases h0 : l = []
    · subst h0
      exact View.kept_nil hv (by omega)
    · exact hv.kept hk (fun g _ _ _ _ q => by
        rintro (rfl | rfl)
        · exact (hlB h0 _ q).1 rfl
        · exact (hlB h0 _ q).2 rfl) (by omega))
  have HO := Lib.hid (And.intro ho hp)
  have HDD := Lib.hid hd
  clear h hd hm hs hv hlB ho hp
  go_enter Tryz.func20, Tryz.ntmps20
  go_upto_region 3 with (go_at_call 67; refine HOV.out.mono ?_; rintro e' w1 ⟨rfl, hg⟩; have H1 := Lib.hid hg.stepAt; clear hg)
  obtain ⟨x1, y1, v1, hst⟩ := H1.out
  obtain ⟨va, vc, rfl⟩ := hst.form
  have HS := Lib.hid hst
  clear HOV H1 hst
  by_cases h0 : l = []
  · subst h0
    have HZ := Lib.hid (app_empty (G := G) HO.out.1)
    have HGO := Lib.hid HS.out.go
    clear HS HV
    go_wp2_with fail
    go_ret
    rw [HZ.out]
    exact ⟨rfl, HGO.out⟩
  have z0 : ((l.length : Int) == 0) = false := by
    have := List.length_pos_iff.2 h0
    simp only [beq_eq_false_iff_ne]
    omega
  have H0 := Lib.hid h0
  have hv1 := HV.out w1 HS.out.kept
  obtain ⟨la', lc', hq, hcells⟩ := hv1.texts
  simp only [Value.slice.injEq] at hq
  obtain ⟨rfl, -, rfl⟩ := hq
  have HL := Lib.hid (And.intro hv1 hcells)
  clear h0 hv1 hcells HV
  go_upto_region 5 with fail
  clear z0
  go_wp2_with fail
  go_loop [5] (fun z => ∃ i : Nat, i ≤ l.length ∧ z = .int .i64 (i : Int) ∧ Hid (∀ j p, l[j]? = some p → j < i → p.length ≤ 200)) (fun z => l.length - (intOf z).toNat)
  case atStart => exact ⟨0, Nat.zero_le _, rfl, Lib.hid (fun j p _ hj => absurd hj (Nat.not_lt_zero _))⟩
  case round =>
    obtain ⟨i, hi, rfl, HP⟩ := hrel
    by_cases hlt : i < l.length
    · obtain ⟨y1', y2'⟩ := dec_gtr hlt
      obtain ⟨p, hp⟩ : ∃ p, l[i]? = some p := ⟨_, List.getElem?_eq_getElem hlt⟩
      obtain ⟨g, off, rfl, q0⟩ := HL.out.2 i p hp
      obtain ⟨bp, hbp⟩ : ∃ bp, strB p = bp := ⟨_, rfl⟩
      have hbl : bp.size = p.length := by rw [← hbp]; exact strB_size p
      rw [hbp] at q0
      by_cases hs : 200 < p.length
      · have z1 : decide ((200 : Int) < (bp.size : Int)) = true := decide_eq_true (by omega)
        have z2 : decide (200 < bp.size) = true := decide_eq_true (by omega)
        have HZ := Lib.hid (app_long (G := G) HO.out.1 (List.mem_of_getElem? hp) hs)
        have HGO := Lib.hid HS.out.go
        clear hi hp hbp hbl hs HS
        go_wp2_with fail
        go_ret
        rw [HZ.out]
        exact ⟨rfl, HGO.out⟩
      · have z1 : decide ((200 : Int) < (bp.size : Int)) = false := decide_eq_false (by omega)
        have z2 : decide (200 < bp.size) = false := decide_eq_false (by omega)
        have HS3 : Hid (∀ j q, l[j]? = some q → j < i + 1 → q.length ≤ 200) := by
          refine Lib.hid ?_
          intro j q hq hj
          rcases Nat.lt_or_ge j i with z | z
          · exact HP.out j q hq z
          · obtain rfl : j = i := by omega
            rw [hp] at hq
            cases hq
            omega
        have HLT := Lib.hid hlt
        clear hi hp hbp hbl hs
        go_wp2_with fail
        go_round
        case rel => exact ⟨i + 1, HLT.out, by go_num, HS3⟩
        case measure => have := HLT.out; simp [intOf]; omega
    · obtain rfl : i = l.length := by omega
      obtain ⟨y1', y2'⟩ := dec_ler hlt
      have HA := Lib.hid (show ∀ p ∈ l, p.length ≤ 200 from fun p hp => by
        obtain ⟨j, hj, e⟩ := List.getElem_of_mem hp
        exact HP.out j p (by rw [List.getElem?_eq_getElem hj, e]) hj)
      have d0 := HS.out.seg.2.1.1.cell (i := 0) rfl
      have d1 := HS.out.seg.2.1.1.cell (i := 1) rfl
      clear hi hlt HP
      go_upto_region 11 with fail
      clear y1' y2' d1
      have hsd := HS.out.same (Kept.refl _ _).drew
      refine wp_region_held_drew (S := fun W => W.cell? ⟨sb, 0, none⟩ = some (.pointer (some ⟨r, 0, none⟩))) (by kernel_rfl) d0 (fun hS0 => ?_)
      have hvd := HL.out.1.same ((Kept.refl (fun _ => False) w1).drew) (by omega)
      generalize World.drew w1 = Wd at *
      have HSD := Lib.hid (And.intro hsd hvd)
      clear hsd hvd d0 HS HL
      by_cases hmany : 4096 < G.entries.length + l.length
      · have z1 : decide ((4096 : Int) < (G.entries.length : Int) + (l.length : Int)) = true := decide_eq_true (by omega)
        have HZ := Lib.hid (app_many HO.out.1 H0.out HA.out hmany)
        have HGO := Lib.hid HSD.out.1.go
        clear hmany HSD
        refine tk 0 rfl (fun _ _ _ h => h) hS0 ?_
        refine tk 1 rfl (fun _ _ _ h => h) hS0 ?_
        refine tk 2 rfl (fun _ _ _ h => h) hS0 ?_
        refine tk0 3 rfl (fun _ _ _ h => h) hS0 ?_
        refine tk0 4 rfl (fun _ _ _ h => h) hS0 ?_
        refine tk0 5 rfl (fun _ _ _ h => h) hS0 ?_
        refine tk0 6 rfl (fun _ _ _ h => h) hS0 ?_
        refine tk0 7 rfl (fun _ _ _ h => h) hS0 ?_
        refine tk0 8 rfl (fun _ _ _ h => h) hS0 ?_
        refine tk0 9 rfl (fun _ _ _ h => h) hS0 ?_
        refine tk0 10 rfl (fun _ _ _ h => h) hS0 ?_
        refine tk0 11 rfl (fun _ _ _ h => h) hS0 ?_
        refine tk 12 rfl (fun _ _ _ h => h) hS0 ?_
        refine wpAnyH_done (by kernel_rfl) ?_ _
        go_wp2_with fail
        go_ret
        rw [HZ.out]
        exact ⟨rfl, HGO.out⟩
      · have z1 : decide ((4096 : Int) < (G.entries.length : Int) + (l.length : Int)) = false := decide_eq_false (by omega)
        obtain ⟨tb, htb⟩ : ∃ tb, strB (framesF l) = tb := ⟨_, rfl⟩
        have htz : tb.size = (framesF l).length := by rw [← htb]; exact strB_size _
        have hfs := frames_short HA.out
        have htx := rtext_any Wd la lc l HSD.out.2 (fun p hp => by have := HA.out p hp; omega) (by omega) (by omega)
        rw [htb] at htx
        have HTX := Lib.hid htx
        have HN := Lib.hid (And.intro hmany (And.intro htz hfs))
        clear htx htb htz hmany hfs
        refine tk 0 rfl (fun _ _ _ h => h) hS0 ?_
        refine tk 1 rfl (fun _ _ _ h => h) hS0 ?_
        refine tk 2 rfl (fun _ _ _ h => h) hS0 ?_
        refine tk 3 rfl (fun _ _ _ h => h) hS0 ?_
        refine tk 6 rfl (fun _ _ _ h => h) hS0 ?_
        refine tk 7 rfl (fun _ _ _ h => h) hS0 ?_
        refine tk 8 rfl (fun _ _ _ h => h) hS0 ?_
        refine tk 9 rfl (fun _ _ _ h => h) hS0 ?_ (hy := by (refine Or.inl ⟨by rfl, fun w hSw => ?_⟩; have hSw2 : w.cell? ⟨sb, 0, none⟩ = some (.pointer (some ⟨r, 0, none⟩)) := hSw; clear hSw; go_simp; (try with_reducible rfl)))
        refine rd1 4 (fun K hK => ?_)
        go_simp
        refine HTX.out.mono ?_
        rintro e' w3 ⟨rfl, hk3⟩
        have hst3 := HSD.out.1.same hk3
        have HVW := Lib.hid (HSD.out.2.same hk3 (by omega))
        have hS3 : w3.cell? ⟨sb, 0, none⟩ = some (.pointer (some ⟨r, 0, none⟩)) := hst3.seg.2.1.1.cell rfl
        have HFR := Lib.hid (free_at hst3.seg.1)
        have HS := Lib.hid hst3
        clear hst3 HTX hk3
        refine hK.out _ _ hS3 (fun _ => ?_)
        clear hK K
        try simp only [lyA, lyB, lyC, lyD]
        refine tk 5 rfl (fun _ _ _ h => h) hS3 ?_
        refine rd1 10 (fun K hK => ?_)
        go_simp
        refine HFR.out.mono ?_
        rintro e' w4 ⟨rfl, rfl⟩
        refine hK.out _ _ hS3 (fun _ => ?_)
        clear hK K
        try simp only [lyA, lyB, lyC, lyD]
        clear HSD hS0
        by_cases hroom : M.cap - M.total < ((framesF l).length : Nat)
        · have z2 : decide (M.cap - (M.total : Int) < (tb.size : Int)) = true := decide_eq_true (by have := HN.out.2.1; omega)
          have HZ := Lib.hid (app_full HO.out.1 H0.out HA.out HN.out.1 (Or.inl hroom))
          have HGO := Lib.hid HS.out.go
          clear hroom HS HFR
          refine tk 11 rfl (fun _ _ _ h => h) hS3 ?_
          refine tk 12 rfl (fun _ _ _ h => h) hS3 ?_
          refine wpAnyH_done (by kernel_rfl) ?_ _
          go_wp2_with fail
          go_ret
          rw [HZ.out]
          exact ⟨rfl, HGO.out⟩
        · have z2 : decide (M.cap - (M.total : Int) < (tb.size : Int)) = false := decide_eq_false (by have := HN.out.2.1; omega)
          have HROOM := Lib.hid hroom
          clear hroom HFR
          refine tk 11 rfl (fun _ _ _ h => h) hS3 ?_
          refine tk 12 rfl (fun _ _ _ h => h) hS3 ?_
          refine wpAnyH_done (by kernel_rfl) ?_ _
          clear z1 z2 hS3
          have d0 := HS.out.seg.2.1.1.cell (i := 0) rfl
          have d1 := HS.out.seg.2.1.1.cell (i := 1) rfl
          obtain ⟨fa, fc, hxe, c1, -⟩ := HS.out.seg.1.cells
          subst hxe
          have hfew : M.files.length ≤ 100 := (let ⟨R, _, h2⟩ := HS.out.seg.1; h2.few : M.files.length ≤ 100)
          have hris := (let ⟨R, _, h2⟩ := HS.out.seg.1; h2.ok.rise : AM.Rise M.files)
          have hdiv : Int.tdiv (G.entries.length : Int) 64 = ((G.entries.length / 64 : Nat) : Int) := by rw [Int.tdiv_eq_ediv_of_nonneg (by omega)]; omega
          have HC0 := Lib.hid (CountS.start (hasF M) G.entries.length H0.out)
          have HFI := Lib.hid (And.intro (fun n => find_at HS.out.seg.1 n) hris)
          clear hris
          go_wp2_with fail
          clear hdiv
          go_loop [7, 8] (fun z7 z8 => ∃ k f : Nat, k ≤ 1000000 ∧ f ≤ k ∧ z7 = .int .i64 ((M.files.length + f : Nat) : Int) ∧ z8 = .int .i64 (k : Int) ∧ Hid (CountS (hasF M) G.entries.length l k f)) (fun _ z8 => 200000 - (intOf z8).toNat)
          case atStart => exact ⟨G.entries.length / 64, 0, by omega, by omega, rfl, rfl, HC0⟩
          case round =>
            obtain ⟨k, f, hk, hfk, rfl, rfl, HC⟩ := hrel
            by_cases hlt : 64 * k < G.entries.length + l.length
            · have t1 : decide ((k : Int) * 64 < (G.entries.length : Int) + (l.length : Int)) = true := decide_eq_true (by omega)
              have HNX := Lib.hid (HC.out.next hlt)
              have hkb : k ≤ 100000 := by omega
              have hf := HFI.out.1 (1000 + (k : Int))
              rcases find_get HFI.out.2 (1000 + (k : Int)) with ⟨g1, g2⟩ | ⟨i, b, g1, g2, _⟩
              · rw [g2] at hf
                have HF := Lib.hid hf
                have hno : hasF M (1000 + (k : Int)) = false := by unfold hasF; rw [g1]; rfl
                rw [if_neg (by rw [hno]; simp)] at HNX
                clear hf g1 g2 hno hlt hk
                go_wp2_with (go_at_call 56; refine HF.out.mono ?_; rintro e' w' ⟨rfl, rfl⟩)
                go_round
                case rel => exact ⟨k + 1, f + 1, by omega, by omega, by go_num, by go_num, HNX⟩
                case measure => simp [intOf]; omega
              · rw [g2] at hf
                have HF := Lib.hid hf
                have hno : hasF M (1000 + (k : Int)) = true := by unfold hasF; rw [g1]; rfl
                rw [if_pos hno] at HNX
                have hi0 : decide ((i : Int) < 0) = false := decide_eq_false (by omega)
                clear hf g1 g2 hno hlt hk
                go_wp2_with (go_at_call 56; refine HF.out.mono ?_; rintro e' w' ⟨rfl, rfl⟩)
                go_round
                case rel => exact ⟨k + 1, f, by omega, by omega, rfl, by go_num, HNX⟩
                case measure => simp [intOf]; omega
            · have t1 : decide ((k : Int) * 64 < (G.entries.length : Int) + (l.length : Int)) = false := decide_eq_false (by omega)
              have hcnt := HC.out.last hlt
              have hkb : k ≤ 1000000 := hk
              clear hlt
              by_cases hbig : 100 < M.files.length + f
              · have z1 : decide ((100 : Int) < (M.files.length : Int) + (f : Int)) = true := decide_eq_true (by omega)
                have z2 : decide (100 < M.files.length + f) = true := decide_eq_true hbig
                have HZ := Lib.hid (app_full HO.out.1 H0.out HA.out HN.out.1 (Or.inr (by rw [← hcnt]; exact hbig)))
                have HGO := Lib.hid HS.out.go
                clear hcnt hbig hk hfk HS HFI
                go_wp2_with fail
                go_ret
                rw [HZ.out]
                exact ⟨rfl, HGO.out⟩
              · have z1 : decide ((100 : Int) < (M.files.length : Int) + (f : Int)) = false := decide_eq_false (by omega)
                have z2 : decide (100 < M.files.length + f) = false := decide_eq_false hbig
                have HFU := Lib.hid (show ¬ (M.cap - M.total < ((framesF l).length : Nat) ∨ 100 < M.files.length + makes (planC (hasF M) G.entries.length l)) from by
                  rw [← hcnt]
                  rintro (q | q)
                  · have := HROOM.out; omega
                  · exact hbig q)
                clear hcnt hbig hk hfk HFI
                obtain ⟨s1, m1, k1, w5, r1, g1, kp1, o1⟩ := texts_append (A := []) (B := G.entries) (by simp; omega) (Row.nil w3 _ _) HS.out.seg.2.1.2.view
                rw [List.nil_append] at g1
                have hK5 : Kept (fun _ => False) w3 w5 := kp1.mono (fun q _ e => by simp [Value.ownBlock] at e)
                obtain ⟨s2, m2, k2, w6, r2, g2, kp2, o2⟩ := texts_append (A := G.entries) (B := l) (by omega) g1 (HVW.out.same hK5 (by omega))
                have ho1 : ∀ q, (Value.slice s1 m1 k1).ownBlock = some q → w3.heap.size ≤ q := fun q e => (o1 q e).elim (fun e => by simp [Value.ownBlock] at e) id
                have hK6 : Kept (fun _ => False) w3 w6 := hK5.then_ kp2 (fun q hq e => by have := ho1 q e; omega)
                have ho2 : ∀ q, (Value.slice s2 m2 k2).ownBlock = some q → w3.heap.size ≤ q := fun q e => (o2 q e).elim (ho1 q) (fun e => by have := hK5.size; omega)
                obtain ⟨_, m3, _, hv3, hm3, _⟩ := g2.form (by omega)
                rw [strV_len, List.length_append] at hm3
                cases hv3
                obtain rfl : m2 = G.entries.length + l.length := by omega
                have HWH := Lib.hid (And.intro g2 (And.intro ho2 hK6))
                have hst6 := HS.out.same hK6
                have HS6 := Lib.hid hst6
                have HSZ := Lib.hid HS.out.seg.lt
                have HS3 := Lib.hid (And.intro HS.out.kept.size (fun k (q : refOwn r (.slice fa M.files.length fc) y1 k) => HS.out.seg.1.lt q))
                have HP0 := Lib.hid (AppPl.start (l := l) hst6.seg HO.out.2)
                have d5 := (hst6.seg.2.1.1.cell (i := 1) rfl)
                have d6 := ((HS.out.seg.same hK5).2.1.1.cell (i := 1) rfl)
                have hn64 : G.entries.length + l.length ≤ 4096 := by have := HN.out.1; omega
                clear g1 kp1 o1 hK5 g2 kp2 o2 hK6 ho1 ho2 hm3 hst6 HS HC
                go_wp2_with (first | (at_builtin; refine Lib.wpList_append_run _ rfl _ _ 23 23 rfl _ _ rfl rfl _ _ r1 ?_; clear r1) | (at_builtin; refine Lib.wpList_append_run _ rfl _ _ 23 23 rfl _ _ rfl rfl _ _ r2 ?_; clear r2))
                clear d5 d6
                have HLG := Lib.hid (show ∀ a b : Nat, G.entries.length ≤ a → ∀ p ∈ ((G.entries ++ l).drop a).take (b - a), p.length ≤ 200 from fun a b h p hp => HA.out p (by
                  obtain ⟨j, rfl⟩ := Nat.exists_eq_add_of_le h
                  have h1 := List.mem_of_mem_take hp
                  rw [← List.drop_drop, List.drop_left] at h1
                  exact List.mem_of_mem_drop h1))
                go_loopw [10, 11] (fun z10 z11 wr => ∃ (a j : Nat) (e1 : Int), a ≤ 4096 ∧ z10 = .int .i64 e1 ∧ z11 = .int .i64 (a : Int) ∧ Hid (a = G.entries.length + j ∧ j ≤ l.length ∧ AppPl w6 r (.slice fa M.files.length fc) y1 sb (.slice va G.entries.length vc) M G l j e1 wr)) (fun _ z11 _ => 4097 - (intOf z11).toNat)
                case atStart => exact ⟨G.entries.length, 0, 0, by omega, rfl, rfl, Lib.hid ⟨rfl, Nat.zero_le _, HP0.out⟩⟩
                case round =>
                  obtain ⟨a, j, e1, ha, rfl, rfl, HI⟩ := hrel
                  by_cases he1 : e1 = 0
                  · subst he1
                    by_cases hlt : a < G.entries.length + l.length
                    · have t1 : decide ((a : Int) < (G.entries.length : Int) + (l.length : Int)) = true := decide_eq_true (by omega)
                      obtain ⟨haj, hjl, hpl⟩ := HI.out
                      obtain ⟨Mi, b, x2, y2, v2, hb, hst, hrd⟩ := hpl.round haj (by omega) (by have := HN.out.1; omega) (by omega)
                      obtain ⟨k, hk⟩ : ∃ k, a / 64 = k := ⟨_, rfl⟩
                      rw [hk] at hrd
                      have hdiv : Int.tdiv (a : Int) 64 = (k : Int) := by rw [Int.tdiv_eq_ediv_of_nonneg (by omega)]; omega
                      have hbb : b ≤ G.entries.length + l.length ∧ a < b ∧ b ≤ a + 64 ∧ b ≤ 4096 := by unfold stepN at hb; omega
                      have hmin : min ((G.entries.length : Int) + (l.length : Int)) (64 * (k : Int) + 64) = (b : Int) := by unfold stepN at hb; omega
                      have hfd := find_at hst.seg.1 (1000 + (k : Int))
                      have d0 := hst.seg.2.1.1.cell (i := 0) rfl
                      have HK := Lib.hid (And.intro haj (And.intro hb (And.intro hbb hk)))
                      have HRD := Lib.hid hrd
                      rcases find_has hst.seg.1 (1000 + (k : Int)) with ⟨hh, hf⟩ | ⟨hh, i, hf⟩
                      · rw [hf] at hfd
                        have HF := Lib.hid hfd
                        obtain ⟨e2, M1, hcr⟩ : ∃ e2 M1, Mi.create (1000 + (k : Int)) = (e2, M1) := ⟨_, _, rfl⟩
                        have HCT := Lib.hid (create_at hst.seg.1 (1000 + (k : Int)) (by omega) (by have := hrd.few; omega) hcr)
                        have HNX := Lib.hid (fun (w8 : World) (hg : RefGo _ r x2 y2 M1 w8) => hst.next hg)
                        have hk1 : k ≤ 100 := by omega
                        by_cases h0 : e2 = 0
                        · subst h0
                          have HMD := Lib.hid (hrd.made hh M1 hcr)
                          clear hst hrd hh hf hfd hcr hk hb haj hjl hpl hbb hlt
                          go_upto_region 30 with (first
                            | (go_at_call 56; refine HF.out.mono ?_; rintro e' w' ⟨rfl, rfl⟩)
                            | (go_at_call 12; refine HCT.out.mono ?_; rintro e' w8 ⟨rfl, hg⟩; have HG8 := Lib.hid (HNX.out w8 hg); clear hg))
                          obtain ⟨x3, y3, v3, hst3⟩ := HG8.out.stepAt
                          have hrow := (HWH.out.1).kept hst3.kept (fun q e hq => by have := HWH.out.2.1 q e; have := HSZ.out; omega)
                          obtain ⟨e3, M2, hap⟩ : ∃ e3 M2, M1.append (1000 + (k : Int)) (framesF (((G.entries ++ l).drop a).take (b - a))) = (e3, M2) := ⟨_, _, rfl⟩
                          refine app_reg30 (by kernel_rfl) hst3 hrow.view (by have := HK.out.2.2.1; omega) (by have := HK.out.2.2.1; omega) (by simp) (by omega) (HLG.out a b (by have := HK.out; omega)) (by have := HK.out.2.2.1; omega) (by omega) HMD.out.1 hap (fun _ _ _ _ _ h => h) ?_
                          intros
                          rename_i w9 H9
                          have HPN := Lib.hid (HMD.out.2 e3 M2 w9 hap H9.out)
                          clear hst3 hrow hap
                          go_wp2_with fail
                          go_roundw
                          case rel => exact ⟨b, _, e3, HK.out.2.2.1.2.2.2, rfl, rfl, Lib.hid ⟨by have := HK.out; omega, by have := HK.out; omega, HPN.out⟩⟩
                          case measure => have := HK.out.2.2.1; simp [intOf]; omega
                        · have y0 : (e2 == 0) = false := by simpa using h0
                          have HBD := Lib.hid (fun (w8 : World) hg => hrd.bad hh e2 M1 w8 hcr h0 hg)
                          clear hst hrd hh hf hfd hcr hk hb haj hjl hpl hbb hlt
                          go_wp2_with (first
                            | (go_at_call 56; refine HF.out.mono ?_; rintro e' w' ⟨rfl, rfl⟩)
                            | (go_at_call 12; refine HCT.out.mono ?_; rintro e' w8 ⟨rfl, hg⟩; have HPN := Lib.hid (HBD.out w8 (HNX.out w8 hg)); clear hg))
                          go_roundw
                          case rel => exact ⟨b, _, e2, HK.out.2.2.1.2.2.2, rfl, rfl, Lib.hid ⟨by have := HK.out; omega, by have := HK.out; omega, HPN.out⟩⟩
                          case measure => have := HK.out.2.2.1; simp [intOf]; omega
                      · rw [hf] at hfd
                        have HF := Lib.hid hfd
                        have HHH := Lib.hid hh
                        have HST := Lib.hid hst
                        have hk1 : k ≤ 100 := by omega
                        have hi0 : decide ((i : Int) < 0) = false := decide_eq_false (by omega)
                        clear hst hrd hh hf hfd hk hb haj hjl hpl hbb hlt
                        go_upto_region 30 with (go_at_call 56; refine HF.out.mono ?_; rintro e' w' ⟨rfl, rfl⟩)
                        have hst3 := HST.out
                        have hrow := (HWH.out.1).kept hst3.kept (fun q e hq => by have := HWH.out.2.1 q e; have := HSZ.out; omega)
                        obtain ⟨e3, M2, hap⟩ : ∃ e3 M2, Mi.append (1000 + (k : Int)) (framesF (((G.entries ++ l).drop a).take (b - a))) = (e3, M2) := ⟨_, _, rfl⟩
                        refine app_reg30 (by kernel_rfl) hst3 hrow.view (by have := HK.out.2.2.1; omega) (by have := HK.out.2.2.1; omega) (by simp) (by omega) (HLG.out a b (by have := HK.out; omega)) (by have := HK.out.2.2.1; omega) (by omega) (by have := HRD.out.few; omega) hap (fun _ _ _ _ _ h => h) ?_
                        intros
                        rename_i w9 H9
                        have HPN := Lib.hid (HRD.out.there HHH.out e3 M2 w9 hap H9.out)
                        clear hst3 hrow hap
                        go_wp2_with fail
                        go_roundw
                        case rel => exact ⟨b, _, e3, HK.out.2.2.1.2.2.2, rfl, rfl, Lib.hid ⟨by have := HK.out; omega, by have := HK.out; omega, HPN.out⟩⟩
                        case measure => have := HK.out.2.2.1; simp [intOf]; omega
                    · have t1 : decide ((a : Int) < (G.entries.length : Int) + (l.length : Int)) = false := decide_eq_false (by omega)
                      obtain ⟨haj, hjl, hpl⟩ := HI.out
                      obtain ⟨Mi, x2, y2, v2, hst, hov⟩ := hpl.over (a := a) (Or.inr (by omega))
                      obtain ⟨e9, M9, hru⟩ : ∃ e9 M9, runAll (planC (hasF M) G.entries.length l ++ [.sync]) M = (e9, M9) := ⟨_, _, rfl⟩
                      have HTO := Lib.hid (told_any hst.seg HDD.out 0 (hov.trans hru))
                      have HAR := Lib.hid (app_run HO.out.1 H0.out HA.out HN.out.1 HFU.out hru)
                      have HTH := Lib.hid (fun (w2 : World) (q : SegGoR _ r x2 y2 sb v2 M9 { G with dead := decide (e9 = 61) } w2) => SegGoR.thru hst.kept hst.ox hst.oy hst.ov q)
                      have d0 := hst.seg.2.1.1.cell (i := 0) rfl
                      by_cases hz9 : e9 = 0
                      · subst hz9
                        clear hov hru hst haj hjl hpl hlt
                        go_wp2_with (go_at_call 68; refine HTO.out.mono ?_; rintro e' w8 ⟨rfl, hg⟩; have HG8 := Lib.hid (HTH.out _ hg); clear hg; obtain ⟨f1, ⟨vz, f2⟩, hpu⟩ := whole_put HS6.out HG8.out HS3.out.1 HS3.out.2 HSZ.out.2.1 HWH.out.1 HWH.out.2.1; have HPU := Lib.hid hpu; clear hpu)
                        generalize hW : World.setCell _ _ _ = W9
                        have H9 := HPU.out W9 hW
                        go_ret
                        rw [HAR.out]
                        exact ⟨rfl, H9⟩
                      · have y9 : (e9 == 0) = false := by simpa using hz9
                        have HZ9 := Lib.hid hz9
                        clear hov hru hst hz9 haj hjl hpl hlt
                        go_wp2_with (go_at_call 68; refine HTO.out.mono ?_; rintro e' w8 ⟨rfl, hg⟩; have HG8 := Lib.hid (HTH.out _ hg); clear hg)
                        go_ret
                        rw [HAR.out, if_neg HZ9.out]
                        exact ⟨rfl, SegGoR.thru HS6.out.kept HS6.out.ox HS6.out.oy HS6.out.ov HG8.out⟩
                  · have y0 : (e1 == 0) = false := by simpa using he1
                    obtain ⟨haj, hjl, hpl⟩ := HI.out
                    obtain ⟨Mi, x2, y2, v2, hst, hov⟩ := hpl.over (a := a) (Or.inl he1)
                    by_cases hlt : a < G.entries.length + l.length
                    · have t1 : decide ((a : Int) < (G.entries.length : Int) + (l.length : Int)) = true := decide_eq_true (by omega)
                      obtain ⟨e9, M9, hru⟩ : ∃ e9 M9, runAll (planC (hasF M) G.entries.length l ++ [.sync]) M = (e9, M9) := ⟨_, _, rfl⟩
                      have HTO := Lib.hid (told_any hst.seg HDD.out e1 (hov.trans hru))
                      have HAR := Lib.hid (app_run HO.out.1 H0.out HA.out HN.out.1 HFU.out hru)
                      have HTH := Lib.hid (fun (w2 : World) (q : SegGoR _ r x2 y2 sb v2 M9 { G with dead := decide (e9 = 61) } w2) => SegGoR.thru hst.kept hst.ox hst.oy hst.ov q)
                      have d0 := hst.seg.2.1.1.cell (i := 0) rfl
                      by_cases hz9 : e9 = 0
                      · subst hz9
                        clear hov hru hst haj hjl hpl hlt
                        go_wp2_with (go_at_call 68; refine HTO.out.mono ?_; rintro e' w8 ⟨rfl, hg⟩; have HG8 := Lib.hid (HTH.out _ hg); clear hg; obtain ⟨f1, ⟨vz, f2⟩, hpu⟩ := whole_put HS6.out HG8.out HS3.out.1 HS3.out.2 HSZ.out.2.1 HWH.out.1 HWH.out.2.1; have HPU := Lib.hid hpu; clear hpu)
                        generalize hW : World.setCell _ _ _ = W9
                        have H9 := HPU.out W9 hW
                        go_ret
                        rw [HAR.out]
                        exact ⟨rfl, H9⟩
                      · have y9 : (e9 == 0) = false := by simpa using hz9
                        have HZ9 := Lib.hid hz9
                        clear hov hru hst hz9 haj hjl hpl hlt
                        go_wp2_with (go_at_call 68; refine HTO.out.mono ?_; rintro e' w8 ⟨rfl, hg⟩; have HG8 := Lib.hid (HTH.out _ hg); clear hg)
                        go_ret
                        rw [HAR.out, if_neg HZ9.out]
                        exact ⟨rfl, SegGoR.thru HS6.out.kept HS6.out.ox HS6.out.oy HS6.out.ov HG8.out⟩
                    · have t1 : decide ((a : Int) < (G.entries.length : Int) + (l.length : Int)) = false := decide_eq_false (by omega)
                      obtain ⟨e9, M9, hru⟩ : ∃ e9 M9, runAll (planC (hasF M) G.entries.length l ++ [.sync]) M = (e9, M9) := ⟨_, _, rfl⟩
                      have HTO := Lib.hid (told_any hst.seg HDD.out e1 (hov.trans hru))
                      have HAR := Lib.hid (app_run HO.out.1 H0.out HA.out HN.out.1 HFU.out hru)
                      have HTH := Lib.hid (fun (w2 : World) (q : SegGoR _ r x2 y2 sb v2 M9 { G with dead := decide (e9 = 61) } w2) => SegGoR.thru hst.kept hst.ox hst.oy hst.ov q)
                      have d0 := hst.seg.2.1.1.cell (i := 0) rfl
                      by_cases hz9 : e9 = 0
                      · subst hz9
                        clear hov hru hst haj hjl hpl hlt
                        go_wp2_with (go_at_call 68; refine HTO.out.mono ?_; rintro e' w8 ⟨rfl, hg⟩; have HG8 := Lib.hid (HTH.out _ hg); clear hg; obtain ⟨f1, ⟨vz, f2⟩, hpu⟩ := whole_put HS6.out HG8.out HS3.out.1 HS3.out.2 HSZ.out.2.1 HWH.out.1 HWH.out.2.1; have HPU := Lib.hid hpu; clear hpu)
                        generalize hW : World.setCell _ _ _ = W9
                        have H9 := HPU.out W9 hW
                        go_ret
                        rw [HAR.out]
                        exact ⟨rfl, H9⟩
                      · have y9 : (e9 == 0) = false := by simpa using hz9
                        have HZ9 := Lib.hid hz9
                        clear hov hru hst hz9 haj hjl hpl hlt
                        go_wp2_with (go_at_call 68; refine HTO.out.mono ?_; rintro e' w8 ⟨rfl, hg⟩; have HG8 := Lib.hid (HTH.out _ hg); clear hg)
                        go_ret
                        rw [HAR.out, if_neg HZ9.out]
                        exact ⟨rfl, SegGoR.thru HS6.out.kept HS6.out.ox HS6.out.oy HS6.out.ov HG8.out⟩
end
end Go.Proofs.YtlgeijbgkipliaaGreatDoor

namespace Go.Proofs.YtlgeijbgkipliaaGreatDoor
open Go.RowKit
section
variable {w w1 w2 w' : World} {d r s sb : Nat} {M : DiskM} {B S : Nat → Prop} {x y v : Value} {G : SegM}
theorem seg_all (hs : IsSeg w s d G S) : Calls Tryz.prog 37 #[.pointer (some ⟨s, 0, none⟩), .int .i64 0, .int .i64 (G.entries.length : Int)] w fun e w' => ∃ a c, e = .returned (.tuple #[.slice a G.entries.length c, .int .i64 0]) ∧ Row w' 9 1 (.slice a G.entries.length c) (strV G.entries) ∧ Kept (fun _ => False) w w' := by
  have hfew := hs.few
  refine (seg_get hs 0 (G.entries.length : Int) (by omega) (by omega)).mono fun e w' q => ?_
  rcases q with ⟨q, -, -⟩ | ⟨i, k, hi, hk, hle, a, m, c, rfl, hrow, hkp, -⟩
  · omega
  · obtain rfl : i = 0 := by omega
    obtain rfl : k = G.entries.length := by omega
    rw [List.drop_zero, List.take_length] at hrow
    obtain ⟨_, _, _, hv, hm, _⟩ := hrow.form (by omega)
    cases hv
    rw [strV_len] at hm
    obtain rfl : m = G.entries.length := by omega
    exact ⟨a, c, rfl, hrow, hkp⟩
set_option maxRecDepth 100000 in
set_option maxHeartbeats 8000000 in
theorem alike_any {D : Bool} {st : Int} (hs : IsSeg w s d G S) (hr : IsRS w sb r ⟨G.entries, st, D⟩ v) :
    Calls Tryz.prog 17 #[.pointer (some ⟨s, 0, none⟩), .pointer (some ⟨sb, 0, none⟩)] w fun e w' => e = .returned (.bool true) ∧ Kept (fun _ => False) w w' := by
  have hfew := hs.few
  obtain ⟨va, vn, vc, rfl, hvn, -⟩ := hr.2.form (by omega)
  rw [strV_len] at hvn
  obtain rfl : vn = G.entries.length := by have : vn * 1 = G.entries.length := hvn; omega
  have d1 := hr.1.cell (i := 1) rfl
  have HG := Lib.hid (seg_all hs)
  have HH := Lib.hid (And.intro hs hr)
  clear hvn hs hr
  go_enter Tryz.func17, Tryz.ntmps17
  go_upto_region 4 with (go_at_call 37; refine HG.out.mono ?_; rintro e' w1 ⟨a, c, rfl, hrow, hk⟩; have H1 := Lib.hid (And.intro hrow hk); clear hrow hk)
  have hk1 := H1.out.2.trans (Kept.refl (fun _ => False) w1).drew
  have hrow := H1.out.1.kept (Kept.refl (fun _ => False) w1).drew (fun _ _ => id)
  have hc0 := (HH.out.2.kept hk1 (fun _ _ => id)).1.cell (i := 1) rfl
  refine wp_region_held_drew (S := fun W => W.cell? ⟨sb, 1, none⟩ = some (.slice va G.entries.length vc)) (by kernel_rfl) hc0 (fun hS0 => ?_)
  generalize World.drew w1 = W1 at *
  have HCT := Lib.hid (seg_count (HH.out.1.same hk1))
  have HTX := Lib.hid (texts_any hrow.view (HH.out.2.kept hk1 (fun _ _ => id)).2.view)
  have HK1 := Lib.hid hk1
  obtain ⟨n, hn⟩ : ∃ n, G.entries.length = n := ⟨_, rfl⟩
  have z0 : ((n : Int) == (n : Int)) = true := by simp
  clear hrow hk1 hc0 d1 HG
  simp only [hn] at *
  refine tk 0 rfl (fun _ _ _ h => h) hS0 ?_
  refine tk 1 rfl (fun _ _ _ h => h) hS0 ?_
  refine tk 2 rfl (fun _ _ _ h => h) hS0 ?_
  refine tk 3 rfl (fun _ _ _ h => h) hS0 ?_
  refine tk 5 rfl (fun _ _ _ h => h) hS0 ?_
  refine tk 6 rfl (fun _ _ _ h => h) hS0 ?_
  refine tk 7 rfl (fun _ _ _ h => h) hS0 ?_
  refine tk 8 rfl (fun _ _ _ h => h) hS0 ?_ (hy := by (refine Or.inl ⟨by rfl, fun w hSw => ?_⟩; go_simp; (try with_reducible rfl)))
  refine tk 9 rfl (fun _ _ _ h => h) hS0 ?_
  refine rd1 4 (fun K hK => ?_)
  go_simp
  refine HCT.out.mono ?_
  rintro e' w5 ⟨rfl, rfl⟩
  refine hK.out _ _ hS0 (fun _ => ?_)
  clear hK K
  try simp only [lyA, lyB, lyC, lyD]
  refine tk 10 rfl (fun _ _ _ h => h) hS0 ?_
  refine tk 11 rfl (fun _ _ _ h => h) hS0 ?_
  refine tk 12 rfl (fun _ _ _ h => h) hS0 ?_
  refine tk 13 rfl (fun _ _ _ h => h) hS0 ?_
  refine tk 14 rfl (fun _ _ _ h => h) hS0 ?_
  refine tk 15 rfl (fun _ _ _ h => h) hS0 ?_
  refine tk 16 rfl (fun _ _ _ h => h) hS0 ?_
  refine tk 17 rfl (fun _ _ _ h => h) hS0 ?_ (hy := by (refine Or.inl ⟨by rfl, fun w hSw => ?_⟩; go_simp; (try with_reducible rfl)))
  refine rd1 18 (fun K hK => ?_)
  go_simp
  refine HTX.out.mono ?_
  rintro e' w5 ⟨rfl, hk5⟩
  have HK5 := Lib.hid (HK1.out.trans hk5)
  have hS5 : w5.cell? ⟨sb, 1, none⟩ = some (.slice va n vc) := hk5.cell hS0 id
  clear hk5
  simp only [decide_true]
  refine hK.out _ _ hS5 (fun _ => ?_)
  clear hK K
  try simp only [lyA, lyB, lyC, lyD]
  refine tk 19 rfl (fun _ _ _ h => h) hS5 ?_
  refine tk 20 rfl (fun _ _ _ h => h) hS5 ?_
  refine wpAnyH_done (by kernel_rfl) ?_ _
  go_wp2_with fail
  go_ret
  exact ⟨rfl, HK5.out⟩
end
end Go.Proofs.YtlgeijbgkipliaaGreatDoor

namespace Go.Proofs.YtlgeijbgkipliaaGreatDoor
open Go.RowKit
def Og.seg (s : Nat) (G : SegM) (S : Nat → Prop) : Og := ⟨S, fun w d => IsSeg w s d G S ∧ ∀ k, S k → k < w.heap.size, fun h hk hZ => ⟨h.1.kept hk hZ, fun k q => Nat.lt_of_lt_of_le (h.2 k q) hk.size⟩, fun h hk => h.2 _ hk⟩
section
variable {w w1 w2 w' W : World} {sb r : Nat} {G : SegM} {v : Value} {x y : Value} {M M' : DiskM}
theorem SegR.kept {Z : Nat → Prop} (h : SegR w r x y M sb v G) (hk : Kept Z w w') (hZ : ∀ k, refOwn r x y k ∨ rsOwn sb v k → ¬ Z k) : SegR w' r x y M sb v G := ⟨h.1.keep hk (fun k q => hZ k (Or.inl q)), h.2.1.kept hk (fun k q => hZ k (Or.inr q)), h.2.2⟩
theorem SegR.own_lt (h : SegR w r x y M sb v G) {k : Nat} (hk : refOwn r x y k ∨ rsOwn sb v k) : k < w.heap.size := hk.elim (fun q => h.1.lt q) (fun q => h.2.1.lt q)
end
def Og.rseg (r : Nat) (x y : Value) (M : DiskM) (sb : Nat) (v : Value) (G : SegM) : Og := ⟨fun k => refOwn r x y k ∨ rsOwn sb v k, fun w _ => SegR w r x y M sb v G, fun h hk hZ => h.kept hk hZ, fun h hk => h.own_lt hk⟩
section
variable {w0 w w' : World} {d r s sb : Nat} {M M' N : DiskM} {Os : List Og} {x y v : Value} {G G' : SegM} {S : Nat → Prop}
theorem Owg.sopen (h : Owg w0 w d M Os) (hc : M.files.length + M.loose.length < 100000000) {z : Int × List By × DiskM} (hz : M.openS = z) :
    Calls Tryz.prog 15 #[.pointer (some ⟨d, 0, none⟩)] w fun e w' =>
      (z.1 ≠ 0 ∧ e = .returned (.tuple #[.pointer none, .int .i64 z.1]) ∧ Owg w0 w' d z.2.2 Os) ∨
      (z.1 = 0 ∧ ∃ s S, e = .returned (.tuple #[.pointer (some ⟨s, 0, none⟩), .int .i64 0]) ∧ Owg w0 w' d z.2.2 (Og.seg s ⟨z.2.1, M.starts, false⟩ S :: Os)) := by
  subst hz
  obtain ⟨B, h⟩ := h
  refine (segOpen_any h.ap hc h.tab).mono fun e w' q => ?_
  rcases q with ⟨h0, rfl, ha, hk⟩ | ⟨h0, sb, S, rfl, hr, hS, ha, hk⟩
  · exact Or.inl ⟨h0, rfl, B, h.to hk ha⟩
  · exact Or.inr ⟨h0, sb, S, rfl, _, h.come (x := Og.seg sb ⟨M.openS.2.1, M.starts, false⟩ S) hk ha ⟨hr, fun k q => ha.lt (Or.inr q)⟩ hS⟩
theorem Owg.sappend (h : Owg w0 w d M (Og.seg s G S :: Os)) (la : Option Addr) (lc : Nat) (l : List By) (hl : View w 1 (.slice la l.length lc) (strV l)) (ho : l ≠ [] → ∀ k, (Value.slice la l.length lc).ownBlock = some k → k < w0.heap.size) (hc : M.files.length + M.loose.length < 80000000) {z : Int × SegM × DiskM} (he : G.append M l = z) :
    Calls Tryz.prog 19 #[.pointer (some ⟨s, 0, none⟩), .slice la l.length lc] w fun e w' => e = .returned (.int .i64 z.1) ∧ ∃ S', Owg w0 w' d z.2.2 (Og.seg s z.2.1 S' :: Os) := by
  subst he
  obtain ⟨B, h⟩ := h
  have ht := tab_low h.tab0
  have h0 := h.obs _ (List.mem_cons_self ..)
  have hg : IsSeg w s d G S := h0.1.1
  have hs := (h0.2 s hg.own).2
  refine (seg_append hg h.ap (fun k q => (h0.2 k q).1) la lc hl (fun hne k q => ⟨h.old k (ho hne k q), fun z => by have := (h0.2 k z).2; have := ho hne k q; omega⟩) (by omega) h.tab ⟨by omega, by omega⟩).mono fun e w' q => ?_
  obtain ⟨he, S', h1, h2, h3, h4⟩ := q
  exact ⟨he, S', _, h.swap (x := Og.seg s (G.append M l).2.1 S') h4 h3 ⟨h1, fun k q => h3.lt (Or.inr q)⟩ h2⟩
theorem Owg.ropen {st : Int} {z : Int × List By × DiskM} {e : Ending} (h : Owg w0 w d N (Og.ref r M x y :: Os)) (hq : ROpenTo w r x y st z e w') :
    (z.1 ≠ 0 ∧ e = .returned (.tuple #[.pointer none, .int .i64 z.1]) ∧ ∃ x' y', Owg w0 w' d N (Og.ref r z.2.2 x' y' :: Os)) ∨
    (z.1 = 0 ∧ ∃ sb v x' y', e = .returned (.tuple #[.pointer (some ⟨sb, 0, none⟩), .int .i64 0]) ∧ Owg w0 w' d N (Og.rseg r x' y' z.2.2 sb v ⟨z.2.1, st, false⟩ :: Os)) := by
  rcases hq with ⟨h0, rfl, hg⟩ | ⟨h0, sb, v, rfl, h1, h2, h3, x', y', g1, g2, g3, g4, g5⟩
  · exact Or.inl ⟨h0, rfl, h.refd hg⟩
  · refine Or.inr ⟨h0, sb, v, x', y', rfl, ?_⟩
    obtain ⟨B, h⟩ := h
    have hB := fun k (q : refOwn r x y k) => ((h.obs _ (List.mem_cons_self ..)).2 k q).1
    have hS : SegR w' r x' y' z.2.2 sb v ⟨z.2.1, st, false⟩ := ⟨g1, h1, g5⟩
    have ho : ∀ k, (refOwn r x' y' k ∨ rsOwn sb v k) → refOwn r x y k ∨ w.heap.size ≤ k := by
      rintro k ((q | q | q) | (q | q))
      · exact Or.inl (Or.inl q)
      · exact (g3 k q).imp (fun q => Or.inr (Or.inl q)) id
      · exact (g4 k q).imp (fun q => Or.inr (Or.inr q)) id
      · exact Or.inr (by omega)
      · exact Or.inr (h3 k q)
    refine ⟨_, h.swap (x := Og.rseg r x' y' z.2.2 sb v ⟨z.2.1, st, false⟩) (g2.mono (fun k _ e => Or.inr (Or.inl e))) (h.ap.grow g2 (fun k _ e => hB k (Or.inl e)) (fun k q => ?_)) hS ho⟩
    rcases q with q | q
    · exact Or.inl q
    · rcases ho k q with q2 | q2
      · exact Or.inl (hB k q2)
      · exact Or.inr ⟨q2, hS.own_lt q⟩
theorem Owg.rdo (h : Owg w0 w d N (Og.rseg r x y M sb v G :: Os)) (hq : SegGoR w r x y sb v M' G' w') : ∃ x' y' v', Owg w0 w' d N (Og.rseg r x' y' M' sb v' G' :: Os) := by
  obtain ⟨B, h⟩ := h
  obtain ⟨x', y', v', h1, h2, h3, h4, h5⟩ := hq
  have hB := fun k (q : refOwn r x y k ∨ rsOwn sb v k) => ((h.obs _ (List.mem_cons_self ..)).2 k q).1
  have ho : ∀ k, (refOwn r x' y' k ∨ rsOwn sb v' k) → (refOwn r x y k ∨ rsOwn sb v k) ∨ w.heap.size ≤ k := by
    rintro k ((q | q | q) | (q | q))
    · exact Or.inl (Or.inl (Or.inl q))
    · exact (h3 k q).imp (fun q => Or.inl (Or.inr (Or.inl q))) id
    · exact (h4 k q).imp (fun q => Or.inl (Or.inr (Or.inr q))) id
    · exact Or.inl (Or.inr (Or.inl q))
    · exact (h5 k q).imp (fun q => Or.inr (Or.inr q)) id
  have hZ : ∀ k, (k = r ∨ k = sb) → refOwn r x y k ∨ rsOwn sb v k := fun k q => q.imp Or.inl Or.inl
  refine ⟨x', y', v', _, h.swap (x := Og.rseg r x' y' M' sb v' G') (h2.mono (fun k _ e => Or.inr (hZ k e))) (h.ap.grow h2 (fun k _ e => hB k (hZ k e)) (fun k q => ?_)) h1 ho⟩
  rcases q with q | q
  · exact Or.inl q
  · rcases ho k q with q2 | q2
    · exact Or.inl (hB k q2)
    · exact Or.inr ⟨q2, h1.own_lt q⟩
theorem Owg.sameD (h : Owg w0 w d M Os) (hr : RefAt w r M x y) (hm : M.down = false) :
    Calls Tryz.prog 18 #[.pointer (some ⟨d, 0, none⟩), .pointer (some ⟨r, 0, none⟩)] w fun e w' => e = .returned (.bool true) ∧ Kept (fun _ => False) w w' := by
  obtain ⟨B, h⟩ := h
  exact same_any h.ap hr hm
end
end Go.Proofs.YtlgeijbgkipliaaGreatDoor

namespace Go.Proofs.YtlgeijbgkipliaaGreatDoor
open Go.RowKit
structure Calm (M : DiskM) : Prop where
  nf : M.fails = false
  up : M.down = false
  rise : AM.Rise M.files
section
variable {M M' M1 M2 : DiskM} {e : Int} {L : List By}
theorem Calm.tick (h : Calm M) : M.tick = M := by unfold DiskM.tick; rw [if_neg (by rw [h.nf]; simp)]
theorem Calm.sinks (h : Calm M) : M.sinks = false := by unfold DiskM.sinks; rw [h.nf]; rfl
theorem Calm.has (h : Calm M) {n : Int} {b : By} (hb : AM.get M.files n = some b) : M.has n = 0 := by
  unfold DiskM.has
  rw [if_neg (by rw [h.up]; simp), if_pos (by rw [hb]; rfl)]
theorem Calm.create (h : Calm M) (n : Int) : Calm (M.create n).2 ∧ (M.create n).2.starts = M.starts := by
  unfold DiskM.create
  rw [if_neg (by rw [h.up]; simp)]
  split
  · exact ⟨h, rfl⟩
  · split
    · exact ⟨h, rfl⟩
    · split
      · exact ⟨h, rfl⟩
      · rw [if_neg (by rw [h.sinks]; simp), h.tick]
        exact ⟨⟨h.nf, h.up, AM.rise_set h.rise _ _⟩, rfl⟩
theorem Calm.append (h : Calm M) (n : Int) (s : By) : Calm (M.append n s).2 ∧ (M.append n s).2.starts = M.starts := by
  unfold DiskM.append
  split
  · exact ⟨h, rfl⟩
  · split
    · exact ⟨h, rfl⟩
    · have h2 : Calm (M.appended n s) := ⟨h.nf, h.up, AM.rise_set h.rise _ _⟩
      rw [if_neg (by rw [h.sinks]; simp), h2.tick]
      exact ⟨h2, rfl⟩
theorem Calm.truncate (h : Calm M) (n size : Int) : Calm (M.truncate n size).2 ∧ (M.truncate n size).2.starts = M.starts := by
  unfold DiskM.truncate
  split
  · exact ⟨h, rfl⟩
  · split
    · exact ⟨h, rfl⟩
    · rw [if_neg (by rw [h.sinks]; simp), h.tick]
      exact ⟨⟨h.nf, h.up, AM.rise_set h.rise _ _⟩, rfl⟩
theorem Calm.delete (h : Calm M) (n : Int) : Calm (M.delete n).2 ∧ (M.delete n).2.starts = M.starts := by
  unfold DiskM.delete
  split
  · exact ⟨h, rfl⟩
  · rw [if_neg (by rw [h.sinks]; simp), h.tick]
    exact ⟨⟨h.nf, h.up, AM.rise_del h.rise _⟩, rfl⟩
theorem Calm.sync (h : Calm M) : M.sync = (0, { M with loose := [] }) := by
  unfold DiskM.sync
  rw [if_neg (by rw [h.up]; simp), if_neg (by rw [h.sinks]; simp), h.tick]
theorem Calm.synced (h : Calm M) : Calm { M with loose := [] } := ⟨h.nf, h.up, h.rise⟩
theorem Calm.run (h : Calm M) (c : Chg) : Calm (c.run M).2 ∧ (c.run M).2.starts = M.starts := by
  cases c with
  | del n => exact h.delete n
  | cut n s => exact h.truncate n s
  | make n => exact h.create n
  | app n b => exact h.append n b
  | sync => show Calm M.sync.2 ∧ M.sync.2.starts = M.starts; rw [h.sync]; exact ⟨h.synced, rfl⟩
theorem Calm.runAll (h : Calm M) (cs : List Chg) : Calm (runAll cs M).2 ∧ (runAll cs M).2.starts = M.starts := by
  induction cs generalizing M with
  | nil => exact ⟨h, rfl⟩
  | cons c r ih =>
    obtain ⟨h1, h2⟩ := h.run c
    by_cases h0 : (c.run M).1 = 0
    · rw [runAll_cons_ok h0]
      obtain ⟨h3, h4⟩ := ih h1
      exact ⟨h3, h4.trans h2⟩
    · rw [runAll_cons_no h0]; exact ⟨h1, h2⟩
theorem Calm.dels (h : Calm M) (ks : List Int) (hn : ks.Nodup) (hk : ∀ k ∈ ks, ∃ b, AM.get M.files k = some b) :
    (Go.Proofs.YtlgeijbgkipliaaGreatDoor.runAll (ks.map .del) M).1 = 0 ∧ ∀ k, k ∉ ks → AM.get (Go.Proofs.YtlgeijbgkipliaaGreatDoor.runAll (ks.map .del) M).2.files k = AM.get M.files k := by
  induction ks generalizing M with
  | nil => exact ⟨rfl, fun _ _ => rfl⟩
  | cons a r ih =>
    obtain ⟨b, hb⟩ := hk a (by simp)
    obtain ⟨n1, n2⟩ := List.nodup_cons.1 hn
    have e : (Chg.del a).run M = (0, M.deleted a) := by
      show M.delete a = _
      unfold DiskM.delete
      rw [if_neg (by rw [h.has hb]; simp), if_neg (by rw [h.sinks]; simp), h.tick]
    have h2 : Calm (M.deleted a) := ⟨h.nf, h.up, AM.rise_del h.rise _⟩
    have hg : ∀ k, k ≠ a → AM.get (M.deleted a).files k = AM.get M.files k := fun k q => AM.get_del_other h.rise q
    rw [List.map_cons, runAll_cons_ok (by rw [e]), e]
    obtain ⟨i1, i2⟩ := ih h2 n2 (fun k q => by
      obtain ⟨b, hb⟩ := hk k (by simp [q])
      exact ⟨b, by rw [hg k (fun z => n1 (z ▸ q)), hb]⟩)
    refine ⟨i1, fun k q => ?_⟩
    simp only [List.mem_cons, not_or] at q
    rw [i2 k q.2, hg k q.1]
theorem Calm.torn (h : Calm M) (i : Nat) (L : List By) (hL : ∀ (j : Nat) b, L[j]? = some b → AM.get M.files (1000 + ((i + j : Nat) : Int)) = some b) : (Go.Proofs.YtlgeijbgkipliaaGreatDoor.runAll (tornC i L) M).1 = 0 := by
  induction L generalizing M i with
  | nil => rfl
  | cons b r ih =>
    have hb := hL 0 b rfl
    rw [Nat.add_zero] at hb
    have hr : ∀ (j : Nat) b, r[j]? = some b → AM.get M.files (1000 + ((i + 1 + j : Nat) : Int)) = some b := fun j c hc => by
      have := hL (j + 1) c (by rw [List.getElem?_cons_succ]; exact hc)
      rwa [show i + (j + 1) = i + 1 + j by omega] at this
    unfold tornC
    split
    · rename_i hlt
      have e : (Chg.cut (1000 + (i : Int)) ((framesF (fileE b)).length : Nat)).run M = (0, M.truncated (1000 + (i : Int)) (framesF (fileE b)).length) := by
        show M.truncate _ _ = _
        unfold DiskM.truncate
        rw [if_neg (by rw [h.has hb]; simp), hb, if_neg (by simp only [Option.getD_some]; omega), if_neg (by rw [h.sinks]; simp), h.tick, Int.toNat_natCast]
      have h2 : Calm (M.truncated (1000 + (i : Int)) (framesF (fileE b)).length) := ⟨h.nf, h.up, AM.rise_set h.rise _ _⟩
      rw [List.cons_append, List.nil_append, runAll_cons_ok (by rw [e]), e]
      refine ih h2 (i + 1) (fun j c hc => ?_)
      rw [← hr j c hc]
      exact AM.get_set_other h.rise _ (by omega)
    · rw [List.nil_append]
      exact ih h (i + 1) hr
theorem Calm.opens (h : Calm M) : M.openS.1 = 0 ∧ Calm M.openS.2.2 ∧ M.openS.2.2.starts = M.starts ∧ M.openS.2.2.loose = [] := by
  obtain ⟨L, hL⟩ : ∃ L, segFiles M 64 0 = L := ⟨_, rfl⟩
  have hdn : ¬ M.down = true := by rw [h.up]; simp
  have ho : M.openS = ((Go.Proofs.YtlgeijbgkipliaaGreatDoor.runAll M.openC M).1, if (Go.Proofs.YtlgeijbgkipliaaGreatDoor.runAll M.openC M).1 = 0 then segE (segFiles M 64 0) else [], (Go.Proofs.YtlgeijbgkipliaaGreatDoor.runAll M.openC M).2) := by unfold DiskM.openS; rw [if_neg hdn]
  obtain ⟨c1, c2⟩ := h.runAll M.openC
  have hget := fun (j : Nat) b (q : L[j]? = some b) => segFiles_get (f := 64) (k := 0) (j := j) (b := b) (M := M) (by rw [hL]; exact q)
  have hr : M.files.Pairwise (fun a b => a.1 < b.1) := h.rise
  have hks : (((M.files.map (·.1)).reverse.filter fun n => decide (1000 + ((L.length : Nat) : Int) ≤ n))).Nodup := by
    refine List.Pairwise.filter _ ?_
    rw [List.pairwise_reverse]
    exact (List.pairwise_map.2 hr).imp (fun q => by omega)
  obtain ⟨d1, d2⟩ := h.dels _ hks (fun k hk => by
    have := (List.mem_filter.1 hk).1
    rw [List.mem_reverse, List.mem_map] at this
    obtain ⟨p, hp, rfl⟩ := this
    exact ⟨p.2, (AM.get_some h.rise).2 hp⟩)
  have dC : dropC M (1000 + ((L.length : Nat) : Int)) = ((M.files.map (·.1)).reverse.filter fun n => decide (1000 + ((L.length : Nat) : Int) ≤ n)).map .del := rfl
  rw [← dC] at d1 d2
  obtain ⟨cd, -⟩ := h.runAll (dropC M (1000 + ((L.length : Nat) : Int)))
  have ht := cd.torn 0 L (fun j b hb => by
    have hj := (List.getElem?_eq_some_iff.1 hb).1
    rw [d2 _ (fun q => by have := (List.mem_filter.1 q).2; simp at this; omega)]
    exact hget j b hb)
  obtain ⟨ct, -⟩ := cd.runAll (tornC 0 L)
  have hrun : Go.Proofs.YtlgeijbgkipliaaGreatDoor.runAll M.openC M = (0, { (Go.Proofs.YtlgeijbgkipliaaGreatDoor.runAll (tornC 0 L) (Go.Proofs.YtlgeijbgkipliaaGreatDoor.runAll (dropC M (1000 + ((L.length : Nat) : Int))) M).2).2 with loose := [] }) := by
    unfold DiskM.openC
    rw [hL, runAll_append, runAll_append, if_pos d1, if_pos ht]
    have e : Go.Proofs.YtlgeijbgkipliaaGreatDoor.runAll [Chg.sync] (Go.Proofs.YtlgeijbgkipliaaGreatDoor.runAll (tornC 0 L) (Go.Proofs.YtlgeijbgkipliaaGreatDoor.runAll (dropC M (1000 + ((L.length : Nat) : Int))) M).2).2 = DiskM.sync _ := ra_sing _ _
    rw [e, ct.sync]
  rw [ho]
  refine ⟨by rw [hrun], c1, c2, by rw [hrun]⟩
theorem Calm.gappend (h : Calm M) (G : SegM) (l : List By) : Calm (G.append M l).2.2 := by
  unfold SegM.append
  split
  · exact h
  · split
    · exact h
    · split
      · exact h
      · split
        · exact h
        · split
          · exact h
          · exact (h.runAll _).1
end
def EndS (W w' : World) (d r s sb : Nat) (M : DiskM) (G : SegM) : Prop := ∃ x y v S, Owg W w' d M [Og.rseg r x y M sb v G, Og.seg s G S]
def HalfS (W w' : World) (d r s sb : Nat) (M : DiskM) (G : SegM) (M2 : DiskM) (G2 : SegM) : Prop := ∃ x y v S, Owg W w' d M2 [Og.rseg r x y M sb v G, Og.seg s G2 S]
section
variable {W w w' : World} {d r s sb : Nat} {M M2 : DiskM} {G G2 : SegM} {e : Int} {l : List By}
theorem EndS.old (h : EndS W w d r s sb M G) : Kept (fun _ => False) W w := by obtain ⟨x, y, v, S, h⟩ := h; exact h.old
theorem HalfS.old (h : HalfS W w d r s sb M G M2 G2) : Kept (fun _ => False) W w := by obtain ⟨x, y, v, S, h⟩ := h; exact h.old
theorem EndS.alike (h : EndS W w d r s sb M G) : Calls Tryz.prog 17 #[.pointer (some ⟨s, 0, none⟩), .pointer (some ⟨sb, 0, none⟩)] w fun e w' => e = .returned (.bool true) ∧ EndS W w' d r s sb M G := by
  obtain ⟨x, y, v, S, h⟩ := h
  have h1 := h.has (x := Og.rseg r x y M sb v G) (by simp)
  have h2 := h.has (x := Og.seg s G S) (by simp)
  exact (alike_any h2.1 h1.2.1).mono fun e w' q => ⟨q.1, x, y, v, S, h.same q.2⟩
theorem EndS.sameD (h : EndS W w d r s sb M G) (hm : M.down = false) : Calls Tryz.prog 18 #[.pointer (some ⟨d, 0, none⟩), .pointer (some ⟨r, 0, none⟩)] w fun e w' => e = .returned (.bool true) ∧ EndS W w' d r s sb M G := by
  obtain ⟨x, y, v, S, h⟩ := h
  have h1 := h.has (x := Og.rseg r x y M sb v G) (by simp)
  exact (h.sameD h1.1 hm).mono fun e w' q => ⟨q.1, x, y, v, S, h.same q.2⟩
theorem EndS.append (h : EndS W w d r s sb M G) (la : Option Addr) (lc : Nat) (hl : View w 1 (.slice la l.length lc) (strV l)) (ho : l ≠ [] → ∀ k, (Value.slice la l.length lc).ownBlock = some k → k < W.heap.size) (hc : M.files.length + M.loose.length < 80000000) (he : G.append M l = (e, G2, M2)) :
    Calls Tryz.prog 19 #[.pointer (some ⟨s, 0, none⟩), .slice la l.length lc] w fun e' w' => e' = .returned (.int .i64 e) ∧ HalfS W w' d r s sb M G M2 G2 := by
  obtain ⟨x, y, v, S, h⟩ := h
  refine (h.two.sappend la lc l hl ho hc he).mono fun e w' q => ?_
  obtain ⟨q1, S', q2⟩ := q
  exact ⟨q1, x, y, v, S', q2.two⟩
theorem HalfS.append (h : HalfS W w d r s sb M G M2 G2) (hcm : Calm M) (hs : M.starts = G.starts) (hd : G.dead = false) (hll : l.length ≤ 10) (hE : G.entries.length ≤ 4096) (la : Option Addr) (lc : Nat) (hl : View w 1 (.slice la l.length lc) (strV l)) (ho : l ≠ [] → ∀ k, (Value.slice la l.length lc).ownBlock = some k → k < W.heap.size) (hc : M.files.length + M.loose.length < 80000000) (he : G.append M l = (e, G2, M2)) :
    Calls Tryz.prog 20 #[.pointer (some ⟨sb, 0, none⟩), .slice la l.length lc] w fun e' w' => e' = .returned (.int .i64 e) ∧ EndS W w' d r s sb M2 G2 := by
  obtain ⟨x, y, v, S, h⟩ := h
  have h1 := h.has (x := Og.rseg r x y M sb v G) (by simp)
  have hr := h.ge (x := Og.rseg r x y M sb v G) (by simp) (k := r) (Or.inl (Or.inl rfl))
  have hsb := h.ge (x := Og.rseg r x y M sb v G) (by simp) (k := sb) (Or.inr (Or.inl rfl))
  have hq := rappend_any h1 hd hcm.up hs (by unfold Pieces; omega) la lc hl (fun h0 k q => by have := ho h0 k q; omega) (by omega) (by omega)
  rw [he] at hq
  refine hq.mono fun e w' q => ?_
  obtain ⟨q1, q2⟩ := q
  obtain ⟨x', y', v', q3⟩ := h.rdo q2
  exact ⟨q1, x', y', v', S, q3⟩
theorem EndS.few (h : EndS W w d r s sb M G) : G.entries.length ≤ 4096 := by
  obtain ⟨x, y, v, S, h⟩ := h
  exact (h.has (x := Og.seg s G S) (by simp)).1.few
end
end Go.Proofs.YtlgeijbgkipliaaGreatDoor
