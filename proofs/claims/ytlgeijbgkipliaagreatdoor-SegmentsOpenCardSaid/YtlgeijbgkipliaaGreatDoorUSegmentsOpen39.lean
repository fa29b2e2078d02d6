/- SegPlan3 Seg4 Seg4b Seg6 Seg7 SegCut Seg7b FrS SegLaw SegUpX SegLaid -/
import Derived.Deep.CutRange
import Derived.Deep.RegionHeld3
import Derived.Test.YtlgeijbgkipliaaGreatDoorUSegmentsOpen38
import Derived.Test.YtlgeijbgkipliaaGreatDoorUSegmentsOpen01
import Derived.Test.YtlgeijbgkipliaaGreatDoorUSegmentsOpen36
import Derived.Test.YtlgeijbgkipliaaGreatDoorUSegmentsOpen31
set_option linter.unusedVariables false
set_option linter.unusedSimpArgs false
namespace Go.Proofs.YtlgeijbgkipliaaGreatDoor
open Go.RowKit
def PlanPost (w : World) (s d : Nat) (M : DiskM) (E l : List By) (e : Ending) (w' : World) : Prop :=
  ∃ sa sm sc ea em ec, e = .returned (.tuple #[.slice sa sm sc, .slice ea em ec, .int .i64 ((makes (planC (fun n => (AM.get M.files n).isSome) E.length l) : Nat) : Int), .int .i64 (((framesF l).length : Nat) : Int)]) ∧
    Hid ((∃ zs, StP w s d (.slice sa sm sc) (.slice ea em ec) (planC (fun n => (AM.get M.files n).isSome) E.length l) zs w') ∧ Row w' 3 1 (.slice ea em ec) (natsV (endsE (E ++ l))) ∧ Kept (fun _ => False) w w' ∧ ∀ k, (Value.slice ea em ec).ownBlock = some k → w.heap.size ≤ k)
section
variable {w W W' : World} {s d : Nat} {B S : Nat → Prop} {M : DiskM} {G : SegM} {E l done rest : List By} {cs : List Chg} {sv ev lv hv : Value}
theorem plan_start (h : IsSeg w s d G S) {hv ev lv : Value} (hk : Kept (fun _ => False) (w.alloc (.cells #[.pointer (some ⟨s, 0, none⟩)] 40)) W) (hf : Row W 3 1 hv (icells (M.files.map (·.1)))) (hfo : ∀ k, hv.ownBlock = some k → w.heap.size < k)
    (hk2 : Kept (fun _ => False) W W') (he : Row W' 3 1 ev (natsV (endsE G.entries))) (heo : ∀ k, ev.ownBlock = some k → W.heap.size ≤ k) (hl : View w 1 lv (strV l)) : PlanR w s d M.files G.entries l [] l [] (.slice none 0 0) ev lv hv W' := by
  obtain ⟨⟨x, y, h1, _⟩, _⟩ := h
  have k0 : Kept (fun _ => False) w (w.alloc (.cells #[.pointer (some ⟨s, 0, none⟩)] 40)) := (Kept.refl _ _).alloc _
  have kk := (k0.trans hk).trans hk2
  have hz := hk.size
  rw [World.size_alloc] at hz
  refine ⟨PlanS.start _ _ _, hl, ⟨[], StP.start kk.size⟩, by simpa using he, hf.kept hk2 (fun _ _ => id), ((Blk.new w _ _).kept hk id).kept hk2 id, ⟨x, y, _, _, h1.kept kk id⟩, kk, fun k q => by have := heo k q; omega, fun k q => ⟨by have := hfo k q; omega, fun z => ?_⟩, h1.lt⟩
  have h1 := heo k z
  have h2 := hf.lt q
  omega
theorem plan_end (h : PlanR w s d M.files E l done [] cs sv ev lv hv W) {sa ea : Option Addr} {sm sc em ec : Nat} (e1 : sv = .slice sa sm sc) (e2 : ev = .slice ea em ec) : PlanPost w s d M E l (.returned (.tuple #[.slice sa sm sc, .slice ea em ec, .int .i64 ((makes cs : Nat) : Int), .int .i64 (((framesF done).length : Nat) : Int)])) W := by
  subst e1
  subst e2
  obtain ⟨p1, p2⟩ := h.ps.end_
  subst p2
  refine ⟨sa, sm, sc, ea, em, ec, by rw [p1], Lib.hid ⟨by rw [p1]; exact h.st, h.ends, h.kept, h.owne⟩⟩
set_option maxRecDepth 100000 in
set_option maxHeartbeats 16000000 in
theorem seg_plan (h : IsSeg w s d G S) (hd : Apart B d M w) (la : Option Addr) (lc : Nat) (hl : View w 1 (.slice la l.length lc) (strV l)) (hs : ∀ p ∈ l, p.length ≤ 200) (hf : G.entries.length + l.length ≤ 4096) (ht : Tab w) :
    Calls Tryz.prog 65 #[.pointer (some ⟨s, 0, none⟩), .slice la l.length lc] w (PlanPost w s d M G.entries l) := by
  obtain ⟨W0, hW0⟩ : ∃ W0, W0 = w.alloc (.cells #[.pointer (some ⟨s, 0, none⟩)] 40) := ⟨_, rfl⟩
  have k0 : Kept (fun _ => False) w W0 := by rw [hW0]; exact (Kept.refl _ _).alloc _
  have hz0 : W0.heap.size = w.heap.size + 1 := by rw [hW0]; simp
  have cb : W0.cell? ⟨w.heap.size, 0, none⟩ = some (.pointer (some ⟨s, 0, none⟩)) := by rw [hW0]; exact (Blk.new w _ _).cell (i := 0) rfl
  have hfiles := (hd.same k0).files
  obtain ⟨x, y, c0, _, c2, _, _, _, _, _, _, hy, _⟩ := h.cells
  have d0 := k0.cell c0 id
  have d2 := k0.cell c2 id
  have hen : (endsE G.entries).length ≤ 1000000 := by rw [endsE_len]; omega
  have HC := Lib.hid (fun W (hk : Kept (fun _ => False) W0 W) => clone_int (l := endsE G.entries) ((hy.kept k0 (fun _ _ => id)).kept hk (fun _ _ => id)).view hen)
  have HCB := Lib.hid (fun W (hk : Kept (fun _ => False) W0 W) => And.intro (hk.cell cb id) (And.intro (hk.cell d0 id) (hk.cell d2 id)))
  have HST := Lib.hid (fun W W' hv ev hk hf hfo hk2 he heo => plan_start (M := M) (l := l) (lv := .slice la l.length lc) (W := W) (W' := W') (hv := hv) (ev := ev) h hk hf hfo hk2 he heo hl)
  have HH := Lib.hid (And.intro hs (And.intro hf (And.intro ht (And.intro hd.ok.rise (And.intro h.short (And.intro h.few (show (M.files.map (·.1)).length ≤ 400000000 from by rw [List.length_map]; have := hd.ok.count; omega)))))))
  obtain ⟨ya, ym, yc, rfl, _⟩ := hy.shape
  clear hs hf ht hl hen k0 hd h c0 c2 hy
  rw [← hW0] at HST
  subst hW0
  go_enter Tryz.func65, Tryz.ntmps65
  go_wp2_with (first
    | (go_at_call 28; refine hfiles.mono ?_; rintro e W1 ⟨hv, rfl, hrow, hk1, ho1⟩; obtain ⟨ha, hm, hc, rfl, _⟩ := hrow.shape; obtain ⟨cb1, d01, d21⟩ := HCB.out _ hk1)
    | (go_at_call 100; refine (HC.out _ hk1).mono ?_; rintro e W2 ⟨ea, em, ec, rfl, hev, hk2, ho2⟩; have HS2 := Lib.hid (HST.out _ _ _ _ hk1 hrow (fun k q => by have := ho1 k q; omega) hk2 hev ho2)))
  clear hrow hev hk1 hk2 ho1 ho2 cb1 d01 d21 hfiles HC HCB cb d0 d2
  go_loopw [1, 4, 5, 6, 7] (fun lv sv ev fi sz wr => ∃ (done rest : List By) (cs : List Chg) (xa : Option Addr) (xc : Nat) (sa : Option Addr) (sm sc : Nat) (ea : Option Addr) (ec : Nat), lv = .slice xa rest.length xc ∧ sv = .slice sa sm sc ∧ ev = .slice ea (G.entries.length + done.length) ec ∧ fi = .int .i64 ((makes cs : Nat) : Int) ∧ sz = .int .i64 (((framesF done).length : Nat) : Int) ∧ Hid (PlanR w s d M.files G.entries l done rest cs sv ev lv (.slice ha hm hc) wr)) (fun lv _ _ _ _ _ => sliceLen lv)
  case atStart =>
    obtain ⟨_, _, _, e, he, _⟩ := HS2.out.ends.shape
    cases e
    rw [natsV_len, endsE_len, List.length_append, Nat.mul_one] at he
    subst he
    exact ⟨[], l, [], la, lc, none, 0, 0, ea, ec, rfl, rfl, rfl, rfl, rfl, HS2⟩
  case round =>
    obtain ⟨done, rest, cs, xa, xc, sa, sm, sc, ea, ec, rfl, rfl, rfl, rfl, rfl, HR⟩ := hrel
    by_cases h0 : rest = []
    · subst h0
      have HE := Lib.hid (plan_end HR.out rfl rfl)
      clear HR HH
      go_wp2_with fail
      exact bodyPost_ret (v := .tuple #[.slice sa sm sc, .slice ea (G.entries.length + done.length) ec, .int .i64 ((makes cs : Nat) : Int), .int .i64 (((framesF done).length : Nat) : Int)]) (by simp [results, Tryz.results65, go_sem]) rfl HE.out
    · have hrl : 0 < rest.length := List.length_pos_iff.2 h0
      have hall := congrArg List.length HR.out.ps.all
      rw [List.length_append] at hall
      have hf := HH.out.2.1
      obtain ⟨K, hK⟩ : ∃ K, K = G.entries.length + done.length := ⟨_, rfl⟩
      rw [← hK] at HR
      rw [← hK]
      obtain ⟨D, hD⟩ : ∃ D, D = K / 64 := ⟨_, rfl⟩
      obtain ⟨R, hRm⟩ : ∃ R, R = K % 64 := ⟨_, rfl⟩
      obtain ⟨q, hq⟩ : ∃ q, q = min (64 - R) rest.length := ⟨_, rfl⟩
      obtain ⟨n, hn⟩ : ∃ n : Int, n = 1000 + (D : Int) := ⟨_, rfl⟩
      have hX : (G.entries ++ done).length = K := by rw [List.length_append, hK]
      obtain ⟨part, hpart⟩ : ∃ part, part = rest.take q := ⟨_, rfl⟩
      have hpl : part.length = q := by rw [hpart, List.length_take]; omega
      have hp0 : 0 < part.length := by omega
      have hple : part.length ≤ rest.length := by omega
      have hqp : part.length = min (64 - (G.entries.length + done.length) % 64) rest.length := by omega
      have hK4 : K ≤ 4096 := by omega
      have HN := Lib.hid (plan_nums hK4 hD hRm hq hn hrl)
      subst hpl
      have hp : rest.take part.length = part := hpart.symm
      have hBG := HR.out.begins hp hp0 hple hf HH.out.1 HH.out.2.2.2.2.1 HH.out.2.2.1 n
      obtain ⟨hI, hV, hv0, hnt, hne, hXl, hps, hfr, hT, hto⟩ := hBG
      have hX64 : (G.entries ++ done).length % 64 + part.length ≤ 64 := by rw [hX]; omega
      have hend := seg_end (rndB wr n) (G.entries ++ done) (a := ea) (m := K) (c := ec) (HR.out.ends.kept (rnd_kept wr n) (fun _ _ => id)) (by omega)
      rw [hX] at hend
      have HB := Lib.hid (And.intro hI (And.intro hV (And.intro hv0 (And.intro hnt (And.intro hne (And.intro hX64 (And.intro hXl (And.intro hps (And.intro hfr (And.intro hT hto))))))))))
      have HK := Lib.hid (And.intro hK (And.intro hD (And.intro hn (And.intro h0 (And.intro hf (And.intro hp (And.intro hqp hple)))))))
      have hrun := fun w0 => HR.out.view.run_head (P := Tryz.prog) (t := 23) (by kernel_rfl) (fun _ => by kernel_rfl) part.length hple w0
      obtain ⟨fr, hfre⟩ : ∃ fr : Nat, fr = fromE (G.entries ++ done) := ⟨_, rfl⟩
      rw [← hfre] at hend
      clear hX hall hf h0 hI hV hv0 hnt hne hXl hps hfr hT hto hX64 hq hqp hpart hp0 hD hRm hn hp hrl hple
      clear hK hK4
      obtain ⟨q1, q2, q3, q4, q5, q6, q7, q8, q9, q10, y1, y2⟩ := HN.out
      go_upto_block 2 with (go_at_call 101; refine hend.mono ?_; rintro e w' ⟨rfl, rfl⟩)
      subst hfre
      refine plan_inner (code := _) (by kernel_rfl) HB.out.1 HB.out.2.1 HB.out.2.2.1 HB.out.2.2.2.1 HB.out.2.2.2.2.1 HB.out.2.2.2.2.2.1 HB.out.2.2.2.2.2.2.1 HB.out.2.2.2.2.2.2.2.1 HB.out.2.2.2.2.2.2.2.2.1 HB.out.2.2.2.2.2.2.2.2.2.1 HB.out.2.2.2.2.2.2.2.2.2.2 (fun _ _ _ _ _ h => h) ?_
      intro a2 m2 c2 vb v15 v16 v17 v49 v50 v51 v52 v53 v54 v55 v56 v57 v58 v59 v60 v61 v62 v63 v64 v65 v66 Wc HI
      clear q1 q2 q3 q4 q5 q6 q7 q8 q9 q10 y1 y2 hend hrun
      obtain ⟨hK, hD, hn, h0, hf, hp, hqp, hple⟩ := HK.out
      have hall := congrArg List.length HR.out.ps.all
      rw [List.length_append] at hall
      have n0 : -9223372036854775808 ≤ n ∧ n ≤ 9223372036854775807 := by omega
      have hl4 : l.length ≤ 4096 := by omega
      obtain ⟨HS, hb, hrow, hblk, hbox⟩ := HR.out.tail' hp HI.out
      have cn := hblk.cell (i := 0) rfl
      have hcon := contains_any hrow.view n HH.out.2.2.2.2.2.2
      obtain ⟨bb, hbb⟩ : ∃ bb, bb = (AM.get M.files n).isSome := ⟨_, rfl⟩
      rw [contains_get HH.out.2.2.2.1, ← hbb] at hcon
      have hps := HB.out.2.2.2.2.2.2.2.1
      have hrs : ∀ p ∈ rest, p.length ≤ 200 := fun p q => HH.out.1 p (by rw [HR.out.ps.all]; exact List.mem_append_right _ q)
      have hnn : n = 1000 + (((G.entries.length + done.length) / 64 : Nat) : Int) := by omega
      have hvw := HR.out.view.tail part.length hple
      have hz := fun w0 => HR.out.view.run_tail (P := Tryz.prog) (t := 23) (by kernel_rfl) (fun _ => by kernel_rfl) part.length hple w0
      have hdl : (strV rest).drop (part.length * 1) = strV (rest.drop part.length) := by unfold strV; rw [Nat.mul_one, List.map_drop]
      rw [hdl] at hvw
      have hcl : cs.length ≤ 10000 := by have := HR.out.ps.len; omega
      have hfl1 := frames_le part hps
      have hfl2 := frames_le done (fun p q => HH.out.1 p (by rw [HR.out.ps.all]; exact List.mem_append_left _ q))
      cases bb
      · obtain ⟨a1, m1, c1, W1, r1, H1⟩ := HR.out.make' hp HI.out n0 hl4
        obtain ⟨a3, m3, c3, W3, r2, hb3, HC⟩ := HR.out.close' hp HI.out n0 hl4 h0 hqp hnn hrs (mk := [.make n]) (by rw [← hbb]; rfl) H1.out
        have HPR := Lib.hid (HC.out _ hvw)
        rw [Nat.mul_one, ← List.length_drop] at HPR
        have hlen := len_r hb3 rfl
        obtain ⟨_, _, _, e, he, _⟩ := HPR.out.ends.shape
        cases e
        rw [natsV_len, endsE_len, List.length_append, Nat.mul_one] at he
        subst he
        obtain ⟨cs2, hcs2⟩ : ∃ cs2, cs2 = cs ++ [.make n] ++ [.app n (framesF part)] := ⟨_, rfl⟩
        rw [← hcs2] at HPR
        have HF := Lib.hid (plan_fin (cs := cs) (cs2 := cs2) (done := done) (part := part) hcl (by omega) (by omega) (by rw [hcs2, makes_append, makes_append]; rfl))
        have HLT := Lib.hid (show (rest.drop part.length).length < rest.length by rw [List.length_drop]; have := List.length_pos_iff.2 h0; omega)
        have HDL := Lib.hid (List.length_drop (i := part.length) (l := rest))
        clear hK hD hn h0 hf hp hqp hple n0 hl4 HS hb hrow hblk H1 HC hb3 hps hrs hnn hvw hdl hcl hfl1 hfl2 hall hbb hcs2
        obtain ⟨f1, f2, f3, f4⟩ := HF.out
        go_wp2_with (first
          | (go_at_call 104; refine hcon.mono ?_; rintro e w' ⟨rfl, rfl⟩)
          | (go_at_call 103; refine hlen.mono ?_; rintro e w' ⟨rfl, rfl⟩)
          | ((with_reducible show wpList _ _ _ (⟨some 76, _, _, _, _, _⟩ :: _) _ _); refine Lib.wpList_append_run _ rfl _ _ 112 112 rfl _ _ rfl rfl _ _ r1 ?_)
          | ((with_reducible show wpList _ _ _ (⟨some 80, _, _, _, _, _⟩ :: _) _ _); refine Lib.wpList_append_run _ rfl _ _ 112 112 rfl _ _ rfl rfl _ _ r2 ?_))
        go_roundw
        case rel => exact ⟨done ++ part, rest.drop part.length, cs2, _, _, a3, m3, c3, a2, c2, by rw [HDL.out], rfl, by rw [List.length_append], by first | rfl | rw [HF.out.2.1], by first | rfl | rw [HF.out.2.2.2], (by have q := HPR; rw [HDL.out] at q; first | exact q | (rw [List.length_append] at q; exact q))⟩
        case measure => exact HDL.out ▸ HLT.out
      · obtain ⟨a3, m3, c3, W3, r2, hb3, HC⟩ := HR.out.close' hp HI.out n0 hl4 h0 hqp hnn hrs (mk := []) (by rw [← hbb]; rfl) ⟨by rw [List.append_nil]; exact HS.out, Kept.refl _ _⟩
        have HPR := Lib.hid (HC.out _ hvw)
        rw [Nat.mul_one, ← List.length_drop] at HPR
        have hlen := len_r hb3 rfl
        obtain ⟨_, _, _, e, he, _⟩ := HPR.out.ends.shape
        cases e
        rw [natsV_len, endsE_len, List.length_append, Nat.mul_one] at he
        subst he
        obtain ⟨cs2, hcs2⟩ : ∃ cs2, cs2 = cs ++ [] ++ [.app n (framesF part)] := ⟨_, rfl⟩
        rw [← hcs2] at HPR
        have HF := Lib.hid (plan_fin (cs := cs) (cs2 := [.make 0] ++ cs) (done := done) (part := part) hcl (by omega) (by omega) (by rw [makes_append]; simp only [makes]; omega))
        have HMK := Lib.hid (show makes cs2 = makes cs by rw [hcs2, makes_append, makes_append]; rfl)
        have HLT := Lib.hid (show (rest.drop part.length).length < rest.length by rw [List.length_drop]; have := List.length_pos_iff.2 h0; omega)
        have HDL := Lib.hid (List.length_drop (i := part.length) (l := rest))
        clear hK hD hn h0 hf hp hqp hple n0 hl4 HS hb hrow hblk HC hb3 hps hrs hnn hvw hdl hcl hfl1 hfl2 hall hbb hcs2
        obtain ⟨f1, f2, f3, f4⟩ := HF.out
        clear f1 f2
        go_wp2_with (first
          | (go_at_call 104; refine hcon.mono ?_; rintro e w' ⟨rfl, rfl⟩)
          | (go_at_call 103; refine hlen.mono ?_; rintro e w' ⟨rfl, rfl⟩)
          | ((with_reducible show wpList _ _ _ (⟨some 80, _, _, _, _, _⟩ :: _) _ _); refine Lib.wpList_append_run _ rfl _ _ 112 112 rfl _ _ rfl rfl _ _ r2 ?_))
        go_roundw
        case rel => exact ⟨done ++ part, rest.drop part.length, cs2, _, _, a3, m3, c3, a2, c2, by rw [HDL.out], rfl, by rw [List.length_append], by rw [HMK.out], by first | rfl | rw [HF.out.2.2.2], (by have q := HPR; rw [HDL.out] at q; first | exact q | (rw [List.length_append] at q; exact q))⟩
        case measure => exact HDL.out ▸ HLT.out
end
end Go.Proofs.YtlgeijbgkipliaaGreatDoor

namespace Go.Proofs.YtlgeijbgkipliaaGreatDoor
open Go.RowKit
section
variable {w w1 w' W W' : World} {s d : Nat} {B S : Nat → Prop} {M : DiskM} {G : SegM} {E l : List By} {cs : List Chg} {zs : List Nat} {sv ev lv : Value}
theorem free_ap (h : Apart B d M w) : Calls Tryz.prog 46 #[.pointer (some ⟨d, 0, none⟩)] w fun e w' => e = .returned (.int .i64 (M.cap - M.total)) ∧ Kept (fun _ => False) w w' := by
  obtain ⟨_, _, fp, h1, _⟩ := h
  exact free_any w h1
def SegDo (B S : Nat → Prop) (s d : Nat) (w : World) (r : Int × SegM × DiskM) (e : Ending) (w' : World) : Prop :=
  e = .returned (.int .i64 r.1) ∧ ∃ S', IsSeg w' s d r.2.1 S' ∧ (∀ k, S' k → S k ∨ w.heap.size ≤ k) ∧ Apart (fun k => B k ∨ S' k) d r.2.2 w' ∧ Kept (fun k => ¬ B k ∨ S k) w w'
theorem SegDo.since {r : Int × SegM × DiskM} {e : Ending} (h : SegDo B S s d w1 r e w') (hk : Kept (· = s) w w1) (hs : S s) : SegDo B S s d w r e w' := by
  obtain ⟨h1, S', h2, h3, h4, h5⟩ := h
  have hz := hk.size
  exact ⟨h1, S', h2, fun k q => (h3 k q).imp id (fun q => by omega), h4, (hk.mono (fun k _ q => Or.inr (by rw [q]; exact hs))).then_ h5 (fun _ _ q => q)⟩
theorem SegDo.stay (h : IsSeg w' s d G S) (hd : Apart B d M w') (hS : ∀ k, S k → B k) (hk : Kept (· = s) w w') (x : Int) : SegDo B S s d w (x, G, M) (.returned (.int .i64 x)) w' :=
  ⟨rfl, S, h, fun _ => Or.inl, hd.fewer (fun k q => q.elim id (hS k)), hk.mono (fun k _ q => Or.inr (by rw [q]; exact h.own))⟩
theorem View.kept_nil {size : Nat} {v : Value} (h : View w size v []) (hs : 0 < size) : View w' size v [] := by
  obtain ⟨a, n, cap, rfl, h1, h2, h3, h4, h5⟩ := h
  have h0 : n = 0 := by
    rcases Nat.eq_zero_or_pos n with q | q
    · exact q
    · have := Nat.mul_pos q hs
      rw [h1] at this
      simp at this
  exact ⟨a, n, cap, rfl, h1, h2, h3, h4, fun q => by omega⟩
theorem app_ready (h : IsSeg w s d G S) (hd : Apart B d M w) (hS : ∀ k, S k → B k) (hl : View w 1 lv (strV l)) (hlB : l ≠ [] → ∀ k, lv.ownBlock = some k → B k ∧ ¬ S k) (ht : Tab w) :
    Calls Tryz.prog 64 #[.pointer (some ⟨s, 0, none⟩)] w fun e w1 => e = .returned (.int .i64 (if G.over M = true then 61 else 0)) ∧ IsSeg w1 s d { G with dead := G.over M } S ∧ Apart B d M w1 ∧ Kept (· = s) w w1 ∧ View w1 1 lv (strV l) ∧ (0 ≠ s → 1 ≠ s → Tab w1) := by
  refine (seg_ready h hd).mono ?_
  rintro e w1 ⟨rfl, h1, hk⟩
  exact ⟨rfl, h1, hd.turn hk (fun k q => by rw [q]; exact hS s h.own), hk, (by
    by_cases h0 : l = []
    · subst h0; exact hl.kept_nil (by omega)
    · exact hl.kept hk (fun g c t f _ q z => (hlB h0 g q).2 (by rw [z]; exact h.own)) (by omega)), fun n1 n2 => ht.kept hk n1 n2⟩
theorem StP.same (h : StP w s d sv ev cs zs W) (hk : Kept (fun _ => False) W W') (hs : s < W.heap.size) : StP w s d sv ev cs zs W' := by
  obtain ⟨⟨vs, h1, h2⟩, h3, h4⟩ := h
  have hz := hk.size
  refine ⟨⟨vs, h1.kept hk (fun _ _ => id), (h2.kept (fun k q => ?_)).mono (fun k q => q.imp id (fun q => ⟨q.1, by omega, q.2.2⟩))⟩, fun z hz' => ⟨(h3 z hz').1, by have := (h3 z hz').2.1; omega, (h3 z hz').2.2⟩, h4⟩
  rcases q with rfl | q
  · exact hk.block k hs id
  · exact hk.block k q.2.1 id
structure AppP (w : World) (s d : Nat) (B S : Nat → Prop) (G : SegM) (M : DiskM) (l : List By) (sv ev : Value) (W : World) : Prop where
  seg : IsSeg W s d G S
  ap : Apart (fun k => B k ∨ (w.heap.size ≤ k ∧ k < W.heap.size)) d M W
  st : ∃ zs, StP w s d sv ev (planC (fun n => (AM.get M.files n).isSome) G.entries.length l) zs W
  ends : Row W 3 1 ev (natsV (endsE (G.entries ++ l)))
  kept : Kept (fun _ => False) w W
  owne : ∀ k, ev.ownBlock = some k → w.heap.size ≤ k
  low : ∀ k, B k → k < w.heap.size
theorem AppP.same (h : AppP w s d B S G M l sv ev W) (hk : Kept (fun _ => False) W W') : AppP w s d B S G M l sv ev W' := by
  obtain ⟨h1, h2, ⟨zs, h3⟩, h4, h5, h6, h7⟩ := h
  have hz := hk.size
  have hz5 := h5.size
  exact ⟨h1.same hk, h2.grow hk (fun _ _ => False.elim) (fun k q => by
    rcases q with q | q
    · exact Or.inl (Or.inl q)
    · rcases Nat.lt_or_ge k W.heap.size with z | z
      · exact Or.inl (Or.inr ⟨q.1, z⟩)
      · exact Or.inr ⟨z, q.2⟩), ⟨zs, h3.same hk h1.lt⟩, h4.kept hk (fun _ _ => id), h5.trans hk, h6, h7⟩
theorem app_plan {e : Ending} (h : IsSeg w s d G S) (hd : Apart B d M w) (hp : PlanPost w s d M G.entries l e W) :
    ∃ sa sm sc ea em ec, e = .returned (.tuple #[.slice sa sm sc, .slice ea em ec, .int .i64 ((makes (planC (fun n => (AM.get M.files n).isSome) G.entries.length l) : Nat) : Int), .int .i64 (((framesF l).length : Nat) : Int)]) ∧ Hid (AppP w s d B S G M l (.slice sa sm sc) (.slice ea em ec) W) := by
  obtain ⟨sa, sm, sc, ea, em, ec, he, HP⟩ := hp
  obtain ⟨h1, h2, h3, h4⟩ := HP.out
  exact ⟨sa, sm, sc, ea, em, ec, he, Lib.hid ⟨h.same h3, hd.grow h3 (fun _ _ => False.elim) (fun _ q => q), h1, h2, h3, h4, fun k q => hd.lt q⟩⟩
def AppE (B S : Nat → Prop) (s d : Nat) (w : World) (G : SegM) (l : List By) (lv ev : Value) (M' : DiskM) (w' : World) : Prop :=
  ∃ xa xm xc a m c W5, w'.cell? ⟨s, 1, none⟩ = some (.slice xa xm xc) ∧ (Builtin.append_ #[23, 23] 23 #[.slice xa xm xc, lv]).run Tryz.prog w' = .ok (.slice a m c) W5 ∧
    (W5.cell? ⟨s, 1, none⟩ = some (.slice xa xm xc) ∧ (∃ y, W5.cell? ⟨s, 2, none⟩ = some y) ∧ W5.frozen? ⟨s, 1, none⟩ = false ∧ W5.frozen? ⟨s, 2, none⟩ = false) ∧
    Hid (SegDo B S s d w (0, { G with entries := G.entries ++ l, dead := false }, M') (.returned (.int .i64 0)) ((W5.setCell ⟨s, 1, none⟩ (.slice a m c)).setCell ⟨s, 2, none⟩ ev))
theorem AppP.last {r : Int × DiskM} {zs : List Nat} {e : Ending} (h : AppP w s d B S G M l sv ev W) (hst : StP w s d sv ev cs zs W) (hS : ∀ k, S k → B k) (hlv : View w 1 lv (strV l)) (hlB : ∀ k, lv.ownBlock = some k → B k ∧ ¬ S k) (hdead : G.dead = false)
    (hf : G.entries.length + l.length ≤ 4096) (hs : ∀ p ∈ l, p.length ≤ 200) (h0 : r.1 = 0) (hd : DonePost (fun k => B k ∨ (w.heap.size ≤ k ∧ k < W.heap.size)) s d G S W zs sv r e w') : AppE B S s d w G l lv ev r.2 w' := by
  obtain ⟨_, hseg, hap, hk⟩ := hd
  have hSw : ∀ k, S k → k < w.heap.size := fun k q => h.low k (hS k q)
  have hz := h.kept.size
  have hz2 := hk.size
  have hzs := hst.frozen
  have hso := hst.own
  obtain ⟨vs, hrow, _⟩ := hst.ex
  have hd0 : (G.dead || decide (r.1 = 61)) = false := by rw [hdead, h0]; rfl
  rw [hd0] at hseg
  obtain ⟨⟨x, y, b1, r1, r2, o1, o2⟩, hown, hfew, hshort⟩ := hseg
  have hv1 : View w' 1 lv (strV l) := (hlv.same h.kept (by omega)).kept hk (fun g c t f _ q z => by
    have hB := hlB g q
    have hl := h.low g hB.1
    rcases z with z | z | z | z
    · exact z (Or.inl hB.1)
    · have := (hzs g z).1; omega
    · exact hB.2 (by rw [z]; exact hown)
    · have := hso g z; omega) (by omega)
  have he1 : Row w' 3 1 ev (natsV (endsE (G.entries ++ l))) := h.ends.kept hk (fun k q z => by
    have h1 := h.owne k q
    have h2 := h.ends.lt q
    rcases z with z | z | z | z
    · exact z (Or.inr ⟨h1, h2⟩)
    · exact (hzs k z).2.2.2 q
    · have := hSw s hown; omega
    · exact h.ends.ne_row hrow (by decide) q z)
  obtain ⟨i0, hi, hz0, hz1, hz3⟩ := info_parts info_str
  obtain ⟨v1, W5, run, row1, k1, f1⟩ := r1.append_view (P := Tryz.prog) (t := 23) hv1 Tryz.underlying23 hi hz0 hz1 rfl (by omega) (by rw [hz3]; decide) (one_str l) (by rw [strV_len, strV_len]; show G.entries.length + _ ≤ _; omega) 23
  have b5 := b1.kept k1 (fun q => r1.ne_blk q b1 (by decide) rfl)
  have he5 := he1.kept k1 (fun k q z => he1.ne_row r1 (by decide) q z)
  have hz5 := k1.size
  obtain ⟨xa, xm, xc, rfl, _⟩ := r1.shape
  obtain ⟨a, m, c, rfl, _⟩ := row1.shape
  have n1 : ∀ k, (Value.slice a m c).ownBlock = some k → k ≠ s := fun k q e => row1.ne_blk q b5 (by decide) e
  have n2 : ∀ k, ev.ownBlock = some k → k ≠ s := fun k q e => he5.ne_blk q b5 (by decide) e
  have kk : Kept (· = s) W5 ((W5.setCell ⟨s, 1, none⟩ (.slice a m c)).setCell ⟨s, 2, none⟩ ev) := (kept_cell W5 s 1 _).trans (kept_cell _ s 2 _)
  refine ⟨xa, xm, xc, a, m, c, W5, b1.cell (i := 1) rfl, run, ⟨b5.cell (i := 1) rfl, ⟨y, b5.cell (i := 2) rfl⟩, b5.free 1, b5.free 2⟩, Lib.hid ⟨rfl, fun k => k = s ∨ (Value.slice a m c).ownBlock = some k ∨ ev.ownBlock = some k, ⟨⟨.slice a m c, ev, (b5.set 1 _).set 2 _, ?_, ?_, fun k q => Or.inr (Or.inl q), fun k q => Or.inr (Or.inr q)⟩, Or.inl rfl, ?_, ?_⟩, ?_, ?_, ?_⟩⟩
  · show Row _ _ _ _ (strV (G.entries ++ l))
    rw [strV_append]
    exact row1.kept kk (fun k q e => n1 k q e)
  · exact he5.kept kk (fun k q e => n2 k q e)
  · show (G.entries ++ l).length ≤ 4096
    rw [List.length_append]; exact hf
  · intro p hp
    rcases List.mem_append.1 hp with q | q
    · exact hshort p q
    · exact hs p q
  · intro k q
    rcases q with rfl | q | q
    · exact Or.inl hown
    · rcases f1 k q with z | z
      · exact Or.inl (o1 k z)
      · exact Or.inr (by omega)
    · exact Or.inr (h.owne k q)
  · refine ((hap.grow k1 (fun k _ q => Or.inl (hS k (o1 k q))) (B' := fun k => (B k ∨ (w.heap.size ≤ k ∧ k < W.heap.size)) ∨ (w'.heap.size ≤ k ∧ k < W5.heap.size)) (fun k q => q)).turn kk (fun k q => by rw [q]; exact Or.inl (Or.inl (hS s hown)))).fewer (fun k q => ?_)
    rcases q with q | rfl | q | q
    · exact Or.inl (Or.inl q)
    · exact Or.inl (Or.inl (hS _ hown))
    · rcases f1 k q with z | z
      · exact Or.inl (Or.inl (hS k (o1 k z)))
      · exact Or.inr ⟨z, row1.lt q⟩
    · exact Or.inl (Or.inr ⟨h.owne k q, h.ends.lt q⟩)
  · refine (((h.kept.mono (fun _ _ => False.elim)).then_ hk (fun i hi z => ?_)).then_ k1 (fun i _ z => Or.inr (o1 i z))).then_ kk (fun i _ z => Or.inr (by rw [z]; exact hown))
    rcases z with z | z | z | z
    · exact Or.inl (fun q => z (Or.inl q))
    · have := (hzs i z).1; omega
    · exact Or.inr (by rw [z]; exact hown)
    · have := hso i z; omega
theorem AppP.done (h : AppP w s d B S G M l sv ev W) (hS : ∀ k, S k → B k) (hlv : View w 1 lv (strV l)) (hlB : ∀ k, lv.ownBlock = some k → B k ∧ ¬ S k) (hdead : G.dead = false)
    (hf : G.entries.length + l.length ≤ 4096) (hs : ∀ p ∈ l, p.length ≤ 200) (hc : M.files.length + M.loose.length < 200000000) :
    ∃ r : Int × DiskM, Hid (r = runAll (planC (fun n => (AM.get M.files n).isSome) G.entries.length l ++ [.sync]) M) ∧ Hid (Calls Tryz.prog 66 #[.pointer (some ⟨s, 0, none⟩), sv] W fun e w' => e = .returned (.int .i64 r.1) ∧
      ((r.1 ≠ 0 ∧ SegDo B S s d w (r.1, { G with dead := decide (r.1 = 61) }, r.2) (.returned (.int .i64 r.1)) w') ∨ (r.1 = 0 ∧ AppE B S s d w G l lv ev r.2 w'))) := by
  obtain ⟨zs, hst⟩ := h.st
  obtain ⟨vs, hrow, hsteps⟩ := hst.ex
  have hSw : ∀ k, S k → k < w.heap.size := fun k q => h.low k (hS k q)
  have hz := h.kept.size
  have hzs := hst.frozen
  have hso := hst.own
  have hown := h.seg.own
  have hpl := planC_len (fun n => (AM.get M.files n).isSome) l.length G.entries.length l (Nat.le_refl _)
  refine ⟨_, Lib.hid rfl, Lib.hid ?_⟩
  refine (seg_done h.seg h.ap (zs := zs) (fun k q => ⟨Or.inl (hS k q), fun z => ?_⟩) hrow hsteps (fun k q => ?_) (fun k q => ⟨Or.inr ⟨hso k q, hrow.lt q⟩, fun z => (hzs k z).2.2.1 q, fun z => ?_, fun z => ?_⟩) (by omega) (fun z q => (hzs z q).2.1)).mono ?_
  · have := hSw k q; have := (hzs k z).1; omega
  · rcases q with rfl | q
    · exact Or.inl (hS _ hown)
    · exact Or.inr ⟨q.1, q.2.1⟩
  · have := hSw k z; have := hso k q; omega
  · rcases z with rfl | z
    · have := hSw _ hown; have := hso _ q; omega
    · exact z.2.2.1 q
  · intro e w' hd
    refine ⟨hd.1, ?_⟩
    by_cases h0 : (runAll (planC (fun n => (AM.get M.files n).isSome) G.entries.length l ++ [.sync]) M).1 = 0
    · exact Or.inr ⟨h0, h.last hst hS hlv hlB hdead hf hs h0 hd⟩
    · obtain ⟨_, hseg, hap, hk⟩ := hd
      rw [hdead, Bool.false_or] at hseg
      refine Or.inl ⟨h0, rfl, S, hseg, fun _ => Or.inl, hap.fewer (fun k q => Or.inl (q.elim id (hS k))), (h.kept.mono (fun _ _ => False.elim)).then_ hk (fun i hi z => ?_)⟩
      rcases z with z | z | z | z
      · exact Or.inl (fun q => z (Or.inl q))
      · have := (hzs i z).1; omega
      · exact Or.inr (by rw [z]; exact hown)
      · have := hso i z; omega
end
end Go.Proofs.YtlgeijbgkipliaaGreatDoor

namespace Go.Proofs.YtlgeijbgkipliaaGreatDoor
open Go.RowKit
section
variable {w : World} {s d : Nat} {B S : Nat → Prop} {M : DiskM} {G : SegM} {l : List By}
theorem append_long (ho : G.over M = false) {i : Nat} {p : By} (hp : l[i]? = some p) (h : 200 < p.length) : G.append M l = (3, G, M) := by
  have hm := List.mem_of_getElem? hp
  unfold SegM.append
  rw [if_neg (by rw [ho]; simp), if_neg (by rintro rfl; cases hm), if_pos (List.any_eq_true.2 ⟨p, hm, decide_eq_true h⟩)]
theorem append_short (ho : G.over M = false) (h0 : l ≠ []) (hs : ∀ p ∈ l, p.length ≤ 200) : G.append M l =
    if 4096 - G.entries.length < l.length then (60, G, M)
    else if M.cap - M.total < ((framesF l).length : Nat) ∨ 100 < M.files.length + makes (planC (fun n => (AM.get M.files n).isSome) G.entries.length l) then (60, G, M)
    else ((runAll (planC (fun n => (AM.get M.files n).isSome) G.entries.length l ++ [.sync]) M).1,
      { G with entries := if (runAll (planC (fun n => (AM.get M.files n).isSome) G.entries.length l ++ [.sync]) M).1 = 0 then G.entries ++ l else G.entries, dead := decide ((runAll (planC (fun n => (AM.get M.files n).isSome) G.entries.length l ++ [.sync]) M).1 = 61) },
      (runAll (planC (fun n => (AM.get M.files n).isSome) G.entries.length l ++ [.sync]) M).2) := by
  conv => lhs; unfold SegM.append
  rw [if_neg (by rw [ho]; simp), if_neg h0, if_neg]
  intro h
  obtain ⟨p, hm, hp⟩ := List.any_eq_true.1 h
  have := of_decide_eq_true hp
  have := hs p hm
  omega
theorem seg_nums {a b : Nat} (ha : a ≤ 4096) (hb : b ≤ 9223372036854775807) : wrap64 (4096 - (a : Int)) = 4096 - (a : Int) ∧ decide (4096 - (a : Int) < (b : Int)) = decide (4096 - a < b) := by
  refine ⟨IntWalk.wrap64_in _ (by omega), ?_⟩
  by_cases h : 4096 - a < b
  · rw [decide_eq_true h, decide_eq_true (by omega)]
  · rw [decide_eq_false h, decide_eq_false (by omega)]
theorem seg_nums2 {a b : Nat} (ha : a ≤ 400000000) (hb : b ≤ 400000000) : wrap64 ((a : Int) + (b : Int)) = (a : Int) + (b : Int) ∧ decide ((100 : Int) < (a : Int) + (b : Int)) = decide (100 < a + b) := by
  refine ⟨IntWalk.wrap64_in _ (by omega), ?_⟩
  by_cases h : 100 < a + b
  · rw [decide_eq_true h, decide_eq_true (by omega)]
  · rw [decide_eq_false h, decide_eq_false (by omega)]
theorem AppP.stay {sv ev : Value} {w1 W : World} (h : AppP w1 s d B S G M l sv ev W) (hS : ∀ k, S k → B k) (x : Int) : SegDo B S s d w1 (x, G, M) (.returned (.int .i64 x)) W :=
  ⟨rfl, S, h.seg, fun _ => Or.inl, h.ap.fewer (fun k q => Or.inl (q.elim id (hS k))), h.kept.mono (fun _ _ => False.elim)⟩
theorem files_row {w : World} {a : Option Addr} {m c : Nat} (h : Row w 3 1 (.slice a m c) (icells (M.files.map (·.1)))) : m = M.files.length := by
  obtain ⟨_, _, _, e, hm, _⟩ := h.form (by omega)
  cases e
  rw [Nat.mul_one] at hm
  rw [hm]
  unfold icells
  rw [List.length_map, List.length_map]
set_option maxRecDepth 100000 in
set_option maxHeartbeats 8000000 in
theorem seg_append (h : IsSeg w s d G S) (hd : Apart B d M w) (hS : ∀ k, S k → B k) (la : Option Addr) (lc : Nat) (hl : View w 1 (.slice la l.length lc) (strV l)) (hlB : l ≠ [] → ∀ k, (Value.slice la l.length lc).ownBlock = some k → B k ∧ ¬ S k) (hc : M.files.length + M.loose.length < 200000000) (ht : Tab w) (hts : 0 ≠ s ∧ 1 ≠ s) :
    Calls Tryz.prog 19 #[.pointer (some ⟨s, 0, none⟩), .slice la l.length lc] w (SegDo B S s d w (G.append M l)) := by
  have hr := app_ready h hd hS hl hlB ht
  have hown := h.own
  by_cases ho : G.over M = true
  · have e : G.append M l = (61, { G with dead := true }, M) := by unfold SegM.append; rw [if_pos ho]
    rw [e]
    simp only [ho, if_true] at hr
    clear h hd hl hlB ht e ho
    go_enter Tryz.func19, Tryz.ntmps19
    go_wp2_with (go_at_call 64; refine hr.mono ?_; rintro e w1 ⟨rfl, h1, hd1, hk1, hv1, ht1⟩; have HE := Lib.hid (SegDo.stay h1 hd1 hS hk1 61); clear h1 hd1 hk1 hv1 ht1)
    go_ret
    exact HE.out
  · have ho : G.over M = false := by simpa using ho
    have hdead : G.dead = false := by
      unfold SegM.over at ho
      cases hq : G.dead
      · rfl
      · rw [hq] at ho; simp at ho
    simp only [ho, Bool.false_eq_true, if_false] at hr
    have hfew := h.few
    have hl0 := hl
    obtain ⟨_, n, cap, hv, hn1, hn2, hn3, _⟩ := hl0
    cases hv
    unfold maxLen at hn3
    by_cases h0 : l = []
    · have e : G.append M l = (0, G, M) := by unfold SegM.append; rw [if_neg (by rw [ho]; simp), if_pos h0]
      rw [e]
      subst h0
      clear h hd hl hlB ht e ho hn1 hn2 hn3 hfew
      go_enter Tryz.func19, Tryz.ntmps19
      go_wp2_with (go_at_call 64; refine hr.mono ?_; rintro e w1 ⟨rfl, h1, hd1, hk1, hv1, ht1⟩; rw [← hdead] at h1; have HE := Lib.hid (SegDo.stay h1.eta hd1 hS hk1 0); clear h1 hd1 hk1 hv1 ht1)
      go_ret
      exact HE.out
    · have hpos : 0 < l.length := List.length_pos_iff.2 h0
      have y1 : ((l.length : Int) == 0) = false := by simpa using h0
      have y2 : decide ((l.length : Int) = 0) = false := decide_eq_false (by omega)
      have y3 : decide (l.length = 0) = false := decide_eq_false (by omega)
      have y4 : (l.length == 0) = false := by simpa using h0
      have HG := Lib.hid (And.intro ho (And.intro h0 (And.intro (hlB h0) (And.intro hts (And.intro hdead (And.intro hc (And.intro hfew (show l.length ≤ 9223372036854775807 by omega))))))))
      clear h hd hl hlB ht hn1 hn2 hn3 hfew h0 hpos hts hc
      go_enter Tryz.func19, Tryz.ntmps19
      go_wp2_with (go_at_call 64; refine hr.mono ?_; rintro e w1 ⟨rfl, h1, hd1, hk1, hv1, ht1⟩; rw [← hdead] at h1; have HA : Hid (IsSeg w1 s d G S ∧ Apart B d M w1 ∧ Kept (· = s) w w1 ∧ View w1 1 (.slice la l.length lc) (strV l) ∧ Tab w1) := Lib.hid ⟨h1, hd1, hk1, hv1, ht1 HG.out.2.2.2.1.1 HG.out.2.2.2.1.2⟩; clear h1 hd1 hk1 hv1 ht1)
      clear hr y1 y2 y3 y4
      obtain ⟨x, y, c0, c1, _, _, _, _, _, _, hx, _, _, _⟩ := HA.out.1.cells
      obtain ⟨xa, xm, xc, rfl, hxm, _⟩ := hx.shape
      rw [strV_len, Nat.mul_one] at hxm
      subst hxm
      clear hx
      go_loop [25] (fun x => ∃ i : Nat, i ≤ l.length ∧ x = .int .i64 (i : Int) ∧ Hid (∀ j p, l[j]? = some p → j < i → p.length ≤ 200)) (fun x => l.length - (intOf x).toNat)
      case atStart => exact ⟨0, Nat.zero_le _, rfl, Lib.hid (fun j p _ hj => by omega)⟩
      case round =>
        obtain ⟨i, hi, rfl, HS⟩ := hrel
        by_cases hlt : i < l.length
        · have y1 : decide ((i : Int) < (l.length : Int)) = true := decide_eq_true (by omega)
          have y2 : decide (i < l.length) = true := decide_eq_true hlt
          obtain ⟨p, hp⟩ : ∃ p, l[i]? = some p := ⟨_, List.getElem?_eq_getElem hlt⟩
          obtain ⟨_, _, _, ev, _, _, _, _, hcv⟩ := HA.out.2.2.2.1
          cases ev
          obtain ⟨g, off, rfl, _, hcv⟩ := hcv (by omega)
          have hc : w1.cell? ⟨g, off + i, none⟩ = some (.string ⟨p.toArray⟩) := hcv i _ (by unfold strV; rw [List.getElem?_map, hp]; rfl)
          by_cases h2 : 200 < p.length
          · have z1 : decide ((200 : Int) < (p.length : Int)) = true := decide_eq_true (by omega)
            have z2 : decide (200 < p.length) = true := decide_eq_true h2
            have HE := Lib.hid ((append_long HG.out.1 hp h2) ▸ SegDo.stay HA.out.1 HA.out.2.1 hS HA.out.2.2.1 3)
            clear hcv
            go_wp2_with fail
            go_ret
            exact HE.out
          · have z1 : decide ((200 : Int) < (p.length : Int)) = false := decide_eq_false (by omega)
            have z2 : decide (200 < p.length) = false := decide_eq_false h2
            have hs2 : ∀ (j : Nat) (p : By), l[j]? = some p → j < i + 1 → p.length ≤ 200 := by
              intro j q hq hj
              rcases Nat.lt_or_ge j i with z | z
              · exact HS.out j q hq z
              · obtain rfl : j = i := by omega
                rw [hp] at hq
                cases hq
                omega
            have HS2 := Lib.hid hs2
            clear hs2
            have hlm := HG.out.2.2.2.2.2.2.2
            clear hcv hp
            go_wp2_with fail
            go_round
            case rel => exact ⟨i + 1, hlt, by go_num, HS2⟩
            case measure => simp [intOf]; omega
        · obtain rfl : i = l.length := by omega
          have hs : ∀ p ∈ l, p.length ≤ 200 := fun p hp => by
            obtain ⟨j, hj, e⟩ := List.getElem_of_mem hp
            exact HS.out j p (by rw [List.getElem?_eq_getElem hj, e]) hj
          have y1 : decide ((l.length : Int) < (l.length : Int)) = false := decide_eq_false (by omega)
          have y2 : decide (l.length < l.length) = false := decide_eq_false (by omega)
          have hap := append_short HG.out.1 HG.out.2.1 hs
          have HN := Lib.hid (seg_nums HG.out.2.2.2.2.2.2.1 HG.out.2.2.2.2.2.2.2)
          clear hi hlt HS
          by_cases hf : 4096 - G.entries.length < l.length
          · rw [if_pos hf] at hap
            have z1 : decide (4096 - G.entries.length < l.length) = true := decide_eq_true hf
            have HE : Hid (SegDo B S s d w (G.append M l) (.returned (.int .i64 60)) w1) := Lib.hid (by rw [hap]; exact SegDo.stay HA.out.1 HA.out.2.1 hS HA.out.2.2.1 60)
            obtain ⟨n1, n2⟩ := HN.out
            rw [z1] at n2
            clear hap hs hf
            go_wp2_with fail
            go_ret
            exact HE.out
          · rw [if_neg hf] at hap
            have z1 : decide (4096 - G.entries.length < l.length) = false := decide_eq_false hf
            have hfew := HG.out.2.2.2.2.2.2.1
            have hf2 : G.entries.length + l.length ≤ 4096 := by omega
            have hplan := seg_plan HA.out.1 HA.out.2.1 la lc HA.out.2.2.2.1 hs hf2 HA.out.2.2.2.2
            have HPL := Lib.hid (fun e W => app_plan (e := e) (W := W) (l := l) HA.out.1 HA.out.2.1)
            have hmk := makes_len (planC (fun n => (AM.get M.files n).isSome) G.entries.length l)
            have hpl := planC_len (fun n => (AM.get M.files n).isSome) l.length G.entries.length l (Nat.le_refl _)
            have hcc := HG.out.2.2.2.2.2.1
            have HN2 := Lib.hid (seg_nums2 (a := M.files.length) (b := makes (planC (fun n => (AM.get M.files n).isSome) G.entries.length l)) (by omega) (by omega))
            have HF := Lib.hid (And.intro hs hf2)
            clear hs hf hfew hf2 hmk hpl hcc
            obtain ⟨L, hL⟩ : ∃ L, L = (framesF l).length := ⟨_, rfl⟩
            obtain ⟨K, hK⟩ : ∃ K, K = makes (planC (fun n => (AM.get M.files n).isSome) G.entries.length l) := ⟨_, rfl⟩
            rw [← hL, ← hK] at hap
            rw [← hL, ← hK] at HPL
            rw [← hK] at HN2
            clear hL hK
            obtain ⟨n1, n2⟩ := HN.out
            rw [z1] at n2
            by_cases hr1 : M.cap - M.total < (L : Int)
            · have z2 : decide (M.cap - M.total < (L : Int)) = true := decide_eq_true hr1
              rw [if_pos (Or.inl hr1)] at hap
              have HAP := Lib.hid hap
              clear hap hr1 HN2
              go_wp2_with (first
                | (go_at_call 65; refine hplan.mono ?_; intro e w2 hp; obtain ⟨sa, sm, sc, ea, em, ec, rfl, HP⟩ := HPL.out e w2 hp; clear hp; obtain ⟨_, _, c02, _⟩ := HP.out.seg.cells; have hfree := free_ap HP.out.ap)
                | (go_at_call 46; refine hfree.mono ?_; rintro e w3 ⟨rfl, hk3⟩; have HP3 := Lib.hid (HP.out.same hk3); clear HP hfree c02 hk3; obtain ⟨_, _, c03, _⟩ := HP3.out.seg.cells; have hfiles := HP3.out.ap.files)
                | (go_at_call 28; refine hfiles.mono ?_; rintro e w4 ⟨hv4, rfl, hrow4, hk4, ho4⟩; obtain ⟨fa, fm, fc, rfl, _⟩ := hrow4.shape; obtain rfl := files_row hrow4; have HP4 := Lib.hid (HP3.out.same hk4); clear HP3 hk4 ho4 hrow4 hfiles c03))
              go_ret
              exact HAP.out ▸ (HP3.out.stay hS 60).since HA.out.2.2.1 hown
            · have z2 : decide (M.cap - M.total < (L : Int)) = false := decide_eq_false hr1
              obtain ⟨n3, n4⟩ := HN2.out
              by_cases hr2 : 100 < M.files.length + K
              · rw [if_pos (Or.inr hr2)] at hap
                rw [decide_eq_true hr2] at n4
                have HAP := Lib.hid hap
                clear hap hr1 hr2 HN2
                go_wp2_with (first
                  | (go_at_call 65; refine hplan.mono ?_; intro e w2 hp; obtain ⟨sa, sm, sc, ea, em, ec, rfl, HP⟩ := HPL.out e w2 hp; clear hp; obtain ⟨_, _, c02, _⟩ := HP.out.seg.cells; have hfree := free_ap HP.out.ap)
                  | (go_at_call 46; refine hfree.mono ?_; rintro e w3 ⟨rfl, hk3⟩; have HP3 := Lib.hid (HP.out.same hk3); clear HP hfree c02 hk3; obtain ⟨_, _, c03, _⟩ := HP3.out.seg.cells; have hfiles := HP3.out.ap.files)
                  | (go_at_call 28; refine hfiles.mono ?_; rintro e w4 ⟨hv4, rfl, hrow4, hk4, ho4⟩; obtain ⟨fa, fm, fc, rfl, _⟩ := hrow4.shape; obtain rfl := files_row hrow4; have HP4 := Lib.hid (HP3.out.same hk4); clear HP3 hk4 ho4 hrow4 hfiles c03))
                go_ret
                exact HAP.out ▸ (HP4.out.stay hS 60).since HA.out.2.2.1 hown
              · rw [if_neg (fun q => q.elim hr1 hr2)] at hap
                rw [decide_eq_false hr2] at n4
                have HAP := Lib.hid hap
                have HDN := Lib.hid (fun W sv ev (q : AppP w1 s d B S G M l sv ev W) => q.done hS HA.out.2.2.2.1 HG.out.2.2.1 HG.out.2.2.2.2.1 HF.out.2 HF.out.1 HG.out.2.2.2.2.2.1)
                clear hap hr1 hr2 HN2
                go_upto_region 15 with (first
                  | (go_at_call 65; refine hplan.mono ?_; intro e w2 hp; obtain ⟨sa, sm, sc, ea, em, ec, rfl, HP⟩ := HPL.out e w2 hp; clear hp; obtain ⟨_, _, c02, _⟩ := HP.out.seg.cells; have hfree := free_ap HP.out.ap)
                  | (go_at_call 46; refine hfree.mono ?_; rintro e w3 ⟨rfl, hk3⟩; have HP3 := Lib.hid (HP.out.same hk3); clear HP hfree c02 hk3; obtain ⟨_, _, c03, _⟩ := HP3.out.seg.cells; have hfiles := HP3.out.ap.files)
                  | (go_at_call 28; refine hfiles.mono ?_; rintro e w4 ⟨hv4, rfl, hrow4, hk4, ho4⟩; obtain ⟨fa, fm, fc, rfl, _⟩ := hrow4.shape; obtain rfl := files_row hrow4; have HP4 := Lib.hid (HP3.out.same hk4); clear HP3 hk4 ho4 hrow4 hfiles c03))
                obtain ⟨r, Hr, HC⟩ := HDN.out _ _ _ HP4.out
                by_cases h00 : r.1 = 0
                · have hcc : Calls Tryz.prog 66 #[.pointer (some ⟨s, 0, none⟩), .slice sa sm sc] w4 fun e w' => e = .returned (.int .i64 0) ∧ AppE B S s d w1 G l (.slice la l.length lc) (.slice ea em ec) r.2 w' :=
                    HC.out.mono (fun e w' q => ⟨by rw [q.1, h00], q.2.elim (fun q => absurd h00 q.1) (fun q => q.2)⟩)
                  have HR := Lib.hid (show G.append M l = (0, { G with entries := G.entries ++ l, dead := false }, r.2) by
                    rw [HAP.out, ← Hr.out, h00, if_pos rfl]
                    rfl)
                  clear HC HDN HP4 h00
                  go_wp2_with (first
                    | (go_at_call 66; refine hcc.mono ?_; rintro e w5 ⟨rfl, xa5, xm5, xc5, a5, m5, c5, W5, p1, run5, ⟨p2, ⟨y5, p3⟩, p4, p5⟩, HE⟩)
                    | ((with_reducible show wpList _ _ _ (⟨some 80, _, _, _, _, _⟩ :: _) _ _); refine Lib.wpList_append_run _ rfl _ _ 23 23 rfl _ _ rfl rfl _ _ run5 ?_))
                  go_ret
                  exact HR.out ▸ HE.out.since HA.out.2.2.1 hown
                · have z5 : (r.1 == 0) = false := by simpa using h00
                  have z6 : decide (r.1 = 0) = false := decide_eq_false h00
                  have hcc : Calls Tryz.prog 66 #[.pointer (some ⟨s, 0, none⟩), .slice sa sm sc] w4 fun e w' => e = .returned (.int .i64 r.1) ∧ SegDo B S s d w1 (r.1, { G with dead := decide (r.1 = 61) }, r.2) (.returned (.int .i64 r.1)) w' :=
                    HC.out.mono (fun e w' q => ⟨q.1, q.2.elim (fun q => q.2) (fun q => absurd q.1 h00)⟩)
                  have HR := Lib.hid (show G.append M l = (r.1, { G with dead := decide (r.1 = 61) }, r.2) by
                    rw [HAP.out, ← Hr.out, if_neg h00])
                  clear HC HDN HP4 h00
                  go_wp2_with (go_at_call 66; refine hcc.mono ?_; rintro e w5 ⟨rfl, HE⟩)
                  go_ret
                  exact HR.out ▸ HE.since HA.out.2.2.1 hown
end
end Go.Proofs.YtlgeijbgkipliaaGreatDoor

namespace Go.Proofs.YtlgeijbgkipliaaGreatDoor
open Go.RowKit
theorem Row.cut3 {P : Program} {w : World} {e t : TypeId} {a : Option Addr} {m c : Nat} {xs : List Value} (h : Row w e 1 (.slice a m c) xs) (ht : P.underlying t = some (.slice (P.elem t))) (hsz : ∀ w, (sizeOf (P.elem t)).run P w = .ok 1 w) (n : Nat) (hn : n ≤ m) :
    ∃ a', (∀ w0, (Instr.slice t (.slice a m c) none (some (.int .i64 (n : Int))) (some (.int .i64 (n : Int)))).run P w0 = .ok (.slice a' n n) w0) ∧ Row w e 1 (.slice a' n n) (xs.take n) ∧ ∀ k, (Value.slice a' n n).ownBlock = some k → (Value.slice a m c).ownBlock = some k := by
  have hmc : m ≤ c := by
    rcases h with ⟨hv, _⟩ | ⟨g, n', cap', rest, hv, _, _, h2, _⟩
    · cases hv; exact Nat.le_refl _
    · cases hv; exact h2
  have hs := fun w0 => run_slice_hm (P := P) (w := w0) t a m c ht .i64 .i64 (n : Int) (n : Int) (by omega) (by omega) (by omega)
  have ea : (if n = 0 then a else a.map (·.add (0 * 1))) = a := by
    split
    · rfl
    · cases a <;> simp [Addr.add]
  refine ⟨a, fun w0 => ?_, ?_, ?_⟩
  · have hs := hs w0
    rw [hsz] at hs
    simp only [Result.andThen, sliced, Int.toNat_natCast] at hs
    rw [hs, ea]
    simp
  · rcases h with ⟨hv, hx⟩ | ⟨g, n', cap', rest, hv, h1, hb, h2, h3, h4⟩
    · cases hv
      obtain rfl : n = 0 := by omega
      subst hx
      exact Row.nil _ _ _
    · have h' : Row w e 1 (.slice (some ⟨g, 0, none⟩) n' cap') xs := Or.inr ⟨g, n', cap', rest, rfl, h1, hb, h2, h3, h4⟩
      cases hv
      have := h'.shorter3 n hn
      rwa [Nat.mul_one] at this
  · intro k hk
    cases a with
    | none => simp [Value.ownBlock] at hk
    | some p => simpa [Value.ownBlock] using hk
section
variable {w w1 w' W W' : World} {s d : Nat} {B S : Nat → Prop} {M : DiskM} {G : SegM} {E l : List By} {cs : List Chg} {zs : List Nat} {sv ev lv : Value}
set_option maxRecDepth 100000 in
set_option maxHeartbeats 2000000 in
theorem step_cut {sb nb : Nat} {x : Value} {ya : Option Addr} {ym yc : Nat} {st : Int} {dead : Bool} {n : Nat} (ha : Blk w sb [.pointer (some ⟨s, 0, none⟩)] 40) (hs : Blk w s (segC d x (.slice ya ym yc) st dead) 111) (hb : Blk w nb [.int .i64 (n : Int)] 3)
    (hy : Row w 3 1 (.slice ya ym yc) (natsV (endsE E))) (hn : n ≤ E.length) (h0 : n % 64 ≠ 0) (hE : E.length ≤ 4096) :
    IsStep w d (.func (.func 89) #[] #[.pointer (some ⟨sb, 0, none⟩), .pointer (some ⟨nb, 0, none⟩)]) (.cut (1000 + (n / 64 : Nat)) ((tailF E n).length : Nat)) (fun k => k = sb ∨ k = s ∨ k = nb ∨ (Value.slice ya ym yc).ownBlock = some k) [] := by
  refine ⟨_, _, _, rfl, by simp, Lib.hid (fun w' M B hw _ hap hc => ?_)⟩
  obtain ⟨D, hD⟩ : ∃ D, D = n / 64 := ⟨_, rfl⟩
  obtain ⟨T, hT⟩ : ∃ T, T = (tailF E n).length := ⟨_, rfl⟩
  obtain ⟨q, hq⟩ : ∃ q : Int, q = 1000 + (D : Int) := ⟨_, rfl⟩
  obtain ⟨r, M', he⟩ : ∃ r M', M.truncate q (T : Int) = (r, M') := ⟨_, _, rfl⟩
  show Calls _ _ #[.pointer (some ⟨sb, 0, none⟩), .pointer (some ⟨nb, 0, none⟩)] _ fun e w'' => e = .returned (.int .i64 (M.truncate (1000 + ((n / 64 : Nat) : Int)) ((tailF E n).length : Nat)).1) ∧ Apart B d (M.truncate (1000 + ((n / 64 : Nat) : Int)) ((tailF E n).length : Nat)).2 w'' ∧ _
  rw [← hD, ← hT, ← hq, he]
  have h1 := ((blk_of ha (hw sb (Or.inl rfl))).drew).cell (i := 0) rfl
  have h2 := ((blk_of hs (hw s (Or.inr (Or.inl rfl)))).drew).cell (i := 0) rfl
  have h22 := ((blk_of hs (hw s (Or.inr (Or.inl rfl)))).drew).cell (i := 2) rfl
  have h3 := ((blk_of hb (hw nb (Or.inr (Or.inr (Or.inl rfl))))).drew).cell (i := 0) rfl
  have hy2 := (row_of hy (fun k z => hw k (Or.inr (Or.inr (Or.inr z))))).drew
  obtain ⟨_, _, _, e, hm, _, hcl⟩ := hy2.form (by omega)
  cases e
  rw [natsV_len, endsE_len, Nat.mul_one] at hm
  subst hm
  obtain ⟨g, rfl, _, hcl⟩ := hcl (by omega)
  have hcell : w'.drew.cell? ⟨g, n - 1, none⟩ = some (.int .i64 (T : Int)) := hcl _ _ (by unfold natsV; rw [List.getElem?_map, endsE_at E n hn h0, hT]; rfl)
  have HD := Lib.hid (truncate_ap (hap.same (Kept.refl _ _).drew) q (T : Int) (by omega) he)
  have HK := Lib.hid ((Kept.refl (fun k => ¬ B k ∨ k ∈ []) w').drew)
  obtain ⟨L, hL⟩ : ∃ L, L = E.length := ⟨_, rfl⟩
  rw [← hL] at hn hE h22
  have HN : Hid (Int.tdiv (n : Int) 64 = (D : Int) ∧ (n : Int) / 64 = (D : Int) ∧ wrap64 (D : Int) = (D : Int) ∧ (1000 : Int) + (D : Int) = q ∧ wrap64 q = q ∧ wrap64 ((n : Int) - 1) = ((n - 1 : Nat) : Int) ∧ ((n - 1 : Nat) : Int) < (L : Int) ∧ n - 1 < L) := Lib.hid ⟨by rw [Int.tdiv_eq_ediv_of_nonneg (by omega)]; omega, by omega, IntWalk.wrap64_in _ (by omega), hq.symm, IntWalk.wrap64_in _ (by omega), by rw [IntWalk.wrap64_in _ (by omega)]; omega, by omega, by omega⟩
  clear he hw hap hy2 hcl hn h0 hE hq hD hT hL hy ha hs hb
  obtain ⟨n1, n2, n3, n4, n5, n6, n7, n8⟩ := HN.out
  have m3 : IntKind.i64.wrap (D : Int) = (D : Int) := (IntWalk.i64_left _).trans n3
  have m5 : IntKind.i64.wrap q = q := (IntWalk.i64_left _).trans n5
  have m6 : IntKind.i64.wrap ((n : Int) - 1) = ((n - 1 : Nat) : Int) := (IntWalk.i64_left _).trans n6
  go_enter Tryz.func89, Tryz.ntmps89
  go_wp2_with fail
  refine wp_region_tail 15 (by kernel_rfl) (by kernel_rfl) ?_
  simp only [List.take_succ_cons, List.take_zero, List.drop_succ_cons, List.drop_zero]
  refine StH.out ?_
  repeat (refine StH.step (fun K hK => ?_); go_simp; refine hK.out _ ?_; clear hK K)
  refine StH.nil ?_
  go_wp2_with (go_at_call 52; refine HD.out.mono ?_; rintro e w' ⟨rfl, ha1, hk1⟩)
  go_ret
  exact ⟨rfl, ha1, HK.out.trans (hk1.mono (fun _ _ => Or.inl))⟩
end
end Go.Proofs.YtlgeijbgkipliaaGreatDoor

namespace Go.Proofs.YtlgeijbgkipliaaGreatDoor
open Go.RowKit
section
variable {w w1 w' W W' : World} {s d : Nat} {B S : Nat → Prop} {M : DiskM} {G : SegM} {E l : List By} {C : List Chg} {sv : Value} {n : Nat}
structure CutP (w : World) (s d : Nat) (B S : Nat → Prop) (G : SegM) (M : DiskM) (n : Int) (C : List Chg) (sv : Value) (W : World) : Prop where
  seg : IsSeg W s d G S
  ap : Apart (fun k => B k ∨ (w.heap.size ≤ k ∧ k < W.heap.size)) d M W
  st : ∃ vs, Row W 159 1 sv vs ∧ StepsOk W d (fun k => S k ∨ (w.heap.size ≤ k ∧ k < W.heap.size ∧ sv.ownBlock ≠ some k)) vs C []
  own : ∀ k, sv.ownBlock = some k → w.heap.size ≤ k
  box : Blk W w.heap.size [.pointer (some ⟨s, 0, none⟩)] 40
  num : Blk W (w.heap.size + 1) [.int .i64 n] 3
  kept : Kept (· = s) w W
  low : ∀ k, B k → k < w.heap.size
structure CutR (w : World) (s d : Nat) (B S : Nat → Prop) (G : SegM) (M : DiskM) (n : Int) (W : World) : Prop where
  seg : IsSeg W s d G S
  ap : Apart (fun k => B k ∨ (w.heap.size ≤ k ∧ k < W.heap.size)) d M W
  box : Blk W w.heap.size [.pointer (some ⟨s, 0, none⟩)] 40
  num : Blk W (w.heap.size + 1) [.int .i64 n] 3
  kept : Kept (· = s) w W
  low : ∀ k, B k → k < w.heap.size
theorem cut_ready (h : IsSeg w s d G S) (hd : Apart B d M w) (hS : ∀ k, S k → B k) (n : Int) {W0 : World} (hW : W0 = (w.alloc (.cells #[.pointer (some ⟨s, 0, none⟩)] 40)).alloc (.cells #[.int .i64 n] 3)) :
    Calls Tryz.prog 64 #[.pointer (some ⟨s, 0, none⟩)] W0 fun e w1 => e = .returned (.int .i64 (if G.over M = true then 61 else 0)) ∧ CutR w s d B S { G with dead := G.over M } M n w1 := by
  have k0 : Kept (fun _ => False) w W0 := by rw [hW]; exact ((Kept.refl _ _).alloc _).alloc _
  have b1 : Blk W0 w.heap.size [.pointer (some ⟨s, 0, none⟩)] 40 := by rw [hW]; exact (Blk.new w _ _).alloc _
  have b2 : Blk W0 (w.heap.size + 1) [.int .i64 n] 3 := by
    rw [hW]
    have := Blk.new (w.alloc (.cells #[.pointer (some ⟨s, 0, none⟩)] 40)) [.int .i64 n] 3
    rwa [World.size_alloc] at this
  have hslt := h.lt
  have hd0 : Apart (fun k => B k ∨ (w.heap.size ≤ k ∧ k < W0.heap.size)) d M W0 := hd.grow k0 (fun _ _ => False.elim) (fun _ q => q)
  refine (seg_ready (h.same k0) hd0).mono ?_
  rintro e w1 ⟨rfl, h1, hk⟩
  have hz := hk.size
  have hz0 := k0.size
  refine ⟨rfl, h1, (hd0.grow hk (fun k _ q => by rw [q]; exact Or.inl (hS s h.own)) (fun k q => ?_)), b1.kept hk (by omega), b2.kept hk (by omega), (k0.mono (fun _ _ => False.elim)).then_ hk (fun _ _ q => q), fun k q => hd.lt q⟩
  rcases q with q | q
  · exact Or.inl (Or.inl q)
  · rcases Nat.lt_or_ge k W0.heap.size with z | z
    · exact Or.inl (Or.inr ⟨q.1, z⟩)
    · exact Or.inr ⟨z, q.2⟩
theorem CutR.stay {n : Int} (h : CutR w s d B S G M n W) (hS : ∀ k, S k → B k) (x : Int) : SegDo B S s d w (x, G, M) (.returned (.int .i64 x)) W :=
  ⟨rfl, S, h.seg, fun _ => Or.inl, h.ap.fewer (fun k q => Or.inl (q.elim id (hS k))), h.kept.mono (fun k _ q => Or.inr (by rw [q]; exact h.seg.own))⟩
theorem CutR.same {n : Int} (h : CutR w s d B S G M n W) (hk : Kept (fun _ => False) W W') : CutR w s d B S G M n W' := by
  have hz := hk.size
  refine ⟨h.seg.same hk, h.ap.grow hk (fun _ _ => False.elim) (fun k q => ?_), h.box.kept hk id, h.num.kept hk id, h.kept.then_ hk (fun _ _ => False.elim), h.low⟩
  rcases q with q | q
  · exact Or.inl (Or.inl q)
  · rcases Nat.lt_or_ge k W.heap.size with z | z
    · exact Or.inl (Or.inr ⟨q.1, z⟩)
    · exact Or.inr ⟨z, q.2⟩
theorem CutR.drop {n fr : Int} {e : Ending} (h : CutR w s d B S G M n W) (hp : DropPost W d M fr e W') :
    ∃ x m c, e = .returned (.slice x m c) ∧ Hid (CutP w s d B S G M n (dropC M fr) (.slice x m c) W') := by
  obtain ⟨x, m, c, vs, he, h1, h2, h3, h4⟩ := hp
  have hz := h.kept.size
  have h' := h.same h4
  exact ⟨x, m, c, he, Lib.hid ⟨h'.seg, h'.ap, ⟨vs, h1, h2.mono (fun k q => Or.inr ⟨by omega, q.2⟩)⟩, fun k q => by have := h3 k q; omega, h'.box, h'.num, h'.kept, h.low⟩⟩
theorem CutP.add (h : CutP w s d B S G M (n : Int) C sv W) (hS : ∀ k, S k → B k) (hn : n ≤ G.entries.length) (h0 : n % 64 ≠ 0) (hC : C.length ≤ 800000000) :
    ∃ a m c W', (Builtin.append_ #[112, 112] 112 #[sv, .slice (some ⟨W.heap.size, 0, none⟩) 1 1]).run Tryz.prog (W.alloc (.cells #[.func (.func 89) #[] #[.pointer (some ⟨w.heap.size, 0, none⟩), .pointer (some ⟨w.heap.size + 1, 0, none⟩)]] 159)) = .ok (.slice a m c) W' ∧
      Hid (CutP w s d B S G M (n : Int) (C ++ [.cut (1000 + (n / 64 : Nat)) ((tailF G.entries n).length : Nat)]) (.slice a m c) W') := by
  obtain ⟨⟨x, y, b1, rx, ry, ox, oy⟩, hown, hfew, hshort⟩ := h.seg
  obtain ⟨vs, hrow, hst⟩ := h.st
  have hlen := hst.len
  obtain ⟨ya, ym, yc, rfl, _⟩ := ry.shape
  have hstep := step_cut (d := d) h.box b1 h.num ry hn h0 hfew
  have hz := h.kept.size
  have hlow : ∀ k, S k → k < w.heap.size := fun k q => h.low k (hS k q)
  obtain ⟨v', W', hrun, HH, a, m, c, rfl⟩ := append_step hrow (.func (.func 89) #[] #[.pointer (some ⟨w.heap.size, 0, none⟩), .pointer (some ⟨w.heap.size + 1, 0, none⟩)]) rfl (by omega)
  obtain ⟨g1, g2, g3⟩ := HH.out
  have hz2 := g2.size
  have nb : ∀ {b : Nat} {c : List Value} {t : TypeId}, Blk W b c t → 159 ≠ t → sv.ownBlock ≠ some b := fun hb ht e => hrow.ne_blk e hb ht rfl
  refine ⟨a, m, c, W', hrun, Lib.hid ⟨h.seg.kept g2 (fun k q e => by have := hlow k q; have := h.own k e; omega), h.ap.grow g2 (fun k _ e => Or.inr ⟨h.own k e, hrow.lt e⟩) (fun k q => ?_), ⟨_, g1, ?_⟩, fun k q => ?_, h.box.kept g2 (nb h.box (by decide)), h.num.kept g2 (nb h.num (by decide)), h.kept.then_ g2 (fun k hk e => by have := h.own k e; omega), h.low⟩⟩
  · rcases q with q | q
    · exact Or.inl (Or.inl q)
    · rcases Nat.lt_or_ge k W.heap.size with z | z
      · exact Or.inl (Or.inr ⟨q.1, z⟩)
      · exact Or.inr ⟨z, q.2⟩
  · have h2 := hst.append (StepsOk.one (B := fun k => S k ∨ (w.heap.size ≤ k ∧ k < W.heap.size ∧ sv.ownBlock ≠ some k)) hstep (fun k q => ?_)) (B'' := fun k => S k ∨ (w.heap.size ≤ k ∧ k < W.heap.size ∧ sv.ownBlock ≠ some k)) (fun _ => id) (fun k q => ⟨q, by simp⟩)
    · refine (h2.kept (fun k q => ?_)).mono (fun k q => q.imp id (fun q => ⟨q.1, by omega, fun e => ?_⟩))
      · rcases q with q | q
        · exact g2.block k (by have := hlow k q; omega) (fun e => by have := hlow k q; have := h.own k e; omega)
        · exact g2.block k q.2.1 q.2.2
      · rcases g3 k e with z | z
        · exact q.2.2 z
        · omega
    · rcases q with rfl | rfl | rfl | q
      · exact Or.inr ⟨Nat.le_refl _, h.box.lt, nb h.box (by decide)⟩
      · exact Or.inl hown
      · exact Or.inr ⟨by omega, h.num.lt, nb h.num (by decide)⟩
      · exact Or.inl (oy k q)
  · rcases g3 k q with z | z
    · exact h.own k z
    · omega
def CutE (B S : Nat → Prop) (s d : Nat) (w : World) (G : SegM) (n : Nat) (M' : DiskM) (w' : World) : Prop :=
  ∃ xa xm xc ya ym yc xb yb, (w'.cell? ⟨s, 1, none⟩ = some (.slice xa xm xc) ∧ w'.cell? ⟨s, 2, none⟩ = some (.slice ya ym yc) ∧ w'.frozen? ⟨s, 1, none⟩ = false ∧ w'.frozen? ⟨s, 2, none⟩ = false) ∧
    (w'.cell? ⟨w.heap.size, 0, none⟩ = some (.pointer (some ⟨s, 0, none⟩)) ∧ w'.cell? ⟨w.heap.size + 1, 0, none⟩ = some (.int .i64 (n : Int))) ∧
    (∀ w0, (Instr.slice 23 (.slice xa xm xc) none (some (.int .i64 (n : Int))) (some (.int .i64 (n : Int)))).run Tryz.prog w0 = .ok (.slice xb n n) w0) ∧ (∀ w0, (Instr.slice 83 (.slice ya ym yc) none (some (.int .i64 (n : Int))) (some (.int .i64 (n : Int)))).run Tryz.prog w0 = .ok (.slice yb n n) w0) ∧
    Hid (SegDo B S s d w (0, { G with entries := G.entries.take n, dead := false }, M') (.returned (.int .i64 0)) ((w'.setCell ⟨s, 1, none⟩ (.slice xb n n)).setCell ⟨s, 2, none⟩ (.slice yb n n)))
theorem CutP.last {r : Int × DiskM} {e : Ending} (h : CutP w s d B S G M (n : Int) C sv W) (hS : ∀ k, S k → B k) (hdead : G.dead = false) (hn : n ≤ G.entries.length) (h0 : r.1 = 0) (hd : DonePost (fun k => B k ∨ (w.heap.size ≤ k ∧ k < W.heap.size)) s d G S W [] sv r e w') : CutE B S s d w G n r.2 w'.drew := by
  obtain ⟨_, hseg, hap, hk⟩ := hd
  have hlow : ∀ k, S k → k < w.heap.size := fun k q => h.low k (hS k q)
  have hz := h.kept.size
  have hz2 := hk.size
  have hso := h.own
  obtain ⟨vs, hrow, _⟩ := h.st
  have hd0 : (G.dead || decide (r.1 = 61)) = false := by rw [hdead, h0]; rfl
  rw [hd0] at hseg
  have kd : Kept (fun _ => False) w' w'.drew := (Kept.refl _ _).drew
  obtain ⟨⟨x, y, b1, r1, r2, o1, o2⟩, hown, hfew, hshort⟩ := hseg.same kd
  have hapd := hap.same kd
  have hs := hlow s hown
  have nb : ∀ {b : Nat} {c : List Value} {t : TypeId}, Blk W b c t → w.heap.size ≤ b → 159 ≠ t → ¬ (¬ (B b ∨ (w.heap.size ≤ b ∧ b < W.heap.size)) ∨ b ∈ ([] : List Nat) ∨ b = s ∨ sv.ownBlock = some b) := fun hb hl ht z => by
    rcases z with z | z | z | z
    · exact z (Or.inr ⟨hl, hb.lt⟩)
    · cases z
    · omega
    · exact hrow.ne_blk z hb ht rfl
  have bx := (h.box.kept hk (nb h.box (Nat.le_refl _) (by decide))).kept kd id
  have bn := (h.num.kept hk (nb h.num (by omega) (by decide))).kept kd id
  obtain ⟨xa, xm, xc, rfl, _⟩ := r1.shape
  obtain ⟨ya, ym, yc, rfl, _⟩ := r2.shape
  obtain ⟨_, _, _, e1, hm1, _⟩ := r1.form (by omega)
  cases e1
  rw [strV_len, Nat.mul_one] at hm1
  obtain ⟨_, _, _, e2, hm2, _⟩ := r2.form (by omega)
  cases e2
  rw [natsV_len, endsE_len, Nat.mul_one] at hm2
  have hn1 : n ≤ xm := by rw [hm1]; exact hn
  have hn2 : n ≤ ym := by rw [hm2]; exact hn
  obtain ⟨xb, q1, q2, q3⟩ := r1.cut3 (P := Tryz.prog) (t := 23) (by kernel_rfl) (fun _ => by kernel_rfl) n hn1
  obtain ⟨yb, p1, p2, p3⟩ := r2.cut3 (P := Tryz.prog) (t := 83) (by kernel_rfl) (fun _ => by kernel_rfl) n hn2
  have e3 : (strV G.entries).take n = strV (G.entries.take n) := by unfold strV; rw [List.map_take]
  have e4 : (natsV (endsE G.entries)).take n = natsV (endsE (G.entries.take n)) := by unfold natsV; rw [← List.map_take, endsE_take]
  rw [e3] at q2
  rw [e4] at p2
  have n1 : ∀ k, (Value.slice xb n n).ownBlock = some k → k ≠ s := fun k q e => q2.ne_blk q b1 (by decide) e
  have n2 : ∀ k, (Value.slice yb n n).ownBlock = some k → k ≠ s := fun k q e => p2.ne_blk q b1 (by decide) e
  have kk : Kept (· = s) w'.drew ((w'.drew.setCell ⟨s, 1, none⟩ (.slice xb n n)).setCell ⟨s, 2, none⟩ (.slice yb n n)) := (kept_cell _ s 1 _).trans (kept_cell _ s 2 _)
  refine ⟨xa, xm, xc, ya, ym, yc, xb, yb, ⟨b1.cell (i := 1) rfl, b1.cell (i := 2) rfl, b1.free 1, b1.free 2⟩, ⟨bx.cell (i := 0) rfl, bn.cell (i := 0) rfl⟩, q1, p1, Lib.hid ⟨rfl, S, ⟨⟨.slice xb n n, .slice yb n n, (b1.set 1 _).set 2 _, q2.kept kk (fun k q e => n1 k q e), p2.kept kk (fun k q e => n2 k q e), fun k q => o1 k (q3 k q), fun k q => o2 k (p3 k q)⟩, hown, ?_, fun p hp => hshort p (List.mem_of_mem_take hp)⟩, fun _ => Or.inl, ?_, ?_⟩⟩
  · show (G.entries.take n).length ≤ 4096
    rw [List.length_take]
    have : G.entries.length ≤ 4096 := hfew
    omega
  · exact (hapd.turn kk (fun k q => by rw [q]; exact Or.inl (hS s hown))).fewer (fun k q => Or.inl (q.elim id (hS k)))
  · refine (((h.kept.mono (fun i _ z => Or.inr (by rw [z]; exact hown))).then_ hk (fun i hi z => ?_)).then_ kd (fun _ _ => False.elim)).then_ kk (fun i _ z => Or.inr (by rw [z]; exact hown))
    rcases z with z | z | z | z
    · exact Or.inl (fun q => z (Or.inl q))
    · cases z
    · exact Or.inr (by rw [z]; exact hown)
    · have := hso i z; omega
theorem CutP.done (h : CutP w s d B S G M (n : Int) C sv W) (hS : ∀ k, S k → B k) (hdead : G.dead = false) (hn : n ≤ G.entries.length) (hc : M.files.length + M.loose.length < 200000000) (hC : C.length ≤ 90000000) :
    ∃ r : Int × DiskM, Hid (r = runAll (C ++ [.sync]) M) ∧ Hid (Calls Tryz.prog 66 #[.pointer (some ⟨s, 0, none⟩), sv] W fun e w' => e = .returned (.int .i64 r.1) ∧
      ((r.1 ≠ 0 ∧ SegDo B S s d w (r.1, { G with dead := decide (r.1 = 61) }, r.2) (.returned (.int .i64 r.1)) w') ∨ (r.1 = 0 ∧ CutE B S s d w G n r.2 w'.drew))) := by
  obtain ⟨vs, hrow, hsteps⟩ := h.st
  have hlow : ∀ k, S k → k < w.heap.size := fun k q => h.low k (hS k q)
  have hz := h.kept.size
  have hso := h.own
  have hown := h.seg.own
  refine ⟨_, Lib.hid rfl, Lib.hid ?_⟩
  refine (seg_done h.seg h.ap (zs := []) (fun k q => ⟨Or.inl (hS k q), by simp⟩) hrow hsteps (fun k q => ?_) (fun k q => ⟨Or.inr ⟨hso k q, hrow.lt q⟩, by simp, fun z => ?_, fun z => ?_⟩) (by omega) (fun z q => by cases q)).mono ?_
  · rcases q with q | q
    · exact Or.inl (hS k q)
    · exact Or.inr ⟨q.1, q.2.1⟩
  · have := hlow k z; have := hso k q; omega
  · rcases z with z | z
    · have := hlow _ z; have := hso _ q; omega
    · exact z.2.2 q
  · intro e w' hd
    refine ⟨hd.1, ?_⟩
    by_cases h0 : (runAll (C ++ [.sync]) M).1 = 0
    · exact Or.inr ⟨h0, h.last hS hdead hn h0 hd⟩
    · obtain ⟨_, hseg, hap, hk⟩ := hd
      rw [hdead, Bool.false_or] at hseg
      refine Or.inl ⟨h0, rfl, S, hseg, fun _ => Or.inl, hap.fewer (fun k q => Or.inl (q.elim id (hS k))), (h.kept.mono (fun i _ z => Or.inr (by rw [z]; exact hown))).then_ hk (fun i hi z => ?_)⟩
      rcases z with z | z | z | z
      · exact Or.inl (fun q => z (Or.inl q))
      · cases z
      · exact Or.inr (by rw [z]; exact hown)
      · have := hso i z; omega
end
end Go.Proofs.YtlgeijbgkipliaaGreatDoor

namespace Go.Proofs.YtlgeijbgkipliaaGreatDoor
open Go.RowKit
def segOps11 : Array Oper := #[
  ⟨some 46, .load 40 (.tmp 2), 40, "segments.go:210", #[], none⟩,
  ⟨some 47, .load 40 (.tmp 2), 40, "segments.go:210", #[⟨18, .gcOnly .lateStores⟩], none⟩,
  ⟨some 48, .load 40 (.tmp 2), 40, "segments.go:210", #[], none⟩,
  ⟨some 49, .nilCheck (.tmp 48), 0, "segments.go:210", #[⟨2, .data⟩], none⟩,
  ⟨some 50, .fieldAddr 111 (.tmp 49) 1, 0, "segments.go:210", #[⟨3, .data⟩], none⟩,
  ⟨some 51, .load 23 (.tmp 50), 23, "segments.go:210", #[⟨4, .data⟩], none⟩,
  ⟨some 52, .load 3 (.tmp 3), 3, "segments.go:210", #[], none⟩,
  ⟨some 53, .load 3 (.tmp 3), 3, "segments.go:210", #[], none⟩,
  ⟨some 54, .slice 23 (.tmp 51) none (some (.tmp 52)) (some (.tmp 53)), 23, "segments.go:210", #[⟨5, .data⟩, ⟨6, .data⟩, ⟨7, .data⟩], none⟩,
  ⟨some 55, .load 40 (.tmp 2), 40, "segments.go:210", #[], none⟩,
  ⟨some 56, .nilCheck (.tmp 55), 0, "segments.go:210", #[⟨9, .data⟩], none⟩,
  ⟨some 57, .fieldAddr 111 (.tmp 56) 2, 0, "segments.go:210", #[⟨10, .data⟩], none⟩,
  ⟨some 58, .load 83 (.tmp 57), 83, "segments.go:210", #[⟨11, .data⟩], none⟩,
  ⟨some 59, .load 3 (.tmp 3), 3, "segments.go:210", #[], none⟩,
  ⟨some 60, .load 3 (.tmp 3), 3, "segments.go:210", #[], none⟩,
  ⟨some 61, .slice 83 (.tmp 58) none (some (.tmp 59)) (some (.tmp 60)), 83, "segments.go:210", #[⟨12, .data⟩, ⟨13, .data⟩, ⟨14, .data⟩], none⟩,
  ⟨some 62, .nilCheck (.tmp 46), 0, "segments.go:210", #[⟨0, .data⟩, ⟨0, .phase⟩, ⟨1, .textOnly .lateStores⟩, ⟨2, .phase⟩, ⟨3, .phase⟩, ⟨4, .phase⟩, ⟨5, .phase⟩, ⟨6, .phase⟩, ⟨7, .phase⟩, ⟨8, .phase⟩, ⟨9, .textOnly .lateStores⟩, ⟨10, .textOnly .lateStoresUnsure⟩, ⟨11, .textOnly .lateStoresUnsure⟩, ⟨12, .phase⟩, ⟨13, .textOnly .lateStores⟩, ⟨14, .textOnly .lateStores⟩, ⟨15, .textOnly .lateStoresUnsure⟩], none⟩,
  ⟨some 63, .fieldAddr 111 (.tmp 62) 1, 0, "segments.go:210", #[⟨16, .data⟩, ⟨0, .phase⟩, ⟨1, .textOnly .lateStores⟩, ⟨2, .phase⟩, ⟨3, .phase⟩, ⟨4, .phase⟩, ⟨5, .phase⟩, ⟨6, .phase⟩, ⟨7, .phase⟩, ⟨8, .phase⟩, ⟨9, .textOnly .lateStores⟩, ⟨10, .textOnly .lateStoresUnsure⟩, ⟨11, .textOnly .lateStoresUnsure⟩, ⟨12, .phase⟩, ⟨13, .textOnly .lateStores⟩, ⟨14, .textOnly .lateStores⟩, ⟨15, .textOnly .lateStoresUnsure⟩], none⟩,
  ⟨none, .store 23 (.tmp 63) (.tmp 54), 0, "segments.go:210", #[⟨17, .data⟩, ⟨8, .data⟩, ⟨0, .phase⟩, ⟨1, .textOnly .lateStores⟩, ⟨2, .phase⟩, ⟨3, .phase⟩, ⟨4, .phase⟩, ⟨5, .phase⟩, ⟨6, .phase⟩, ⟨7, .phase⟩, ⟨8, .phase⟩, ⟨9, .textOnly .lateStores⟩, ⟨10, .textOnly .lateStoresUnsure⟩, ⟨11, .textOnly .lateStoresUnsure⟩, ⟨12, .phase⟩, ⟨13, .textOnly .lateStores⟩, ⟨14, .textOnly .lateStores⟩, ⟨15, .textOnly .lateStoresUnsure⟩], none⟩,
  ⟨some 64, .nilCheck (.tmp 47), 0, "segments.go:210", #[⟨1, .data⟩, ⟨0, .phase⟩, ⟨1, .phase⟩, ⟨2, .phase⟩, ⟨3, .phase⟩, ⟨4, .phase⟩, ⟨5, .phase⟩, ⟨6, .phase⟩, ⟨7, .phase⟩, ⟨8, .phase⟩, ⟨9, .phase⟩, ⟨10, .phase⟩, ⟨11, .phase⟩, ⟨12, .phase⟩, ⟨13, .phase⟩, ⟨14, .phase⟩, ⟨15, .phase⟩, ⟨16, .phase⟩, ⟨17, .phase⟩, ⟨18, .phase⟩], none⟩,
  ⟨some 65, .fieldAddr 111 (.tmp 64) 2, 0, "segments.go:210", #[⟨19, .data⟩, ⟨0, .phase⟩, ⟨1, .phase⟩, ⟨2, .phase⟩, ⟨3, .phase⟩, ⟨4, .phase⟩, ⟨5, .phase⟩, ⟨6, .phase⟩, ⟨7, .phase⟩, ⟨8, .phase⟩, ⟨9, .phase⟩, ⟨10, .phase⟩, ⟨11, .phase⟩, ⟨12, .phase⟩, ⟨13, .phase⟩, ⟨14, .phase⟩, ⟨15, .phase⟩, ⟨16, .phase⟩, ⟨17, .phase⟩, ⟨18, .phase⟩], none⟩,
  ⟨none, .store 83 (.tmp 65) (.tmp 61), 0, "segments.go:210", #[⟨20, .data⟩, ⟨15, .data⟩, ⟨18, .chain⟩, ⟨0, .phase⟩, ⟨1, .phase⟩, ⟨2, .phase⟩, ⟨3, .phase⟩, ⟨4, .phase⟩, ⟨5, .phase⟩, ⟨6, .phase⟩, ⟨7, .phase⟩, ⟨8, .phase⟩, ⟨9, .phase⟩, ⟨10, .phase⟩, ⟨11, .phase⟩, ⟨12, .phase⟩, ⟨13, .phase⟩, ⟨14, .phase⟩, ⟨15, .phase⟩, ⟨16, .phase⟩, ⟨17, .phase⟩, ⟨18, .phase⟩], none⟩]
set_option maxRecDepth 100000 in
set_option maxHeartbeats 4000000 in
theorem seg_reg11 {s sb nb xm xc ym yc m : Nat} {xa ya xb yb : Option Addr} {W : World} {Q : Exit → Act → World → Prop} {u0 u1 u4 u5 u6 u7 u8 u9 u10 u11 u12 u13 u14 u15 u16 u17 u18 u19 u20 u21 u22 u23 u24 u25 u26 u27 u28 u29 u30 u31 u32 u33 u34 u35 u36 u37 u38 u39 u40 u41 u42 u43 u44 u45 u46 u47 u48 u49 u50 u51 u52 u53 u54 u55 u56 u57 u58 u59 u60 u61 u62 u63 u64 u65 u66 : Value}
    (s1 : ∀ w0, (Instr.slice 23 (.slice xa xm xc) none (some (.int .i64 (m : Int))) (some (.int .i64 (m : Int)))).run Tryz.prog w0 = .ok (.slice xb m m) w0) (s2 : ∀ w0, (Instr.slice 83 (.slice ya ym yc) none (some (.int .i64 (m : Int))) (some (.int .i64 (m : Int)))).run Tryz.prog w0 = .ok (.slice yb m m) w0)
    (p1 : W.drew.cell? ⟨s, 1, none⟩ = some (.slice xa xm xc)) (p2 : W.drew.cell? ⟨s, 2, none⟩ = some (.slice ya ym yc)) (p3 : W.drew.frozen? ⟨s, 1, none⟩ = false) (p4 : W.drew.frozen? ⟨s, 2, none⟩ = false)
    (p5 : W.drew.cell? ⟨sb, 0, none⟩ = some (.pointer (some ⟨s, 0, none⟩)) ∧ W.drew.cell? ⟨nb, 0, none⟩ = some (.int .i64 (m : Int))) (n1 : sb ≠ s) (n2 : nb ≠ s)
    (HP : ∀ c a (k : Nat) v w, Q (.panic c) (Act.put a (some k) v) w → Q (.panic c) a w) (HQ : ∀ (v46 v47 v48 v49 v50 v51 v52 v53 v54 v55 v56 v57 v58 v59 v60 v61 v62 v63 v64 v65 : Value), Q .normal ⟨List.toArray (u0 :: u1 :: (.pointer (some ⟨sb, 0, none⟩)) :: (.pointer (some ⟨nb, 0, none⟩)) :: u4 :: u5 :: u6 :: u7 :: u8 :: u9 :: u10 :: u11 :: u12 :: u13 :: u14 :: u15 :: u16 :: u17 :: u18 :: u19 :: u20 :: u21 :: u22 :: u23 :: u24 :: u25 :: u26 :: u27 :: u28 :: u29 :: u30 :: u31 :: u32 :: u33 :: u34 :: u35 :: u36 :: u37 :: u38 :: u39 :: u40 :: u41 :: u42 :: u43 :: u44 :: u45 :: v46 :: v47 :: v48 :: v49 :: v50 :: v51 :: v52 :: v53 :: v54 :: v55 :: v56 :: v57 :: v58 :: v59 :: v60 :: v61 :: v62 :: v63 :: v64 :: v65 :: u66 :: []), []⟩ ((W.drew.setCell ⟨s, 1, none⟩ (.slice xb m m)).setCell ⟨s, 2, none⟩ (.slice yb m m))) :
    Code.wp Tryz.prog (Code.region 11 segOps11 true) Q ⟨List.toArray (u0 :: u1 :: (.pointer (some ⟨sb, 0, none⟩)) :: (.pointer (some ⟨nb, 0, none⟩)) :: u4 :: u5 :: u6 :: u7 :: u8 :: u9 :: u10 :: u11 :: u12 :: u13 :: u14 :: u15 :: u16 :: u17 :: u18 :: u19 :: u20 :: u21 :: u22 :: u23 :: u24 :: u25 :: u26 :: u27 :: u28 :: u29 :: u30 :: u31 :: u32 :: u33 :: u34 :: u35 :: u36 :: u37 :: u38 :: u39 :: u40 :: u41 :: u42 :: u43 :: u44 :: u45 :: u46 :: u47 :: u48 :: u49 :: u50 :: u51 :: u52 :: u53 :: u54 :: u55 :: u56 :: u57 :: u58 :: u59 :: u60 :: u61 :: u62 :: u63 :: u64 :: u65 :: u66 :: []), []⟩ W := by
  have HQ := Lib.hid HQ
  obtain ⟨X, hX⟩ : ∃ X, X = W.drew := ⟨_, rfl⟩
  have k1 := kept_cell X s 1 (.slice xb m m)
  have k2 := kept_cell (X.setCell ⟨s, 1, none⟩ (.slice xb m m)) s 2 (.slice yb m m)
  have e1 : (W.drew.setCell ⟨s, 1, none⟩ (.slice xb m m)).cell? ⟨sb, 0, none⟩ = some (.pointer (some ⟨s, 0, none⟩)) := by rw [← hX] at p5 ⊢; exact k1.cell p5.1 n1
  have e2 : (W.drew.setCell ⟨s, 1, none⟩ (.slice xb m m)).cell? ⟨nb, 0, none⟩ = some (.int .i64 (m : Int)) := by rw [← hX] at p5 ⊢; exact k1.cell p5.2 n2
  have e3 : ((W.drew.setCell ⟨s, 1, none⟩ (.slice xb m m)).setCell ⟨s, 2, none⟩ (.slice yb m m)).cell? ⟨sb, 0, none⟩ = some (.pointer (some ⟨s, 0, none⟩)) := by rw [← hX] at e1 ⊢; exact k2.cell e1 n1
  have e4 : ((W.drew.setCell ⟨s, 1, none⟩ (.slice xb m m)).setCell ⟨s, 2, none⟩ (.slice yb m m)).cell? ⟨nb, 0, none⟩ = some (.int .i64 (m : Int)) := by rw [← hX] at e2 ⊢; exact k2.cell e2 n2
  clear k1 k2 hX X
  have p6 := p5
  obtain ⟨p7, p8⟩ := p6
  generalize hZ : W.drew = Z at *
  unfold segOps11
  refine wp_region_held_drew (S := (fun W => W.cell? ⟨sb, 0, none⟩ = some (.pointer (some ⟨s, 0, none⟩)) ∧ W.cell? ⟨nb, 0, none⟩ = some (.int .i64 (m : Int)))) (by kernel_rfl) (by rw [hZ]; exact p5) (fun hH0 => ?_)
  rw [hZ] at hH0 ⊢
  clear hZ
  refine wpAnyH_take (i := 0) (v := ?_) rfl (by kernel_rfl) (by kernel_rfl) (by kernel_rfl) (fun _ _ _ h => HP _ _ _ _ _ h) (Or.inl ⟨by rfl, fun w hSw => ?_⟩) hH0 ?_
  rotate_left 1
  · obtain ⟨hS1, hS2⟩ := hSw; go_simp; (try with_reducible rfl)
  try simp only [lyA, lyB, lyC, lyD]
  refine wpAnyH_take (i := 1) (v := ?_) rfl (by kernel_rfl) (by kernel_rfl) (by kernel_rfl) (fun _ _ _ h => HP _ _ _ _ _ h) (Or.inl ⟨by rfl, fun w hSw => ?_⟩) hH0 ?_
  rotate_left 1
  · obtain ⟨hS1, hS2⟩ := hSw; go_simp; (try with_reducible rfl)
  try simp only [lyA, lyB, lyC, lyD]
  refine wpAnyH_take (i := 2) (v := ?_) rfl (by kernel_rfl) (by kernel_rfl) (by kernel_rfl) (fun _ _ _ h => HP _ _ _ _ _ h) (Or.inl ⟨by rfl, fun w hSw => ?_⟩) hH0 ?_
  rotate_left 1
  · obtain ⟨hS1, hS2⟩ := hSw; go_simp; (try with_reducible rfl)
  try simp only [lyA, lyB, lyC, lyD]
  refine tk 3 rfl (HP · · _ _ ·) hH0 ?_
  refine tk 4 rfl (HP · · _ _ ·) hH0 ?_
  refine wpAnyH_take (i := 6) (v := ?_) rfl (by kernel_rfl) (by kernel_rfl) (by kernel_rfl) (fun _ _ _ h => HP _ _ _ _ _ h) (Or.inl ⟨by rfl, fun w hSw => ?_⟩) hH0 ?_
  rotate_left 1
  · obtain ⟨hS1, hS2⟩ := hSw; go_simp; (try with_reducible rfl)
  try simp only [lyA, lyB, lyC, lyD]
  refine wpAnyH_take (i := 7) (v := ?_) rfl (by kernel_rfl) (by kernel_rfl) (by kernel_rfl) (fun _ _ _ h => HP _ _ _ _ _ h) (Or.inl ⟨by rfl, fun w hSw => ?_⟩) hH0 ?_
  rotate_left 1
  · obtain ⟨hS1, hS2⟩ := hSw; go_simp; (try with_reducible rfl)
  try simp only [lyA, lyB, lyC, lyD]
  refine wpAnyH_take (i := 9) (v := ?_) rfl (by kernel_rfl) (by kernel_rfl) (by kernel_rfl) (fun _ _ _ h => HP _ _ _ _ _ h) (Or.inl ⟨by rfl, fun w hSw => ?_⟩) hH0 ?_
  rotate_left 1
  · obtain ⟨hS1, hS2⟩ := hSw; go_simp; (try with_reducible rfl)
  try simp only [lyA, lyB, lyC, lyD]
  refine tk 10 rfl (HP · · _ _ ·) hH0 ?_
  refine tk 11 rfl (HP · · _ _ ·) hH0 ?_
  refine wpAnyH_take (i := 13) (v := ?_) rfl (by kernel_rfl) (by kernel_rfl) (by kernel_rfl) (fun _ _ _ h => HP _ _ _ _ _ h) (Or.inl ⟨by rfl, fun w hSw => ?_⟩) hH0 ?_
  rotate_left 1
  · obtain ⟨hS1, hS2⟩ := hSw; go_simp; (try with_reducible rfl)
  try simp only [lyA, lyB, lyC, lyD]
  refine wpAnyH_take (i := 14) (v := ?_) rfl (by kernel_rfl) (by kernel_rfl) (by kernel_rfl) (fun _ _ _ h => HP _ _ _ _ _ h) (Or.inl ⟨by rfl, fun w hSw => ?_⟩) hH0 ?_
  rotate_left 1
  · obtain ⟨hS1, hS2⟩ := hSw; go_simp; (try with_reducible rfl)
  try simp only [lyA, lyB, lyC, lyD]
  refine wpAnyH_ready (rs := [5, 12]) (by kernel_rfl) (by simp) ?_
  refine AllReadyH.cons (o := ⟨some 51, .load 23 (.tmp 50), 23, "segments.go:210", #[⟨4, .data⟩], none⟩) rfl (fun K hK => ?_) ?_
  · go_simp
    refine hK.out _ _ (hH0) (fun hH1 => ?_)
    clear hK K
    try simp only [lyA, lyB, lyC, lyD]
    refine tk 8 rfl (HP · · _ _ ·) hH1 ?_
    refine rd1 12 (fun K hK => ?_)
    go_simp
    refine hK.out _ _ (hH1) (fun hH2 => ?_)
    clear hK K
    try simp only [lyA, lyB, lyC, lyD]
    refine tk 15 rfl (HP · · _ _ ·) hH2 ?_
    refine tk 16 rfl (HP · · _ _ ·) hH2 ?_
    refine tk 17 rfl (HP · · _ _ ·) hH2 ?_
    refine rd1 18 (fun K hK => ?_)
    go_simp
    refine hK.out _ _ (⟨e1, e2⟩) (fun hH3 => ?_)
    clear hK K
    try simp only [lyA, lyB, lyC, lyD]
    refine tk 19 rfl (HP · · _ _ ·) hH3 ?_
    refine tk 20 rfl (HP · · _ _ ·) hH3 ?_
    refine rd1 21 (fun K hK => ?_)
    go_simp
    refine hK.out _ _ (⟨e3, e4⟩) (fun hH4 => ?_)
    clear hK K
    try simp only [lyA, lyB, lyC, lyD]
    refine wpAnyH_done (by kernel_rfl) ?_ _
    exact HQ.out _ _ _ _ _ _ _ _ _ _ _ _ _ _ _ _ _ _ _ _
  refine AllReadyH.cons (o := ⟨some 58, .load 83 (.tmp 57), 83, "segments.go:210", #[⟨11, .data⟩], none⟩) rfl (fun K hK => ?_) AllReadyH.nil
  go_simp
  refine hK.out _ _ (hH0) (fun hH1 => ?_)
  clear hK K
  try simp only [lyA, lyB, lyC, lyD]
  refine tk 15 rfl (HP · · _ _ ·) hH1 ?_
  refine rd1 5 (fun K hK => ?_)
  go_simp
  refine hK.out _ _ (hH1) (fun hH2 => ?_)
  clear hK K
  try simp only [lyA, lyB, lyC, lyD]
  refine tk 8 rfl (HP · · _ _ ·) hH2 ?_
  refine tk 16 rfl (HP · · _ _ ·) hH2 ?_
  refine tk 17 rfl (HP · · _ _ ·) hH2 ?_
  refine rd1 18 (fun K hK => ?_)
  go_simp
  refine hK.out _ _ (⟨e1, e2⟩) (fun hH3 => ?_)
  clear hK K
  try simp only [lyA, lyB, lyC, lyD]
  refine tk 19 rfl (HP · · _ _ ·) hH3 ?_
  refine tk 20 rfl (HP · · _ _ ·) hH3 ?_
  refine rd1 21 (fun K hK => ?_)
  go_simp
  refine hK.out _ _ (⟨e3, e4⟩) (fun hH4 => ?_)
  clear hK K
  try simp only [lyA, lyB, lyC, lyD]
  refine wpAnyH_done (by kernel_rfl) ?_ _
  exact HQ.out _ _ _ _ _ _ _ _ _ _ _ _ _ _ _ _ _ _ _ _
end Go.Proofs.YtlgeijbgkipliaaGreatDoor

namespace Go.Proofs.YtlgeijbgkipliaaGreatDoor
open Go.RowKit
section
variable {w : World} {s d : Nat} {B S : Nat → Prop} {M : DiskM} {G : SegM}
theorem CutR.drew {W : World} {n : Int} (h : CutR w s d B S G M n W) : CutR w s d B S G M n W.drew := h.same (Kept.refl _ _).drew
theorem dropC_few (M : DiskM) (fr : Int) : (dropC M fr).length ≤ M.files.length := by
  unfold dropC
  rw [List.length_map]
  refine Nat.le_trans (List.length_filter_le _ _) ?_
  rw [List.length_reverse, List.length_map]
  exact Nat.le_refl _
theorem cut_nums {n D a b : Nat} {fr : Int} (hn : n ≤ 4096) (hD : D = (n + 63) / 64) (hf : fr = 1000 + (D : Int)) (ha : a = n + 64) (hb : b = n + 63) :
    IntKind.i64.wrap ((n : Int) + 64) = (a : Int) ∧ IntKind.i64.wrap ((a : Int) - 1) = (b : Int) ∧ Int.tdiv (b : Int) 64 = (D : Int) ∧ (b : Int) / 64 = (D : Int) ∧ IntKind.i64.wrap (D : Int) = (D : Int) ∧ IntKind.i64.wrap (1000 + (D : Int)) = fr := by
  refine ⟨by rw [IntWalk.i64_in _ (by omega)]; omega, by rw [IntWalk.i64_in _ (by omega)]; omega, by rw [Int.tdiv_eq_ediv_of_nonneg (by omega)]; omega, by omega, IntWalk.i64_in _ (by omega), by rw [IntWalk.i64_in _ (by omega)]; omega⟩
theorem cut_nums2 {n R : Nat} (hn : n ≤ 4096) (hR : R = n % 64) : Int.tmod (n : Int) 64 = (R : Int) ∧ (n : Int) % 64 = (R : Int) ∧ wrap64 (R : Int) = (R : Int) ∧ ((R : Int) == 0) = decide (R = 0) ∧ decide ((R : Int) = 0) = decide (R = 0) := by
  refine ⟨by rw [Int.tmod_eq_emod_of_nonneg (by omega)]; omega, by omega, IntWalk.wrap64_in _ (by omega), ?_, ?_⟩
  · by_cases h : R = 0
    · subst h; rfl
    · rw [decide_eq_false h]; simpa using h
  · by_cases h : R = 0
    · subst h; rfl
    · rw [decide_eq_false h, decide_eq_false (by omega)]
set_option maxRecDepth 100000 in
set_option maxHeartbeats 2000000 in
theorem seg_cut (h : IsSeg w s d G S) (hd : Apart B d M w) (hS : ∀ k, S k → B k) (n : Int) (hc : M.files.length + M.loose.length < 80000000) :
    Calls Tryz.prog 39 #[.pointer (some ⟨s, 0, none⟩), .int .i64 n] w (SegDo B S s d w (G.cut M n)) := by
  obtain ⟨W0, hW0⟩ : ∃ W0, W0 = (w.alloc (.cells #[.pointer (some ⟨s, 0, none⟩)] 40)).alloc (.cells #[.int .i64 n] 3) := ⟨_, rfl⟩
  have hr := cut_ready h hd hS n hW0
  have hslt := h.lt
  have hbx : W0.cell? ⟨w.heap.size, 0, none⟩ = some (.pointer (some ⟨s, 0, none⟩)) := by rw [hW0]; exact ((Blk.new w _ _).alloc _).cell (i := 0) rfl
  by_cases ho : G.over M = true
  · have e : G.cut M n = (61, { G with dead := true }, M) := by unfold SegM.cut; rw [if_pos ho]
    rw [e]
    simp only [ho, if_true] at hr
    clear h hd e ho
    subst hW0
    go_enter Tryz.func39, Tryz.ntmps39
    go_wp2_with (go_at_call 64; refine hr.mono ?_; rintro e w1 ⟨rfl, h1⟩; have HE := Lib.hid (h1.stay hS 61); clear h1)
    go_ret
    exact HE.out
  · have ho : G.over M = false := by simpa using ho
    have hdead : G.dead = false := by
      unfold SegM.over at ho
      cases hq : G.dead
      · rfl
      · rw [hq] at ho; simp at ho
    simp only [ho, Bool.false_eq_true, if_false] at hr
    have hfew := h.few
    have hcut : G.cut M n = if n < 0 ∨ (G.entries.length : Int) < n then (2, G, M)
      else ((runAll (G.cutC M n.toNat) M).1, { G with entries := if (runAll (G.cutC M n.toNat) M).1 = 0 then G.entries.take n.toNat else G.entries, dead := decide ((runAll (G.cutC M n.toNat) M).1 = 61) }, (runAll (G.cutC M n.toNat) M).2) := by
      conv => lhs; unfold SegM.cut
      rw [if_neg (by rw [ho]; simp)]
    have HG := Lib.hid (And.intro hcut (And.intro hdead (And.intro hfew hc)))
    clear h hd hcut hfew hc ho
    subst hW0
    go_enter Tryz.func39, Tryz.ntmps39
    go_upto_region 4 with (go_at_call 64; refine hr.mono ?_; rintro e w1 ⟨rfl, h1⟩; have HA : Hid (CutR w s d B S G M n w1) := Lib.hid (by rw [← hdead] at h1; exact h1); clear h1)
    clear hr hbx hdead
    have c1 := HA.out.box.cell (i := 0) rfl
    have c2 := HA.out.num.cell (i := 0) rfl
    obtain ⟨x, y, c3, c4, _, _, _, _, _, _, hx, _, _, _⟩ := HA.out.seg.cells
    obtain ⟨xa, xm, xc, rfl, hxm, _⟩ := hx.shape
    rw [strV_len, Nat.mul_one] at hxm
    subst hxm
    clear hx
    by_cases hneg : n < 0
    · have y1 : decide (n < 0) = true := decide_eq_true hneg
      have HE : Hid (∀ m, SegDo B S s d w (G.cut M n) (.returned (.int .i64 2)) (w1.drewN m)) := Lib.hid (by intro m; rw [HG.out.1, if_pos (Or.inl hneg)]; exact (HA.out.same ((Kept.refl _ _).drewN m)).stay hS 2)
      clear hneg
      go_quiet (fail)
      go_wp2_with fail
      go_ret
      exact HE.out _
    · have y1 : decide (n < 0) = false := decide_eq_false hneg
      by_cases hbig : (G.entries.length : Int) < n
      · have y2 : decide ((G.entries.length : Int) < n) = true := decide_eq_true hbig
        have HE : Hid (∀ m, SegDo B S s d w (G.cut M n) (.returned (.int .i64 2)) (w1.drewN m)) := Lib.hid (by intro m; rw [HG.out.1, if_pos (Or.inr hbig)]; exact (HA.out.same ((Kept.refl _ _).drewN m)).stay hS 2)
        clear hneg hbig
        go_quiet (fail)
        go_wp2_with fail
        go_ret
        exact HE.out _
      · have y2 : decide ((G.entries.length : Int) < n) = false := decide_eq_false hbig
        have hcut := HG.out.1
        rw [if_neg (fun q => q.elim hneg hbig)] at hcut
        obtain ⟨m, rfl⟩ : ∃ m : Nat, n = (m : Int) := ⟨n.toNat, by omega⟩
        rw [Int.toNat_natCast] at hcut
        have hm : m ≤ G.entries.length := by omega
        have HC := Lib.hid (And.intro hcut hm)
        have y3 : decide (G.entries.length < m) = false := decide_eq_false (by omega)
        clear hneg hbig hcut hm
        go_quiet (fail)
        go_upto_region 6 with fail
        generalize hw2 : World.drewN w1 _ = w2
        have HA3 : Hid (CutR w s d B S G M (m : Int) w2.drew) := Lib.hid (by rw [← hw2]; exact (HA.out.same ((Kept.refl _ _).drewN _)).drew)
        clear hw2 HA c1 c2 c3 c4 y1 y2 y3
        have c1 := HA3.out.box.cell (i := 0) rfl
        have c2 := HA3.out.num.cell (i := 0) rfl
        obtain ⟨_, _, c3, _⟩ := HA3.out.seg.cells
        obtain ⟨D, hD⟩ : ∃ D, D = (m + 63) / 64 := ⟨_, rfl⟩
        obtain ⟨fr, hfr⟩ : ∃ fr : Int, fr = 1000 + (D : Int) := ⟨_, rfl⟩
        have hm4 : m ≤ 4096 := by have := HC.out.2; have := HG.out.2.2.1; omega
        obtain ⟨a6, ha6⟩ : ∃ a6, a6 = m + 64 := ⟨_, rfl⟩
        obtain ⟨b6, hb6⟩ : ∃ b6, b6 = m + 63 := ⟨_, rfl⟩
        have HN := Lib.hid (cut_nums hm4 hD hfr ha6 hb6)
        have hdrop := segDrop_any HA3.out.ap fr
        have HFR := Lib.hid (And.intro hD (And.intro hfr hm4))
        clear hD hfr hm4 ha6 hb6
        obtain ⟨n1, n2, n3, n4, n5, n6⟩ := HN.out
        refine wp_region_tail 9 (by kernel_rfl) (by kernel_rfl) ?_
        simp only [List.take_succ_cons, List.take_zero, List.drop_succ_cons, List.drop_zero]
        refine StH.out ?_
        repeat (refine StH.step (fun K hK => ?_); go_simp; refine hK.out _ ?_; clear hK K)
        refine StH.nil ?_
        go_upto_region 7 with (go_at_call 53; refine hdrop.mono ?_; intro e w3 hp; obtain ⟨x3, m3, k3, rfl, HP⟩ := HA3.out.drop hp; clear hp)
        clear n1 n2 n3 n4 n5 n6 c1 c2 c3 hdrop HN HA3
        have c1 := HP.out.box.cell (i := 0) rfl
        have c2 := HP.out.num.cell (i := 0) rfl
        obtain ⟨R, hR⟩ : ∃ R, R = m % 64 := ⟨_, rfl⟩
        have HN := Lib.hid (cut_nums2 HFR.out.2.2 hR)
        have hdl := dropC_few M fr
        have HNE : Hid (w.heap.size ≠ s ∧ w.heap.size + 1 ≠ s) := Lib.hid ⟨Nat.ne_of_gt hslt, Nat.ne_of_gt (Nat.lt_succ_of_lt hslt)⟩
        by_cases h0 : R = 0
        · have hz : m % 64 = 0 := by omega
          obtain ⟨n1, n2, n3, n4, n5⟩ := HN.out
          rw [decide_eq_true h0] at n4 n5
          clear HN hR h0
          go_upto_region 9 with fail
          clear n1 n2 n3 n4 n5
          obtain ⟨r, Hr, HC2⟩ := HP.out.done hS HG.out.2.1 HC.out.2 (by have := HG.out.2.2.2; omega) (by have := HG.out.2.2.2; omega)
          have hC : G.cutC M m = dropC M fr ++ [.sync] := by unfold SegM.cutC; rw [if_pos hz, List.append_nil, HFR.out.2.1, HFR.out.1]
          by_cases h00 : r.1 = 0
          · have hcc : Calls Tryz.prog 66 #[.pointer (some ⟨s, 0, none⟩), .slice x3 m3 k3] w3 fun e w' => e = .returned (.int .i64 0) ∧ CutE B S s d w G m r.2 w'.drew :=
              HC2.out.mono (fun e w' q => ⟨by rw [q.1, h00], q.2.elim (fun q => absurd h00 q.1) (fun q => q.2)⟩)
            have HR := Lib.hid (show G.cut M (m : Int) = (0, { G with entries := G.entries.take m, dead := false }, r.2) by
              rw [HC.out.1, hC, ← Hr.out, h00, if_pos rfl]
              rfl)
            clear HC2 h00 hC
            go_upto_region 11 with (go_at_call 66; refine hcc.mono ?_; rintro e w5 ⟨rfl, xa5, xm5, xc5, ya5, ym5, yc5, xb5, yb5, ⟨p1, p2, p3, p4⟩, ⟨p5, p6⟩, s1, s2, HE⟩; have p7 : w5.cell? ⟨s, 1, none⟩ = some (.slice xa5 xm5 xc5) := p1; have p8 : w5.cell? ⟨s, 2, none⟩ = some (.slice ya5 ym5 yc5) := p2; have p9 : w5.frozen? ⟨s, 1, none⟩ = false := p3; have p10 : w5.frozen? ⟨s, 2, none⟩ = false := p4)
            clear p7 p8 p9 p10
            refine seg_reg11 s1 s2 p1 p2 p3 p4 ⟨p5, p6⟩ HNE.out.1 HNE.out.2 (fun _ _ _ _ _ h => h) ?_
            intro v46 v47 v48 v49 v50 v51 v52 v53 v54 v55 v56 v57 v58 v59 v60 v61 v62 v63 v64 v65
            go_wp2_with fail
            go_ret
            exact HR.out ▸ HE.out
          · have z5 : (r.1 == 0) = false := by simpa using h00
            have z6 : decide (r.1 = 0) = false := decide_eq_false h00
            have hcc : Calls Tryz.prog 66 #[.pointer (some ⟨s, 0, none⟩), .slice x3 m3 k3] w3 fun e w' => e = .returned (.int .i64 r.1) ∧ SegDo B S s d w (r.1, { G with dead := decide (r.1 = 61) }, r.2) (.returned (.int .i64 r.1)) w' :=
              HC2.out.mono (fun e w' q => ⟨q.1, q.2.elim (fun q => q.2) (fun q => absurd q.1 h00)⟩)
            have HR := Lib.hid (show G.cut M (m : Int) = (r.1, { G with dead := decide (r.1 = 61) }, r.2) by
              rw [HC.out.1, hC, ← Hr.out, if_neg h00])
            clear HC2 h00 hC
            go_wp2_with (go_at_call 66; refine hcc.mono ?_; rintro e w5 ⟨rfl, HE⟩)
            go_ret
            exact HR.out ▸ HE
        · have hz : m % 64 ≠ 0 := by omega
          obtain ⟨a4, m4, k4, w4, r4, HP4⟩ := HP.out.add hS HC.out.2 hz (by have := HG.out.2.2.2; omega)
          obtain ⟨n1, n2, n3, n4, n5⟩ := HN.out
          rw [decide_eq_false h0] at n4 n5
          have n6 : ((R : Int) != 0) = true := by rw [bne, n4]; rfl
          have HZ := Lib.hid hz
          clear HN hR h0 hz
          go_upto_region 9 with ((with_reducible show wpList _ _ _ (⟨some 40, _, _, _, _, _⟩ :: _) _ _); refine Lib.wpList_append_run _ rfl _ _ 112 112 rfl _ _ rfl rfl _ _ r4 ?_)
          have hz := HZ.out
          clear n1 n2 n3 n4 n5 n6 c1 c2 HP
          have c1 := HP4.out.box.cell (i := 0) rfl
          have HP := HP4
          obtain ⟨r, Hr, HC2⟩ := HP.out.done hS HG.out.2.1 HC.out.2 (by have := HG.out.2.2.2; omega) (by have := HG.out.2.2.2; rw [List.length_append, List.length_singleton]; omega)
          have hC : G.cutC M m = (dropC M fr ++ [.cut (1000 + (m / 64 : Nat)) ((tailF G.entries m).length : Nat)]) ++ [.sync] := by unfold SegM.cutC; rw [if_neg hz, HFR.out.2.1, HFR.out.1]
          by_cases h00 : r.1 = 0
          · have hcc : Calls Tryz.prog 66 #[.pointer (some ⟨s, 0, none⟩), .slice a4 m4 k4] w4 fun e w' => e = .returned (.int .i64 0) ∧ CutE B S s d w G m r.2 w'.drew :=
              HC2.out.mono (fun e w' q => ⟨by rw [q.1, h00], q.2.elim (fun q => absurd h00 q.1) (fun q => q.2)⟩)
            have HR := Lib.hid (show G.cut M (m : Int) = (0, { G with entries := G.entries.take m, dead := false }, r.2) by
              rw [HC.out.1, hC, ← Hr.out, h00, if_pos rfl]
              rfl)
            clear HC2 h00 hC
            go_upto_region 11 with (go_at_call 66; refine hcc.mono ?_; rintro e w5 ⟨rfl, xa5, xm5, xc5, ya5, ym5, yc5, xb5, yb5, ⟨p1, p2, p3, p4⟩, ⟨p5, p6⟩, s1, s2, HE⟩; have p7 : w5.cell? ⟨s, 1, none⟩ = some (.slice xa5 xm5 xc5) := p1; have p8 : w5.cell? ⟨s, 2, none⟩ = some (.slice ya5 ym5 yc5) := p2; have p9 : w5.frozen? ⟨s, 1, none⟩ = false := p3; have p10 : w5.frozen? ⟨s, 2, none⟩ = false := p4)
            clear p7 p8 p9 p10
            refine seg_reg11 s1 s2 p1 p2 p3 p4 ⟨p5, p6⟩ HNE.out.1 HNE.out.2 (fun _ _ _ _ _ h => h) ?_
            intro v46 v47 v48 v49 v50 v51 v52 v53 v54 v55 v56 v57 v58 v59 v60 v61 v62 v63 v64 v65
            go_wp2_with fail
            go_ret
            exact HR.out ▸ HE.out
          · have z5 : (r.1 == 0) = false := by simpa using h00
            have z6 : decide (r.1 = 0) = false := decide_eq_false h00
            have hcc : Calls Tryz.prog 66 #[.pointer (some ⟨s, 0, none⟩), .slice a4 m4 k4] w4 fun e w' => e = .returned (.int .i64 r.1) ∧ SegDo B S s d w (r.1, { G with dead := decide (r.1 = 61) }, r.2) (.returned (.int .i64 r.1)) w' :=
              HC2.out.mono (fun e w' q => ⟨q.1, q.2.elim (fun q => q.2) (fun q => absurd q.1 h00)⟩)
            have HR := Lib.hid (show G.cut M (m : Int) = (r.1, { G with dead := decide (r.1 = 61) }, r.2) by
              rw [HC.out.1, hC, ← Hr.out, if_neg h00])
            clear HC2 h00 hC
            go_wp2_with (go_at_call 66; refine hcc.mono ?_; rintro e w5 ⟨rfl, HE⟩)
            go_ret
            exact HR.out ▸ HE
end
end Go.Proofs.YtlgeijbgkipliaaGreatDoor

namespace Go.Proofs.YtlgeijbgkipliaaGreatDoor
open Go.RowKit
inductive Tx where
  | row (v : Value) (l : List By)
  | blk (b : Nat) (c : List Value) (t : TypeId)
def Tx.own : Tx → Nat → Prop
  | .row v _, k => v.ownBlock = some k
  | .blk b _ _, k => b = k
def Tx.holds (w : World) : Tx → Prop
  | .row v l => Row w 9 1 v (strV l)
  | .blk b c t => Blk w b c t
theorem Tx.kept {x : Tx} {w w' : World} {Z : Nat → Prop} (h : x.holds w) (hk : Kept Z w w') (hZ : ∀ k, x.own k → ¬ Z k) : x.holds w' := by
  cases x with
  | row v l => exact Row.kept h hk hZ
  | blk b c t => exact Blk.kept h hk (hZ b rfl)
theorem Tx.lt {x : Tx} {w : World} (h : x.holds w) {k : Nat} (hk : x.own k) : k < w.heap.size := by
  cases x with
  | row v l => exact Row.lt h hk
  | blk b c t =>
    have : b = k := hk
    subst this
    exact Blk.lt h
structure Fr (w0 w : World) (d : Nat) (M : DiskM) (B : Nat → Prop) (Rs : List Tx) : Prop where
  ap : Apart B d M w
  old : ∀ k, k < w0.heap.size → B k
  tab0 : Tab w0
  kept : Kept (fun _ => False) w0 w
  rows : ∀ x ∈ Rs, x.holds w ∧ ∀ k, x.own k → B k ∧ w0.heap.size ≤ k
structure Sg (w0 w : World) (d : Nat) (B : Nat → Prop) (Rs : List Tx) (s : Nat) (G : SegM) (S : Nat → Prop) : Prop where
  seg : IsSeg w s d G S
  sub : ∀ k, S k → B k
  off : ∀ k, S k → w0.heap.size ≤ k
  rows : ∀ x ∈ Rs, ∀ k, x.own k → ¬ S k
def Dn (w0 w : World) (d : Nat) (M : DiskM) (Rs : List Tx) : Prop := ∃ B, Fr w0 w d M B Rs
def Up (w0 w : World) (d s : Nat) (G : SegM) (M : DiskM) (Rs : List Tx) : Prop := ∃ B S, Fr w0 w d M B Rs ∧ Sg w0 w d B Rs s G S
section
variable {w0 w w' : World} {d s b : Nat} {M M' : DiskM} {B B' S Z : Nat → Prop} {Rs Rs' : List Tx} {G G' : SegM} {x : Int} {v : Value} {E : List By}
theorem Fr.tab (h : Fr w0 w d M B Rs) : Tab w := h.tab0.same h.kept
theorem Fr.step (h : Fr w0 w d M B Rs) (hk : Kept Z w w') (hZ : ∀ k, k < w.heap.size → Z k → B k → k < w0.heap.size ∨ (∃ x ∈ Rs, x.own k) → False) (ha : Apart B' d M' w') (hB : ∀ k, B k → B' k) : Fr w0 w' d M' B' Rs :=
  ⟨ha, fun k q => hB k (h.old k q), h.tab0, h.kept.then_ hk (fun i hi z => hZ i (Nat.lt_of_lt_of_le hi h.kept.size) z (h.old i hi) (Or.inl hi)), fun x q => ⟨Tx.kept (h.rows x q).1 hk (fun k e z => hZ k (Tx.lt (h.rows x q).1 e) z ((h.rows x q).2 k e).1 (Or.inr ⟨x, q, e⟩)), fun k e => ⟨hB _ ((h.rows x q).2 k e).1, ((h.rows x q).2 k e).2⟩⟩⟩
theorem Sg.step (h : Sg w0 w d B Rs s G S) (hk : Kept Z w w') (hZ : ∀ k, S k → ¬ Z k) (hB : ∀ k, B k → B' k) : Sg w0 w' d B' Rs s G S := ⟨h.seg.kept hk hZ, fun k q => hB k (h.sub k q), h.off, h.rows⟩
theorem Fr.same (h : Fr w0 w d M B Rs) (hk : Kept (fun _ => False) w w') : Fr w0 w' d M (fun k => B k ∨ (w.heap.size ≤ k ∧ k < w'.heap.size)) Rs :=
  h.step hk (fun _ _ z _ _ => z) (h.ap.grow hk (fun _ _ => False.elim) (fun _ q => q)) (fun _ => Or.inl)
theorem Fr.new (h : Fr w0 w d M B Rs) (hk : Kept (fun _ => False) w w') (hb : Row w' 9 1 v (strV E)) (hl : ∀ k, v.ownBlock = some k → w.heap.size ≤ k) : Fr w0 w' d M (fun k => B k ∨ (w.heap.size ≤ k ∧ k < w'.heap.size)) (.row v E :: Rs) := by
  have h2 := h.same hk
  refine ⟨h2.ap, h2.old, h2.tab0, h2.kept, fun x q => ?_⟩
  rcases List.mem_cons.1 q with rfl | q
  · exact ⟨hb, fun k e => ⟨Or.inr ⟨hl k e, hb.lt e⟩, Nat.le_trans h.kept.size (hl k e)⟩⟩
  · exact h2.rows x q
theorem Fr.to (h : Fr w0 w d M B Rs) (hk : Kept (fun k => ¬ B k) w w') (ha : Apart B d M' w') : Fr w0 w' d M' B Rs := h.step hk (fun _ _ z q _ => z q) ha (fun _ => id)
theorem Up.dn (h : Up w0 w d s G M Rs) : Dn w0 w d M Rs := by obtain ⟨B, S, h, _⟩ := h; exact ⟨B, h⟩
theorem Dn.row (h : Dn w0 w d M Rs) {v : Value} {l : List By} (hy : Tx.row v l ∈ Rs) : Row w 9 1 v (strV l) := by obtain ⟨B, h⟩ := h; exact (h.rows _ hy).1
theorem Dn.old (h : Dn w0 w d M Rs) : Kept (fun _ => False) w0 w := by obtain ⟨B, h⟩ := h; exact h.kept
theorem Up.same (h : Up w0 w d s G M Rs) (hk : Kept (fun _ => False) w w') : Up w0 w' d s G M Rs := by obtain ⟨B, S, h, g⟩ := h; exact ⟨_, S, h.same hk, g.step hk (fun _ _ => id) (fun _ => Or.inl)⟩
theorem Up.new (h : Up w0 w d s G M Rs) (hk : Kept (fun _ => False) w w') (hb : Row w' 9 1 v (strV E)) (hl : ∀ k, v.ownBlock = some k → w.heap.size ≤ k) : Up w0 w' d s G M (.row v E :: Rs) := by
  obtain ⟨B, S, h, g⟩ := h
  have g2 := g.step (B' := fun k => B k ∨ (w.heap.size ≤ k ∧ k < w'.heap.size)) hk (fun _ _ => id) (fun _ => Or.inl)
  refine ⟨_, S, h.new hk hb hl, ⟨g2.seg, g2.sub, g2.off, fun x q => ?_⟩⟩
  rcases List.mem_cons.1 q with rfl | q
  · exact fun k e z => by have := h.ap.lt (g.sub _ z); have := hl k e; omega
  · exact g.rows x q
theorem Up.seg (h : Up w0 w d s G M Rs) : ∃ S, IsSeg w s d G S := by obtain ⟨B, S, h, g⟩ := h; exact ⟨S, g.seg⟩
theorem Up.count (h : Up w0 w d s G M Rs) : Calls Tryz.prog 35 #[.pointer (some ⟨s, 0, none⟩)] w fun e w' => e = .returned (.int .i64 (G.entries.length : Int)) ∧ w = w' := by obtain ⟨S, h⟩ := h.seg; exact seg_count h
theorem Fr.made (hA : Apart (fun k => k < w0.heap.size) d M w) (ht : Tab w0) (hk : Kept (fun _ => False) w0 w) : Dn w0 w d M [] := ⟨_, hA, fun _ => id, ht, hk, fun x q => by cases q⟩
def OpenSt (w0 : World) (d : Nat) (Rs : List Tx) (st : Int) (y : Int × List By × DiskM) (e : Ending) (w' : World) : Prop :=
  (y.1 ≠ 0 ∧ e = .returned (.tuple #[.pointer none, .int .i64 y.1]) ∧ Dn w0 w' d y.2.2 Rs) ∨ (y.1 = 0 ∧ ∃ s, e = .returned (.tuple #[.pointer (some ⟨s, 0, none⟩), .int .i64 0]) ∧ Up w0 w' d s ⟨y.2.1, st, false⟩ y.2.2 Rs)
theorem Dn.opens (h : Dn w0 w d M Rs) (hc : M.files.length + M.loose.length < 100000000) :
    Calls Tryz.prog 15 #[.pointer (some ⟨d, 0, none⟩)] w (OpenSt w0 d Rs M.starts M.openS) := by
  obtain ⟨B, h⟩ := h
  refine (segOpen_any h.ap hc h.tab).mono fun e w' q => ?_
  rcases q with ⟨h0, rfl, ha, hk⟩ | ⟨h0, sb, S, rfl, hr, hS, ha, hk⟩
  · exact Or.inl ⟨h0, rfl, B, h.to hk ha⟩
  · refine Or.inr ⟨h0, sb, rfl, fun k => B k ∨ S k, S, h.step hk (fun k _ z q _ => z q) ha (fun _ => Or.inl), ⟨hr, fun _ => Or.inr, fun k q => Nat.le_trans h.kept.size (hS k q), fun x q k e z => ?_⟩⟩
    have := hS _ z
    have := Tx.lt (h.rows x q).1 e
    omega
def DoSt (w0 : World) (d s : Nat) (Rs : List Tx) (y : Int × SegM × DiskM) (e : Ending) (w' : World) : Prop := e = .returned (.int .i64 y.1) ∧ Up w0 w' d s y.2.1 y.2.2 Rs
theorem up_do {y : Int × SegM × DiskM} {e : Ending} (h : Fr w0 w d M B Rs) (g : Sg w0 w d B Rs s G S) (hy : SegDo B S s d w y e w') : DoSt w0 d s Rs y e w' := by
  obtain ⟨he, S', h1, h2, h3, h4⟩ := hy
  refine ⟨he, fun k => B k ∨ S' k, S', h.step h4 (fun k hl z q o => ?_) h3 (fun _ => Or.inl), ⟨h1, fun _ => Or.inr, fun k q => ?_, fun x q k e z => ?_⟩⟩
  · rcases z with z | z
    · exact z q
    · rcases o with o | ⟨x, o, hx⟩
      · have := g.off k z; omega
      · exact g.rows x o k hx z
  · rcases h2 k q with z | z
    · exact g.off k z
    · exact Nat.le_trans h.kept.size z
  · rcases h2 k z with q2 | q2
    · exact g.rows x q k e q2
    · have := Tx.lt (h.rows x q).1 e; omega
theorem Up.append (h : Up w0 w d s G M Rs) (la : Option Addr) (lc : Nat) (l : List By) (hl : View w 1 (.slice la l.length lc) (strV l)) (ho : l ≠ [] → ∀ k, (Value.slice la l.length lc).ownBlock = some k → k < w0.heap.size ∨ ∃ x ∈ Rs, x.own k) (hc : M.files.length + M.loose.length < 80000000) {y : Int × SegM × DiskM} (he : G.append M l = y) :
    Calls Tryz.prog 19 #[.pointer (some ⟨s, 0, none⟩), .slice la l.length lc] w (DoSt w0 d s Rs y) := by
  subst he
  obtain ⟨B, S, h, g⟩ := h
  have ht := tab_low h.tab0
  have hs := g.off _ g.seg.own
  refine (seg_append g.seg h.ap g.sub la lc hl (fun h0 k q => ?_) (by omega) h.tab ⟨by omega, by omega⟩).mono fun e w' q => up_do h g q
  rcases ho h0 k q with z | ⟨x, hx, z⟩
  · exact ⟨h.old k z, fun z2 => by have := g.off k z2; omega⟩
  · exact ⟨((h.rows x hx).2 k z).1, g.rows x hx k z⟩
theorem Up.cut (h : Up w0 w d s G M Rs) (n : Int) (hc : M.files.length + M.loose.length < 80000000) {y : Int × SegM × DiskM} (he : G.cut M n = y) :
    Calls Tryz.prog 39 #[.pointer (some ⟨s, 0, none⟩), .int .i64 n] w (DoSt w0 d s Rs y) := by
  subst he
  obtain ⟨B, S, h, g⟩ := h
  exact (seg_cut g.seg h.ap g.sub n hc).mono fun e w' q => up_do h g q
theorem Up.get (h : Up w0 w d s G M Rs) (a b : Int) (ha : -9223372036854775808 ≤ a ∧ a ≤ 9223372036854775807) (hb : -9223372036854775808 ≤ b ∧ b ≤ 9223372036854775807) :
    Calls Tryz.prog 37 #[.pointer (some ⟨s, 0, none⟩), .int .i64 a, .int .i64 b] w (SegGet w G.entries a b) := by
  obtain ⟨S, h⟩ := h.seg
  exact seg_get h a b ha hb
theorem Row.fresh {e : TypeId} {n : Nat} {xs : List Value} (h : Blk w b xs e) (hn : xs.length = n) (h0 : 0 < n) (hm : n ≤ 1000000) : Row w e 1 (.slice (some ⟨b, 0, none⟩) n n) xs :=
  Or.inr ⟨b, n, n, [], rfl, by omega, by rw [List.append_nil]; exact h, Nat.le_refl _, by simp; omega, by unfold maxLen; omega⟩
end
end Go.Proofs.YtlgeijbgkipliaaGreatDoor

namespace Go.Proofs.YtlgeijbgkipliaaGreatDoor
open Go.RowKit
section
variable {w w' : World}
theorem view_text {a : Option Addr} {n c : Nat} {l : List By} (h : View w 1 (.slice a n c) (strV l)) {i : Nat} {p : By} (hp : l[i]? = some p) : ∃ g off, a = some ⟨g, off, none⟩ ∧ w.cell? ⟨g, off + i, none⟩ = some (.string ⟨p.toArray⟩) := by
  obtain ⟨_, _, _, ev, hn, _, _, _, hcv⟩ := h
  cases ev
  have hi := (List.getElem?_eq_some_iff.1 hp).1
  rw [strV_len] at hn
  obtain ⟨g, off, rfl, _, hc⟩ := hcv (by omega)
  exact ⟨g, off, rfl, hc i _ (by unfold strV; rw [List.getElem?_map, hp]; rfl)⟩
theorem view_len {a : Option Addr} {n c : Nat} {l : List By} (h : View w 1 (.slice a n c) (strV l)) : n = l.length ∧ n ≤ maxLen := by
  obtain ⟨_, _, _, ev, hn, h2, h3, _⟩ := h
  cases ev
  rw [strV_len] at hn
  exact ⟨by omega, by omega⟩
set_option maxRecDepth 100000 in
set_option maxHeartbeats 2000000 in
theorem texts_any {a b : Option Addr} {n m c e : Nat} {k l : List By} (hk : View w 1 (.slice a n c) (strV k)) (hl : View w 1 (.slice b m e) (strV l)) :
    Calls Tryz.prog 38 #[.slice a n c, .slice b m e] w fun e w' => e = .returned (.bool (decide (k = l))) ∧ Kept (fun _ => False) w w' := by
  obtain ⟨rfl, hn⟩ := view_len hk
  obtain ⟨rfl, _⟩ := view_len hl
  unfold maxLen at hn
  by_cases hlen : k.length = l.length
  · have hn2 : l.length ≤ 9223372036854775807 := by omega
    have z1 : ((k.length : Int) == (k.length : Int)) = true := beq_self_eq_true _
    rw [← hlen]
    have HL := Lib.hid hlen
    have HV := Lib.hid (And.intro hk hl)
    clear hlen hk hl
    go_enter Tryz.func38, Tryz.ntmps38
    go_wp2_with fail
    go_loopw [5] (fun x wr => ∃ i : Nat, i ≤ k.length ∧ x = .int .i64 (i : Int) ∧ Hid (k.take i = l.take i ∧ Kept (fun _ => False) w wr)) (fun x _ => k.length - (intOf x).toNat)
    case atStart => exact ⟨0, Nat.zero_le _, rfl, Lib.hid ⟨by simp, Kept.refl _ _⟩⟩
    case round =>
      obtain ⟨i, hi, rfl, HS⟩ := hrel
      by_cases hlt : i < k.length
      · have y1 : decide ((i : Int) < (k.length : Int)) = true := decide_eq_true (by omega)
        have y2 : decide (i < k.length) = true := decide_eq_true hlt
        have hlm : i < l.length := by have := HL.out; omega
        obtain ⟨p, hp⟩ : ∃ p, k[i]? = some p := ⟨_, List.getElem?_eq_getElem hlt⟩
        obtain ⟨q, hq⟩ : ∃ q, l[i]? = some q := ⟨_, List.getElem?_eq_getElem hlm⟩
        obtain ⟨g1, o1, rfl, c1⟩ := view_text (HV.out.1.same HS.out.2 (by omega)) hp
        obtain ⟨g2, o2, rfl, c2⟩ := view_text (HV.out.2.same HS.out.2 (by omega)) hq
        have hlz : (i : Int) < (l.length : Int) := by omega
        have hlz2 : i < l.length := hlm
        by_cases hpq : p = q
        · subst hpq
          have HT : Hid (k.take (i + 1) = l.take (i + 1)) := Lib.hid (by rw [List.take_add_one, List.take_add_one, hp, hq, HS.out.1])
          clear hp hq
          go_wp2_with fail
          go_quiet (fail)
          go_wp2_with fail
          exact ⟨⟨i + 1, by omega, by go_num, Lib.hid ⟨HT.out, HS.out.2.trans ((Kept.refl _ _).drewN _)⟩⟩, by simp [intOf]; omega⟩
        · have z2 : (p == q) = false := by simpa using hpq
          have hne : decide (k = l) = false := decide_eq_false (by rintro rfl; rw [hp] at hq; cases hq; exact hpq rfl)
          clear hp hq
          go_wp2_with fail
          go_quiet (fail)
          go_wp2_with fail
          go_ret
          rw [hne]
          exact ⟨rfl, HS.out.2.trans ((Kept.refl _ _).drewN _)⟩
      · obtain rfl : i = k.length := by omega
        have y1 : decide ((k.length : Int) < (k.length : Int)) = false := decide_eq_false (by omega)
        have y2 : decide (k.length < k.length) = false := decide_eq_false (by omega)
        have hkl : decide (k = l) = true := decide_eq_true (by
          have := HS.out.1
          rwa [List.take_length, HL.out, List.take_length] at this)
        clear hi hlt
        go_wp2_with fail
        go_ret
        rw [hkl]
        exact ⟨rfl, HS.out.2⟩
  · have z1 : ((k.length : Int) == (l.length : Int)) = false := by simp; omega
    have z2 : decide ((k.length : Int) = (l.length : Int)) = false := decide_eq_false (by omega)
    have z3 : decide (k.length = l.length) = false := decide_eq_false hlen
    have hne : decide (k = l) = false := decide_eq_false (by rintro rfl; exact hlen rfl)
    rw [hne]
    clear hk hl hlen
    go_enter Tryz.func38, Tryz.ntmps38
    go_wp2_with fail
    go_ret
    exact ⟨rfl, Kept.refl _ _⟩
set_option maxRecDepth 100000 in
set_option maxHeartbeats 2000000 in
theorem many_any (w : World) (n : Nat) (hn : n ≤ 1000) (s : By) :
    Calls Tryz.prog 34 #[.int .i64 (n : Int), .string ⟨s.toArray⟩] w fun e w' => ∃ a c, e = .returned (.slice a n c) ∧ Row w' 9 1 (.slice a n c) (strV (List.replicate n s)) ∧ Kept (fun _ => False) w w' ∧ ∀ k, (Value.slice a n c).ownBlock = some k → w.heap.size ≤ k := by
  go_enter Tryz.func34, Tryz.ntmps34
  go_wp2_with fail
  go_loopw [5, 6] (fun x y wr => ∃ (i : Nat) (a : Option Addr) (c : Nat), i ≤ n ∧ x = .slice a i c ∧ y = .int .i64 (i : Int) ∧ Hid (Row wr 9 1 (.slice a i c) (strV (List.replicate i s)) ∧ Kept (fun _ => False) w wr ∧ ∀ k, (Value.slice a i c).ownBlock = some k → w.heap.size ≤ k)) (fun _ y _ => n - (intOf y).toNat)
  case atStart => exact ⟨0, none, 0, Nat.zero_le _, rfl, rfl, Lib.hid ⟨Row.nil _ _ _, Kept.refl _ _, fun k q => by simp [Value.ownBlock] at q⟩⟩
  case round =>
    obtain ⟨i, a, c, hi, rfl, rfl, HS⟩ := hrel
    by_cases hlt : i < n
    · have y1 : decide ((i : Int) < (n : Int)) = true := decide_eq_true (by omega)
      have y2 : decide (i < n) = true := decide_eq_true hlt
      obtain ⟨v', w', hr, h1, h2, h3⟩ := append_str1 HS.out.1 s (by rw [List.length_replicate]; omega)
      obtain ⟨a', m', c', rfl, _⟩ := h1.shape
      have hm : m' = i + 1 := by
        obtain ⟨_, _, _, e, hm, _⟩ := h1.form (by omega)
        cases e
        rw [strV_len, List.length_append, List.length_replicate] at hm
        simpa using hm
      subst hm
      have HN : Hid (Row w' 9 1 (.slice a' (i + 1) c') (strV (List.replicate (i + 1) s)) ∧ Kept (fun _ => False) w w' ∧ ∀ k, (Value.slice a' (i + 1) c').ownBlock = some k → w.heap.size ≤ k) := Lib.hid ⟨by rw [List.replicate_succ']; exact h1, HS.out.2.1.then_ h2 (fun k hk q => by have := HS.out.2.2 k q; omega), fun k q => by
        rcases h3 k q with z | z
        · exact HS.out.2.2 k z
        · exact Nat.le_trans HS.out.2.1.size z⟩
      clear h1 h2 h3
      go_wp2_with ((with_reducible show wpList _ _ _ (⟨some 15, _, _, _, _, _⟩ :: _) _ _); refine Lib.wpList_append_run _ rfl _ _ 23 23 rfl _ _ rfl rfl _ _ hr ?_)
      go_roundw
      case rel => exact ⟨i + 1, a', c', hlt, rfl, by go_num, HN⟩
      case measure => simp [intOf]; omega
    · obtain rfl : i = n := by omega
      have y1 : decide ((i : Int) < (i : Int)) = false := decide_eq_false (by omega)
      have y2 : decide (i < i) = false := decide_eq_false (by omega)
      clear hi hlt
      go_wp2_with fail
      go_ret
      exact ⟨a, c, rfl, HS.out⟩
theorem view_int {a : Option Addr} {n c : Nat} {l : List Int} (h : View w 1 (.slice a n c) (icells l)) {i : Nat} {p : Int} (hp : l[i]? = some p) : ∃ g off, a = some ⟨g, off, none⟩ ∧ w.cell? ⟨g, off + i, none⟩ = some (.int .i64 p) := by
  obtain ⟨_, _, _, ev, hn, _, _, _, hcv⟩ := h
  cases ev
  have hi := (List.getElem?_eq_some_iff.1 hp).1
  have e : (icells l).length = l.length := by simp [icells]
  rw [e] at hn
  obtain ⟨g, off, rfl, _, hc⟩ := hcv (by omega)
  exact ⟨g, off, rfl, hc i _ (by unfold icells; rw [List.getElem?_map, hp]; rfl)⟩
theorem view_ilen {a : Option Addr} {n c : Nat} {l : List Int} (h : View w 1 (.slice a n c) (icells l)) : n = l.length ∧ n ≤ maxLen := by
  obtain ⟨_, _, _, ev, hn, h2, h3, _⟩ := h
  cases ev
  have e : (icells l).length = l.length := by simp [icells]
  rw [e] at hn
  exact ⟨by omega, by omega⟩
set_option maxRecDepth 100000 in
set_option maxHeartbeats 2000000 in
theorem files_is {d : Nat} {B : Nat → Prop} {M : DiskM} (h : Apart B d M w) {b : Option Addr} {m e : Nat} {l : List Int} (hl : View w 1 (.slice b m e) (icells l)) :
    Calls Tryz.prog 36 #[.pointer (some ⟨d, 0, none⟩), .slice b m e] w fun e w' => e = .returned (.bool (decide (M.files.map (·.1) = l))) ∧ Kept (fun _ => False) w w' := by
  obtain ⟨rfl, hm⟩ := view_ilen hl
  unfold maxLen at hm
  have hfl := h.files
  obtain ⟨k, hk⟩ : ∃ k, k = M.files.map (·.1) := ⟨_, rfl⟩
  have hFL : Hid (Calls Tryz.prog 28 #[.pointer (some ⟨d, 0, none⟩)] w fun e w' => ∃ a c, e = .returned (.slice a k.length c) ∧ View w' 1 (.slice a k.length c) (icells k) ∧ Kept (fun _ => False) w w') := Lib.hid (hfl.mono (by
    rintro e w' ⟨v, rfl, hrow, hk1, _⟩
    rw [← hk] at hrow
    obtain ⟨a, n, c, rfl, _⟩ := hrow.shape
    have hv := hrow.view
    obtain ⟨rfl, _⟩ := view_ilen hv
    exact ⟨a, c, rfl, hv, hk1⟩))
  rw [← hk]
  clear hfl h hk
  by_cases hlen : k.length = l.length
  · have z1 : ((k.length : Int) == (k.length : Int)) = true := beq_self_eq_true _
    rw [← hlen]
    have hm2 : k.length ≤ 9223372036854775807 := by omega
    have HL := Lib.hid (And.intro hlen hl)
    clear hlen hl
    go_enter Tryz.func36, Tryz.ntmps36
    go_wp2_with (go_at_call 28; refine hFL.out.mono ?_; rintro e w1 ⟨a, c, rfl, hv1, hk1⟩; have HV := Lib.hid (And.intro hv1 hk1); clear hv1 hk1)
    go_loopw [6] (fun x wr => ∃ i : Nat, i ≤ k.length ∧ x = .int .i64 (i : Int) ∧ Hid (k.take i = l.take i ∧ Kept (fun _ => False) w1 wr)) (fun x _ => k.length - (intOf x).toNat)
    case atStart => exact ⟨0, Nat.zero_le _, rfl, Lib.hid ⟨by simp, Kept.refl _ _⟩⟩
    case round =>
      obtain ⟨i, hi, rfl, HS⟩ := hrel
      by_cases hlt : i < k.length
      · have y1 : decide ((i : Int) < (k.length : Int)) = true := decide_eq_true (by omega)
        have y2 : decide (i < k.length) = true := decide_eq_true hlt
        have hlm : i < l.length := by have := HL.out.1; omega
        obtain ⟨p, hp⟩ : ∃ p, k[i]? = some p := ⟨_, List.getElem?_eq_getElem hlt⟩
        obtain ⟨q, hq⟩ : ∃ q, l[i]? = some q := ⟨_, List.getElem?_eq_getElem hlm⟩
        obtain ⟨g1, o1, rfl, c1⟩ := view_int (HV.out.1.same HS.out.2 (by omega)) hp
        obtain ⟨g2, o2, rfl, c2⟩ := view_int (HL.out.2.same (HV.out.2.trans HS.out.2) (by omega)) hq
        by_cases hpq : p = q
        · subst hpq
          have HT : Hid (k.take (i + 1) = l.take (i + 1)) := Lib.hid (by rw [List.take_add_one, List.take_add_one, hp, hq, HS.out.1])
          clear hp hq
          go_wp2_with fail
          go_quiet (fail)
          go_wp2_with fail
          exact ⟨⟨i + 1, by omega, by go_num, Lib.hid ⟨HT.out, HS.out.2.trans ((Kept.refl _ _).drewN _)⟩⟩, by simp [intOf]; omega⟩
        · have z2 : (p == q) = false := by simpa using hpq
          have z3 : decide (p = q) = false := decide_eq_false hpq
          have hne : decide (k = l) = false := decide_eq_false (by rintro rfl; rw [hp] at hq; cases hq; exact hpq rfl)
          clear hp hq
          go_wp2_with fail
          go_quiet (fail)
          go_wp2_with fail
          go_ret
          rw [hne]
          exact ⟨rfl, (HV.out.2.trans HS.out.2).trans ((Kept.refl _ _).drewN _)⟩
      · obtain rfl : i = k.length := by omega
        have y1 : decide ((k.length : Int) < (k.length : Int)) = false := decide_eq_false (by omega)
        have y2 : decide (k.length < k.length) = false := decide_eq_false (by omega)
        have hkl : decide (k = l) = true := decide_eq_true (by
          have := HS.out.1
          rwa [List.take_length, HL.out.1, List.take_length] at this)
        clear hi hlt
        go_wp2_with fail
        go_ret
        rw [hkl]
        exact ⟨rfl, HV.out.2.trans HS.out.2⟩
  · have z1 : ((k.length : Int) == (l.length : Int)) = false := by simp; omega
    have z2 : decide ((k.length : Int) = (l.length : Int)) = false := decide_eq_false (by omega)
    have z3 : decide (k.length = l.length) = false := decide_eq_false hlen
    have hne : decide (k = l) = false := decide_eq_false (by rintro rfl; exact hlen rfl)
    rw [hne]
    clear hl hlen
    go_enter Tryz.func36, Tryz.ntmps36
    go_wp2_with (go_at_call 28; refine hFL.out.mono ?_; rintro e w1 ⟨a, c, rfl, hv1, hk1⟩; have HV := Lib.hid (And.intro hv1 hk1); clear hv1 hk1)
    go_ret
    exact ⟨rfl, HV.out.2⟩
end
end Go.Proofs.YtlgeijbgkipliaaGreatDoor

namespace Go.Proofs.YtlgeijbgkipliaaGreatDoor
open Go.RowKit
def UpX (w0 w : World) (d s : Nat) (E : List By) (cap st : Int) (T : Nat) (Rs : List Tx) : Prop := ∃ M F, Up w0 w d s ⟨E, st, false⟩ M Rs ∧ UpF M F cap st false ∧ Exact F E ∧ AM.sum List.length F ≤ T
section
variable {w0 w w' : World} {d s : Nat} {E l : List By} {cap st : Int} {T n c : Nat} {Rs Rs' : List Tx} {a : Option Addr} {v : Value}
theorem UpX.same (h : UpX w0 w d s E cap st T Rs) (hk : Kept (fun _ => False) w w') : UpX w0 w' d s E cap st T Rs := by
  obtain ⟨M, F, h1, h2⟩ := h
  exact ⟨M, F, h1.same hk, h2⟩
theorem UpX.new (h : UpX w0 w d s E cap st T Rs) (hk : Kept (fun _ => False) w w') (hb : Row w' 9 1 v (strV l)) (hl : ∀ k, v.ownBlock = some k → w.heap.size ≤ k) : UpX w0 w' d s E cap st T (.row v l :: Rs) := by
  obtain ⟨M, F, h1, h2⟩ := h
  exact ⟨M, F, h1.new hk hb hl, h2⟩
theorem UpX.row (h : UpX w0 w d s E cap st T Rs) {v : Value} {l : List By} (hy : Tx.row v l ∈ Rs) : Row w 9 1 v (strV l) := by
  obtain ⟨M, F, h1, _⟩ := h
  exact h1.dn.row hy
theorem UpX.old (h : UpX w0 w d s E cap st T Rs) : Kept (fun _ => False) w0 w := by
  obtain ⟨M, F, h1, _⟩ := h
  exact h1.dn.old
theorem UpX.lit (h : UpX w0 w d s E cap st T Rs) (l : List By) (hn : l.length = n) (h0 : 0 < n) (hm : n ≤ 1000) : UpX w0 (w.alloc (.cells (strV l).toArray 9)) d s E cap st T (.row (.slice (some ⟨w.heap.size, 0, none⟩) n n) l :: Rs) :=
  h.new ((Kept.refl _ _).alloc _) (Row.fresh (Blk.new w _ _) (by rw [strV_len, hn]) h0 (by omega)) (fun k q => by simp [Value.ownBlock] at q; omega)
theorem UpX.append (h : UpX w0 w d s E cap st T Rs) (hl : View w 1 (.slice a n c) (strV l)) (ho : l ≠ [] → ∀ k, (Value.slice a n c).ownBlock = some k → k < w0.heap.size ∨ ∃ x ∈ Rs, x.own k) (hp : ∀ p ∈ l, p.length ≤ 200) (hf : E.length + l.length ≤ 4096) {T2 : Nat} (hT : T2 = T + (framesF l).length) (hr : (T2 : Int) ≤ cap) :
    Calls Tryz.prog 19 #[.pointer (some ⟨s, 0, none⟩), .slice a n c] w fun e w' => e = .returned (.int .i64 0) ∧ UpX w0 w' d s (E ++ l) cap st T2 Rs := by
  subst hT
  obtain ⟨M, F, h1, h2, h3, h4⟩ := h
  obtain ⟨rfl, _⟩ := view_len hl
  obtain ⟨M', F', e, k1, k2, k3⟩ := h2.append_ok h3 hp hf (by omega)
  exact (h1.append a c l hl ho (h2.few h3.1) e).mono (fun e w' q => ⟨q.1, M', F', q.2, k3, k1, by omega⟩)
theorem UpX.append_row (h : UpX w0 w d s E cap st T Rs) (hx : Tx.row (.slice a n c) l ∈ Rs) (hp : ∀ p ∈ l, p.length ≤ 200) (hf : E.length + l.length ≤ 4096) {T2 : Nat} (hT : T2 = T + (framesF l).length) (hr : (T2 : Int) ≤ cap) :
    Calls Tryz.prog 19 #[.pointer (some ⟨s, 0, none⟩), .slice a n c] w fun e w' => e = .returned (.int .i64 0) ∧ UpX w0 w' d s (E ++ l) cap st T2 Rs :=
  h.append (h.row hx).view (fun _ k q => Or.inr ⟨_, hx, q⟩) hp hf hT hr
theorem UpX.long (h : UpX w0 w d s E cap st T Rs) (hx : Tx.row (.slice a n c) l ∈ Rs) {p : By} (hp : p ∈ l) (hl : 200 < p.length) :
    Calls Tryz.prog 19 #[.pointer (some ⟨s, 0, none⟩), .slice a n c] w fun e w' => e = .returned (.int .i64 3) ∧ UpX w0 w' d s E cap st T Rs := by
  have hv : View w 1 (.slice a n c) (strV l) := (h.row hx).view
  obtain ⟨M, F, h1, h2, h3, h4⟩ := h
  obtain ⟨rfl, _⟩ := view_len hv
  exact (h1.append a c l hv (fun _ k q => Or.inr ⟨_, hx, q⟩) (h2.few h3.1) (h2.append_long hp hl)).mono (fun e w' q => ⟨q.1, M, F, q.2, h2, h3, h4⟩)
theorem UpX.cut (h : UpX w0 w d s E cap st T Rs) (hn : n ≤ E.length) :
    Calls Tryz.prog 39 #[.pointer (some ⟨s, 0, none⟩), .int .i64 (n : Int)] w fun e w' => e = .returned (.int .i64 0) ∧ UpX w0 w' d s (E.take n) cap st T Rs := by
  obtain ⟨M, F, h1, h2, h3, h4⟩ := h
  obtain ⟨M', F', e, k1, k2, k3⟩ := h2.cut_ok h3.1 hn
  exact (h1.cut n (h2.few h3.1) e).mono (fun e w' q => ⟨q.1, M', F', q.2, k3, k1, by omega⟩)
theorem UpX.count (h : UpX w0 w d s E cap st T Rs) {k : Int} (hk : (E.length : Int) = k) : Calls Tryz.prog 35 #[.pointer (some ⟨s, 0, none⟩)] w fun e w' => e = .returned (.int .i64 k) ∧ w = w' := by
  subst hk
  obtain ⟨M, F, h1, _⟩ := h
  exact h1.count
theorem UpX.get (h : UpX w0 w d s E cap st T Rs) (i k : Nat) (hik : i + k ≤ E.length) (hE : E.length ≤ 4096) :
    Calls Tryz.prog 37 #[.pointer (some ⟨s, 0, none⟩), .int .i64 (i : Int), .int .i64 (k : Int)] w fun e w' => ∃ x m c, e = .returned (.tuple #[.slice x m c, .int .i64 0]) ∧ UpX w0 w' d s E cap st T (.row (.slice x m c) ((E.drop i).take k) :: Rs) := by
  obtain ⟨M, F, h1, h2⟩ := h
  refine (h1.get i k (by omega) (by omega)).mono ?_
  intro e w' hq
  rcases hq with ⟨hq, _⟩ | ⟨i', k', e1, e2, _, x, m, c, he, hrow, hk, ho⟩
  · exact absurd hq (by show ¬ ((i : Int) < 0 ∨ (k : Int) < 0 ∨ (E.length : Int) < (i : Int) ∨ (E.length : Int) - (i : Int) < (k : Int)); omega)
  · obtain rfl : i = i' := by omega
    obtain rfl : k = k' := by omega
    exact ⟨x, m, c, he, M, F, h1.new hk hrow ho, h2⟩
theorem UpX.range (h : UpX w0 w d s E cap st T Rs) (i k : Nat) (hik : E.length < i + k) (hE : E.length ≤ 4096) (hi : i ≤ 100000) (hk : k ≤ 100000) :
    Calls Tryz.prog 37 #[.pointer (some ⟨s, 0, none⟩), .int .i64 (i : Int), .int .i64 (k : Int)] w fun e w' => e = .returned (.tuple #[.slice none 0 0, .int .i64 82]) ∧ w = w' := by
  obtain ⟨M, F, h1, h2⟩ := h
  refine (h1.get i k (by omega) (by omega)).mono ?_
  intro e w' hq
  rcases hq with ⟨_, he, hw⟩ | ⟨i', k', e1, e2, hle, _⟩
  · exact ⟨he, hw⟩
  · have : i' + k' ≤ E.length := hle
    omega
theorem UpX.files (h : UpX w0 w d s E cap st T Rs) {b : Option Addr} {m e : Nat} {l : List Int} (hl : View w 1 (.slice b m e) (icells l)) (hE : n = (E.length + 63) / 64) (hn : l = (List.range n).map (fun i : Nat => 1000 + (i : Int))) :
    Calls Tryz.prog 36 #[.pointer (some ⟨d, 0, none⟩), .slice b m e] w fun e w' => e = .returned (.bool true) ∧ UpX w0 w' d s E cap st T Rs := by
  obtain ⟨M, F, h1, h2, h3, h4⟩ := h
  obtain ⟨B, S, hf, hg⟩ := id h1
  refine (files_is hf.ap hl).mono ?_
  rintro e w' ⟨rfl, hk⟩
  rw [h2.keys h3 hE, ← hn, decide_eq_true rfl]
  exact ⟨rfl, M, F, h1.same hk, h2, h3, h4⟩
theorem seg_start (ht : Tab w0) (hA : Apart (fun k => k < w0.heap.size) d (DiskM.new cap) w) (hk : Kept (fun _ => False) w0 w) :
    Calls Tryz.prog 15 #[.pointer (some ⟨d, 0, none⟩)] w fun e w' => ∃ s, e = .returned (.tuple #[.pointer (some ⟨s, 0, none⟩), .int .i64 0]) ∧ UpX w0 w' d s [] cap 0 0 [] := by
  have hu := UpF.new hA.ok
  have hD := Fr.made hA ht hk
  obtain ⟨e1, e2, e3⟩ := open_exact hu exact_nil
  refine (hD.opens (by show 0 + 0 < 100000000; omega)).mono ?_
  intro e w' hq
  rcases hq with ⟨h0, _⟩ | ⟨_, s, he, hU⟩
  · exact absurd e1 h0
  · rw [e2] at hU
    exact ⟨s, he, _, [], hU, e3, exact_nil, by simp [AM.sum]⟩
end
end Go.Proofs.YtlgeijbgkipliaaGreatDoor

namespace Go.Proofs.YtlgeijbgkipliaaGreatDoor
open Go.RowKit
section
variable {w0 w w' : World} {d s : Nat} {E l : List By} {cap st : Int} {T n c : Nat} {Rs Rs' : List Tx} {a : Option Addr} {v : Value}
theorem ints_new (w : World) (l : List Int) (hn : l.length = n) (h0 : 0 < n) (hm : n ≤ 1000) : View (w.alloc (.cells (icells l).toArray 3)) 1 (.slice (some ⟨w.heap.size, 0, none⟩) n n) (icells l) :=
  (Row.fresh (Blk.new w _ _) (by unfold icells; rw [List.length_map, hn]) h0 (by omega)).view
theorem UpX.filesLit (h : UpX w0 w d s E cap st T Rs) (l : List Int) (hn : l.length = n) (h0 : 0 < n) (hm : n ≤ 1000) (hE : n = (E.length + 63) / 64) (hl : l = (List.range n).map (fun i : Nat => 1000 + (i : Int))) :
    Calls Tryz.prog 36 #[.pointer (some ⟨d, 0, none⟩), .slice (some ⟨w.heap.size, 0, none⟩) n n] (w.alloc (.cells (icells l).toArray 3)) fun e w' => e = .returned (.bool true) ∧ UpX w0 w' d s E cap st T Rs :=
  (h.same ((Kept.refl _ _).alloc _)).files (ints_new w l hn h0 hm) hE hl
theorem zeros_bytes (n : Nat) : zeros n = bytes8 (List.replicate n 0) := by unfold zeros bytes8; rw [List.map_replicate]; rfl
theorem zeros_text (w : World) : ∃ (W : World) (Z : By), Z.length = 201 ∧ (Instr.makeSlice 100 (.int .i64 201) (.int .i64 201)).run Tryz.prog w = .ok (.slice (some ⟨w.heap.size, 0, none⟩) 201 201) W ∧ (convert 100 9 (.slice (some ⟨w.heap.size, 0, none⟩) 201 201)).run Tryz.prog W = .ok (.string ⟨Z.toArray⟩) W ∧ Kept (fun _ => False) w W := by
  have hm := make_bytes w 201 (by omega)
  have hr : Row (w.alloc (.cells (zeros 201).toArray 5)) 5 1 (.slice (some ⟨w.heap.size, 0, none⟩) 201 201) (bytes8 (List.replicate 201 0)) := Row.fresh (by
    have := Blk.new w (zeros 201) 5
    rw [zeros_bytes] at this
    rw [zeros_bytes]
    exact this) (by rw [bytes8_len, List.length_replicate]) (by omega) (by omega)
  exact ⟨_, List.replicate 201 0, List.length_replicate, hm, hr.view.text, (Kept.refl _ _).alloc _⟩
set_option maxRecDepth 100000 in
set_option maxHeartbeats 8000000 in
theorem laid_any (w : World) (ht : Tab w) : Calls Tryz.prog 8 #[] w fun e w' => e = .returned (.bool true) ∧ Kept (fun _ => False) w w' := by
  have HT := Lib.hid ht
  clear ht
  go_enter Tryz.func8, Tryz.ntmps8
  go_upto_region 3 with (first
    | (go_at_call 9; refine (new_ok _ 3000 (by omega) (by omega)).mono ?_; rintro e w1 hnew; obtain ⟨d, rfl, hA1, k1⟩ := Apart.made _ hnew; have HOP := Lib.hid (seg_start HT.out hA1 k1); clear hnew hA1 k1)
    | (go_at_call 15; refine HOP.out.mono ?_; rintro e w2 ⟨s, rfl, hu⟩; have HU := Lib.hid hu; clear hu))
  clear HOP
  have hap1 := (HU.out.lit [[97], [98]] (n := 2) rfl (by omega) (by omega)).append_row (a := some ⟨w2.heap.size, 0, none⟩) (n := 2) (c := 2) (l := [[97], [98]]) (by simp) (by simp) (by simp) (T2 := 26) (by simp [frames_len_cons, framesF_nil]) (by omega)
  go_upto_region 5 with (first
    | (go_at_call 19; refine hap1.mono ?_; clear hap1; rintro e w3 ⟨rfl, hu3⟩; have HU3 := Lib.hid hu3; clear hu3)
    | (go_at_call 34; refine (many_any _ 65 (by omega) [120]).mono ?_; rintro e w4 ⟨a4, c4, rfl, hr4, hk4, ho4⟩; have HU4 := Lib.hid (HU3.out.new hk4 hr4 ho4); have hap2 := HU4.out.append_row (a := a4) (n := 65) (c := c4) (l := List.replicate 65 [120]) (by simp) (by simp) (by simp) (T2 := 871) (by rw [frames_alike]; rfl) (by omega); clear hr4 hk4 ho4)
    | (go_at_call 19; refine hap2.mono ?_; clear hap2; rintro e w5 ⟨rfl, hu5⟩; have HU5 := Lib.hid hu5; clear hu5; have hcnt := HU5.out.count (k := 67) (by simp); have hfi := HU5.out.filesLit [1000, 1001] (n := 2) rfl (by omega) (by omega) (by simp) (by rfl))
    | (go_at_call 35; refine hcnt.mono ?_; rintro e w' ⟨rfl, rfl⟩)
    | (go_at_call 36; refine hfi.mono ?_; clear hfi; rintro e w6 ⟨rfl, hu6⟩; have HU6 := Lib.hid hu6; clear hu6 hcnt))
  clear HU HU3 HU4 HU5
  obtain ⟨E, hE⟩ : ∃ E : List By, E = [] ++ [[97], [98]] ++ List.replicate 65 [120] := ⟨_, rfl⟩
  have HE : Hid (E.length = 67 ∧ (E.drop 1).take 2 = [[98], [120]]) := Lib.hid (by rw [hE]; exact ⟨by simp, rfl⟩)
  rw [← hE] at HU6
  clear hE
  have hg1 := HU6.out.get 1 2 (by have := HE.out.1; omega) (by have := HE.out.1; omega)
  go_upto_region 7 with (first
    | (go_at_call 37; refine hg1.mono ?_; clear hg1; rintro e w7 ⟨x7, m7, c7, rfl, hu7⟩; rw [HE.out.2] at hu7; have HU7 := Lib.hid hu7; clear hu7; have hg2 := HU7.out.range 66 2 (by have := HE.out.1; omega) (by have := HE.out.1; omega) (by omega) (by omega))
    | (go_at_call 37; refine hg2.mono ?_; clear hg2; rintro e w' ⟨rfl, rfl⟩))
  clear HU6
  have HU8 := Lib.hid (HU7.out.lit [[98], [120]] (n := 2) rfl (by omega) (by omega))
  have htx := texts_any (k := [[98], [120]]) (l := [[98], [120]]) (HU8.out.row (v := .slice x7 m7 c7) (l := [[98], [120]]) (by simp)).view (HU8.out.row (v := .slice (some ⟨w7.heap.size, 0, none⟩) 2 2) (l := [[98], [120]]) (by simp)).view
  rw [decide_eq_true rfl] at htx
  go_wp2_with (first
    | (go_at_call 38; refine htx.mono ?_; clear htx; rintro e w9 ⟨rfl, hk9⟩; have HU9 := Lib.hid (HU8.out.same hk9); have hcut := HU9.out.cut (n := 64) (by have := HE.out.1; omega); clear hk9)
    | (go_at_call 39; refine hcut.mono ?_; clear hcut; rintro e w10 ⟨rfl, hu10⟩; have HU10 := Lib.hid hu10; clear hu10; have hfi := HU10.out.filesLit [1000] (n := 1) rfl (by omega) (by omega) (by rw [List.length_take]; have := HE.out.1; omega) (by rfl))
    | (go_at_call 36; refine hfi.mono ?_; clear hfi; rintro e w11 ⟨rfl, hu11⟩; have HU11 := Lib.hid hu11; clear hu11; have hcnt := HU11.out.count (k := 64) (by rw [List.length_take]; have := HE.out.1; omega); obtain ⟨W12, Z, hZ, hmk, hcv, hk12⟩ := zeros_text w11; have HU12 := Lib.hid (HU11.out.same hk12); have HZ := Lib.hid hZ; clear hZ hk12)
    | (go_at_call 35; refine hcnt.mono ?_; rintro e w' ⟨rfl, rfl⟩)
    | (go_at_call 34; refine (many_any W12 1 (by omega) Z).mono ?_; rintro e w13 ⟨a13, c13, rfl, hr13, hk13, ho13⟩; have HU13 := Lib.hid (HU12.out.new hk13 hr13 ho13); have hlo := HU13.out.long (a := a13) (n := 1) (c := c13) (l := List.replicate 1 Z) (p := Z) (by simp) (by simp) (by have := HZ.out; omega); clear hr13 hk13 ho13)
    | (go_at_call 19; refine hlo.mono ?_; clear hlo; rintro e w14 ⟨rfl, hu14⟩; have HU14 := Lib.hid hu14; clear hu14))
  go_ret
  exact ⟨rfl, HU14.out.old⟩
end
end Go.Proofs.YtlgeijbgkipliaaGreatDoor
