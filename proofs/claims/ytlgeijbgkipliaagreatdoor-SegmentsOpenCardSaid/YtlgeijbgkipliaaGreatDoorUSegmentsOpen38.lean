/- Clone Seg1 Seg2 Seg3 Seg4a Seg5 SegPlan1 SegPlan2 SegPlan2b -/
import Derived.Deep.RegionHeld3
import Derived.Test.YtlgeijbgkipliaaGreatDoorUSegmentsOpen09
import Derived.Test.YtlgeijbgkipliaaGreatDoorUSegmentsOpen18
import Derived.Test.YtlgeijbgkipliaaGreatDoorUSegmentsOpen24
import Derived.Test.YtlgeijbgkipliaaGreatDoorUSegmentsOpen35
import Derived.Test.YtlgeijbgkipliaaGreatDoorUSegmentsOpen11
import Derived.Test.YtlgeijbgkipliaaGreatDoorUSegmentsOpen36
import Derived.Test.YtlgeijbgkipliaaGreatDoorUSegmentsOpen05
import Derived.Test.YtlgeijbgkipliaaGreatDoorUSegmentsOpen31
import Derived.Test.YtlgeijbgkipliaaGreatDoorUSegmentsOpen28
import Derived.Test.YtlgeijbgkipliaaGreatDoorUSegmentsOpen02
set_option linter.unusedVariables false
set_option linter.unusedSimpArgs false
namespace Go.Proofs.YtlgeijbgkipliaaGreatDoor
open Go.RowKit Go.Shelf
section
variable {w : World} {size : Nat} {v : Value} {xs : List Value}
theorem View.mid {P : Program} {t : TypeId} {a : Option Addr} {n cap : Nat} (h : View w size (.slice a n cap) xs) (ht : P.underlying t = some (.slice (P.elem t))) (hsz : ∀ w, (sizeOf (P.elem t)).run P w = .ok size w) (lo hi : Nat) (h1 : lo ≤ hi) (h2 : hi ≤ n) :
    ∃ a1 c1, (∀ w0, (Instr.slice t (.slice a n cap) (some (.int .i64 (lo : Int))) (some (.int .i64 (hi : Int))) none).run P w0 = .ok (.slice a1 (hi - lo) c1) w0) ∧ View w size (.slice a1 (hi - lo) c1) ((xs.drop (lo * size)).take ((hi - lo) * size)) := by
  have h3 := h.tail lo (by omega)
  have h4 := h3.head (hi - lo) (by omega)
  obtain ⟨a', n', cap', hv, k1, k2, k3, k4, k5⟩ := h
  cases hv
  refine ⟨_, cap - lo, fun w0 => ?_, h4⟩
  have hs := run_slice_lh (P := P) w0 t a n cap ht .i64 .i64 (lo : Int) (hi : Int) (by omega) (by omega) (by omega)
  rw [hsz] at hs
  simp only [Result.andThen, sliced, Int.toNat_natCast] at hs
  rw [hs]
def CloneTo (w : World) (t : TypeId) (xs : List Value) (e : Ending) (w' : World) : Prop := ∃ a n c, e = .returned (.slice a n c) ∧ Row w' t 1 (.slice a n c) xs ∧ Kept (fun _ => False) w w' ∧ ∀ k, (Value.slice a n c).ownBlock = some k → w.heap.size ≤ k
theorem clone_of {t : TypeId} {n : Nat} {v' : Value} {w' : World} (h1 : w'.ownsRow w.heap.size t 1 v' n xs) (h2 : Below w.heap.size w w') : CloneTo w t xs (.returned v') w' := by
  obtain ⟨h3, h4⟩ := Row.of_owns h1
  obtain ⟨a, n, c, rfl, _⟩ := h3.shape
  exact ⟨a, n, c, rfl, h3, (Kept.of_below h2).mono (fun _ _ => id), h4⟩
theorem clone_str {E : List By} (h : View w 1 v (strV E)) (hl : E.length ≤ 1000000) : Calls Tryz.prog 88 #[v] w (CloneTo w 9 (strV E)) := by
  obtain ⟨a, n, cap, rfl, h1, h2, h3, h4, h5⟩ := h
  rw [strV_len, Nat.mul_one] at h1
  subst h1
  rcases Nat.eq_zero_or_pos E.length with h0 | h0
  · have hE : E = [] := List.eq_nil_of_length_eq_zero h0
    subst hE
    cases a with
    | none => exact (AnyG.slices_Clone_string_nil Tryz.cloneStr 0 cap w).mono (fun e w' ⟨e1, e2⟩ => by subst e1; subst e2; exact ⟨none, 0, 0, rfl, Row.nil _ _ _, Kept.refl _ _, fun k q => by simp [Value.ownBlock] at q⟩)
    | some a => exact (AnyG.slices_Clone_string_zero Tryz.cloneStr a cap w).mono (fun e w' ⟨v', e1, e2, _, e3⟩ => by subst e1; exact clone_of e2 e3)
  · obtain ⟨g, off, rfl, hg, hc⟩ := h5 h0
    refine (AnyG.slices_Clone_string Tryz.cloneStr g off E.length cap (E.map fun p => ⟨p.toArray⟩) w (by simp) (by omega) (fun j hj => ?_)).mono (fun e w' ⟨v', e1, e2, _, e3⟩ => by
      subst e1
      rw [List.take_of_length_le (by simp), List.map_map] at e2
      exact clone_of e2 e3)
    rw [List.length_map] at hj
    refine hc j _ ?_
    unfold strV
    rw [List.getElem?_map, List.getD_eq_getElem?_getD, List.getElem?_map, List.getElem?_eq_getElem hj]
    rfl
theorem clone_int {l : List Nat} (h : View w 1 v (natsV l)) (hl : l.length ≤ 1000000) : Calls Tryz.prog 100 #[v] w (CloneTo w 3 (natsV l)) := by
  obtain ⟨a, n, cap, rfl, h1, h2, h3, h4, h5⟩ := h
  have hnl : (natsV l).length = l.length := by simp [natsV]
  rw [hnl, Nat.mul_one] at h1
  subst h1
  rcases Nat.eq_zero_or_pos l.length with h0 | h0
  · have hE : l = [] := List.eq_nil_of_length_eq_zero h0
    subst hE
    cases a with
    | none => exact (AnyG.slices_Clone_int_nil Tryz.cloneInt 0 cap w).mono (fun e w' ⟨e1, e2⟩ => by subst e1; subst e2; exact ⟨none, 0, 0, rfl, Row.nil _ _ _, Kept.refl _ _, fun k q => by simp [Value.ownBlock] at q⟩)
    | some a => exact (AnyG.slices_Clone_int_zero Tryz.cloneInt a cap w).mono (fun e w' ⟨v', e1, e2, _, e3⟩ => by subst e1; exact clone_of e2 e3)
  · obtain ⟨g, off, rfl, hg, hc⟩ := h5 h0
    refine (AnyG.slices_Clone_int Tryz.cloneInt g off l.length cap (l.map fun n : Nat => (n : Int)) w (by simp) (by omega) (fun j hj => ?_)).mono (fun e w' ⟨v', e1, e2, _, e3⟩ => by
      subst e1
      rw [List.take_of_length_le (by simp), List.map_map] at e2
      exact clone_of e2 e3)
    rw [List.length_map] at hj
    refine hc j _ ?_
    unfold natsV
    rw [List.getElem?_map, List.getD_eq_getElem?_getD, List.getElem?_map, List.getElem?_eq_getElem hj]
    rfl
theorem contains_any {l : List Int} (h : View w 1 v (icells l)) (n : Int) (hl : l.length ≤ 400000000) : Calls Tryz.prog 104 #[v, .int .i64 n] w fun e w' => e = .returned (.bool (l.contains n)) ∧ w = w' := by
  obtain ⟨a, m, cap, rfl, h1, h2, h3, h4, h5⟩ := h
  have hnl : (icells l).length = l.length := by simp [icells]
  rw [hnl, Nat.mul_one] at h1
  subst h1
  rcases Nat.eq_zero_or_pos l.length with h0 | h0
  · have hE : l = [] := List.eq_nil_of_length_eq_zero h0
    subst hE
    exact (AnyG.slices_Contains_int_empty Tryz.containsInt a cap n w).mono (fun e w' q => ⟨q.1, q.2.symm⟩)
  · obtain ⟨g, off, rfl, hg, hc⟩ := h5 h0
    refine (AnyG.slices_Contains_int Tryz.containsInt g off l.length cap l n w (Nat.le_refl _) (by omega) (fun j hj => ?_)).mono (fun e w' q => ⟨by rw [q.1, List.take_length], q.2.symm⟩)
    refine hc j _ ?_
    unfold icells
    rw [List.getElem?_map, List.getD_eq_getElem?_getD, List.getElem?_eq_getElem hj]
    rfl
end
end Go.Proofs.YtlgeijbgkipliaaGreatDoor

namespace Go.Proofs.YtlgeijbgkipliaaGreatDoor
open Go.RowKit
section
variable {w w' : World} {s d : Nat} {G : SegM} {S B : Nat → Prop} {M : DiskM}
theorem IsSeg.kept {Z : Nat → Prop} (h : IsSeg w s d G S) (hk : Kept Z w w') (hZ : ∀ k, S k → ¬ Z k) : IsSeg w' s d G S := by
  obtain ⟨⟨x, y, h1, h2, h3, h4, h5⟩, h6, h7, h8⟩ := h
  exact ⟨⟨x, y, h1.kept hk (hZ _ h6), h2.kept hk (fun k q => hZ k (h4 k q)), h3.kept hk (fun k q => hZ k (h5 k q)), h4, h5⟩, h6, h7, h8⟩
theorem IsSeg.same (h : IsSeg w s d G S) (hk : Kept (fun _ => False) w w') : IsSeg w' s d G S := h.kept hk (fun _ _ => id)
theorem IsSeg.lt (h : IsSeg w s d G S) : s < w.heap.size := by obtain ⟨⟨x, y, h1, _⟩, _⟩ := h; exact h1.lt
theorem IsSeg.die (h : IsSeg w s d G S) (b : Bool) : IsSeg (w.setCell ⟨s, 4, none⟩ (.bool b)) s d { G with dead := b } S := by
  obtain ⟨⟨x, y, h1, h2, h3, h4, h5⟩, h6, h7, h8⟩ := h
  exact ⟨⟨x, y, h1.set 4 _, h2.other (fun e => h2.ne_blk e h1 (by decide) rfl) _, h3.other (fun e => h3.ne_blk e h1 (by decide) rfl) _, h4, h5⟩, h6, h7, h8⟩
theorem IsSeg.eta (h : IsSeg w s d { G with dead := G.dead } S) : IsSeg w s d G S := h
theorem IsSeg.cells (h : IsSeg w s d G S) : ∃ x y, w.cell? ⟨s, 0, none⟩ = some (.pointer (some ⟨d, 0, none⟩)) ∧ w.cell? ⟨s, 1, none⟩ = some x ∧ w.cell? ⟨s, 2, none⟩ = some y ∧ w.cell? ⟨s, 3, none⟩ = some (.int .i64 G.starts) ∧ w.cell? ⟨s, 4, none⟩ = some (.bool G.dead) ∧ w.frozen? ⟨s, 1, none⟩ = false ∧ w.frozen? ⟨s, 2, none⟩ = false ∧ w.frozen? ⟨s, 4, none⟩ = false ∧ Row w 9 1 x (strV G.entries) ∧ Row w 3 1 y (natsV (endsE G.entries)) ∧ (∀ k, x.ownBlock = some k → S k) ∧ ∀ k, y.ownBlock = some k → S k := by
  obtain ⟨⟨x, y, h1, h2, h3, h4, h5⟩, h6, h7, h8⟩ := h
  exact ⟨x, y, h1.cell (i := 0) rfl, h1.cell (i := 1) rfl, h1.cell (i := 2) rfl, h1.cell (i := 3) rfl, h1.cell (i := 4) rfl, h1.free 1, h1.free 2, h1.free 4, h2, h3, h4, h5⟩
theorem seg_count (h : IsSeg w s d G S) : Calls Tryz.prog 35 #[.pointer (some ⟨s, 0, none⟩)] w fun e w' => e = .returned (.int .i64 (G.entries.length : Int)) ∧ w = w' := by
  obtain ⟨x, y, _, c1, _, _, _, _, _, _, h2, _⟩ := h.cells
  obtain ⟨a, n, cap, rfl, hm, _⟩ := h2.form (by omega)
  rw [strV_len, Nat.mul_one] at hm
  rw [← hm]
  clear hm h2 h
  go_enter Tryz.func35, Tryz.ntmps35
  go_wp2
  go_ret
  exact ⟨rfl, rfl⟩
end
end Go.Proofs.YtlgeijbgkipliaaGreatDoor

namespace Go.Proofs.YtlgeijbgkipliaaGreatDoor
open Go.RowKit
section
variable {w w' : World} {s d : Nat} {G : SegM} {S B : Nat → Prop} {M : DiskM}
set_option maxRecDepth 100000 in
set_option maxHeartbeats 2000000 in
theorem seg_ready (h : IsSeg w s d G S) (hd : Apart B d M w) :
    Calls Tryz.prog 64 #[.pointer (some ⟨s, 0, none⟩)] w fun e w' => e = .returned (.int .i64 (if G.over M = true then 61 else 0)) ∧ IsSeg w' s d { G with dead := G.over M } S ∧ Kept (· = s) w w' := by
  have hset : G.over M = true → IsSeg (w.drew.setCell ⟨s, 4, none⟩ (.bool true)) s d { G with dead := G.over M } S ∧ Kept (· = s) w (w.drew.setCell ⟨s, 4, none⟩ (.bool true)) := by
    intro hb
    rw [hb]
    exact ⟨(h.same (Kept.refl _ _).drew).die true, ((Kept.refl (· = s) w).drew).trans (kept_cell w.drew s 4 _)⟩
  have hdd : Apart B d M w.drew := hd.same (Kept.refl _ _).drew
  obtain ⟨x, y, _, _, _, _, _, _, _, _, _⟩ := h.cells
  have hsd := h.same (Kept.refl _ _).drew
  obtain ⟨x, y, c0, _, _, c3, c4, _, _, f4, _⟩ := hsd.cells
  obtain ⟨_, _, k0, _⟩ := h.cells
  cases hdead : G.dead
  · rw [hdead] at c4
    cases hdn : M.down
    · have hup := up_ap hdd (b := true) (by rw [hdn]; rfl)
      by_cases hst : M.starts = G.starts
      · have ho : G.over M = false := by simp [SegM.over, hdead, hdn, hst]
        have hs := starts_ap hdd hst
        have HE := Lib.hid (show IsSeg w.drew s d { G with dead := G.over M } S ∧ Kept (· = s) w w.drew from ⟨by rw [ho, ← hdead]; exact hsd.eta, (Kept.refl _ _).drew⟩)
        rw [ho]
        clear hset hd h hsd
        go_enter Tryz.func64, Tryz.ntmps64
        go_wp2_with fail
        refine wp_region_tail 24 (by kernel_rfl) (by kernel_rfl) ?_
        simp only [List.take_succ_cons, List.take_zero, List.drop_succ_cons, List.drop_zero]
        refine StH.out ?_
        repeat (refine StH.step (fun K hK => ?_); go_simp; refine hK.out _ ?_; clear hK K)
        (refine StH.step (fun K hK => ?_); go_simp; refine ⟨_, (calls_pure hup), hK.out _ ?_⟩; clear hK K)
        repeat (refine StH.step (fun K hK => ?_); go_simp; refine hK.out _ ?_; clear hK K)
        (refine StH.step (fun K hK => ?_); go_simp; refine ⟨_, (calls_pure hs), hK.out _ ?_⟩; clear hK K)
        repeat (refine StH.step (fun K hK => ?_); go_simp; refine hK.out _ ?_; clear hK K)
        refine StH.nil ?_
        go_wp2_with fail
        go_ret
        rw [ho] at HE
        exact ⟨rfl, HE.out.1, HE.out.2⟩
      · have ho : G.over M = true := by simp [SegM.over, hdead, hdn, hst]
        have hs := starts_ap hdd (r := M.starts) rfl
        have y1 : (M.starts == G.starts) = false := by simpa using hst
        have y2 : decide (M.starts = G.starts) = false := decide_eq_false hst
        have y3 : (M.starts != G.starts) = true := by simpa using hst
        have HE := Lib.hid (hset ho)
        rw [ho]
        clear hset hd h hsd
        go_enter Tryz.func64, Tryz.ntmps64
        go_wp2_with fail
        refine wp_region_tail 24 (by kernel_rfl) (by kernel_rfl) ?_
        simp only [List.take_succ_cons, List.take_zero, List.drop_succ_cons, List.drop_zero]
        refine StH.out ?_
        repeat (refine StH.step (fun K hK => ?_); go_simp; refine hK.out _ ?_; clear hK K)
        (refine StH.step (fun K hK => ?_); go_simp; refine ⟨_, (calls_pure hup), hK.out _ ?_⟩; clear hK K)
        repeat (refine StH.step (fun K hK => ?_); go_simp; refine hK.out _ ?_; clear hK K)
        (refine StH.step (fun K hK => ?_); go_simp; refine ⟨_, (calls_pure hs), hK.out _ ?_⟩; clear hK K)
        repeat (refine StH.step (fun K hK => ?_); go_simp; refine hK.out _ ?_; clear hK K)
        refine StH.nil ?_
        go_wp2_with fail
        go_ret
        rw [ho] at HE
        exact ⟨rfl, HE.out.1, HE.out.2⟩
    · have hup := up_ap hdd (b := false) (by rw [hdn]; rfl)
      have ho : G.over M = true := by simp [SegM.over, hdead, hdn]
      have HE := Lib.hid (hset ho)
      rw [ho]
      clear hset hd h hsd
      go_enter Tryz.func64, Tryz.ntmps64
      go_wp2_with fail
      refine wp_region_tail 24 (by kernel_rfl) (by kernel_rfl) ?_
      simp only [List.take_succ_cons, List.take_zero, List.drop_succ_cons, List.drop_zero]
      refine StH.out ?_
      repeat (refine StH.step (fun K hK => ?_); go_simp; refine hK.out _ ?_; clear hK K)
      (refine StH.step (fun K hK => ?_); go_simp; refine ⟨_, (calls_pure hup), hK.out _ ?_⟩; clear hK K)
      repeat (refine StH.step (fun K hK => ?_); go_simp; refine hK.out _ ?_; clear hK K)
      refine StH.nil ?_
      go_wp2_with fail
      go_ret
      rw [ho] at HE
      exact ⟨rfl, HE.out.1, HE.out.2⟩
  · rw [hdead] at c4
    have ho : G.over M = true := by simp [SegM.over, hdead]
    have HE := Lib.hid (hset ho)
    rw [ho]
    clear hset hd h hsd
    go_enter Tryz.func64, Tryz.ntmps64
    go_wp2_with fail
    refine wp_region_tail 24 (by kernel_rfl) (by kernel_rfl) ?_
    simp only [List.take_succ_cons, List.take_zero, List.drop_succ_cons, List.drop_zero]
    refine StH.out ?_
    repeat (refine StH.step (fun K hK => ?_); go_simp; refine hK.out _ ?_; clear hK K)
    refine StH.nil ?_
    go_wp2_with fail
    go_ret
    rw [ho] at HE
    exact ⟨rfl, HE.out.1, HE.out.2⟩
def DonePost (B : Nat → Prop) (s d : Nat) (G : SegM) (S : Nat → Prop) (w : World) (zs : List Nat) (v : Value) (r : Int × DiskM) (e : Ending) (w' : World) : Prop :=
  e = .returned (.int .i64 r.1) ∧ IsSeg w' s d { G with dead := G.dead || decide (r.1 = 61) } S ∧ Apart B d r.2 w' ∧ Kept (fun i => ¬ B i ∨ i ∈ zs ∨ i = s ∨ v.ownBlock = some i) w w'
theorem done_sync (h : IsSeg w s d G S) (hd : Apart B d M w) {v : Value} {vs : List Value} {cs : List Chg} {zs : List Nat} {Bs : Nat → Prop} (hS : ∀ k, S k → B k ∧ k ∉ zs) (hr : Row w 159 1 v vs) (hs : StepsOk w d Bs vs cs zs) (hB : ∀ k, Bs k → B k) (hv : ∀ k, v.ownBlock = some k → B k ∧ k ∉ zs ∧ ¬ S k ∧ ¬ Bs k)
    (hc : M.files.length + M.loose.length + cs.length + 1 < 300000000) (hz : ∀ z ∈ zs, z < w.heap.size) :
    ∃ a m c W, (Builtin.append_ #[112, 112] 112 #[v, .slice (some ⟨w.heap.size, 0, none⟩) 1 1]).run Tryz.prog (w.alloc (.cells #[.func (.func 55) #[.pointer (some ⟨d, 0, none⟩)] #[]] 159)) = .ok (.slice a m c) W ∧
      ∃ r, Hid (r = (runAll (cs ++ [.sync]) M).1) ∧ Hid (Calls Tryz.prog 54 #[.slice a m c] W fun e w' => e = .returned (.int .i64 r) ∧ IsSeg w' s d G S ∧ Hid (DonePost B s d G S w zs v (runAll (cs ++ [.sync]) M) (.returned (.int .i64 r)) (w'.setCell ⟨s, 4, none⟩ (.bool (G.dead || decide (r = 61)))))) := by
  have hlen := hs.len
  obtain ⟨v', W, hrun, HH, a, m, c, rfl⟩ := append_step hr (.func (.func 55) #[.pointer (some ⟨d, 0, none⟩)] #[]) rfl (by omega)
  obtain ⟨g1, g2, g3⟩ := HH.out
  refine ⟨a, m, c, W, hrun, _, Lib.hid rfl, Lib.hid ?_⟩
  have hsW := (hs.append (B'' := Bs) (StepsOk.one (B := fun _ => False) (step_sync w d) (fun _ => id)) (fun _ => id) (fun k q => q.elim)).kept (w' := W) (fun k q => g2.block k (hd.lt (hB k q)) (fun e => (hv k e).2.2.2 q))
  rw [List.append_nil] at hsW
  have hdW : Apart (fun k => B k ∨ (w.heap.size ≤ k ∧ k < W.heap.size)) d M W := hd.grow g2 (fun k _ e => (hv k e).1) (fun k q => q)
  have hSW := h.kept g2 (fun k q e => (hv k e).2.2.1 q)
  refine (all_any hdW g1 (hsW.mono (fun k q => Or.inl (hB k q))) (fun k q => ?_) (by rw [List.length_append]; simp; omega)).mono ?_
  · rcases g3 k q with e | e
    · exact ⟨Or.inl (hv k e).1, (hv k e).2.1⟩
    · exact ⟨Or.inr ⟨e, g1.lt q⟩, fun z => by have := hz k z; omega⟩
  · rintro e w' ⟨rfl, ha, hk⟩
    have hS2 : IsSeg w' s d G S := hSW.kept hk (fun k q z => z.elim (fun z => z (Or.inl (hS k q).1)) (fun z => (hS k q).2 z))
    have hkc := kept_cell w' s 4 (.bool (G.dead || decide ((runAll (cs ++ [.sync]) M).1 = 61)))
    refine ⟨rfl, hS2, Lib.hid ⟨rfl, hS2.die _, (ha.fewer (fun k => Or.inl)).turn hkc (fun k e => by rw [e]; exact (hS s h.own).1), ?_⟩⟩
    refine ((g2.mono (fun k _ q => Or.inr (Or.inr (Or.inr q)))).then_ hk (fun i hi q => ?_)).then_ hkc (fun i _ q => Or.inr (Or.inr (Or.inl q)))
    rcases q with q | q
    · exact Or.inl (fun z => q (Or.inl z))
    · exact Or.inr (Or.inl q)
set_option maxRecDepth 100000 in
set_option maxHeartbeats 2000000 in
theorem seg_done (h : IsSeg w s d G S) (hd : Apart B d M w) {v : Value} {vs : List Value} {cs : List Chg} {zs : List Nat} {Bs : Nat → Prop} (hS : ∀ k, S k → B k ∧ k ∉ zs) (hr : Row w 159 1 v vs) (hs : StepsOk w d Bs vs cs zs) (hB : ∀ k, Bs k → B k) (hv : ∀ k, v.ownBlock = some k → B k ∧ k ∉ zs ∧ ¬ S k ∧ ¬ Bs k)
    (hc : M.files.length + M.loose.length + cs.length + 1 < 300000000) (hz : ∀ z ∈ zs, z < w.heap.size) :
    Calls Tryz.prog 66 #[.pointer (some ⟨s, 0, none⟩), v] w (DonePost B s d G S w zs v (runAll (cs ++ [.sync]) M)) := by
  obtain ⟨a, m, c, W, r1, r, Hr, HC⟩ := done_sync h hd hS hr hs hB hv hc hz
  obtain ⟨x, y, c0, _⟩ := h.cells
  clear hS hs hB hv hc hz hd
  cases hdead : G.dead
  · by_cases h61 : r = 61
    · subst h61
      go_enter Tryz.func66, Tryz.ntmps66
      go_wp2_with (first
        | ((with_reducible show wpList _ _ _ (⟨some 13, _, _, _, _, _⟩ :: _) _ _); refine Lib.wpList_append_run _ rfl _ _ 112 112 rfl _ _ rfl rfl _ _ r1 ?_)
        | (go_at_call 54; refine HC.out.mono ?_; rintro e w' ⟨rfl, hS2, HD⟩; obtain ⟨_, _, _, _, _, _, d4, _, _, f4, _⟩ := hS2.cells; rw [hdead] at d4 HD))
      go_ret
      exact HD.out
    · have y1 : (r == 61) = false := by simpa using h61
      have y2 : decide (r = 61) = false := decide_eq_false h61
      go_enter Tryz.func66, Tryz.ntmps66
      go_wp2_with (first
        | ((with_reducible show wpList _ _ _ (⟨some 13, _, _, _, _, _⟩ :: _) _ _); refine Lib.wpList_append_run _ rfl _ _ 112 112 rfl _ _ rfl rfl _ _ r1 ?_)
        | (go_at_call 54; refine HC.out.mono ?_; rintro e w' ⟨rfl, hS2, HD⟩; obtain ⟨_, _, _, _, _, _, d4, _, _, f4, _⟩ := hS2.cells; rw [hdead, y2] at HD; rw [hdead] at d4))
      go_ret
      exact HD.out
  · go_enter Tryz.func66, Tryz.ntmps66
    go_wp2_with (first
      | ((with_reducible show wpList _ _ _ (⟨some 13, _, _, _, _, _⟩ :: _) _ _); refine Lib.wpList_append_run _ rfl _ _ 112 112 rfl _ _ rfl rfl _ _ r1 ?_)
      | (go_at_call 54; refine HC.out.mono ?_; rintro e w' ⟨rfl, hS2, HD⟩; obtain ⟨_, _, _, _, _, _, d4, _, _, f4, _⟩ := hS2.cells; rw [hdead] at d4 HD))
    go_ret
    exact HD.out
end
end Go.Proofs.YtlgeijbgkipliaaGreatDoor

namespace Go.Proofs.YtlgeijbgkipliaaGreatDoor
open Go.RowKit
section
variable {w w' : World} {s d : Nat} {G : SegM} {S B : Nat → Prop} {M : DiskM}
set_option maxRecDepth 100000 in
theorem seg_end (w : World) (X : List By) {a : Option Addr} {m c : Nat} (h : Row w 3 1 (.slice a m c) (natsV (endsE X))) (hX : X.length ≤ 100000) :
    Calls Tryz.prog 101 #[.slice a m c, .int .i64 (X.length : Int)] w fun e w' => e = .returned (.int .i64 (fromE X : Nat)) ∧ w = w' := by
  obtain ⟨_, _, _, e, hm, _, hc⟩ := h.form (by omega)
  cases e
  rw [natsV_len, endsE_len, Nat.mul_one] at hm
  subst hm
  by_cases h0 : X.length % 64 = 0
  · rw [fromE_zero X h0]
    have y1 : ((X.length : Int) % 64) = 0 := by omega
    have y2 : Int.tmod (X.length : Int) 64 = 0 := by rw [Int.tmod_eq_emod_of_nonneg (by omega)]; exact y1
    clear hc h0 h
    go_enter Tryz.func101, Tryz.ntmps101
    go_wp2
    go_ret
    exact ⟨rfl, rfl⟩
  · obtain ⟨g, rfl, _, hc⟩ := hc (by omega)
    have hcell : w.cell? ⟨g, X.length - 1, none⟩ = some (.int .i64 (fromE X : Nat)) := hc _ _ (by unfold natsV; rw [List.getElem?_map, fromE_at X h0]; rfl)
    have y1 : ((X.length : Int) % 64) ≠ 0 := by omega
    have y2 : Int.tmod (X.length : Int) 64 ≠ 0 := by rw [Int.tmod_eq_emod_of_nonneg (by omega)]; exact y1
    have hw : wrap64 ((X.length : Int) - 1) = ((X.length - 1 : Nat) : Int) := by rw [IntWalk.wrap64_in _ (by omega)]; omega
    have hw1 : ((X.length - 1 : Nat) : Int) < (X.length : Int) := by omega
    have hw2 : X.length - 1 < X.length := by omega
    clear hc h0 h
    go_enter Tryz.func101, Tryz.ntmps101
    go_wp2
    go_ret
    exact ⟨rfl, rfl⟩
def SegGet (w : World) (E : List By) (a b : Int) (e : Ending) (w' : World) : Prop :=
  ((a < 0 ∨ b < 0 ∨ (E.length : Int) < a ∨ (E.length : Int) - a < b) ∧ e = .returned (.tuple #[.slice none 0 0, .int .i64 82]) ∧ w = w') ∨
  (∃ i k : Nat, a = (i : Int) ∧ b = (k : Int) ∧ i + k ≤ E.length ∧ ∃ x m c, e = .returned (.tuple #[.slice x m c, .int .i64 0]) ∧ Row w' 9 1 (.slice x m c) (strV ((E.drop i).take k)) ∧ Kept (fun _ => False) w w' ∧ ∀ j, (Value.slice x m c).ownBlock = some j → w.heap.size ≤ j)
set_option maxRecDepth 100000 in
set_option maxHeartbeats 2000000 in
theorem seg_get (h : IsSeg w s d G S) (a b : Int) (ha : -9223372036854775808 ≤ a ∧ a ≤ 9223372036854775807) (hb : -9223372036854775808 ≤ b ∧ b ≤ 9223372036854775807) :
    Calls Tryz.prog 37 #[.pointer (some ⟨s, 0, none⟩), .int .i64 a, .int .i64 b] w (SegGet w G.entries a b) := by
  obtain ⟨x, y, c0, c1, _, _, _, _, _, _, hr, _⟩ := h.cells
  have hfew := h.few
  obtain ⟨xa, n, cap, rfl, hm, _⟩ := hr.shape
  rw [strV_len, Nat.mul_one] at hm
  subst hm
  have HV := Lib.hid hr.view
  have HF := Lib.hid hfew
  clear hr h
  by_cases h1 : a < 0
  · have HE := Lib.hid (show SegGet w G.entries a b (.returned (.tuple #[.slice none 0 0, .int .i64 82])) w from Or.inl ⟨Or.inl h1, rfl, rfl⟩)
    have y1 : decide (a < 0) = true := decide_eq_true h1
    clear hfew
    go_enter Tryz.func37, Tryz.ntmps37
    go_wp2
    go_ret2
    exact HE.out
  · have y1 : decide (a < 0) = false := decide_eq_false h1
    by_cases h2 : b < 0
    · have HE := Lib.hid (show SegGet w G.entries a b (.returned (.tuple #[.slice none 0 0, .int .i64 82])) w from Or.inl ⟨Or.inr (Or.inl h2), rfl, rfl⟩)
      have y2 : decide (b < 0) = true := decide_eq_true h2
      clear hfew
      go_enter Tryz.func37, Tryz.ntmps37
      go_wp2
      go_ret2
      exact HE.out
    · have y2 : decide (b < 0) = false := decide_eq_false h2
      by_cases h3 : (G.entries.length : Int) < a
      · have HE := Lib.hid (show SegGet w G.entries a b (.returned (.tuple #[.slice none 0 0, .int .i64 82])) w from Or.inl ⟨Or.inr (Or.inr (Or.inl h3)), rfl, rfl⟩)
        have y3 : decide ((G.entries.length : Int) < a) = true := decide_eq_true h3
        clear hfew
        go_enter Tryz.func37, Tryz.ntmps37
        go_wp2
        go_ret2
        exact HE.out
      · have y3 : decide ((G.entries.length : Int) < a) = false := decide_eq_false h3
        have hw : wrap64 ((G.entries.length : Int) - a) = (G.entries.length : Int) - a := IntWalk.wrap64_in _ (by omega)
        by_cases h4 : (G.entries.length : Int) - a < b
        · have HE := Lib.hid (show SegGet w G.entries a b (.returned (.tuple #[.slice none 0 0, .int .i64 82])) w from Or.inl ⟨Or.inr (Or.inr (Or.inr h4)), rfl, rfl⟩)
          have y4 : decide ((G.entries.length : Int) - a < b) = true := decide_eq_true h4
          clear hfew
          go_enter Tryz.func37, Tryz.ntmps37
          go_wp2
          go_ret2
          exact HE.out
        · have y4 : decide ((G.entries.length : Int) - a < b) = false := decide_eq_false h4
          obtain ⟨i, rfl⟩ : ∃ i : Nat, a = (i : Int) := ⟨a.toNat, by omega⟩
          obtain ⟨k, rfl⟩ : ∃ k : Nat, b = (k : Int) := ⟨b.toNat, by omega⟩
          obtain ⟨N, hN⟩ : ∃ N, N = i + k := ⟨_, rfl⟩
          have hw2 : wrap64 ((i : Int) + (k : Int)) = (N : Int) := by rw [IntWalk.wrap64_in _ (by omega)]; omega
          have hv := (HV.out.tail i (by omega)).head k (by omega)
          simp only [Nat.mul_one] at hv
          have hcl := clone_str (E := (G.entries.drop i).take k) (v := .slice (if cap = i then xa else xa.map (fun x => x.add i)) k (cap - i)) (by unfold strV; rw [List.map_take, List.map_drop]; exact hv) (by rw [List.length_take]; omega)
          have HE := Lib.hid (fun x m c (w1 : World) (hq : Row w1 9 1 (.slice x m c) (strV ((G.entries.drop i).take k)) ∧ Kept (fun _ => False) w w1 ∧ ∀ j, (Value.slice x m c).ownBlock = some j → w.heap.size ≤ j) => show SegGet w G.entries i k (.returned (.tuple #[.slice x m c, .int .i64 0])) w1 from Or.inr ⟨i, k, rfl, rfl, by omega, x, m, c, rfl, hq⟩)
          clear hv hfew
          go_enter Tryz.func37, Tryz.ntmps37
          go_wp2_with (go_at_call 88; refine hcl.mono ?_; rintro e w1 ⟨x, m, c, rfl, hq⟩)
          all_goals go_ret2
          all_goals exact HE.out _ _ _ _ hq
end
section
variable {w : World} {s d : Nat}
set_option maxRecDepth 100000 in
theorem step_make {sb nb : Nat} {x y : Value} {st n : Int} {dead : Bool} (ha : Blk w sb [.pointer (some ⟨s, 0, none⟩)] 40) (hs : Blk w s (segC d x y st dead) 111) (hb : Blk w nb [.int .i64 n] 3) (n0 : -9223372036854775808 ≤ n ∧ n ≤ 9223372036854775807) :
    IsStep w d (.func (.func 105) #[] #[.pointer (some ⟨sb, 0, none⟩), .pointer (some ⟨nb, 0, none⟩)]) (.make n) (fun k => k = sb ∨ k = s ∨ k = nb) [] := by
  refine ⟨_, _, _, rfl, by simp, Lib.hid (fun w' M B hw _ hap hc => ?_)⟩
  obtain ⟨r, M', he⟩ : ∃ r M', M.create n = (r, M') := ⟨_, _, rfl⟩
  show Calls _ _ #[.pointer (some ⟨sb, 0, none⟩), .pointer (some ⟨nb, 0, none⟩)] _ fun e w'' => e = .returned (.int .i64 (M.create n).1) ∧ Apart B d (M.create n).2 w'' ∧ _
  rw [he]
  have h1 := ((blk_of ha (hw sb (Or.inl rfl))).drew).cell (i := 0) rfl
  have h2 := ((blk_of hs (hw s (Or.inr (Or.inl rfl)))).drew).cell (i := 0) rfl
  have h3 := ((blk_of hb (hw nb (Or.inr (Or.inr rfl)))).drew).cell (i := 0) rfl
  have HD := Lib.hid (create_ap (hap.same (Kept.refl _ _).drew) n n0 hc he)
  have HK := Lib.hid ((Kept.refl (fun k => ¬ B k ∨ k ∈ []) w').drew)
  clear he hw hap
  go_enter Tryz.func105, Tryz.ntmps105
  go_wp2_with fail
  refine wp_region_tail 5 (by kernel_rfl) (by kernel_rfl) ?_
  simp only [List.take_succ_cons, List.take_zero, List.drop_succ_cons, List.drop_zero]
  refine StH.out ?_
  repeat (refine StH.step (fun K hK => ?_); go_simp; refine hK.out _ ?_; clear hK K)
  refine StH.nil ?_
  go_wp2_with (go_at_call 11; refine HD.out.mono ?_; rintro e w' ⟨rfl, ha1, hk1⟩)
  go_ret
  exact ⟨rfl, ha1, HK.out.trans (hk1.mono (fun _ _ => Or.inl))⟩
end
end Go.Proofs.YtlgeijbgkipliaaGreatDoor

namespace Go.Proofs.YtlgeijbgkipliaaGreatDoor
open Go.RowKit
theorem row_of {w w' : World} {e : TypeId} {size : Nat} {v : Value} {xs : List Value} (h : Row w e size v xs) (he : ∀ k, v.ownBlock = some k → w'.heap[k]? = w.heap[k]?) : Row w' e size v xs := by
  rcases h with h | ⟨g, n, cap, rest, rfl, h1, hb, h2⟩
  · exact Or.inl h
  · exact Or.inr ⟨g, n, cap, rest, rfl, h1, blk_of hb (he g rfl), h2⟩
theorem bld_of {w w' : World} {b : Nat} {v : Value} {l : List UInt8} (h : BldR w b v l) (hb : w'.heap[b]? = w.heap[b]?) (he : ∀ k, v.ownBlock = some k → w'.heap[k]? = w.heap[k]?) : BldR w' b v l := by
  obtain ⟨⟨p, hp, h1⟩, h2⟩ := h
  exact ⟨⟨p, hp, blk_of h1 hb⟩, row_of h2 he⟩
structure StepS (sb s nb d : Nat) (n : Int) (W : World) : Prop where
  a : W.cell? ⟨sb, 0, none⟩ = some (.pointer (some ⟨s, 0, none⟩))
  b : W.cell? ⟨s, 0, none⟩ = some (.pointer (some ⟨d, 0, none⟩))
  c : W.cell? ⟨nb, 0, none⟩ = some (.int .i64 n)
theorem StepS.kept {sb s nb d : Nat} {n : Int} {W W' : World} {Z : Nat → Prop} (h : StepS sb s nb d n W) (hk : Kept Z W W') (h1 : ¬ Z sb) (h2 : ¬ Z s) (h3 : ¬ Z nb) : StepS sb s nb d n W' := ⟨hk.cell h.a h1, hk.cell h.b h2, hk.cell h.c h3⟩
section
variable {w : World} {s d : Nat}
set_option maxRecDepth 100000 in
set_option maxHeartbeats 2000000 in
theorem step_app {sb nb tb g : Nat} {x y v : Value} {st n : Int} {dead : Bool} {l : By} (ha : Blk w sb [.pointer (some ⟨s, 0, none⟩)] 40) (hs : Blk w s (segC d x y st dead) 111) (hb : Blk w nb [.int .i64 n] 3) (ht : BldR w tb v l) (hg : v.ownBlock = some g) (h0 : l ≠ []) (hl : l.length ≤ 1000000) (n0 : -9223372036854775808 ≤ n ∧ n ≤ 9223372036854775807) :
    IsStep w d (.func (.func 106) #[] #[.pointer (some ⟨sb, 0, none⟩), .pointer (some ⟨nb, 0, none⟩), .pointer (some ⟨tb, 0, none⟩)]) (.app n l) (fun k => k = sb ∨ k = s ∨ k = nb ∨ k = tb ∨ k = g) [g] := by
  refine ⟨_, _, _, rfl, by simp, Lib.hid (fun w' M B hw hB hap hc => ?_)⟩
  obtain ⟨r, M', he⟩ : ∃ r M', M.append n l = (r, M') := ⟨_, _, rfl⟩
  show Calls _ _ #[.pointer (some ⟨sb, 0, none⟩), .pointer (some ⟨nb, 0, none⟩), .pointer (some ⟨tb, 0, none⟩)] _ fun e w'' => e = .returned (.int .i64 (M.append n l).1) ∧ Apart B d (M.append n l).2 w'' ∧ _
  rw [he]
  have b1 := (blk_of ha (hw sb (Or.inl rfl))).drew
  have b2 := (blk_of hs (hw s (Or.inr (Or.inl rfl)))).drew
  have b3 := (blk_of hb (hw nb (Or.inr (Or.inr (Or.inl rfl))))).drew
  have b4 : BldR w'.drew tb v l := (bld_of ht (hw tb (Or.inr (Or.inr (Or.inr (Or.inl rfl))))) (fun k q => hw k (by rw [hg] at q; cases q; exact Or.inr (Or.inr (Or.inr (Or.inr rfl)))))).same (Kept.refl _ _).drew
  have hS0 : StepS sb s nb d n w'.drew := ⟨b1.cell (i := 0) rfl, b2.cell (i := 0) rfl, b3.cell (i := 0) rfl⟩
  have n1 : v.ownBlock ≠ some sb := fun e => b4.2.ne_blk e b1 (by decide) rfl
  have n2 : v.ownBlock ≠ some s := fun e => b4.2.ne_blk e b2 (by decide) rfl
  have n3 : v.ownBlock ≠ some nb := fun e => b4.2.ne_blk e b3 (by decide) rfl
  have hstr := string_r b4 h0 (by omega)
  have B1 : B sb := hB sb (Or.inl rfl)
  have B2 : B s := hB s (Or.inr (Or.inl rfl))
  have B3 : B nb := hB nb (Or.inr (Or.inr (Or.inl rfl)))
  have Bg : B g := hB g (Or.inr (Or.inr (Or.inr (Or.inr rfl))))
  have HS1 := Lib.hid (fun W (hk : Kept (fun k => v.ownBlock = some k) w'.drew W) => hS0.kept hk n1 n2 n3)
  have HS2 := Lib.hid (fun W W2 (h : StepS sb s nb d n W) (hk : Kept (fun k => ¬ B k) W W2) => h.kept hk (fun q => q B1) (fun q => q B2) (fun q => q B3))
  have HD := Lib.hid (fun W (hk : Kept (fun k => v.ownBlock = some k) w'.drew W) => append_ap ((hap.same (Kept.refl _ _).drew).turn hk (fun k q => by rw [hg] at q; cases q; exact Bg)) n n0 ⟨l.toArray⟩ hc (he := (by show M.append n l.toArray.toList = (r, M'); rw [List.toList_toArray]; exact he)))
  have HK := Lib.hid (fun W W2 (h1 : Kept (fun k => v.ownBlock = some k) w'.drew W) (h2 : Kept (fun k => ¬ B k) W W2) => (((Kept.refl (fun k => ¬ B k ∨ k ∈ [g]) w').drew.trans (h1.mono (fun k _ q => Or.inr (by rw [hg] at q; cases q; simp)))).trans (h2.mono (fun _ _ => Or.inl)) : Kept (fun k => ¬ B k ∨ k ∈ [g]) w' W2))
  clear he hw hap hB b1 b2 b3 b4 n1 n2 n3 ht hs ha hb
  go_enter Tryz.func106, Tryz.ntmps106
  go_wp2_with fail
  have e0 : w'.drew.cell? ⟨sb, 0, none⟩ = some (.pointer (some ⟨s, 0, none⟩)) ∧ w'.drew.cell? ⟨s, 0, none⟩ = some (.pointer (some ⟨d, 0, none⟩)) ∧ w'.drew.cell? ⟨nb, 0, none⟩ = some (.int .i64 n) := ⟨hS0.a, hS0.b, hS0.c⟩
  go_region_held3 (fun W => W.cell? ⟨sb, 0, none⟩ = some (.pointer (some ⟨s, 0, none⟩)) ∧ W.cell? ⟨s, 0, none⟩ = some (.pointer (some ⟨d, 0, none⟩)) ∧ W.cell? ⟨nb, 0, none⟩ = some (.int .i64 n)) (first | exact e0 | exact e1 | exact e2) (first
    | (go_at_call 107; with_reducible refine hstr.mono ?_; rintro e W1 ⟨rfl, hk1⟩; have g1 := HS1.out _ hk1; have e1 := And.intro g1.a (And.intro g1.b g1.c))
    | (go_at_call 13; with_reducible refine (HD.out _ hk1).mono ?_; rintro e W2 ⟨rfl, ha2, hk2⟩; have g2 := HS2.out _ _ g1 hk2; have e2 := And.intro g2.a (And.intro g2.b g2.c)))
  all_goals go_wp2_with fail
  all_goals go_ret
  all_goals exact ⟨rfl, ha2, HK.out _ _ hk1 hk2⟩
end
end Go.Proofs.YtlgeijbgkipliaaGreatDoor

namespace Go.Proofs.YtlgeijbgkipliaaGreatDoor
open Go.RowKit
set_option maxRecDepth 100000 in
theorem len_r {w : World} {b : Nat} {v : Value} {l : List UInt8} (h : BldR w b v l) {n : Nat} (hn : l.length = n) :
    Calls Tryz.prog 103 #[.pointer (some ⟨b, 0, none⟩)] w fun e w' => e = .returned (.int .i64 (n : Int)) ∧ w = w' := by
  obtain ⟨⟨p, _, hb⟩, hr⟩ := h
  obtain ⟨a, m, c, rfl, hm, _⟩ := hr.shape
  rw [bytes8_len, Nat.mul_one] at hm
  obtain rfl : m = n := by omega
  have c1 := hb.cell (i := 1) rfl
  clear hr hb hm hn
  go_enter Tryz.func103, Tryz.ntmps103
  go_wp2
  go_ret
  exact ⟨rfl, rfl⟩
structure InnerS (w0 : World) (X0 part : List By) (tb : Nat) (ev : Value) (i : Nat) (v ev' : Value) (wr : World) : Prop where
  le : i ≤ part.length
  bld : BldR wr tb v (framesF (part.take i))
  ends : Row wr 3 1 ev' (natsV (endsE (X0 ++ part.take i)))
  kept : Kept (fun k => k = tb ∨ ev.ownBlock = some k) w0 wr
  ownv : ∀ k, v.ownBlock = some k → w0.heap.size ≤ k
  owne : ∀ k, ev'.ownBlock = some k → ev.ownBlock = some k ∨ w0.heap.size ≤ k
theorem frames_snoc (part : List By) {i : Nat} {p : By} (hp : part[i]? = some p) : framesF (part.take (i + 1)) = framesF (part.take i) ++ frameF p := by
  rw [List.take_add_one, hp, Option.toList_some, framesF_append, framesF_cons, framesF_nil, List.append_nil]
theorem frames_le (l : List By) (h : ∀ p ∈ l, p.length ≤ 200) : (framesF l).length ≤ 212 * l.length := by
  induction l with
  | nil => simp [framesF]
  | cons p r ih =>
    have h1 := h p (by simp)
    have h2 := ih (fun q hq => h q (by simp [hq]))
    rw [frames_len_cons, List.length_cons]
    omega
section
variable {w0 wr w1 w2 : World} {X0 part : List By} {tb i : Nat} {ev v ev' v2 : Value} {p : By}
theorem InnerS.start (hb : BldR w0 tb (.slice none 0 0) []) (he : Row w0 3 1 ev (natsV (endsE X0))) : InnerS w0 X0 part tb ev 0 (.slice none 0 0) ev w0 :=
  ⟨Nat.zero_le _, hb, by simpa using he, Kept.refl _ _, fun k q => by simp [Value.ownBlock] at q, fun k q => Or.inl q⟩
theorem InnerS.write (h : InnerS w0 X0 part tb ev i v ev' wr) (hk : Kept (fun _ => False) wr w1) (hp : part[i]? = some p) (h64 : part.length ≤ 64) (hs : ∀ p ∈ part, p.length ≤ 200) :
    Calls Tryz.prog 102 #[.pointer (some ⟨tb, 0, none⟩), .string ⟨(frameF p).toArray⟩] w1 fun e w' => ∃ v' r, e = .returned (.tuple #[r, .nilIface]) ∧ BldR w' tb v' (framesF (part.take (i + 1))) ∧ Kept (fun k => k = tb ∨ v.ownBlock = some k) w1 w' ∧ ∀ k, v'.ownBlock = some k → v.ownBlock = some k ∨ w1.heap.size ≤ k := by
  have h1 := frames_le (part.take i) (fun q hq => hs q (List.mem_of_mem_take hq))
  rw [List.length_take] at h1
  have h2 := hs p (List.mem_of_getElem? hp)
  have h3 := frameF_len p
  refine (writeString_r ⟨(frameF p).toArray⟩ (h.bld.same hk) (by show _ + (frameF p).toArray.size ≤ _; rw [List.size_toArray]; omega)).mono ?_
  rintro e w' ⟨v', rfl, hb, hk', ho⟩
  refine ⟨v', _, rfl, ?_, hk', ho⟩
  rw [frames_snoc part hp]
  exact hb
theorem InnerS.more (h : InnerS w0 X0 part tb ev i v ev' wr) (hk : Kept (fun _ => False) wr w1) (hp : part[i]? = some p) (hb : BldR w2 tb v2 (framesF (part.take (i + 1)))) (hk2 : Kept (fun k => k = tb ∨ v.ownBlock = some k) w1 w2) (ho : ∀ k, v2.ownBlock = some k → v.ownBlock = some k ∨ w1.heap.size ≤ k)
    (hX : X0.length % 64 + part.length ≤ 64) (hXl : X0.length ≤ 4096) {N : Int} (hN : N = ((fromE X0 + (framesF (part.take (i + 1))).length : Nat) : Int)) :
    ∃ a m c w3, (Builtin.append_ #[83, 83] 83 #[ev', .slice (some ⟨w2.heap.size, 0, none⟩) 1 1]).run Tryz.prog (w2.alloc (.cells #[.int .i64 N] 3)) = .ok (.slice a m c) w3 ∧ InnerS w0 X0 part tb ev (i + 1) v2 (.slice a m c) w3 := by
  obtain ⟨hlt, he⟩ := List.getElem?_eq_some_iff.1 hp
  have hbt : ∃ c t, Blk wr tb c t ∧ t = 165 := by obtain ⟨⟨q, _, hb⟩, _⟩ := h.bld; exact ⟨_, _, hb, rfl⟩
  obtain ⟨cb, tt, hbt, rfl⟩ := hbt
  have et : ev'.ownBlock ≠ some tb := fun e => h.ends.ne_blk e hbt (by decide) rfl
  have r2 : Row w2 3 1 ev' (natsV (endsE (X0 ++ part.take i))) := (h.ends.kept hk (fun _ _ => id)).kept hk2 (fun k q z => by
    rcases z with rfl | z
    · exact et q
    · exact h.ends.ne_row h.bld.2 (by decide) q z)
  obtain ⟨v', w3, r3, g1, g2, g3⟩ := append_int1 r2 N (by rw [natsV_len, endsE_len, List.length_append, List.length_take]; omega)
  obtain ⟨a, m, c, rfl, _⟩ := g1.shape
  have e2 : part.take (i + 1) = part.take i ++ [p] := by rw [List.take_add_one, hp]; rfl
  have e3 : natsV (endsE (X0 ++ part.take i)) ++ [Value.int .i64 N] = natsV (endsE (X0 ++ part.take (i + 1))) := by
    rw [hN, e2, ends_snoc X0 (part.take i) p (by rw [List.length_take]; omega), natsV_append]
    rfl
  rw [e3] at g1
  have hbr : ev'.ownBlock ≠ some tb ∧ ∀ k, v2.ownBlock = some k → ev'.ownBlock ≠ some k := ⟨et, fun k q z => hb.2.ne_row r2 (by decide) q z⟩
  refine ⟨a, m, c, w3, r3, ⟨by omega, hb.kept g2 hbr.1 hbr.2, g1, ?_, fun k q => ?_, fun k q => ?_⟩⟩
  · refine ((h.kept.then_ hk (fun _ _ => False.elim)).then_ hk2 (fun k hl z => ?_)).then_ g2 (fun k hl z => ?_)
    · rcases z with z | z
      · exact Or.inl z
      · exact absurd (h.ownv k z) (by omega)
    · rcases h.owne k z with q | q
      · exact Or.inr q
      · omega
  · rcases ho k q with z | z
    · exact h.ownv k z
    · have := h.kept.size; have := hk.size; omega
  · rcases g3 k q with z | z
    · exact h.owne k z
    · have := h.kept.size; have := hk.size; have := hk2.size; omega
end
end Go.Proofs.YtlgeijbgkipliaaGreatDoor

namespace Go.Proofs.YtlgeijbgkipliaaGreatDoor
open Go.RowKit
set_option maxRecDepth 100000 in
set_option maxHeartbeats 8000000 in
theorem plan_inner {w0 : World} {X0 part : List By} {tb n0 m c lc : Nat} {a la : Option Addr} {Q : Exit → Act → World → Prop} {g0 g1 g2 g3 g4 g6 g7 g8 g9 g10 g11 g14 g15 g16 g17 g18 g19 g20 g21 g22 g23 g24 g25 g26 g27 g28 g29 g30 g31 g32 g33 g34 g35 g36 g37 g38 g39 g40 g41 g42 g43 g44 g45 g46 g50 g51 g52 g53 g54 g55 g56 g57 g58 g59 g60 g61 g62 g63 g64 g65 g66 g67 g68 g69 g70 g71 g72 g73 g74 g75 g76 g77 g78 g79 g80 g81 g82 g83 g84 g85 g86 g87 g88 g89 g90 : Value} {code : Code} (hcode : codeBlock 2 (Tryz.f65.body.getD .skip) = some code) (hI : InnerS w0 X0 part tb (.slice a m c) 0 (.slice none 0 0) (.slice a m c) w0) (hV : View w0 1 (.slice la part.length lc) (strV part)) (hn0 : ∀ k, (Value.slice la part.length lc).ownBlock = some k → k < n0) (hnt : n0 ≤ tb) (hne : ∀ k, (Value.slice a m c).ownBlock = some k → n0 ≤ k) (hX : X0.length % 64 + part.length ≤ 64) (hXl : X0.length ≤ 4096) (hs : ∀ p ∈ part, p.length ≤ 200) (hfr : fromE X0 ≤ 100000) (ht : Tab w0) (hto : ∀ k, k = tb ∨ (Value.slice a m c).ownBlock = some k → k ≠ 0 ∧ k ≠ 1)
    (HP : ∀ c a (k : Nat) v w, Q (.panic c) (Act.put a (some k) v) w → Q (.panic c) a w) (HEND : ∀ (a2 : Option Addr) (m2 c2 : Nat) (vb : Value) (v15 v16 v17 v49 v50 v51 v52 v53 v54 v55 v56 v57 v58 v59 v60 v61 v62 v63 v64 v65 v66 : Value) (w' : World), Hid (InnerS w0 X0 part tb (.slice a m c) part.length vb (.slice a2 m2 c2) w') → Q .normal ⟨List.toArray (g0 :: g1 :: g2 :: g3 :: g4 :: (.slice a2 m2 c2) :: g6 :: g7 :: g8 :: g9 :: g10 :: g11 :: (.pointer (some ⟨tb, 0, none⟩)) :: (.int .i64 (fromE X0 : Nat)) :: g14 :: v15 :: v16 :: v17 :: g18 :: g19 :: g20 :: g21 :: g22 :: g23 :: g24 :: g25 :: g26 :: g27 :: g28 :: g29 :: g30 :: g31 :: g32 :: g33 :: g34 :: g35 :: g36 :: g37 :: g38 :: g39 :: g40 :: g41 :: g42 :: g43 :: g44 :: g45 :: g46 :: (.slice la part.length lc) :: (.int .i64 (part.length : Nat)) :: v49 :: v50 :: v51 :: v52 :: v53 :: v54 :: v55 :: v56 :: v57 :: v58 :: v59 :: v60 :: v61 :: v62 :: v63 :: v64 :: v65 :: v66 :: g67 :: g68 :: g69 :: g70 :: g71 :: g72 :: g73 :: g74 :: g75 :: g76 :: g77 :: g78 :: g79 :: g80 :: g81 :: g82 :: g83 :: g84 :: g85 :: g86 :: g87 :: g88 :: g89 :: g90 :: []), []⟩ w') :
    Code.wp Tryz.prog code Q ⟨List.toArray (g0 :: g1 :: g2 :: g3 :: g4 :: (.slice a m c) :: g6 :: g7 :: g8 :: g9 :: g10 :: g11 :: (.pointer (some ⟨tb, 0, none⟩)) :: (.int .i64 (fromE X0 : Nat)) :: g14 :: g15 :: g16 :: g17 :: g18 :: g19 :: g20 :: g21 :: g22 :: g23 :: g24 :: g25 :: g26 :: g27 :: g28 :: g29 :: g30 :: g31 :: g32 :: g33 :: g34 :: g35 :: g36 :: g37 :: g38 :: g39 :: g40 :: g41 :: g42 :: g43 :: g44 :: g45 :: g46 :: (.slice la part.length lc) :: (.int .i64 (part.length : Nat)) :: (.int .i64 0) :: g50 :: g51 :: g52 :: g53 :: g54 :: g55 :: g56 :: g57 :: g58 :: g59 :: g60 :: g61 :: g62 :: g63 :: g64 :: g65 :: g66 :: g67 :: g68 :: g69 :: g70 :: g71 :: g72 :: g73 :: g74 :: g75 :: g76 :: g77 :: g78 :: g79 :: g80 :: g81 :: g82 :: g83 :: g84 :: g85 :: g86 :: g87 :: g88 :: g89 :: g90 :: []), []⟩ w0 := by
  have HP := Lib.hid HP
  have HEND := Lib.hid HEND
  simp only [Tryz.f65, Option.getD_some, codeSeq, codeBlock, codeCond, Nat.reduceEqDiff, ↓reduceIte, Option.none_or, Option.or_none, Option.some_or, Option.some.injEq] at hcode
  subst hcode
  have hX64 : part.length ≤ 64 := by omega
  have HT := Lib.hid (fun wr (h : Kept (fun k => k = tb ∨ (Value.slice a m c).ownBlock = some k) w0 wr) => ht.kept h (fun q => (hto _ q).1 rfl) (fun q => (hto _ q).2 rfl))
  have HVV := Lib.hid (fun wr (h : Kept (fun k => k = tb ∨ (Value.slice a m c).ownBlock = some k) w0 wr) => hV.kept h (fun g _ _ _ _ q z => by
    have h1 := hn0 g q
    rcases z with rfl | z
    · omega
    · have := hne g z; omega) (by omega))
  have HSH := Lib.hid (And.intro hs (And.intro hX (And.intro hXl hX64)))
  have HFR := Lib.hid hfr
  clear hfr ht hto hV hn0 hnt hne hs hX hXl
  go_wp2_with fail
  go_loopw [5, 49] (fun x y wr => ∃ (i : Nat) (a' : Option Addr) (m' c' : Nat) (v : Value), x = .slice a' m' c' ∧ y = .int .i64 (i : Int) ∧ Hid (InnerS w0 X0 part tb (.slice a m c) i v (.slice a' m' c') wr)) (fun _ y _ => part.length - (intOf y).toNat)
  case atStart => exact ⟨0, a, m, c, _, rfl, rfl, Lib.hid hI⟩
  case round =>
    obtain ⟨i, a', m', c', v, rfl, rfl, HI⟩ := hrel
    have hle := HI.out.le
    by_cases hlt : i < part.length
    · have y1 : decide ((i : Int) < (part.length : Int)) = true := decide_eq_true (by omega)
      have y1' : decide (i < part.length) = true := decide_eq_true hlt
      obtain ⟨p, hp⟩ : ∃ p, part[i]? = some p := ⟨_, List.getElem?_eq_getElem hlt⟩
      have hpl := HSH.out.1 p (List.mem_of_getElem? hp)
      have hput : Calls Tryz.prog 74 #[.string ⟨p.toArray⟩] wr fun e w' => e = .returned (.tuple #[.string ⟨(frameF p).toArray⟩, .int .i64 0]) ∧ Kept (fun _ => False) wr w' := frame_any wr ⟨p.toArray⟩ (by show p.toArray.size ≤ _; rw [List.size_toArray]; omega) (HT.out wr HI.out.kept)
      have hWR := Lib.hid (fun w1 hk => HI.out.write (w1 := w1) hk hp HSH.out.2.2.2 HSH.out.1)
      obtain ⟨L, hL⟩ : ∃ L : Nat, (framesF (part.take (i + 1))).length = L := ⟨_, rfl⟩
      obtain ⟨N, hN⟩ : ∃ N : Int, N = ((fromE X0 + (framesF (part.take (i + 1))).length : Nat) : Int) := ⟨_, rfl⟩
      have hLb := frames_le (part.take (i + 1)) (fun q hq => HSH.out.1 q (List.mem_of_mem_take hq))
      rw [List.length_take, hL] at hLb
      have hfr := HFR.out
      have hX64 := HSH.out.2.2.2
      have hwN : wrap64 (((fromE X0 : Nat) : Int) + (L : Int)) = N := by rw [hN, hL, IntWalk.wrap64_in _ (by omega)]; omega
      have hMR := Lib.hid (fun w1 w2 v2 hk hb hk2 ho => HI.out.more (w1 := w1) (w2 := w2) (v2 := v2) hk hp hb hk2 ho HSH.out.2.1 HSH.out.2.2.1 hN)
      obtain ⟨_, _, _, ev, _, _, _, _, hcv⟩ := HVV.out wr HI.out.kept
      cases ev
      obtain ⟨g, off, rfl, _, hcv⟩ := hcv (by omega)
      have hc : wr.cell? ⟨g, off + i, none⟩ = some (.string ⟨p.toArray⟩) := hcv i _ (by unfold strV; rw [List.getElem?_map, hp]; rfl)
      have HP2 := Lib.hid (And.intro hlt hL)
      clear hcv hN hLb hfr hX64 hpl hle hp
      go_wp2_with (first
        | (go_at_call 74; refine hput.mono ?_; rintro e w1 ⟨rfl, hk1⟩)
        | (go_at_call 102; refine (hWR.out w1 hk1).mono ?_; rintro e w2 ⟨v2, r, rfl, hb2, hk2, ho2⟩; obtain ⟨a3, m3, c3, w3, r3, hI3⟩ := hMR.out w1 w2 v2 hk1 hb2 hk2 ho2; have hlen := len_r hb2 HP2.out.2; have HI3 := Lib.hid hI3; clear hI3 hb2 hk2 ho2)
        | (go_at_call 103; refine hlen.mono ?_; rintro e w' ⟨rfl, rfl⟩)
        | ((with_reducible show wpList _ _ _ (⟨some 65, _, _, _, _, _⟩ :: _) _ _); refine Lib.wpList_append_run _ rfl _ _ 83 83 rfl _ _ rfl rfl _ _ r3 ?_))
      go_roundw
      case rel => exact ⟨i + 1, a3, m3, c3, v2, rfl, by go_num, HI3⟩
      case measure => simp [intOf]; omega
    · obtain rfl : i = part.length := by omega
      have y1 : decide ((part.length : Int) < (part.length : Int)) = false := decide_eq_false (by omega)
      have y1' : decide (part.length < part.length) = false := decide_eq_false (by omega)
      clear hle hlt
      go_wp2_with fail
      exact HEND.out a' m' c' v _ _ _ _ _ _ _ _ _ _ _ _ _ _ _ _ _ _ _ _ _ _ HI
end Go.Proofs.YtlgeijbgkipliaaGreatDoor

namespace Go.Proofs.YtlgeijbgkipliaaGreatDoor
open Go.RowKit
structure StP (w : World) (s d : Nat) (sv ev : Value) (cs : List Chg) (zs : List Nat) (W : World) : Prop where
  ex : ∃ vs, Row W 159 1 sv vs ∧ StepsOk W d (fun k => k = s ∨ (w.heap.size ≤ k ∧ k < W.heap.size ∧ sv.ownBlock ≠ some k ∧ ev.ownBlock ≠ some k)) vs cs zs
  frozen : ∀ z ∈ zs, w.heap.size < z ∧ z < W.heap.size ∧ sv.ownBlock ≠ some z ∧ ev.ownBlock ≠ some z
  own : ∀ k, sv.ownBlock = some k → w.heap.size ≤ k
section
variable {w W W' : World} {s d : Nat} {sv ev ev2 : Value} {cs : List Chg} {zs : List Nat}
theorem StP.start (hk : w.heap.size ≤ W.heap.size) : StP w s d (.slice none 0 0) ev [] [] W := ⟨⟨[], Row.nil _ _ _, rfl⟩, fun z hz => (by cases hz), fun k q => (by simp [Value.ownBlock] at q)⟩
theorem StP.inner {xs : List Value} (h : StP w s d sv ev cs zs W) (hk : Kept (fun k => W.heap.size ≤ k ∨ ev.ownBlock = some k) W W') (he : Row W 3 1 ev xs) (ho : ∀ k, ev2.ownBlock = some k → ev.ownBlock = some k ∨ W.heap.size ≤ k) (hs : s < w.heap.size) (hse : ∀ k, ev.ownBlock = some k → w.heap.size ≤ k) (hw : w.heap.size ≤ W.heap.size) : StP w s d sv ev2 cs zs W' := by
  obtain ⟨⟨vs, h1, h2⟩, h3, h4⟩ := h
  have hz := hk.size
  refine ⟨⟨vs, h1.kept hk (fun k q z => ?_), (h2.kept (fun k q => ?_)).mono (fun k q => ?_)⟩, fun z hz' => ?_, h4⟩
  · rcases z with z | z
    · have := h1.lt q; omega
    · exact h1.ne_row he (by decide) q z
  · rcases q with rfl | q
    · exact hk.block k (by omega) (fun z => by
        rcases z with z | z
        · omega
        · have := hse k z; omega)
    · exact hk.block k q.2.1 (fun z => by
        rcases z with z | z
        · omega
        · exact q.2.2.2 z)
  · rcases q with q | q
    · exact Or.inl q
    · refine Or.inr ⟨q.1, by omega, q.2.2.1, fun e => ?_⟩
      rcases ho k e with z | z
      · exact q.2.2.2 z
      · omega
  · obtain ⟨g1, g2, g3, g4⟩ := h3 z hz'
    refine ⟨g1, by omega, g3, fun e => ?_⟩
    rcases ho z e with q | q
    · exact g4 q
    · omega
theorem StP.add {fv : Value} {c : Chg} {R : Nat → Prop} {z : List Nat} (h : StP w s d sv ev cs zs W) (hst : IsStep W d fv c R z) (hone : fv.oneCell' = true) (hR : ∀ k, R k → k = s ∨ (w.heap.size ≤ k ∧ k < W.heap.size ∧ sv.ownBlock ≠ some k ∧ ev.ownBlock ≠ some k)) (hRz : ∀ k, R k → k ∉ zs)
    (hz : ∀ k ∈ z, w.heap.size < k ∧ k < W.heap.size ∧ sv.ownBlock ≠ some k ∧ ev.ownBlock ≠ some k) (hl : cs.length ≤ 100000) (hw : w.heap.size ≤ W.heap.size) (hs : s < w.heap.size) :
    ∃ a m c' W', (Builtin.append_ #[112, 112] 112 #[sv, .slice (some ⟨W.heap.size, 0, none⟩) 1 1]).run Tryz.prog (W.alloc (.cells #[fv] 159)) = .ok (.slice a m c') W' ∧ StP w s d (.slice a m c') ev (cs ++ [c]) (zs ++ z) W' ∧ Kept (fun k => sv.ownBlock = some k) W W' := by
  obtain ⟨⟨vs, h1, h2⟩, h3, h4⟩ := h
  have hlen := h2.len
  obtain ⟨v', W', hr, HH, a, m, c', rfl⟩ := append_step h1 fv hone (by omega)
  obtain ⟨g1, g2, g3⟩ := HH.out
  have hzs := g2.size
  refine ⟨a, m, c', W', hr, ⟨⟨_, g1, ?_⟩, fun k hk => ?_, fun k q => ?_⟩, g2⟩
  · have hS := h2.append (StepsOk.one (B := R) hst (fun _ => id)) (B'' := fun k => k = s ∨ (w.heap.size ≤ k ∧ k < W.heap.size ∧ sv.ownBlock ≠ some k ∧ ev.ownBlock ≠ some k)) (fun _ => id) (fun k q => ⟨hR k q, hRz k q⟩)
    refine (hS.kept (fun k q => ?_)).mono (fun k q => ?_)
    · rcases q with rfl | q
      · exact g2.block k (by omega) (fun e => by have := h4 k e; omega)
      · exact g2.block k q.2.1 q.2.2.1
    · rcases q with q | q
      · exact Or.inl q
      · refine Or.inr ⟨q.1, by omega, fun e => ?_, q.2.2.2⟩
        rcases g3 k e with z | z
        · exact q.2.2.1 z
        · omega
  · have hk' : w.heap.size < k ∧ k < W.heap.size ∧ sv.ownBlock ≠ some k ∧ ev.ownBlock ≠ some k := (List.mem_append.1 hk).elim (h3 k) (hz k)
    refine ⟨hk'.1, by omega, fun e => ?_, hk'.2.2.2⟩
    rcases g3 k e with q | q
    · exact hk'.2.2.1 q
    · omega
  · rcases g3 k q with z | z
    · exact h4 k z
    · omega
end
structure PlanR (w : World) (s d : Nat) (F : List (Int × By)) (E l done rest : List By) (cs : List Chg) (sv ev lv hv : Value) (W : World) : Prop where
  ps : PlanS (fun n => (AM.get F n).isSome) E l done rest cs
  view : View w 1 lv (strV rest)
  st : ∃ zs, StP w s d sv ev cs zs W
  ends : Row W 3 1 ev (natsV (endsE (E ++ done)))
  files : Row W 3 1 hv (icells (F.map (·.1)))
  box : Blk W w.heap.size [.pointer (some ⟨s, 0, none⟩)] 40
  seg : ∃ x y st dead, Blk W s (segC d x y st dead) 111
  kept : Kept (fun _ => False) w W
  owne : ∀ k, ev.ownBlock = some k → w.heap.size ≤ k
  ownh : ∀ k, hv.ownBlock = some k → w.heap.size ≤ k ∧ ev.ownBlock ≠ some k
  sw : s < w.heap.size
theorem contains_get {F : List (Int × By)} (h : AM.Rise F) (n : Int) : (F.map (·.1)).contains n = (AM.get F n).isSome := by
  rw [Bool.eq_iff_iff, List.contains_iff_mem, List.mem_map]
  constructor
  · rintro ⟨p, hp, rfl⟩
    rw [(AM.get_some h (k := p.1) (v := p.2)).2 hp]
    rfl
  · intro q
    obtain ⟨b, hb⟩ := Option.isSome_iff_exists.1 q
    exact ⟨(n, b), (AM.get_some h).1 hb, rfl⟩
abbrev rndA (W : World) (n : Int) : World := W.alloc (.cells #[.int .i64 n] 3)
abbrev rndB (W : World) (n : Int) : World := (rndA W n).alloc (.cells #[.pointer none, .slice none 0 0] 165)
section
variable {w W Wc : World} {s d : Nat} {F : List (Int × By)} {E l done rest : List By} {cs : List Chg} {sv ev lv hv vb ev2 : Value} {n : Int} {q : Nat}
theorem rnd_kept (W : World) (n : Int) : Kept (fun _ => False) W (rndB W n) := ((Kept.refl _ _).alloc _).alloc _
theorem rnd_size (W : World) (n : Int) : (rndB W n).heap.size = W.heap.size + 1 + 1 := by simp
theorem PlanR.inner (h : PlanR w s d F E l done rest cs sv ev lv hv W) (n : Int) : InnerS (rndB W n) (E ++ done) (rest.take q) (W.heap.size + 1) ev 0 (.slice none 0 0) ev (rndB W n) := by
  have hk := rnd_kept W n
  refine InnerS.start ?_ (h.ends.kept hk (fun _ _ => id))
  have := BldR.fresh (rndA W n)
  rw [World.size_alloc] at this
  exact this
theorem PlanR.tail (h : PlanR w s d F E l done rest cs sv ev lv hv W) (hI : InnerS (rndB W n) (E ++ done) (rest.take q) (W.heap.size + 1) ev (rest.take q).length vb ev2 Wc) :
    Hid (∃ zs, StP w s d sv ev2 cs zs Wc ∧ ∀ z ∈ zs, z < W.heap.size) ∧ BldR Wc (W.heap.size + 1) vb (framesF (rest.take q)) ∧ Row Wc 3 1 ev2 (natsV (endsE (E ++ (done ++ rest.take q)))) ∧ Row Wc 3 1 hv (icells (F.map (·.1))) ∧ Blk Wc w.heap.size [.pointer (some ⟨s, 0, none⟩)] 40 ∧ Blk Wc W.heap.size [.int .i64 n] 3 ∧
      (∃ x y st dead, Blk Wc s (segC d x y st dead) 111) ∧ Kept (fun _ => False) w Wc ∧ (∀ k, ev2.ownBlock = some k → w.heap.size ≤ k) ∧ Kept (fun k => W.heap.size ≤ k ∨ ev.ownBlock = some k) W Wc ∧ (∀ k, vb.ownBlock = some k → W.heap.size + 1 < k) ∧ ∀ k, ev2.ownBlock = some k → ev.ownBlock = some k ∨ W.heap.size + 1 < k := by
  have hk := rnd_kept W n
  have hz := rnd_size W n
  have hww := h.kept.size
  have hK : Kept (fun k => W.heap.size ≤ k ∨ ev.ownBlock = some k) W Wc := (hk.mono (fun _ _ => False.elim)).then_ hI.kept (fun k _ q => by
    rcases q with q | q
    · left; omega
    · exact Or.inr q)
  have hoe : ∀ k, ev2.ownBlock = some k → ev.ownBlock = some k ∨ W.heap.size + 1 < k := fun k e => (hI.owne k e).imp id (fun q => by omega)
  have hsw := h.sw
  obtain ⟨zs, hst⟩ := h.st
  obtain ⟨x, y, st, dead, hsg⟩ := h.seg
  have hee := h.ends.kept hk (fun _ _ => id)
  refine ⟨Lib.hid ⟨zs, hst.inner hK h.ends (fun k e => (hoe k e).imp id (fun q => by omega)) hsw h.owne hww, fun z hz' => (hst.frozen z hz').2.1⟩, ?_, ?_, ?_, ?_, ?_, ⟨x, y, st, dead, hsg.kept hK (fun z => ?_)⟩, ?_, fun k e => ?_, hK, fun k e => ?_, hoe⟩
  · have := hI.bld
    rwa [List.take_length] at this
  · have := hI.ends
    rwa [List.take_length, List.append_assoc] at this
  · refine h.files.kept hK (fun k e z => ?_)
    rcases z with z | z
    · have := h.files.lt e; omega
    · exact (h.ownh k e).2 z
  · refine h.box.kept hK (fun z => ?_)
    rcases z with z | z
    · have := h.box.lt; omega
    · exact h.ends.ne_blk z h.box (by decide) rfl
  · have hb : Blk (rndB W n) W.heap.size [.int .i64 n] 3 := (Blk.new W [.int .i64 n] 3).alloc _
    refine hb.kept hI.kept (fun z => ?_)
    rcases z with z | z
    · omega
    · have := h.ends.lt z; omega
  · rcases z with z | z
    · omega
    · have := h.owne s z; omega
  · refine h.kept.then_ hK (fun k hl z => ?_)
    rcases z with z | z
    · omega
    · have := h.owne k z; omega
  · rcases hoe k e with z | z
    · exact h.owne k z
    · omega
  · have h1 := hI.ownv k e
    have hb := hI.bld
    have : k ≠ W.heap.size + 1 := fun q => hb.ne (by rw [e, q])
    omega
theorem View.ownlt {w : World} {size : Nat} {v : Value} {xs : List Value} (h : View w size v xs) (h0 : xs ≠ []) : ∀ k, v.ownBlock = some k → k < w.heap.size := by
  obtain ⟨a, m, c, rfl, h1, h2, h3, h4, h5⟩ := h
  have : 0 < m := by
    rcases Nat.eq_zero_or_pos m with q | q
    · subst q
      rw [Nat.zero_mul] at h1
      exact absurd (List.eq_nil_of_length_eq_zero h1.symm) h0
    · exact q
  obtain ⟨g, off, rfl, hg, _⟩ := h5 this
  intro k hk
  cases off with
  | zero => simp [Value.ownBlock] at hk; omega
  | succ off => simp [Value.ownBlock] at hk; omega
theorem PlanR.make (h : PlanR w s d F E l done rest cs sv ev lv hv W) (hI : InnerS (rndB W n) (E ++ done) (rest.take q) (W.heap.size + 1) ev (rest.take q).length vb ev2 Wc) (n0 : -9223372036854775808 ≤ n ∧ n ≤ 9223372036854775807) (hl : l.length ≤ 4096) :
    ∃ a m c' W1, (Builtin.append_ #[112, 112] 112 #[sv, .slice (some ⟨Wc.heap.size, 0, none⟩) 1 1]).run Tryz.prog (Wc.alloc (.cells #[.func (.func 105) #[] #[.pointer (some ⟨w.heap.size, 0, none⟩), .pointer (some ⟨W.heap.size, 0, none⟩)]] 159)) = .ok (.slice a m c') W1 ∧
      Hid ((∃ zs, StP w s d (.slice a m c') ev2 (cs ++ [.make n]) zs W1 ∧ ∀ z ∈ zs, z < W.heap.size) ∧ Kept (fun k => sv.ownBlock = some k) Wc W1) := by
  obtain ⟨HS, g1, g2, g3, g4, g5, ⟨x, y, st, dead, g6⟩, g7, g8, g9, g10, g11⟩ := h.tail hI
  obtain ⟨zs, hst, hz⟩ := HS.out
  have hww := h.kept.size
  have hsw := h.sw
  have hw7 := g7.size
  have hsr := hst.ex
  obtain ⟨vs, hrow, _⟩ := hsr
  obtain ⟨a, m, c', W1, r1, k1, k2⟩ := hst.add (step_make g4 g6 g5 n0) rfl (fun k e => by
      rcases e with rfl | rfl | rfl
      · exact Or.inr ⟨by omega, g4.lt, fun e => hrow.ne_blk e g4 (by decide) rfl, fun e => g2.ne_blk e g4 (by decide) rfl⟩
      · exact Or.inl rfl
      · exact Or.inr ⟨by omega, g5.lt, fun e => hrow.ne_blk e g5 (by decide) rfl, fun e => by
          rcases g11 _ e with z | z
          · have := h.ends.lt z; omega
          · omega⟩) (fun k e z => by
      have h1 := hst.frozen k z
      have h2 := hz k z
      rcases e with rfl | rfl | rfl <;> omega) (fun k e => by cases e) (by have := h.ps.len; omega) hw7 hsw
  exact ⟨a, m, c', W1, r1, Lib.hid ⟨⟨_, k1, by simpa using hz⟩, k2⟩⟩
theorem PlanR.close (h : PlanR w s d F E l done rest cs sv ev lv hv W) (hI : InnerS (rndB W n) (E ++ done) (rest.take q) (W.heap.size + 1) ev (rest.take q).length vb ev2 Wc) (n0 : -9223372036854775808 ≤ n ∧ n ≤ 9223372036854775807) (hl : l.length ≤ 4096) (hne : rest ≠ [])
    (hq : q = min (64 - (E.length + done.length) % 64) rest.length) (hn : n = 1000 + (((E.length + done.length) / 64 : Nat) : Int)) (hs : ∀ p ∈ rest, p.length ≤ 200) {W1 : World} {sv1 : Value} {zs1 : List Nat}
    (h1 : (StP w s d sv1 ev2 (cs ++ (if (AM.get F n).isSome = true then [] else [.make n])) zs1 W1 ∧ ∀ z ∈ zs1, z < W.heap.size) ∧ Kept (fun k => sv.ownBlock = some k) Wc W1) :
    ∃ a m c' W', (Builtin.append_ #[112, 112] 112 #[sv1, .slice (some ⟨W1.heap.size, 0, none⟩) 1 1]).run Tryz.prog (W1.alloc (.cells #[.func (.func 106) #[] #[.pointer (some ⟨w.heap.size, 0, none⟩), .pointer (some ⟨W.heap.size, 0, none⟩), .pointer (some ⟨W.heap.size + 1, 0, none⟩)]] 159)) = .ok (.slice a m c') W' ∧
      BldR W' (W.heap.size + 1) vb (framesF (rest.take q)) ∧ Hid (∀ lv', View w 1 lv' (strV (rest.drop q)) → PlanR w s d F E l (done ++ rest.take q) (rest.drop q) (cs ++ (if (AM.get F n).isSome = true then [] else [.make n]) ++ [.app n (framesF (rest.take q))]) (.slice a m c') ev2 lv' hv W') := by
  obtain ⟨HS, g1, g2, g3, g4, g5, ⟨x, y, st, dead, g6⟩, g7, g8, g9, g10, g11⟩ := h.tail hI
  obtain ⟨zs, hst, hz⟩ := HS.out
  obtain ⟨⟨hst1, hz1⟩, hk1⟩ := h1
  have hww := h.kept.size
  have hsw := h.sw
  have hw7 := g7.size
  have hw1 := hk1.size
  obtain ⟨vs, hrow, _⟩ := hst.ex
  obtain ⟨vs1, hrow1, hs1⟩ := hst1.ex
  have hrl : 0 < rest.length := List.length_pos_iff.2 hne
  have hpl : (rest.take q).length = q := by rw [List.length_take]; omega
  have hp0 : rest.take q ≠ [] := by intro e; rw [e] at hpl; simp at hpl; omega
  have hf0 : framesF (rest.take q) ≠ [] := by
    match e : rest.take q with
    | [] => exact absurd e hp0
    | p :: r => intro z; have := congrArg List.length z; rw [frames_len_cons] at this; simp at this
  have hfl := frames_le (rest.take q) (fun p hp => hs p (List.mem_of_mem_take hp))
  have nr : ∀ {b : Nat} {c : List Value} {t : TypeId}, Blk Wc b c t → 159 ≠ t → sv.ownBlock ≠ some b := fun hb ht e => hrow.ne_blk e hb ht rfl
  have g1' := g1.kept hk1 (fun e => by obtain ⟨⟨p, _, hb⟩, _⟩ := g1; exact nr hb (by decide) e) (fun k e z => g1.2.ne_row hrow (by decide) e z)
  have g2' := g2.kept hk1 (fun k e z => g2.ne_row hrow (by decide) e z)
  have g3' := g3.kept hk1 (fun k e z => g3.ne_row hrow (by decide) e z)
  have g4' := g4.kept hk1 (nr g4 (by decide))
  have g5' := g5.kept hk1 (nr g5 (by decide))
  have g6' := g6.kept hk1 (nr g6 (by decide))
  have g7' : Kept (fun _ => False) w W1 := g7.then_ hk1 (fun k hk e => by have := hst.own k e; omega)
  have htb : ∃ c, Blk W1 (W.heap.size + 1) c 165 := by obtain ⟨⟨p, _, hb⟩, _⟩ := g1'; exact ⟨_, hb⟩
  obtain ⟨cb, htb⟩ := htb
  obtain ⟨gv, hgv⟩ : ∃ gv, vb.ownBlock = some gv := by
    rcases g1'.2 with ⟨_, e⟩ | ⟨g, _, _, _, rfl, _⟩
    · have := congrArg List.length e
      rw [bytes8_len] at this
      simp at this
      exact absurd this hf0
    · exact ⟨g, rfl⟩
  have hgl := g1'.2.lt hgv
  have hg10 := g10 gv hgv
  have fresh : ∀ k, W.heap.size ≤ k → k ∉ zs1 := fun k e z => by have := hz1 k z; omega
  obtain ⟨a, m, c', W', r1, k1, k2⟩ := hst1.add (step_app g4' g6' g5' g1' hgv hf0 (by omega) n0) rfl (fun k e => by
      rcases e with rfl | rfl | rfl | rfl | rfl
      · exact Or.inr ⟨by omega, g4'.lt, fun e => hrow1.ne_blk e g4' (by decide) rfl, fun e => g2'.ne_blk e g4' (by decide) rfl⟩
      · exact Or.inl rfl
      · exact Or.inr ⟨by omega, g5'.lt, fun e => hrow1.ne_blk e g5' (by decide) rfl, fun e => by
          rcases g11 _ e with z | z
          · have := h.ends.lt z; omega
          · omega⟩
      · exact Or.inr ⟨by omega, htb.lt, fun e => hrow1.ne_blk e htb (by decide) rfl, fun e => g2'.ne_blk e htb (by decide) rfl⟩
      · exact Or.inr ⟨by omega, hgl, fun e => hrow1.ne_row g1'.2 (by decide) e hgv, fun e => g2'.ne_row g1'.2 (by decide) e hgv⟩) (fun k e z => by
      have h1 := hst1.frozen k z
      have h2 := hz1 k z
      rcases e with rfl | rfl | rfl | rfl | rfl <;> omega) (fun k e => by
      simp only [List.mem_singleton] at e
      subst e
      exact ⟨by omega, hgl, fun e => hrow1.ne_row g1'.2 (by decide) e hgv, fun e => g2'.ne_row g1'.2 (by decide) e hgv⟩) (by
      have := h.ps.len
      rw [List.length_append]
      split <;> simp <;> omega) g7'.size hsw
  have nr2 : ∀ {b : Nat} {c : List Value} {t : TypeId}, Blk W1 b c t → 159 ≠ t → sv1.ownBlock ≠ some b := fun hb ht e => hrow1.ne_blk e hb ht rfl
  refine ⟨a, m, c', W', r1, g1'.kept k2 (nr2 htb (by decide)) (fun k e z => g1'.2.ne_row hrow1 (by decide) e z), Lib.hid (fun lv' hlv => ⟨?_, hlv, ⟨_, k1⟩, ?_, g3'.kept k2 (fun k e z => g3'.ne_row hrow1 (by decide) e z), g4'.kept k2 (nr2 g4' (by decide)), ⟨x, y, st, dead, g6'.kept k2 (nr2 g6' (by decide))⟩, g7'.then_ k2 (fun k hk e => by have := hst1.own k e; omega), g8, fun k e => ⟨(h.ownh k e).1, fun z => ?_⟩, hsw⟩)⟩
  · have := h.ps.step hne hq
    subst hn
    exact this
  · exact g2'.kept k2 (fun k e z => g2'.ne_row hrow1 (by decide) e z)
  · rcases g11 k z with z | z
    · exact (h.ownh k e).2 z
    · have := h.files.lt e; omega
end
end Go.Proofs.YtlgeijbgkipliaaGreatDoor

namespace Go.Proofs.YtlgeijbgkipliaaGreatDoor
open Go.RowKit
theorem plan_nums {K D R q rl : Nat} {n : Int} (hK : K ≤ 4096) (hD : D = K / 64) (hR : R = K % 64) (hq : q = min (64 - R) rl) (hn : n = 1000 + (D : Int)) (hr : 0 < rl) :
    Int.tdiv (K : Int) 64 = (D : Int) ∧ (K : Int) / 64 = (D : Int) ∧ Int.tmod (K : Int) 64 = (R : Int) ∧ (K : Int) % 64 = (R : Int) ∧ (1000 : Int) + (D : Int) = n ∧ min (64 - (R : Int)) (rl : Int) = (q : Int) ∧ wrap64 (D : Int) = (D : Int) ∧ wrap64 n = n ∧ wrap64 (R : Int) = (R : Int) ∧ wrap64 (64 - (R : Int)) = 64 - (R : Int) ∧
      decide ((0 : Int) < (rl : Int)) = true ∧ decide (0 < rl) = true := by
  refine ⟨?_, by omega, ?_, by omega, hn.symm, by omega, IntWalk.wrap64_in _ (by omega), ?_, IntWalk.wrap64_in _ (by omega), IntWalk.wrap64_in _ (by omega), decide_eq_true (by omega), decide_eq_true hr⟩
  · rw [Int.tdiv_eq_ediv_of_nonneg (by omega)]; omega
  · rw [Int.tmod_eq_emod_of_nonneg (by omega)]; omega
  · exact IntWalk.wrap64_in _ (by omega)
theorem makes_len (cs : List Chg) : makes cs ≤ cs.length := by
  induction cs with
  | nil => simp [makes]
  | cons c r ih => cases c <;> simp only [makes, List.length_cons] <;> omega
theorem plan_fin {cs cs2 : List Chg} {done part : List By} (hc : cs.length ≤ 10000) (h1 : (framesF done).length ≤ 1000000) (h2 : (framesF part).length ≤ 1000000) (hm : makes cs2 = makes cs + 1) :
    ((makes cs : Nat) : Int) + 1 = ((makes cs2 : Nat) : Int) ∧ wrap64 ((makes cs2 : Nat) : Int) = ((makes cs2 : Nat) : Int) ∧ ((framesF done).length : Int) + ((framesF part).length : Int) = (((framesF (done ++ part)).length : Nat) : Int) ∧ wrap64 (((framesF (done ++ part)).length : Nat) : Int) = (((framesF (done ++ part)).length : Nat) : Int) := by
  have hl := makes_len cs
  refine ⟨by omega, IntWalk.wrap64_in _ (by omega), by rw [framesF_append, List.length_append]; omega, IntWalk.wrap64_in _ (by rw [framesF_append, List.length_append]; omega)⟩
theorem tab_low {w : World} (h : Tab w) : 0 < w.heap.size ∧ 1 < w.heap.size :=
  ⟨World.block_lt_of_cell? w _ (h.first 0 _ rfl), World.block_lt_of_cell? w _ (h.rounds 0 _ rfl)⟩
theorem fromE_le (X : List By) (h : ∀ p ∈ X, p.length ≤ 200) : fromE X ≤ 100000 := by
  unfold fromE
  split
  · omega
  · rename_i h0
    rw [endG_all X h0]
    have := frames_le (X.drop (64 * (X.length / 64))) (fun p hp => h p (List.mem_of_mem_drop hp))
    rw [List.length_drop] at this
    omega
section
variable {w W Wc : World} {s d : Nat} {F : List (Int × By)} {E l done rest part : List By} {cs : List Chg} {sv ev hv vb ev2 : Value} {ea xa : Option Addr} {em ec xc : Nat} {n : Int}
theorem PlanR.begins (h : PlanR w s d F E l done rest cs sv ev (.slice xa rest.length xc) hv W) (hp : rest.take part.length = part) (h0 : 0 < part.length) (hle : part.length ≤ rest.length) (hf : E.length + l.length ≤ 4096) (hs : ∀ p ∈ l, p.length ≤ 200) (hE : ∀ p ∈ E, p.length ≤ 200) (ht : Tab w) (n : Int) :
    InnerS (rndB W n) (E ++ done) part (W.heap.size + 1) ev 0 (.slice none 0 0) ev (rndB W n) ∧ View (rndB W n) 1 (.slice xa part.length xc) (strV part) ∧ (∀ k, (Value.slice xa part.length xc).ownBlock = some k → k < w.heap.size) ∧ w.heap.size ≤ W.heap.size + 1 ∧
      (∀ k, ev.ownBlock = some k → w.heap.size ≤ k) ∧ (E ++ done).length ≤ 4096 ∧ (∀ p ∈ part, p.length ≤ 200) ∧ fromE (E ++ done) ≤ 100000 ∧ Tab (rndB W n) ∧ ∀ k, k = W.heap.size + 1 ∨ ev.ownBlock = some k → k ≠ 0 ∧ k ≠ 1 := by
  have hk := rnd_kept W n
  have hkw := h.kept.trans hk
  have hall := h.ps.all
  have hlen := congrArg List.length hall
  rw [List.length_append] at hlen
  have hz := h.kept.size
  have hi := h.inner (q := part.length) n
  rw [hp] at hi
  have hv := h.view.head part.length hle
  have ev1 : (strV rest).take (part.length * 1) = strV part := by
    conv => rhs; rw [← hp]
    unfold strV
    rw [Nat.mul_one, List.map_take]
  rw [ev1] at hv
  have hpl : ∀ p ∈ part, p ∈ l := fun p q => by
    rw [hall]
    rw [← hp] at q
    exact List.mem_append_right _ (List.mem_of_mem_take q)
  have hT := tab_low ht
  refine ⟨hi, hv.same hkw (by omega), hv.ownlt (fun e => ?_), by omega, h.owne, by rw [List.length_append]; omega, fun p q => hs p (hpl p q), fromE_le _ (fun p q => ?_), ht.same hkw, fun k q => ?_⟩
  · have := congrArg List.length e
    rw [strV_len, List.length_nil] at this
    omega
  · rcases List.mem_append.1 q with q | q
    · exact hE p q
    · exact hs p (by rw [hall]; exact List.mem_append_left _ q)
  · have : w.heap.size ≤ k := by
      rcases q with rfl | q
      · omega
      · exact h.owne k q
    have := hT.1
    have := hT.2
    omega
theorem PlanR.tail' {lv : Value} (h : PlanR w s d F E l done rest cs sv ev lv hv W) (hp : rest.take part.length = part) (hI : InnerS (rndB W n) (E ++ done) part (W.heap.size + 1) ev part.length vb ev2 Wc) :
    Hid (∃ zs, StP w s d sv ev2 cs zs Wc ∧ ∀ z ∈ zs, z < W.heap.size) ∧ BldR Wc (W.heap.size + 1) vb (framesF part) ∧ Row Wc 3 1 hv (icells (F.map (·.1))) ∧ Blk Wc W.heap.size [.int .i64 n] 3 ∧ Wc.cell? ⟨w.heap.size, 0, none⟩ = some (.pointer (some ⟨s, 0, none⟩)) := by
  have := h.tail (q := part.length) (n := n) (vb := vb) (ev2 := ev2) (Wc := Wc) (by rw [hp]; exact hI)
  rw [hp] at this
  obtain ⟨g0, g1, g2, g3, g4, g5, _⟩ := this
  exact ⟨g0, g1, g3, g5, g4.cell (i := 0) rfl⟩
theorem PlanR.make' {lv : Value} (h : PlanR w s d F E l done rest cs sv ev lv hv W) (hp : rest.take part.length = part) (hI : InnerS (rndB W n) (E ++ done) part (W.heap.size + 1) ev part.length vb ev2 Wc) (n0 : -9223372036854775808 ≤ n ∧ n ≤ 9223372036854775807) (hl : l.length ≤ 4096) :
    ∃ a m c' W1, (Builtin.append_ #[112, 112] 112 #[sv, .slice (some ⟨Wc.heap.size, 0, none⟩) 1 1]).run Tryz.prog (Wc.alloc (.cells #[.func (.func 105) #[] #[.pointer (some ⟨w.heap.size, 0, none⟩), .pointer (some ⟨W.heap.size, 0, none⟩)]] 159)) = .ok (.slice a m c') W1 ∧
      Hid ((∃ zs, StP w s d (.slice a m c') ev2 (cs ++ [.make n]) zs W1 ∧ ∀ z ∈ zs, z < W.heap.size) ∧ Kept (fun k => sv.ownBlock = some k) Wc W1) :=
  h.make (q := part.length) (by rw [hp]; exact hI) n0 hl
theorem PlanR.close' {lv : Value} (h : PlanR w s d F E l done rest cs sv ev lv hv W) (hp : rest.take part.length = part) (hI : InnerS (rndB W n) (E ++ done) part (W.heap.size + 1) ev part.length vb ev2 Wc) (n0 : -9223372036854775808 ≤ n ∧ n ≤ 9223372036854775807) (hl : l.length ≤ 4096) (hne : rest ≠ [])
    (hq : part.length = min (64 - (E.length + done.length) % 64) rest.length) (hn : n = 1000 + (((E.length + done.length) / 64 : Nat) : Int)) (hs : ∀ p ∈ rest, p.length ≤ 200) {W1 : World} {sv1 : Value} {mk : List Chg} (hmk : mk = if (AM.get F n).isSome = true then [] else [.make n])
    (h1 : (∃ zs1, StP w s d sv1 ev2 (cs ++ mk) zs1 W1 ∧ ∀ z ∈ zs1, z < W.heap.size) ∧ Kept (fun k => sv.ownBlock = some k) Wc W1) :
    ∃ a m c' W', (Builtin.append_ #[112, 112] 112 #[sv1, .slice (some ⟨W1.heap.size, 0, none⟩) 1 1]).run Tryz.prog (W1.alloc (.cells #[.func (.func 106) #[] #[.pointer (some ⟨w.heap.size, 0, none⟩), .pointer (some ⟨W.heap.size, 0, none⟩), .pointer (some ⟨W.heap.size + 1, 0, none⟩)]] 159)) = .ok (.slice a m c') W' ∧
      BldR W' (W.heap.size + 1) vb (framesF part) ∧ Hid (∀ lv', View w 1 lv' (strV (rest.drop part.length)) → PlanR w s d F E l (done ++ part) (rest.drop part.length) (cs ++ mk ++ [.app n (framesF part)]) (.slice a m c') ev2 lv' hv W') := by
  subst hmk
  obtain ⟨⟨zs1, h1, h2⟩, h3⟩ := h1
  have := h.close (q := part.length) (n := n) (by rw [hp]; exact hI) n0 hl hne hq hn hs ⟨⟨h1, h2⟩, h3⟩
  rw [hp] at this
  exact this
end
end Go.Proofs.YtlgeijbgkipliaaGreatDoor
