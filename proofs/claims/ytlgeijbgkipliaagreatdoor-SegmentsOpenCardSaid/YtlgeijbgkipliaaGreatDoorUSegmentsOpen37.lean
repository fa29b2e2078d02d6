/- RF4 -/
import Derived.Test.YtlgeijbgkipliaaGreatDoorUSegmentsOpen30
import Derived.Test.YtlgeijbgkipliaaGreatDoorUSegmentsOpen31
set_option linter.unusedVariables false
set_option linter.unusedSimpArgs false
namespace Go.Proofs.YtlgeijbgkipliaaGreatDoor
open Go.RowKit
def WholeAt (l : By) (ps : List By) (a : Nat) : Prop := a ≤ l.length ∧ (wholeF l).1 = ps ++ (wholeF (l.drop a)).1 ∧ (wholeF l).2 = (wholeF (l.drop a)).2 ∧ ps.length ≤ a
theorem WholeAt.next {l : By} {ps : List By} {a : Nat} {x : By × By} (h : WholeAt l ps a) (hc : cutF (l.drop a) = some x) : WholeAt l (ps ++ [x.1]) (a + (12 + x.1.length)) := by
  obtain ⟨h1, h2, h3, h4⟩ := h
  obtain ⟨e1, e2⟩ := cutF_eq (p := x.1) (r := x.2) hc
  have hl : (l.drop a).length = 12 + x.1.length + x.2.length := by rw [e1, List.length_append, frameF_len]
  rw [List.length_drop] at hl
  have hd : l.drop (a + (12 + x.1.length)) = x.2 := by
    rw [← List.drop_drop, e1, ← frameF_len, List.drop_left]
  refine ⟨by omega, ?_, ?_, by rw [List.length_append, List.length_singleton]; omega⟩
  · rw [h2, wholeF_some hc, hd, List.append_assoc]; rfl
  · rw [h3, wholeF_some hc, hd]
theorem WholeAt.last {l : By} {ps : List By} {a : Nat} (h : WholeAt l ps a) (hc : cutF (l.drop a) = none) : (wholeF l).1 = ps ∧ l.length - (wholeF l).2.length = a := by
  obtain ⟨h1, h2, h3, h4⟩ := h
  rw [wholeF_none hc] at h2 h3
  refine ⟨by rw [h2]; simp, ?_⟩
  rw [h3, List.length_drop]
  omega
def NewTexts (w : World) (v : Value) (ps : List By) (W : World) : Prop := Row W 9 1 v (strV ps) ∧ (∀ k, v.ownBlock = some k → w.heap.size ≤ k) ∧ Kept (fun _ => False) w W
theorem NewTexts.start (w : World) : NewTexts w (.slice none 0 0) [] w := ⟨Row.nil _ _ _, fun k q => by simp [Value.ownBlock] at q, Kept.refl _ _⟩
theorem NewTexts.same {w W W' : World} {v : Value} {ps : List By} (h : NewTexts w v ps W) (hk : Kept (fun _ => False) W W') : NewTexts w v ps W' := ⟨h.1.kept hk (fun _ _ => id), h.2.1, h.2.2.trans hk⟩
theorem NewTexts.app {w W : World} {v : Value} {ps : List By} (h : NewTexts w v ps W) (hl : ps.length ≤ 100000000) (p : By) :
    ∃ sa n c w3, (Builtin.append_ #[23, 23] 23 #[v, .slice (some ⟨W.heap.size, 0, none⟩) 1 1]).run Tryz.prog (W.alloc (.cells #[.string (strB p)] 9)) = .ok (.slice sa n c) w3 ∧ Hid (NewTexts w (.slice sa n c) (ps ++ [p]) w3) := by
  obtain ⟨v', w3, hr, g1, g2, g3⟩ := append_str1 h.1 p hl
  obtain ⟨sa, n, c, rfl, -⟩ := g1.form (by omega)
  exact ⟨sa, n, c, w3, hr, Lib.hid ⟨g1, fun k e => (g3 k e).elim (h.2.1 k) (fun q => by have := h.2.2.size; omega), h.2.2.then_ g2 (fun k hk e => by have := h.2.1 k e; omega)⟩⟩
set_option maxRecDepth 100000 in
set_option maxHeartbeats 2000000 in
theorem rwhole_any (w : World) (l : By) (hl : l.length ≤ 2000000) :
    Calls Tryz.prog 96 #[.string (strB l)] w fun e w' => ∃ sa n c, e = .returned (.tuple #[.slice sa n c, .int .i64 ((l.length - (wholeF l).2.length : Nat) : Int)]) ∧ NewTexts w (.slice sa n c) (wholeF l).1 w' := by
  have HC := Lib.hid (fun w a ha => rcut_any w l hl a ha)
  obtain ⟨bs, hbs⟩ : ∃ bs, strB l = bs := ⟨_, rfl⟩
  rw [hbs] at HC ⊢
  clear hbs
  go_enter Tryz.func96, Tryz.ntmps96
  go_wp2_with fail
  go_loopw [4, 5] (fun z4 z5 wr => ∃ (a : Nat) (ps : List By) (sa : Option Addr) (n c : Nat), z4 = .slice sa n c ∧ z5 = .int .i64 (a : Int) ∧ Hid (WholeAt l ps a) ∧ Hid (NewTexts w (.slice sa n c) ps wr)) (fun _ z5 _ => l.length - (intOf z5).toNat)
  case atStart => exact ⟨0, [], none, 0, 0, rfl, rfl, Lib.hid ⟨Nat.zero_le _, by simp, by simp, by simp⟩, Lib.hid (NewTexts.start w)⟩
  case round =>
    obtain ⟨a, ps, sa, n, c, rfl, rfl, HW, HN⟩ := hrel
    have hg := HC.out wr a HW.out.1
    obtain ⟨cc, hcc⟩ : ∃ cc, cutF (l.drop a) = cc := ⟨_, rfl⟩
    rw [hcc] at hg
    cases cc with
    | none =>
      have HG := Lib.hid hg
      obtain ⟨e1, e2⟩ := HW.out.last hcc
      have HE := Lib.hid (And.intro e1 e2)
      clear hcc hg e1 e2
      go_wp2_with (go_at_call 132; refine HG.out.mono ?_; rintro e w2 ⟨rfl, hk2⟩; have HN2 := Lib.hid (HN.out.same hk2); clear hk2)
      refine bodyPost_ret (v := .tuple #[.slice sa n c, .int .i64 (a : Int)]) (by simp [results, Tryz.results96, go_sem]) rfl ⟨sa, n, c, by rw [HE.out.2], by rw [HE.out.1]; exact HN2.out⟩
    | some x =>
      have hnx := HW.out.next hcc
      obtain ⟨b, hb⟩ : ∃ b, a + (12 + x.1.length) = b := ⟨_, rfl⟩
      have hg2 : Calls Tryz.prog 132 #[.string bs, .int .i64 (a : Int)] wr fun e w' => e = .returned (.tuple #[.string (strB x.1), .int .i64 (b : Int), .bool true]) ∧ Kept (fun _ => False) wr w' := by
        refine hg.mono ?_
        rintro e w' ⟨he, hk⟩
        unfold GetTo at he
        dsimp only at he
        rw [hb] at he
        exact ⟨he, hk⟩
      rw [hb] at hnx
      have HG := Lib.hid hg2
      have HX := Lib.hid hnx
      have hab : a < b := by omega
      have hal := HW.out.1
      have hbl := hnx.1
      have hp4 := HW.out.2.2.2
      have HAP := Lib.hid (fun w2 (hk2 : Kept (fun _ => False) wr w2) => (HN.out.same hk2).app (by omega) x.1)
      have HM := Lib.hid (show l.length - b < l.length - a by omega)
      clear hcc hg hb hg2 hnx hp4
      go_upto_region 6 with (go_at_call 132; refine HG.out.mono ?_; rintro e w2 ⟨rfl, hk2⟩; obtain ⟨sb, m, cb, w3, hap, HN3⟩ := HAP.out w2 hk2; clear hk2)
      clear HG HAP HN
      go_wp2_with (at_builtin; refine Lib.wpList_append_run _ rfl _ _ 23 23 rfl _ _ rfl rfl _ _ hap ?_)
      go_roundw
      case rel => exact ⟨b, _, sb, m, cb, rfl, rfl, HX, HN3⟩
      case measure => have := HM.out; simp [intOf]; omega
end Go.Proofs.YtlgeijbgkipliaaGreatDoor
