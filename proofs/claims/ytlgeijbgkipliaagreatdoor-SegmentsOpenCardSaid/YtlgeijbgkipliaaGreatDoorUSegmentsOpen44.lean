/- RS2 RS3 RS4 RS5 RS6 RS7 RS8 RS9 -/
import Derived.Test.YtlgeijbgkipliaaGreatDoorUSegmentsOpen43
import Derived.Test.YtlgeijbgkipliaaGreatDoorUSegmentsOpen02
import Derived.Test.YtlgeijbgkipliaaGreatDoorUSegmentsOpen36
set_option linter.unusedVariables false
set_option linter.unusedSimpArgs false
namespace Go.Proofs.YtlgeijbgkipliaaGreatDoor
open Go.RowKit
section
variable {w w1 w2 : World} {r : Nat} {M M1 M2 : DiskM} {x y x1 y1 : Value} {e : Int}
theorem RefGo.self (h : RefAt w r M x y) : RefGo w r x y M w := ⟨x, y, h, Kept.refl _ _, fun _ => Or.inl, fun _ => Or.inl⟩
theorem RefGo.next (h : RefGo w r x y M1 w1) (hq : ∀ x1 y1, RefAt w1 r M1 x1 y1 → RefGo w1 r x1 y1 M2 w2) : RefGo w r x y M2 w2 := by
  obtain ⟨x1, y1, h1, h2, h3, h4⟩ := h
  obtain ⟨x2, y2, g1, g2, g3, g4⟩ := hq x1 y1 h1
  refine ⟨x2, y2, g1, h2.trans g2, fun k q => ?_, fun k q => ?_⟩
  · rcases g3 k q with q | q
    · exact h3 k q
    · have := h2.size; exact Or.inr (by omega)
  · rcases g4 k q with q | q
    · exact h4 k q
    · have := h2.size; exact Or.inr (by omega)
theorem RefGo.thru {z1 z2 : Value} (h2 : Kept (· = r) w w1) (h3 : ∀ k, z1.ownBlock = some k → x.ownBlock = some k ∨ w.heap.size ≤ k) (h4 : ∀ k, z2.ownBlock = some k → y.ownBlock = some k ∨ w.heap.size ≤ k) (hq : RefGo w1 r z1 z2 M2 w2) : RefGo w r x y M2 w2 := by
  obtain ⟨x2, y2, g1, g2, g3, g4⟩ := hq
  refine ⟨x2, y2, g1, h2.trans g2, fun k q => ?_, fun k q => ?_⟩
  · rcases g3 k q with q | q
    · exact h3 k q
    · have := h2.size; exact Or.inr (by omega)
  · rcases g4 k q with q | q
    · exact h4 k q
    · have := h2.size; exact Or.inr (by omega)
theorem del_ok {R : RefM} (h : Rel M R) {j : Nat} {p : Int × By} (hp : M.files[j]? = some p) {y2 : Int} (hd : M.delete p.1 = (y2, M2)) : y2 = 0 → M2.files = M.files.take j ++ M.files.drop (j + 1) := by
  intro hy
  obtain ⟨t1, t2⟩ := h.mtick
  unfold DiskM.delete at hd
  by_cases hh : M.has p.1 = 0
  · rw [if_neg (by rw [hh]; simp), if_neg (by rw [t2]; simp), t1] at hd
    cases hd
    exact (del_at h.ok.rise (b := p.2) hp).symm
  · rw [if_pos hh] at hd
    cases hd
    exact absurd hy hh
def delsC (L : List (Int × By)) (fr : Int) (j : Nat) : List Chg := (((L.map (·.1)).take j).reverse.filter fun n => decide (fr ≤ n)).map .del
theorem delsC_all (M : DiskM) (fr : Int) : delsC M.files fr M.files.length = dropC M fr := by unfold delsC dropC; rw [List.take_of_length_le (by simp)]
theorem delsC_succ {L : List (Int × By)} {fr : Int} {j : Nat} {p : Int × By} (hp : L[j]? = some p) : delsC L fr (j + 1) = if fr ≤ p.1 then .del p.1 :: delsC L fr j else delsC L fr j := by
  unfold delsC
  rw [List.take_add_one, List.getElem?_map, hp, Option.map_some, Option.toList_some, List.reverse_append, List.reverse_singleton, List.singleton_append]
  by_cases h : fr ≤ p.1
  · rw [if_pos h, List.filter_cons_of_pos (by simpa using h)]; rfl
  · rw [if_neg h, List.filter_cons_of_neg (by simpa using h)]
def DropS (w : World) (r : Nat) (x y : Value) (M : DiskM) (fr : Int) (j : Nat) (W : World) : Prop :=
  ∃ M1, RefGo w r x y M1 W ∧ M1.files.take j = M.files.take j ∧ j ≤ M1.files.length ∧ runAll (dropC M fr) M = runAll (delsC M.files fr j) M1
theorem DropS.at {j : Nat} {fr : Int} {W : World} (h : DropS w r x y M fr (j + 1) W) : ∃ (a : Option Addr) (n c g : Nat) (p : Int × By), W.cell? ⟨r, 1, none⟩ = some (.slice a n c) ∧ j < n ∧ n ≤ 100 ∧ a = some ⟨g, 0, none⟩ ∧ W.cell? ⟨g, j * 2, none⟩ = some (.int .i64 p.1) ∧ (-9223372036854775808 ≤ p.1 ∧ p.1 ≤ 9223372036854775807) ∧
    Hid (if fr ≤ p.1 then Calls Tryz.prog 97 #[.pointer (some ⟨r, 0, none⟩), .int .i64 p.1] W (fun e w' => ∃ y1 M', e = .returned (.int .i64 y1) ∧ (y1 = 0 → Hid (DropS w r x y M fr j w')) ∧ (y1 ≠ 0 → Hid (RefGo w r x y M' w' ∧ runAll (dropC M fr) M = (y1, M')))) else DropS w r x y M fr j W) := by
  obtain ⟨M1, h1, h2, h3, h4⟩ := h
  obtain ⟨z1, z2, hat, hz2, hz3, hz4⟩ := h1
  obtain ⟨a, c, rfl, c1, -, -, -, -, hc⟩ := hat.cells
  obtain ⟨p, hp⟩ : ∃ p, M1.files[j]? = some p := ⟨_, List.getElem?_eq_getElem (by omega)⟩
  have hpM : M.files[j]? = some p := by
    have e1 : (M1.files.take (j + 1))[j]? = some p := by rw [List.getElem?_take_of_lt (by omega)]; exact hp
    rw [h2, List.getElem?_take_of_lt (by omega)] at e1
    exact e1
  have htk : M1.files.take j = M.files.take j := by
    have e1 := congrArg (List.take j) h2
    rwa [List.take_take, List.take_take, Nat.min_eq_left (by omega)] at e1
  obtain ⟨g, rfl, q0, -⟩ := hc j p hp
  obtain ⟨R, hR, hrel⟩ := hat
  have hk := hrel.ok.keys p (List.mem_of_getElem? hp)
  refine ⟨_, _, c, g, p, c1, by omega, hrel.few, rfl, q0, by omega, Lib.hid ?_⟩
  rw [delsC_succ hpM] at h4
  by_cases hfr : fr ≤ p.1
  · rw [if_pos hfr] at h4 ⊢
    obtain ⟨y2, M2, hdel⟩ : ∃ y2 M2, M1.delete p.1 = (y2, M2) := ⟨_, _, rfl⟩
    refine (delete_at ⟨R, hR, hrel⟩ p.1 hdel).mono ?_
    rintro e' w' ⟨rfl, hg⟩
    have hgo := RefGo.thru hz2 hz3 hz4 hg
    have hrun : (Chg.del p.1).run M1 = (y2, M2) := hdel
    refine ⟨y2, M2, rfl, fun h0 => Lib.hid ⟨M2, hgo, ?_, ?_, ?_⟩, fun h0 => Lib.hid ⟨hgo, ?_⟩⟩
    · rw [del_ok hrel hp hdel h0, List.take_append_of_le_length (by rw [List.length_take]; omega), List.take_take, Nat.min_self]; exact htk
    · rw [del_ok hrel hp hdel h0, List.length_append, List.length_take]; omega
    · rw [h4, runAll_cons_ok (by rw [hrun]; exact h0), hrun]
    · rw [h4, runAll_cons_no (by rw [hrun]; exact h0), hrun]
  · rw [if_neg hfr] at h4 ⊢
    exact ⟨M1, ⟨_, z2, ⟨R, hR, hrel⟩, hz2, hz3, hz4⟩, htk, by omega, h4⟩
set_option maxRecDepth 100000 in
set_option maxHeartbeats 2000000 in
theorem rdrop_any (h : RefAt w r M x y) (fr : Int) {M' : DiskM} (he : runAll (dropC M fr) M = (e, M')) :
    Calls Tryz.prog 58 #[.pointer (some ⟨r, 0, none⟩), .int .i64 fr] w fun e' w' => e' = .returned (.int .i64 e) ∧ RefGo w r x y M' w' := by
  have HS0 := Lib.hid (show DropS w r x y M fr M.files.length w from ⟨M, RefGo.self h, rfl, Nat.le_refl _, by rw [delsC_all]⟩)
  have hfew : M.files.length ≤ 100 := by obtain ⟨R, _, h2⟩ := h; exact h2.few
  obtain ⟨a, c, rfl, c1, -⟩ := h.cells
  have HE := Lib.hid he
  clear h he
  go_enter Tryz.func58, Tryz.ntmps58
  go_wp2_with fail
  go_loopw [5] (fun z wr => ∃ j : Nat, j ≤ 100 ∧ z = .int .i64 ((j : Int) - 1) ∧ Hid (DropS w r (.slice a M.files.length c) y M fr j wr)) (fun z _ => ((intOf z) + 1).toNat)
  case atStart => exact ⟨M.files.length, hfew, by first | rfl | (rw [IntWalk.wrap64_in _ (by omega)]), HS0⟩
  case round =>
    obtain ⟨j, hj, rfl, HS⟩ := hrel
    rcases j with _ | j
    · have z1 : decide ((0 : Int) ≤ ((0 : Nat) : Int) - 1) = false := by decide
      obtain ⟨M1, h1, -, -, h4⟩ := HS.out
      rw [HE.out] at h4
      have e0 : runAll (delsC M.files fr 0) M1 = (0, M1) := rfl
      rw [e0] at h4
      cases h4
      have HR := Lib.hid h1
      clear h1 hj
      go_wp2_with fail
      go_ret
      exact ⟨rfl, HR.out⟩
    · have z1 : decide ((0 : Int) ≤ ((j + 1 : Nat) : Int) - 1) = true := decide_eq_true (by omega)
      obtain ⟨a2, n, c2, g, p, d1, hjn, hn, rfl, q0, hpb, HD⟩ := HS.out.at
      have hjl : ((j : Int) < (n : Int)) = True := eq_true (by omega)
      rw [show ((j + 1 : Nat) : Int) - 1 = (j : Int) by omega] at z1 ⊢
      have HJ := Lib.hid (show j ≤ 100 by omega)
      have hjb : j ≤ 100 := by omega
      by_cases hfr : fr ≤ p.1
      · have hd := HD.out
        rw [if_pos hfr] at hd
        have z2 : decide (fr ≤ p.1) = true := decide_eq_true hfr
        have HDD := Lib.hid hd
        clear hd HD hfr hj hpb
        go_upto_region 6 with (go_at_call 97; refine HDD.out.mono ?_; rintro e' w' ⟨y1, M2, rfl, hg1, hg2⟩; have HG := Lib.hid (And.intro hg1 hg2); clear hg1 hg2)
        by_cases h0 : y1 = 0
        · subst h0
          have HG1 := HG.out.1 rfl
          clear HG HDD d1 q0
          go_wp2_with fail
          go_roundw
          case rel => exact ⟨j, HJ.out, by go_num, HG1⟩
          case measure => first | (simp [intOf]; done) | (simp [intOf]; omega)
        · have z3 : (y1 != 0) = true := by simpa using h0
          obtain ⟨g1, g2⟩ := (HG.out.2 h0).out
          rw [HE.out] at g2
          cases g2
          have HR := Lib.hid g1
          clear HG HDD d1 q0 g1
          go_wp2_with fail
          go_ret
          exact ⟨rfl, HR.out⟩
      · have hd := HD.out
        rw [if_neg hfr] at hd
        have z2 : decide (fr ≤ p.1) = false := decide_eq_false hfr
        have HDD := Lib.hid hd
        clear hd HD hfr hj hpb
        go_wp2_with fail
        go_roundw
        case rel => exact ⟨j, HJ.out, by go_num, HDD⟩
        case measure => first | (simp [intOf]; done) | (simp [intOf]; omega)
end
end Go.Proofs.YtlgeijbgkipliaaGreatDoor

namespace Go.Proofs.YtlgeijbgkipliaaGreatDoor
open Go.RowKit
def codeReg (n : Nat) : Code → Option Code
  | .region m o d => if m = n then some (.region m o d) else none
  | .seq a b => (codeReg n a).or (codeReg n b)
  | .cond _ a b => (codeReg n a).or (codeReg n b)
  | .block _ c => codeReg n c
  | .loop c => codeReg n c
  | _ => none
section
variable {P : Program} {ops : Array Oper} {Q : Exit → Act → World → Prop} {md : Region.Mode} {S : World → Prop} {fuel : Nat} {listed : Array Bool} {a : Act} {w : World}
theorem rd3r {oi oj ok : Oper} (i j k : Nat) (h1 : ∀ K' : Act → World → Prop, Shut (∀ a w, S w → (S w → wpAnyH P md ops Q S fuel (listed.setIfInBounds i true) a w) → K' a w) → if Region.wanted oi (yielded ops a.tmps) = true then Oper.wp P oi a w K' Q else K' (a.put oi.dst undef) w)
    (h2 : ∀ K' : Act → World → Prop, Shut (∀ a w, S w → (S w → wpAnyH P md ops Q S fuel (listed.setIfInBounds j true) a w) → K' a w) → if Region.wanted oj (yielded ops a.tmps) = true then Oper.wp P oj a w K' Q else K' (a.put oj.dst undef) w)
    (h3 : ∀ K' : Act → World → Prop, Shut (∀ a w, S w → (S w → wpAnyH P md ops Q S fuel (listed.setIfInBounds k true) a w) → K' a w) → if Region.wanted ok (yielded ops a.tmps) = true then Oper.wp P ok a w K' Q else K' (a.put ok.dst undef) w)
    (hr : Region.ready md ops listed = [i, j, k] := by kernel_rfl) (ho : ops.toList[i]? = some oi := by rfl) (ho2 : ops.toList[j]? = some oj := by rfl) (ho3 : ops.toList[k]? = some ok := by rfl) : wpAnyH P md ops Q S (fuel + 1) listed a w :=
  wpAnyH_ready hr (by simp) (AllReadyH.cons (by rw [← Array.getElem?_toList]; exact ho) h1 (AllReadyH.cons (by rw [← Array.getElem?_toList]; exact ho2) h2 (AllReadyH.cons (by rw [← Array.getElem?_toList]; exact ho3) h3 AllReadyH.nil)))
end
set_option maxRecDepth 100000 in
set_option maxHeartbeats 8000000 in
theorem open_reg16 {W : World} {r i : Nat} {M : DiskM} {x y : Value} {b : By} {Q : Exit → Act → World → Prop} {g1 g2 g3 g4 g5 g6 g7 g8 g10 g11 g12 g13 g14 g15 g16 g17 g18 g19 g20 g21 g22 g23 g24 g25 g26 g27 g28 g29 g30 g31 g32 g33 g34 g35 g36 g37 g38 g39 g40 g41 g42 g43 g44 g45 g46 g47 g48 g49 g50 g51 g52 g53 g54 g55 g56 g57 g58 g59 g60 g61 g62 g63 g64 g65 g66 g67 g68 g69 g70 g71 g72 g73 g74 g75 g76 g77 g78 g79 g80 g81 g82 g83 g84 g85 g86 g87 g88 g89 g90 g91 g92 g93 g94 g95 g96 g97 g98 g99 : Value} {c1 : Code} {K : Act → World → Prop} (hcode : codeReg 16 (Tryz.f16.body.getD .skip) = some c1) (h : RefAt W r M x y) (hi : i ≤ 64) (hg : AM.get M.files (1000 + (i : Int)) = some b)
    (HP : ∀ c a (k : Nat) v w, Q (.panic c) (Act.put a (some k) v) w → Q (.panic c) a w) (HEND : ∀ (p10 : Nat) (v67 v68 v69 v70 v71 v72 v73 v74 v75 v76 : Value) (w' : World), Hid (Kept (fun _ => False) W w' ∧ Blk w' p10 [.int .i64 (1000 + (i : Int)), .string (strB b)] 107 ∧ W.heap.size ≤ p10) → K ⟨List.toArray ((.pointer (some ⟨r, 0, none⟩)) :: g1 :: g2 :: g3 :: g4 :: g5 :: g6 :: g7 :: g8 :: (.int .i64 (i : Int)) :: (.pointer (some ⟨p10, 0, none⟩)) :: g11 :: g12 :: g13 :: g14 :: g15 :: g16 :: g17 :: g18 :: g19 :: g20 :: g21 :: g22 :: g23 :: g24 :: g25 :: g26 :: g27 :: g28 :: g29 :: g30 :: g31 :: g32 :: g33 :: g34 :: g35 :: g36 :: g37 :: g38 :: g39 :: g40 :: g41 :: g42 :: g43 :: g44 :: g45 :: g46 :: g47 :: g48 :: g49 :: g50 :: g51 :: g52 :: g53 :: g54 :: g55 :: g56 :: g57 :: g58 :: g59 :: g60 :: g61 :: g62 :: g63 :: g64 :: g65 :: g66 :: v67 :: v68 :: v69 :: v70 :: v71 :: v72 :: v73 :: v74 :: v75 :: v76 :: g77 :: g78 :: g79 :: g80 :: g81 :: g82 :: g83 :: g84 :: g85 :: g86 :: g87 :: g88 :: g89 :: g90 :: g91 :: g92 :: g93 :: g94 :: g95 :: g96 :: g97 :: g98 :: g99 :: []), []⟩ w') :
    Code.wp Tryz.prog c1 (Exit.then K Q) ⟨List.toArray ((.pointer (some ⟨r, 0, none⟩)) :: g1 :: g2 :: g3 :: g4 :: g5 :: g6 :: g7 :: g8 :: (.int .i64 (i : Int)) :: g10 :: g11 :: g12 :: g13 :: g14 :: g15 :: g16 :: g17 :: g18 :: g19 :: g20 :: g21 :: g22 :: g23 :: g24 :: g25 :: g26 :: g27 :: g28 :: g29 :: g30 :: g31 :: g32 :: g33 :: g34 :: g35 :: g36 :: g37 :: g38 :: g39 :: g40 :: g41 :: g42 :: g43 :: g44 :: g45 :: g46 :: g47 :: g48 :: g49 :: g50 :: g51 :: g52 :: g53 :: g54 :: g55 :: g56 :: g57 :: g58 :: g59 :: g60 :: g61 :: g62 :: g63 :: g64 :: g65 :: g66 :: g67 :: g68 :: g69 :: g70 :: g71 :: g72 :: g73 :: g74 :: g75 :: g76 :: g77 :: g78 :: g79 :: g80 :: g81 :: g82 :: g83 :: g84 :: g85 :: g86 :: g87 :: g88 :: g89 :: g90 :: g91 :: g92 :: g93 :: g94 :: g95 :: g96 :: g97 :: g98 :: g99 :: []), []⟩ W := by
  have HEND := Lib.hid HEND
  simp only [Tryz.f16, Option.getD_some, codeReg, Nat.reduceEqDiff, ↓reduceIte, Option.none_or, Option.or_none, Option.some_or, Option.some.injEq] at hcode
  subst hcode
  have hr := (let ⟨R, _, h2⟩ := h; h2.ok.rise : AM.Rise M.files)
  have hd := h.keep (S := fun _ => False) (Kept.refl _ _).drew (fun _ _ => id)
  have hKd : Kept (fun _ => False) W W.drew := (Kept.refl _ _).drew
  refine wp_region_held_drew (S := fun _ => True) (by kernel_rfl) trivial (fun _ => ?_)
  generalize World.drew W = Wd at *
  have hal : Kept (fun _ => False) Wd (Wd.alloc (.cells #[.int .i64 0, .string ⟨#[]⟩] 107)) := (Kept.refl _ _).alloc _
  have hd1 := hd.keep hal (fun _ _ => id)
  have HF0 := Lib.hid (find_at hd (1000 + (i : Int)))
  have HF1 := Lib.hid (find_at hd1 (1000 + (i : Int)))
  obtain ⟨a, c, rfl, e0, -, -, -, -, hc⟩ := hd.cells
  obtain ⟨a', c', hq, e1, -, -, -, -, hc1⟩ := hd1.cells
  simp only [Value.slice.injEq] at hq
  obtain ⟨rfl, -, rfl⟩ := hq
  rcases find_get hr (1000 + (i : Int)) with ⟨g1, _⟩ | ⟨k, b', g1, g2, g3⟩
  · rw [g1] at hg; cases hg
  rw [g1] at hg
  cases hg
  rw [g2] at HF0 HF1
  obtain ⟨g, rfl, q0, t0⟩ := hc k _ g3
  obtain ⟨g', hgg, q1, t1⟩ := hc1 k _ g3
  simp only [Option.some.injEq, Addr.mk.injEq, and_true] at hgg
  subst hgg
  dsimp only at q0 t0 q1 t1
  have hkl : ((k : Int) < (M.files.length : Int)) = True := eq_true (by have := (List.getElem?_eq_some_iff.1 g3).1; omega)
  have hwr : IntKind.i64.wrap (1000 + (i : Int)) = 1000 + (i : Int) := IntWalk.i64_in _ (by omega)
  have hb := Blk.new Wd [.int .i64 0, .string ⟨#[]⟩] 107
  have b0 := hb.cell (i := 0) rfl
  have b1 := hb.cell (i := 1) rfl
  have z0 := hb.free 0
  have z1 := hb.free 1
  have hbb := Blk.new Wd [.int .i64 (1000 + (i : Int)), .string (strB b)] 107
  have HE : Hid (Kept (fun _ => False) W (Wd.alloc (.cells #[.int .i64 (1000 + (i : Int)), .string (strB b)] 107)) ∧ Blk (Wd.alloc (.cells #[.int .i64 (1000 + (i : Int)), .string (strB b)] 107)) Wd.heap.size [.int .i64 (1000 + (i : Int)), .string (strB b)] 107 ∧ W.heap.size ≤ Wd.heap.size) := Lib.hid ⟨hKd.trans ((Kept.refl _ _).alloc _), hbb, hKd.size⟩
  obtain ⟨bs, hbs⟩ : ∃ bs, strB b = bs := ⟨_, rfl⟩
  rw [hbs] at t0 t1 HE HEND
  clear h hd hKd hal hd1 hc hc1 g1 g2 g3 hb hbb hbs hr hi
  refine tk 0 rfl (fun _ _ _ h => HP _ _ _ _ _ h) trivial ?_
  refine tk 1 rfl (fun _ _ _ h => HP _ _ _ _ _ h) trivial ?_
  refine tk 2 rfl (fun _ _ _ h => HP _ _ _ _ _ h) trivial ?_
  refine tk 4 rfl (fun _ _ _ h => HP _ _ _ _ _ h) trivial ?_
  refine tk 5 rfl (fun _ _ _ h => HP _ _ _ _ _ h) trivial ?_
  refine tk 6 rfl (fun _ _ _ h => HP _ _ _ _ _ h) trivial ?_
  refine rd3r 3 7 10 (fun K hK => ?_) (fun K hK => ?_) (fun K hK => ?_)
  · have hq := e0
    go_simp
    clear hq
    refine hK.out _ _ trivial (fun _ => ?_)
    clear hK K
    try simp only [lyA, lyB, lyC, lyD]
    refine rd2 7 10 (fun K hK => ?_) (fun K hK => ?_)
    · go_simp
      refine (HF0.out).mono ?_
      rintro e w2 ⟨rfl, rfl⟩
      refine hK.out _ _ trivial (fun _ => ?_)
      clear hK K
      try simp only [lyA, lyB, lyC, lyD]
      refine tk 8 rfl (fun _ _ _ h => HP _ _ _ _ _ h) trivial ?_
      refine rd2 9 10 (fun K hK => ?_) (fun K hK => ?_)
      · have hq := q0
        have hq2 := t0
        go_simp
        clear hq hq2
        refine hK.out _ _ trivial (fun _ => ?_)
        clear hK K
        try simp only [lyA, lyB, lyC, lyD]
        refine rd1 10 (fun K hK => ?_)
        go_simp
        refine hK.out _ _ trivial (fun _ => ?_)
        clear hK K
        try simp only [lyA, lyB, lyC, lyD]
        refine rd1 11 (fun K hK => ?_)
        have hq := b0
        have hq2 := b1
        have hq3 := z0
        have hq4 := z1
        go_simp
        clear hq hq2 hq3 hq4
        refine hK.out _ _ trivial (fun _ => ?_)
        clear hK K
        try simp only [lyA, lyB, lyC, lyD]
        refine wpAnyH_done (by kernel_rfl) ?_ _
        exact HEND.out _ _ _ _ _ _ _ _ _ _ _ _ HE
      · go_simp
        refine hK.out _ _ trivial (fun _ => ?_)
        clear hK K
        try simp only [lyA, lyB, lyC, lyD]
        refine rd1 9 (fun K hK => ?_)
        have hq := q1
        have hq2 := t1
        go_simp
        clear hq hq2
        refine hK.out _ _ trivial (fun _ => ?_)
        clear hK K
        try simp only [lyA, lyB, lyC, lyD]
        refine rd1 11 (fun K hK => ?_)
        have hq := b0
        have hq2 := b1
        have hq3 := z0
        have hq4 := z1
        go_simp
        clear hq hq2 hq3 hq4
        refine hK.out _ _ trivial (fun _ => ?_)
        clear hK K
        try simp only [lyA, lyB, lyC, lyD]
        refine wpAnyH_done (by kernel_rfl) ?_ _
        exact HEND.out _ _ _ _ _ _ _ _ _ _ _ _ HE
    · go_simp
      refine hK.out _ _ trivial (fun _ => ?_)
      clear hK K
      try simp only [lyA, lyB, lyC, lyD]
      refine rd1 7 (fun K hK => ?_)
      go_simp
      refine (HF1.out).mono ?_
      rintro e w2 ⟨rfl, rfl⟩
      refine hK.out _ _ trivial (fun _ => ?_)
      clear hK K
      try simp only [lyA, lyB, lyC, lyD]
      refine tk 8 rfl (fun _ _ _ h => HP _ _ _ _ _ h) trivial ?_
      refine rd1 9 (fun K hK => ?_)
      have hq := q1
      have hq2 := t1
      go_simp
      clear hq hq2
      refine hK.out _ _ trivial (fun _ => ?_)
      clear hK K
      try simp only [lyA, lyB, lyC, lyD]
      refine rd1 11 (fun K hK => ?_)
      have hq := b0
      have hq2 := b1
      have hq3 := z0
      have hq4 := z1
      go_simp
      clear hq hq2 hq3 hq4
      refine hK.out _ _ trivial (fun _ => ?_)
      clear hK K
      try simp only [lyA, lyB, lyC, lyD]
      refine wpAnyH_done (by kernel_rfl) ?_ _
      exact HEND.out _ _ _ _ _ _ _ _ _ _ _ _ HE
  · go_simp
    refine (HF0.out).mono ?_
    rintro e w2 ⟨rfl, rfl⟩
    refine hK.out _ _ trivial (fun _ => ?_)
    clear hK K
    try simp only [lyA, lyB, lyC, lyD]
    refine rd2 3 10 (fun K hK => ?_) (fun K hK => ?_)
    · have hq := e0
      go_simp
      clear hq
      refine hK.out _ _ trivial (fun _ => ?_)
      clear hK K
      try simp only [lyA, lyB, lyC, lyD]
      refine tk 8 rfl (fun _ _ _ h => HP _ _ _ _ _ h) trivial ?_
      refine rd2 9 10 (fun K hK => ?_) (fun K hK => ?_)
      · have hq := q0
        have hq2 := t0
        go_simp
        clear hq hq2
        refine hK.out _ _ trivial (fun _ => ?_)
        clear hK K
        try simp only [lyA, lyB, lyC, lyD]
        refine rd1 10 (fun K hK => ?_)
        go_simp
        refine hK.out _ _ trivial (fun _ => ?_)
        clear hK K
        try simp only [lyA, lyB, lyC, lyD]
        refine rd1 11 (fun K hK => ?_)
        have hq := b0
        have hq2 := b1
        have hq3 := z0
        have hq4 := z1
        go_simp
        clear hq hq2 hq3 hq4
        refine hK.out _ _ trivial (fun _ => ?_)
        clear hK K
        try simp only [lyA, lyB, lyC, lyD]
        refine wpAnyH_done (by kernel_rfl) ?_ _
        exact HEND.out _ _ _ _ _ _ _ _ _ _ _ _ HE
      · go_simp
        refine hK.out _ _ trivial (fun _ => ?_)
        clear hK K
        try simp only [lyA, lyB, lyC, lyD]
        refine rd1 9 (fun K hK => ?_)
        have hq := q1
        have hq2 := t1
        go_simp
        clear hq hq2
        refine hK.out _ _ trivial (fun _ => ?_)
        clear hK K
        try simp only [lyA, lyB, lyC, lyD]
        refine rd1 11 (fun K hK => ?_)
        have hq := b0
        have hq2 := b1
        have hq3 := z0
        have hq4 := z1
        go_simp
        clear hq hq2 hq3 hq4
        refine hK.out _ _ trivial (fun _ => ?_)
        clear hK K
        try simp only [lyA, lyB, lyC, lyD]
        refine wpAnyH_done (by kernel_rfl) ?_ _
        exact HEND.out _ _ _ _ _ _ _ _ _ _ _ _ HE
    · go_simp
      refine hK.out _ _ trivial (fun _ => ?_)
      clear hK K
      try simp only [lyA, lyB, lyC, lyD]
      refine rd1 3 (fun K hK => ?_)
      have hq := e1
      go_simp
      clear hq
      refine hK.out _ _ trivial (fun _ => ?_)
      clear hK K
      try simp only [lyA, lyB, lyC, lyD]
      refine tk 8 rfl (fun _ _ _ h => HP _ _ _ _ _ h) trivial ?_
      refine rd1 9 (fun K hK => ?_)
      have hq := q1
      have hq2 := t1
      go_simp
      clear hq hq2
      refine hK.out _ _ trivial (fun _ => ?_)
      clear hK K
      try simp only [lyA, lyB, lyC, lyD]
      refine rd1 11 (fun K hK => ?_)
      have hq := b0
      have hq2 := b1
      have hq3 := z0
      have hq4 := z1
      go_simp
      clear hq hq2 hq3 hq4
      refine hK.out _ _ trivial (fun _ => ?_)
      clear hK K
      try simp only [lyA, lyB, lyC, lyD]
      refine wpAnyH_done (by kernel_rfl) ?_ _
      exact HEND.out _ _ _ _ _ _ _ _ _ _ _ _ HE
  · go_simp
    refine hK.out _ _ trivial (fun _ => ?_)
    clear hK K
    try simp only [lyA, lyB, lyC, lyD]
    refine rd2 3 7 (fun K hK => ?_) (fun K hK => ?_)
    · have hq := e1
      go_simp
      clear hq
      refine hK.out _ _ trivial (fun _ => ?_)
      clear hK K
      try simp only [lyA, lyB, lyC, lyD]
      refine rd1 7 (fun K hK => ?_)
      go_simp
      refine (HF1.out).mono ?_
      rintro e w2 ⟨rfl, rfl⟩
      refine hK.out _ _ trivial (fun _ => ?_)
      clear hK K
      try simp only [lyA, lyB, lyC, lyD]
      refine tk 8 rfl (fun _ _ _ h => HP _ _ _ _ _ h) trivial ?_
      refine rd1 9 (fun K hK => ?_)
      have hq := q1
      have hq2 := t1
      go_simp
      clear hq hq2
      refine hK.out _ _ trivial (fun _ => ?_)
      clear hK K
      try simp only [lyA, lyB, lyC, lyD]
      refine rd1 11 (fun K hK => ?_)
      have hq := b0
      have hq2 := b1
      have hq3 := z0
      have hq4 := z1
      go_simp
      clear hq hq2 hq3 hq4
      refine hK.out _ _ trivial (fun _ => ?_)
      clear hK K
      try simp only [lyA, lyB, lyC, lyD]
      refine wpAnyH_done (by kernel_rfl) ?_ _
      exact HEND.out _ _ _ _ _ _ _ _ _ _ _ _ HE
    · go_simp
      refine (HF1.out).mono ?_
      rintro e w2 ⟨rfl, rfl⟩
      refine hK.out _ _ trivial (fun _ => ?_)
      clear hK K
      try simp only [lyA, lyB, lyC, lyD]
      refine rd1 3 (fun K hK => ?_)
      have hq := e1
      go_simp
      clear hq
      refine hK.out _ _ trivial (fun _ => ?_)
      clear hK K
      try simp only [lyA, lyB, lyC, lyD]
      refine tk 8 rfl (fun _ _ _ h => HP _ _ _ _ _ h) trivial ?_
      refine rd1 9 (fun K hK => ?_)
      have hq := q1
      have hq2 := t1
      go_simp
      clear hq hq2
      refine hK.out _ _ trivial (fun _ => ?_)
      clear hK K
      try simp only [lyA, lyB, lyC, lyD]
      refine rd1 11 (fun K hK => ?_)
      have hq := b0
      have hq2 := b1
      have hq3 := z0
      have hq4 := z1
      go_simp
      clear hq hq2 hq3 hq4
      refine hK.out _ _ trivial (fun _ => ?_)
      clear hK K
      try simp only [lyA, lyB, lyC, lyD]
      refine wpAnyH_done (by kernel_rfl) ?_ _
      exact HEND.out _ _ _ _ _ _ _ _ _ _ _ _ HE
end Go.Proofs.YtlgeijbgkipliaaGreatDoor

namespace Go.Proofs.YtlgeijbgkipliaaGreatDoor
open Go.RowKit
section
variable {w W W' : World} {r : Nat} {M M1 M2 : DiskM} {x y x1 y1 : Value} {e : Int} {L : List By} {i : Nat} {b : By}
theorem segFiles_get {f k j : Nat} (h : (segFiles M f k)[j]? = some b) : AM.get M.files (1000 + ((k + j : Nat) : Int)) = some b := by
  induction f generalizing k j with
  | zero => simp [segFiles] at h
  | succ f ih =>
    cases hg : AM.get M.files (1000 + (k : Int)) with
    | none => rw [segFiles_none hg] at h; simp at h
    | some c =>
      rw [segFiles_some hg] at h
      cases j with
      | zero => simp at h; subst h; exact hg
      | succ j =>
        rw [List.getElem?_cons_succ] at h
        by_cases h64 : (fileE c).length = 64
        · rw [if_pos h64] at h
          have := ih h
          rwa [show k + 1 + j = k + (j + 1) by omega] at this
        · rw [if_neg h64] at h; simp at h
theorem dels_get {R : RefM} (h : Rel M R) (fr : Int) : ∀ (l : List Int), (∀ n ∈ l, fr ≤ n) → ∀ M1 R, Rel M1 R → ∀ M2, runAll (l.map .del) M1 = (0, M2) → ∀ n, n < fr → AM.get M2.files n = AM.get M1.files n := by
  intro l
  induction l with
  | nil => intro _ M1 R _ M2 h2 n _; cases h2; rfl
  | cons a l ih =>
    intro hl M1 R hr M2 h2 n hn
    obtain ⟨ya, Ma, hd⟩ : ∃ ya Ma, M1.delete a = (ya, Ma) := ⟨_, _, rfl⟩
    have hrun : (Chg.del a).run M1 = (ya, Ma) := hd
    rw [List.map_cons] at h2
    by_cases h0 : ya = 0
    · rw [runAll_cons_ok (by rw [hrun]; exact h0), hrun] at h2
      obtain ⟨R2, _, hr2⟩ := hr.delete hd
      rw [ih (fun n hn => hl n (by simp [hn])) Ma R2 hr2 M2 h2 n hn]
      obtain ⟨t1, t2⟩ := hr.mtick
      unfold DiskM.delete at hd
      by_cases hh : M1.has a = 0
      · rw [if_neg (by rw [hh]; simp), if_neg (by rw [t2]; simp), t1] at hd
        cases hd
        have := hl a (by simp)
        exact AM.get_del_other hr.ok.rise (by omega)
      · rw [if_pos hh] at hd
        cases hd
        exact absurd h0 hh
    · rw [runAll_cons_no (by rw [hrun]; exact h0), hrun] at h2
      cases h2
      exact absurd rfl h0
theorem rdrop_get {R : RefM} (h : Rel M R) {fr : Int} (he : runAll (dropC M fr) M = (0, M1)) {n : Int} (hn : n < fr) : AM.get M1.files n = AM.get M.files n :=
  dels_get h fr ((M.files.map (fun p : Int × By => p.1)).reverse.filter fun n => decide (fr ≤ n)) (fun n hn => by simpa using (List.mem_filter.1 hn).2) M R h M1 he n hn
theorem cut_get {R : RefM} (h : Rel M R) {n size : Int} (he : M.truncate n size = (0, M1)) {m : Int} (hm : m ≠ n) : AM.get M1.files m = AM.get M.files m := by
  obtain ⟨t1, t2⟩ := h.mtick
  unfold DiskM.truncate at he
  by_cases hh : M.has n = 0
  · rw [if_neg (by rw [hh]; simp)] at he
    split at he
    · cases he
    · rw [if_neg (by rw [t2]; simp), t1] at he
      cases he
      exact AM.get_set_other h.ok.rise _ hm
  · rw [if_pos hh] at he
    exact absurd (congrArg Prod.fst he) hh
def TornS (w : World) (r : Nat) (x y : Value) (M : DiskM) (L : List By) (i : Nat) (e : Int) (W : World) : Prop :=
  ∃ Mi, RefGo w r x y Mi W ∧ ((e = 0 ∧ runAll M.openC M = runAll (tornC i (L.drop i) ++ [.sync]) Mi ∧ ∀ (j : Nat) (b : By), i ≤ j → L[j]? = some b → AM.get Mi.files (1000 + (j : Int)) = some b) ∨ (e ≠ 0 ∧ runAll M.openC M = (e, Mi)))
theorem torn_start (h : RefAt w r M x y) (hL : segFiles M 64 0 = L) (he : runAll (dropC M (1000 + (L.length : Int))) M = (e, M1)) (hg : RefGo w r x y M1 W) : TornS w r x y M L 0 e W := by
  obtain ⟨R, _, hr⟩ := h
  refine ⟨M1, hg, ?_⟩
  have ho : runAll M.openC M = if e = 0 then runAll (tornC 0 L ++ [.sync]) M1 else (e, M1) := by
    unfold DiskM.openC
    rw [hL, List.append_assoc, runAll_append, he]
  by_cases h0 : e = 0
  · left
    rw [if_pos h0] at ho
    refine ⟨h0, by rw [List.drop_zero]; exact ho, fun j b _ hj => ?_⟩
    subst h0
    have hjl := (List.getElem?_eq_some_iff.1 hj).1
    rw [rdrop_get hr he (by omega)]
    rw [← hL] at hj
    have := segFiles_get hj
    rwa [Nat.zero_add] at this
  · rw [if_neg h0] at ho
    exact Or.inr ⟨h0, ho⟩
theorem torn_drop {c : By} (h : L[i]? = some c) : tornC i (L.drop i) = (if (framesF (fileE c)).length < c.length then [.cut (1000 + (i : Int)) ((framesF (fileE c)).length : Nat)] else []) ++ tornC (i + 1) (L.drop (i + 1)) := by
  obtain ⟨hi, e1⟩ := List.getElem?_eq_some_iff.1 h
  rw [List.drop_eq_getElem_cons hi, e1]
  rfl
theorem TornS.at (h : TornS w r x y M L i 0 W) (hb : L[i]? = some b) : ∃ x1 y1 Mi, RefAt W r Mi x1 y1 ∧ AM.get Mi.files (1000 + (i : Int)) = some b ∧ b.length ≤ 1048576 ∧
    Hid (∀ W1, Kept (fun _ => False) W W1 → if (framesF (fileE b)).length < b.length then Calls Tryz.prog 60 #[.pointer (some ⟨r, 0, none⟩), .int .i64 (1000 + (i : Int)), .int .i64 ((framesF (fileE b)).length : Int)] W1 (fun e' w' => ∃ y2, e' = .returned (.int .i64 y2) ∧ Hid (TornS w r x y M L (i + 1) y2 w')) else TornS w r x y M L (i + 1) 0 W1) := by
  obtain ⟨Mi, ⟨z1, z2, hat, hk2, hk3, hk4⟩, ⟨-, h2, h3⟩ | ⟨h2, -⟩⟩ := h
  · obtain ⟨R, hR, hrel⟩ := hat
    have hg := h3 i b (Nat.le_refl _) hb
    have hbl : b.length ≤ 1048576 := by
      have q1 := DiskM.len_le_total hrel.ok hg
      have q2 := hrel.ok.room
      have q3 := hrel.ok.cap1
      omega
    refine ⟨z1, z2, Mi, ⟨R, hR, hrel⟩, hg, hbl, Lib.hid (fun W1 hk => ?_)⟩
    rw [torn_drop hb] at h2
    have hat1 : RefAt W1 r Mi z1 z2 := (show RefAt W r Mi z1 z2 from ⟨R, hR, hrel⟩).keep hk (fun _ _ => id)
    have hk21 := hk2.trans (hk.mono (S' := (· = r)) (fun _ _ => False.elim))
    have hfl := fileE_le b
    by_cases hlt : (framesF (fileE b)).length < b.length
    · rw [if_pos hlt] at h2 ⊢
      obtain ⟨y2, M2, ht⟩ : ∃ y2 M2, Mi.truncate (1000 + (i : Int)) ((framesF (fileE b)).length : Nat) = (y2, M2) := ⟨_, _, rfl⟩
      have hrun : (Chg.cut (1000 + (i : Int)) ((framesF (fileE b)).length : Nat)).run Mi = (y2, M2) := ht
      refine (truncate_at hat1 _ _ (by omega) ht).mono ?_
      rintro e' w' ⟨rfl, hg2⟩
      have hgo := RefGo.thru hk21 hk3 hk4 hg2
      refine ⟨y2, rfl, Lib.hid ⟨M2, hgo, ?_⟩⟩
      rw [List.singleton_append, List.cons_append] at h2
      by_cases h0 : y2 = 0
      · left
        rw [runAll_cons_ok (by rw [hrun]; exact h0), hrun] at h2
        subst h0
        exact ⟨rfl, h2, fun j c hj hc => by rw [cut_get hrel ht (by omega)]; exact h3 j c (by omega) hc⟩
      · right
        rw [runAll_cons_no (by rw [hrun]; exact h0), hrun] at h2
        exact ⟨h0, h2⟩
    · rw [if_neg hlt] at h2 ⊢
      rw [List.nil_append] at h2
      exact ⟨Mi, ⟨z1, z2, hat1, hk21, hk3, hk4⟩, Or.inl ⟨rfl, h2, fun j c hj hc => h3 j c (by omega) hc⟩⟩
  · exact absurd rfl h2
theorem TornS.last (h : TornS w r x y M L i 0 W) (hi : L.length ≤ i) {M' : DiskM} (he : runAll M.openC M = (e, M')) :
    Calls Tryz.prog 61 #[.pointer (some ⟨r, 0, none⟩)] W (fun e' w' => e' = .returned (.int .i64 e) ∧ Hid (RefGo w r x y M' w')) := by
  obtain ⟨Mi, ⟨z1, z2, hat, hk2, hk3, hk4⟩, ⟨-, h2, h3⟩ | ⟨h2, -⟩⟩ := h
  · rw [List.drop_eq_nil_of_le hi] at h2
    have e1 : runAll (tornC i [] ++ [.sync]) Mi = Mi.sync := by
      show (if (Mi.sync).1 = 0 then (0, (Mi.sync).2) else Mi.sync) = Mi.sync
      by_cases q : Mi.sync.1 = 0
      · rw [if_pos q, ← q]
      · rw [if_neg q]
    rw [e1, he] at h2
    refine (sync_at hat h2.symm).mono ?_
    rintro e' w' ⟨rfl, hg⟩
    exact ⟨rfl, Lib.hid (RefGo.thru hk2 hk3 hk4 hg)⟩
  · exact absurd rfl h2
theorem TornS.no (h : TornS w r x y M L i e W) (h0 : e ≠ 0) {M' : DiskM} {e1 : Int} (he : runAll M.openC M = (e1, M')) : e1 = e ∧ RefGo w r x y M' W := by
  obtain ⟨Mi, hg, ⟨h2, -⟩ | ⟨-, h2⟩⟩ := h
  · exact absurd h2 h0
  · rw [he] at h2
    cases h2
    exact ⟨rfl, hg⟩
end
set_option maxRecDepth 100000 in
set_option maxHeartbeats 8000000 in
theorem open_rest {w : World} {r sb : Nat} {M M' : DiskM} {x y : Value} {e : Int} {L : List By} {Q : Exit → Act → World → Prop} {g1 g2 g3 g6 g7 g8 g9 g10 g11 g12 g13 g14 g15 g16 g17 g18 g19 g20 g21 g22 g23 g24 g25 g26 g27 g28 g29 g30 g31 g32 g33 g34 g35 g36 g37 g38 g39 g40 g41 g42 g43 g44 g45 g46 g47 g48 g49 g50 g51 g52 g53 g54 g55 g56 g57 g58 g59 g60 g61 g62 g63 g64 g65 g66 g67 g68 g69 g70 g71 g72 g73 g74 g75 g76 g77 g78 g79 g80 g81 g82 g83 g84 g85 g86 g87 g88 g89 g90 g91 g92 g93 g94 g95 g96 g97 g98 g99 : Value} {c1 c2 : Code} {K : Act → World → Prop} (hK : ∀ a w, Code.wp Tryz.prog c2 Q a w → K a w) (hcode : codeSeq 12 (Tryz.f16.body.getD .skip) = some (.seq c1 c2)) (h : RefAt w r M x y) (hL : segFiles M 64 0 = L) (he : runAll M.openC M = (e, M'))
    (HP : ∀ c a (k : Nat) v w, Q (.panic c) (Act.put a (some k) v) w → Q (.panic c) a w) (HNO : ∀ (v8 v9 v10 v11 v54 v55 v56 v57 v58 v59 v60 v61 v62 v63 v64 v65 v66 v67 v68 v69 v70 v71 v72 v73 v74 v75 v76 v77 v78 v79 v80 v81 v82 v83 v84 v85 v86 v87 v88 v89 v90 v91 v92 v93 v94 v95 v96 v97 v98 v99 : Value) (w' : World), Hid (e ≠ 0 ∧ RefGo w r x y M' w') → Q .ret ⟨List.toArray ((.pointer (some ⟨r, 0, none⟩)) :: g1 :: (.pointer none) :: (.int .i64 e) :: (.pointer (some ⟨sb, 0, none⟩)) :: (.int .i64 (L.length : Int)) :: g6 :: g7 :: v8 :: v9 :: v10 :: v11 :: g12 :: g13 :: g14 :: g15 :: g16 :: g17 :: g18 :: g19 :: g20 :: g21 :: g22 :: g23 :: g24 :: g25 :: g26 :: g27 :: g28 :: g29 :: g30 :: g31 :: g32 :: g33 :: g34 :: g35 :: g36 :: g37 :: g38 :: g39 :: g40 :: g41 :: g42 :: g43 :: g44 :: g45 :: g46 :: g47 :: g48 :: g49 :: g50 :: g51 :: g52 :: g53 :: v54 :: v55 :: v56 :: v57 :: v58 :: v59 :: v60 :: v61 :: v62 :: v63 :: v64 :: v65 :: v66 :: v67 :: v68 :: v69 :: v70 :: v71 :: v72 :: v73 :: v74 :: v75 :: v76 :: v77 :: v78 :: v79 :: v80 :: v81 :: v82 :: v83 :: v84 :: v85 :: v86 :: v87 :: v88 :: v89 :: v90 :: v91 :: v92 :: v93 :: v94 :: v95 :: v96 :: v97 :: v98 :: v99 :: []), []⟩ w') (HYES : ∀ (v8 v9 v10 v11 v54 v55 v56 v57 v58 v59 v60 v61 v62 v63 v64 v65 v66 v67 v68 v69 v70 v71 v72 v73 v74 v75 v76 v77 v78 v79 v80 v81 v82 v83 v84 v85 v86 v87 v88 v89 v90 v91 v92 v93 v94 v95 v96 v97 v98 v99 : Value) (w' : World), Hid (e = 0 ∧ RefGo w r x y M' w') → Q .ret ⟨List.toArray ((.pointer (some ⟨r, 0, none⟩)) :: g1 :: (.pointer (some ⟨sb, 0, none⟩)) :: (.int .i64 0) :: (.pointer (some ⟨sb, 0, none⟩)) :: (.int .i64 (L.length : Int)) :: g6 :: g7 :: v8 :: v9 :: v10 :: v11 :: g12 :: g13 :: g14 :: g15 :: g16 :: g17 :: g18 :: g19 :: g20 :: g21 :: g22 :: g23 :: g24 :: g25 :: g26 :: g27 :: g28 :: g29 :: g30 :: g31 :: g32 :: g33 :: g34 :: g35 :: g36 :: g37 :: g38 :: g39 :: g40 :: g41 :: g42 :: g43 :: g44 :: g45 :: g46 :: g47 :: g48 :: g49 :: g50 :: g51 :: g52 :: g53 :: v54 :: v55 :: v56 :: v57 :: v58 :: v59 :: v60 :: v61 :: v62 :: v63 :: v64 :: v65 :: v66 :: v67 :: v68 :: v69 :: v70 :: v71 :: v72 :: v73 :: v74 :: v75 :: v76 :: v77 :: v78 :: v79 :: v80 :: v81 :: v82 :: v83 :: v84 :: v85 :: v86 :: v87 :: v88 :: v89 :: v90 :: v91 :: v92 :: v93 :: v94 :: v95 :: v96 :: v97 :: v98 :: v99 :: []), []⟩ w') :
    Code.wp Tryz.prog c1 (Exit.then K Q) ⟨List.toArray ((.pointer (some ⟨r, 0, none⟩)) :: g1 :: g2 :: g3 :: (.pointer (some ⟨sb, 0, none⟩)) :: (.int .i64 (L.length : Int)) :: g6 :: g7 :: g8 :: g9 :: g10 :: g11 :: g12 :: g13 :: g14 :: g15 :: g16 :: g17 :: g18 :: g19 :: g20 :: g21 :: g22 :: g23 :: g24 :: g25 :: g26 :: g27 :: g28 :: g29 :: g30 :: g31 :: g32 :: g33 :: g34 :: g35 :: g36 :: g37 :: g38 :: g39 :: g40 :: g41 :: g42 :: g43 :: g44 :: g45 :: g46 :: g47 :: g48 :: g49 :: g50 :: g51 :: g52 :: g53 :: g54 :: g55 :: g56 :: g57 :: g58 :: g59 :: g60 :: g61 :: g62 :: g63 :: g64 :: g65 :: g66 :: g67 :: g68 :: g69 :: g70 :: g71 :: g72 :: g73 :: g74 :: g75 :: g76 :: g77 :: g78 :: g79 :: g80 :: g81 :: g82 :: g83 :: g84 :: g85 :: g86 :: g87 :: g88 :: g89 :: g90 :: g91 :: g92 :: g93 :: g94 :: g95 :: g96 :: g97 :: g98 :: g99 :: []), []⟩ w := by
  have HP := Lib.hid HP
  have HNO := Lib.hid HNO
  have HYES := Lib.hid HYES
  simp only [Tryz.f16, Option.getD_some, codeSeq, codeBlock, codeCond, Nat.reduceEqDiff, ↓reduceIte, Option.none_or, Option.or_none, Option.some_or, Option.some.injEq, Code.seq.injEq] at hcode
  obtain ⟨rfl, rfl⟩ := hcode
  have hL64 : L.length ≤ 64 := by rw [← hL]; exact segFiles_len M 64 0
  obtain ⟨e0, M0, hdr⟩ : ∃ e0 M0, runAll (dropC M (1000 + (L.length : Int))) M = (e0, M0) := ⟨_, _, rfl⟩
  have HD := Lib.hid (rdrop_any h (1000 + (L.length : Int)) hdr)
  have HT := Lib.hid (fun W (hg : RefGo w r x y M0 W) => torn_start h hL hdr hg)
  have HE := Lib.hid he
  clear h hL he hdr
  go_upto_region 13 with (go_at_call 58; refine HD.out.mono ?_; rintro e' w1 ⟨rfl, hg⟩; have HS0 := Lib.hid (HT.out w1 hg); clear hg)
  clear HD HT
  go_wp2_with fail
  go_loopw [8, 9] (fun z8 z9 wr => ∃ (i : Nat) (e1 : Int), i ≤ L.length ∧ z8 = .int .i64 e1 ∧ z9 = .int .i64 (i : Int) ∧ Hid (TornS w r x y M L i e1 wr)) (fun _ z9 _ => L.length - (intOf z9).toNat)
  case atStart => exact ⟨0, e0, Nat.zero_le _, rfl, rfl, HS0⟩
  case round =>
    obtain ⟨i, e1, hi, rfl, rfl, HS⟩ := hrel
    by_cases h0 : e1 = 0
    · subst h0
      by_cases hlt : i < L.length
      · obtain ⟨y1, y2⟩ := dec_gtr hlt
        obtain ⟨b, hb⟩ : ∃ b, L[i]? = some b := ⟨_, List.getElem?_eq_getElem hlt⟩
        obtain ⟨x1, y1', Mi, hat, hget, hbl, HDO⟩ := HS.out.at hb
        have HA := Lib.hid (And.intro hat (And.intro hget (And.intro hlt hbl)))
        clear hat hget hi hb HS hbl
        go_upto_region 16 with fail
        refine open_reg16 (by kernel_rfl) HA.out.1 (by have := HA.out.2.2.1; omega) HA.out.2.1 (fun _ _ _ _ _ h => HP.out _ _ _ _ _ h) ?_
        intro p10
        intros
        rename_i w3 H3
        obtain ⟨bs, hbs⟩ : ∃ bs, strB b = bs := ⟨_, rfl⟩
        have hbz : bs.size = b.length := by rw [← hbs]; exact strB_size b
        obtain ⟨tb, htb⟩ : ∃ tb, strB (framesF (fileE b)) = tb := ⟨_, rfl⟩
        have htz : tb.size = (framesF (fileE b)).length := by rw [← htb]; exact strB_size _
        have hen := rentries_any w3 b (by have := HA.out.2.2.2; omega)
        have htx := fun W sa c (hn : NewTexts w3 (.slice sa (fileE b).length c) (fileE b) W) => rtext_any W sa c (fileE b) hn.1.view (fun p hp => by have := fileE_short b p hp; omega) (by have := fileE_le b; have := HA.out.2.2.2; omega) (by have := fileE_len b; omega)
        rw [hbs] at hen
        rw [htb] at htx
        have HEN := Lib.hid hen
        have HTX := Lib.hid htx
        have HZ := Lib.hid (And.intro hbz htz)
        have HB := Lib.hid (show Blk w3 p10 [.int .i64 (1000 + (i : Int)), .string bs] 107 by rw [← hbs]; exact H3.out.2.1)
        have c1 := HB.out.cell (i := 1) rfl
        clear hen htx hbz htz hbs htb
        go_upto_region 18 with (first
          | (go_at_call 57; refine HEN.out.mono ?_; rintro e' w4 ⟨sa, c, rfl, hn⟩; have htx := HTX.out w4 sa c hn; have HK4 := Lib.hid hn.2.2; clear hn)
          | (go_at_call 59; refine htx.mono ?_; clear htx; rintro e' w5 ⟨rfl, hk5⟩; have HK5 := Lib.hid (HK4.out.trans hk5); clear hk5))
        clear HEN HTX c1
        have hb5 := HB.out.kept HK5.out id
        have c0 := hb5.cell (i := 0) rfl
        have c1 := hb5.cell (i := 1) rfl
        have hdo := HDO.out w5 (H3.out.1.trans HK5.out)
        have HLT := Lib.hid hlt
        have hib : i ≤ 64 := by omega
        by_cases hsh : (framesF (fileE b)).length < b.length
        · rw [if_pos hsh] at hdo
          obtain ⟨z1, z2⟩ := dec_gtr (a := tb.size) (b := bs.size) (by have := HZ.out; omega)
          rw [← HZ.out.2] at hdo
          have HDD := Lib.hid hdo
          clear hdo hsh hlt hb5 HDO
          go_wp2_with (go_at_call 60; refine HDD.out.mono ?_; rintro e' w6 ⟨y2, rfl, hg⟩; have HG := Lib.hid hg.out; clear hg)
          go_roundw
          case rel => exact ⟨i + 1, y2, HLT.out, rfl, by go_num, HG⟩
          case measure => have := HLT.out; simp [intOf]; omega
        · rw [if_neg hsh] at hdo
          obtain ⟨z1, z2⟩ := dec_ler (a := tb.size) (b := bs.size) (by have := HZ.out; omega)
          have HDD := Lib.hid hdo
          clear hdo hsh hlt hb5 HDO
          go_wp2_with fail
          go_roundw
          case rel => exact ⟨i + 1, 0, HLT.out, rfl, by go_num, HDD⟩
          case measure => have := HLT.out; simp [intOf]; omega
      · obtain rfl : i = L.length := by omega
        obtain ⟨y1, y2⟩ := dec_ler hlt
        have hsy := HS.out.last (Nat.le_refl _) HE.out
        have HSY := Lib.hid hsy
        clear hlt hi HS hsy
        go_upto_region 22 with (go_at_call 61; refine HSY.out.mono ?_; rintro e' w3 ⟨rfl, hg⟩; have HG := Lib.hid hg.out; clear hg)
        by_cases hz : e = 0
        · subst hz
          clear HSY
          go_wp2_with fail
          all_goals first | exact Lib.hid ⟨rfl, HG.out⟩ | exact HYES.out _ _ _ _ _ _ _ _ _ _ _ _ _ _ _ _ _ _ _ _ _ _ _ _ _ _ _ _ _ _ _ _ _ _ _ _ _ _ _ _ _ _ _ _ _ _ _ _ _ _ _ (Lib.hid ⟨rfl, HG.out⟩)
        · have z1 : (e != 0) = true := by simpa using hz
          have HZ := Lib.hid hz
          clear HSY hz
          go_wp2_with fail
          all_goals first | exact Lib.hid ⟨HZ.out, HG.out⟩ | exact HNO.out _ _ _ _ _ _ _ _ _ _ _ _ _ _ _ _ _ _ _ _ _ _ _ _ _ _ _ _ _ _ _ _ _ _ _ _ _ _ _ _ _ _ _ _ _ _ _ _ _ _ _ (Lib.hid ⟨HZ.out, HG.out⟩)
    · have z0 : (e1 == 0) = false := by simpa using h0
      have z1 : (e1 != 0) = true := by simpa using h0
      obtain ⟨rfl, hg⟩ := HS.out.no h0 HE.out
      have HG := Lib.hid (And.intro h0 hg)
      clear h0 hg HS
      by_cases hlt : i < L.length
      · obtain ⟨y1, y2⟩ := dec_gtr hlt
        clear hlt hi
        go_wp2_with fail
        all_goals first | exact Lib.hid HG.out | exact HNO.out _ _ _ _ _ _ _ _ _ _ _ _ _ _ _ _ _ _ _ _ _ _ _ _ _ _ _ _ _ _ _ _ _ _ _ _ _ _ _ _ _ _ _ _ _ _ _ _ _ _ _ (Lib.hid HG.out)
      · obtain ⟨y1, y2⟩ := dec_ler hlt
        clear hlt hi
        go_wp2_with fail
        all_goals first | exact Lib.hid HG.out | exact HNO.out _ _ _ _ _ _ _ _ _ _ _ _ _ _ _ _ _ _ _ _ _ _ _ _ _ _ _ _ _ _ _ _ _ _ _ _ _ _ _ _ _ _ _ _ _ _ _ _ _ _ _ (Lib.hid HG.out)
end Go.Proofs.YtlgeijbgkipliaaGreatDoor

namespace Go.Proofs.YtlgeijbgkipliaaGreatDoor
open Go.RowKit
def IsRS (w : World) (sb r : Nat) (G : SegM) (v : Value) : Prop := Blk w sb [.pointer (some ⟨r, 0, none⟩), v, .int .i64 G.starts, .bool G.dead] 118 ∧ Row w 9 1 v (strV G.entries)
def rsOwn (sb : Nat) (v : Value) (k : Nat) : Prop := k = sb ∨ v.ownBlock = some k
section
variable {w w' W : World} {sb r : Nat} {G : SegM} {v : Value} {x y : Value} {M M' : DiskM} {e : Int} {L : List By} {b : By} {st : Int}
theorem IsRS.kept {S : Nat → Prop} (h : IsRS w sb r G v) (hk : Kept S w w') (hS : ∀ k, rsOwn sb v k → ¬ S k) : IsRS w' sb r G v := ⟨h.1.kept hk (hS sb (Or.inl rfl)), h.2.kept hk (fun k q => hS k (Or.inr q))⟩
theorem IsRS.lt (h : IsRS w sb r G v) {k : Nat} (hk : rsOwn sb v k) : k < w.heap.size := by
  rcases hk with rfl | q
  · exact h.1.lt
  · exact h.2.lt q
theorem texts_append {A B : List By} {u : Value} (hl : A.length + B.length ≤ 100000000) (hrow : Row w 9 1 v (strV A)) (hview : View w 1 u (strV B)) :
    ∃ sa n cap w3, (Builtin.append_ #[23, 23] 23 #[v, u]).run Tryz.prog w = .ok (.slice sa n cap) w3 ∧
      Row w3 9 1 (.slice sa n cap) (strV (A ++ B)) ∧ Kept (fun x => v.ownBlock = some x) w w3 ∧ ∀ k, (Value.slice sa n cap).ownBlock = some k → v.ownBlock = some k ∨ w.heap.size ≤ k := by
  obtain ⟨i0, hi, hz0, hz1, hz2⟩ := info_parts info_str
  have hkl := strV_len A
  have hkm := strV_len B
  obtain ⟨v', w3, hrun, hrow3, hk3, hf3⟩ := Row.append_view (P := Tryz.prog) (t := 23) hrow hview Tryz.underlying23 hi hz0 hz1 rfl (by decide) (by rw [hz2]; decide) (one_str B) (by omega) 23
  obtain ⟨sa, n, cap, rfl, _⟩ := hrow3.form (by omega)
  exact ⟨sa, n, cap, w3, hrun, by rw [strV_append]; exact hrow3, hk3, hf3⟩
def ReadS (w : World) (sb r : Nat) (M : DiskM) (L : List By) (v : Value) (W : World) : Prop :=
  IsRS W sb r ⟨segE L, M.starts, false⟩ v ∧ w.heap.size ≤ sb ∧ (∀ k, v.ownBlock = some k → w.heap.size ≤ k) ∧ Kept (fun _ => False) w W
theorem ReadS.more (h : ReadS w sb r M L v W) (hL : L.length ≤ 64) {W2 : World} {sa : Option Addr} {c : Nat} (hn : NewTexts W (.slice sa (fileE b).length c) (fileE b) W2) :
    ∃ sd m c2 w3, W2.cell? ⟨sb, 1, none⟩ = some v ∧ (Builtin.append_ #[23, 23] 23 #[v, .slice sa (fileE b).length c]).run Tryz.prog W2 = .ok (.slice sd m c2) w3 ∧ w3.cell? ⟨sb, 1, none⟩ = some v ∧ w3.frozen? ⟨sb, 1, none⟩ = false ∧
      Hid (∀ W3, w3.setCell ⟨sb, 1, none⟩ (.slice sd m c2) = W3 → ReadS w sb r M (L ++ [b]) (.slice sd m c2) W3) := by
  obtain ⟨h1, h2, h3, h4⟩ := h
  have hs := segE_len L
  have hf := fileE_len b
  have h1' := h1.kept hn.2.2 (fun _ _ => id)
  obtain ⟨sd, m, c2, w3, hr, g1, g2, g3⟩ := texts_append (A := segE L) (B := fileE b) (by omega) h1'.2 hn.1.view
  have hne : ∀ k, v.ownBlock = some k → k ≠ sb := fun k q => h1'.2.ne_blk q h1'.1 (by decide)
  have hb3 := h1'.1.kept g2 (fun q => hne sb q rfl)
  have hK2 := h4.trans hn.2.2
  have hK3 : Kept (fun _ => False) w w3 := hK2.then_ g2 (fun k hk q => by have := h3 k q; omega)
  have ho : ∀ k, (Value.slice sd m c2).ownBlock = some k → w.heap.size ≤ k := fun k q => (g3 k q).elim (h3 k) (fun q => by have := hK2.size; omega)
  refine ⟨sd, m, c2, w3, h1'.1.cell rfl, hr, hb3.cell rfl, hb3.free 1, Lib.hid (fun W3 hW => ?_)⟩
  have hkc := kept_cell w3 sb 1 (.slice sd m c2)
  have hb4 := hb3.set 1 (.slice sd m c2)
  rw [hW] at hkc hb4
  have hne2 : ∀ k, (Value.slice sd m c2).ownBlock = some k → k ≠ sb := fun k q => g1.ne_blk q hb3 (by decide)
  refine ⟨⟨hb4, ?_⟩, h2, ho, hK3.then_ hkc (fun k hk q => by have : k = sb := q; omega)⟩
  have hrow := g1.kept hkc (fun k q e => hne2 k q e)
  show Row W3 9 1 _ (strV (segE (L ++ [b])))
  rw [segE_snoc]
  exact hrow
def ROpenTo (w : World) (r : Nat) (x y : Value) (st : Int) (z : Int × List By × DiskM) (e : Ending) (w' : World) : Prop :=
  (z.1 ≠ 0 ∧ e = .returned (.tuple #[.pointer none, .int .i64 z.1]) ∧ RefGo w r x y z.2.2 w') ∨
  (z.1 = 0 ∧ ∃ sb v, e = .returned (.tuple #[.pointer (some ⟨sb, 0, none⟩), .int .i64 0]) ∧ IsRS w' sb r ⟨z.2.1, st, false⟩ v ∧ w.heap.size ≤ sb ∧ (∀ k, v.ownBlock = some k → w.heap.size ≤ k) ∧ ∃ x' y', RefAt w' r z.2.2 x' y' ∧ Kept (· = r) w w' ∧ (∀ k, x'.ownBlock = some k → x.ownBlock = some k ∨ w.heap.size ≤ k) ∧ (∀ k, y'.ownBlock = some k → y.ownBlock = some k ∨ w.heap.size ≤ k) ∧ ∀ k, refOwn r x' y' k → ¬ rsOwn sb v k)
theorem ropen_no (hd : M.down = false) (he : runAll M.openC M = (e, M')) (hk : Kept (fun _ => False) w W) (h0 : e ≠ 0) (hg : RefGo W r x y M' w') : ROpenTo w r x y M.starts M.openS (.returned (.tuple #[.pointer none, .int .i64 e])) w' := by
  have e1 : M.openS = (e, [], M') := by unfold DiskM.openS; rw [if_neg (by rw [hd]; simp), he, if_neg h0]
  rw [e1]
  exact Or.inl ⟨h0, rfl, RefGo.thru (hk.mono (S' := (· = r)) (fun _ _ => False.elim)) (fun _ => Or.inl) (fun _ => Or.inl) hg⟩
theorem ropen_yes (hd : M.down = false) (he : runAll M.openC M = (e, M')) (hL : segFiles M 64 0 = L) (hr : ∀ k, refOwn r x y k → k < w.heap.size) (h : ReadS w sb r M L v W) (h0 : e = 0) (hg : RefGo W r x y M' w') : ROpenTo w r x y M.starts M.openS (.returned (.tuple #[.pointer (some ⟨sb, 0, none⟩), .int .i64 0])) w' := by
  have e1 : M.openS = (0, segE L, M') := by unfold DiskM.openS; rw [if_neg (by rw [hd]; simp), he, hL, if_pos h0, h0]
  rw [e1]
  obtain ⟨h1, h2, h3, h4⟩ := h
  obtain ⟨x', y', g1, hK, g3, g4⟩ := hg
  have hr0 := hr r (Or.inl rfl)
  have hs4 := h4.size
  refine Or.inr ⟨rfl, sb, v, rfl, h1.kept hK (fun k q e => ?_), h2, h3, x', y', g1, (h4.mono (S' := (· = r)) (fun _ _ => False.elim)).trans hK, fun k q => (g3 k q).imp id (fun q => by omega), fun k q => (g4 k q).imp id (fun q => by omega), fun k q q2 => ?_⟩
  · have e : k = r := e
    rcases q with rfl | q
    · omega
    · have := h3 k q; omega
  · have hlt := h1.lt q2
    have hge : w.heap.size ≤ k := by
      rcases q2 with rfl | q2
      · exact h2
      · exact h3 k q2
    rcases q with q | q | q
    · omega
    · rcases g3 k q with q | q
      · have := hr k (Or.inr (Or.inl q)); omega
      · omega
    · rcases g4 k q with q | q
      · have := hr k (Or.inr (Or.inr q)); omega
      · omega
set_option maxRecDepth 100000 in
set_option maxHeartbeats 4000000 in
theorem ropen_up (h : RefAt w r M x y) (hd : M.down = false) :
    Calls Tryz.prog 16 #[.pointer (some ⟨r, 0, none⟩)] w (ROpenTo w r x y M.starts M.openS) := by
  obtain ⟨a, c, rfl, -, c3, c4, -⟩ := h.cells
  rw [hd] at c3
  have hrw := fun k (q : refOwn r (.slice a M.files.length c) y k) => h.lt q
  obtain ⟨e, M', he⟩ : ∃ e M', runAll M.openC M = (e, M') := ⟨_, _, rfl⟩
  have HNO := Lib.hid (fun W w' (hk : Kept (fun _ => False) w W) h0 hg => ropen_no (r := r) (x := .slice a M.files.length c) (y := y) (w' := w') hd he hk h0 hg)
  have HYS := Lib.hid (fun L sb v W w' (hL : segFiles M 64 0 = L) hR h0 hg => ropen_yes (r := r) (x := .slice a M.files.length c) (y := y) (w' := w') (sb := sb) (v := v) (W := W) hd he hL hrw hR h0 hg)
  have HE := Lib.hid he
  have HAT := Lib.hid (And.intro h (And.intro hd hrw))
  have HS0 := Lib.hid (show ReadS w w.heap.size r M [] (.slice none 0 0) (w.alloc (.cells #[.pointer (some ⟨r, 0, none⟩), .slice none 0 0, .int .i64 M.starts, .bool false] 118)) from ⟨⟨Blk.new _ [.pointer (some ⟨r, 0, none⟩), .slice none 0 0, .int .i64 M.starts, .bool false] _, Row.nil _ _ _⟩, Nat.le_refl _, fun k q => by simp [Value.ownBlock] at q, (Kept.refl _ _).alloc _⟩)
  clear h hd he hrw
  go_enter Tryz.func16, Tryz.ntmps16
  go_upto_region 4 with fail
  generalize hW0 : World.alloc _ _ = W0
  have HS1 : Hid (ReadS w w.heap.size r M [] (.slice none 0 0) W0) := by rw [← hW0]; exact HS0
  clear HS0 hW0
  obtain ⟨sb, hsb⟩ : ∃ sb, w.heap.size = sb := ⟨_, rfl⟩
  rw [hsb] at HS1 ⊢
  clear hsb
  go_wp2_with fail
  go_loopw [5] (fun z wr => ∃ (L : List By) (v : Value), z = .int .i64 (L.length : Int) ∧ Hid (OpenP M L true ∧ ReadS w sb r M L v wr)) (fun z _ => 64 - (intOf z).toNat)
  case atStart => exact ⟨[], _, rfl, Lib.hid ⟨OpenP.start M, HS1.out⟩⟩
  case round =>
    obtain ⟨L, v, rfl, HR⟩ := hrel
    have hL64 := HR.out.1.few
    have HRK := Lib.hid HR.out.2.2.2.2
    have HRS := Lib.hid HR.out.2
    by_cases hk : L.length < 64
    · have y1 : decide ((L.length : Int) < 64) = true := decide_eq_true (by omega)
      have y2 : decide (L.length < 64) = true := decide_eq_true hk
      have hat := HAT.out.1.keep HRK.out (fun _ _ => id)
      have hris := (let ⟨R, _, h2⟩ := hat; h2.ok.rise : AM.Rise M.files)
      have hfull := HR.out.1.full rfl
      have HF := Lib.hid (find_at hat (1000 + (L.length : Int)))
      rcases find_get hris (1000 + (L.length : Int)) with ⟨g1, g2⟩ | ⟨i, b, g1, g2, g3⟩
      · rw [g2] at HF
        have HLL := Lib.hid (HR.out.1.done (Or.inr (Or.inr ⟨rfl, by omega, g1⟩)))
        clear hat hris hfull g1 g2 hk
        go_upto_region 12 with (go_at_call 56; refine HF.out.mono ?_; rintro e' w1 ⟨rfl, rfl⟩)
        refine open_rest (by assumption) (by kernel_rfl) (HAT.out.1.keep HRK.out (fun _ _ => id)) HLL.out HE.out (fun _ _ _ _ _ h => h) ?_ ?_
        · intros
          rename_i w9 H9
          refine bodyPost_ret (v := .tuple #[.pointer none, .int .i64 e]) (by simp [results, Tryz.results16, go_sem]) rfl ?_
          exact HNO.out _ _ HRK.out H9.out.1 H9.out.2
        · intros
          rename_i w9 H9
          refine bodyPost_ret (v := .tuple #[.pointer (some ⟨sb, 0, none⟩), .int .i64 0]) (by simp [results, Tryz.results16, go_sem]) rfl ?_
          exact HYS.out _ _ _ _ _ HLL.out HRS.out H9.out.1 H9.out.2
      · rw [g2] at HF
        obtain ⟨a2, c2, hq, d1, -, -, -, -, hcells⟩ := hat.cells
        simp only [Value.slice.injEq] at hq
        obtain ⟨rfl, -, rfl⟩ := hq
        obtain ⟨g, rfl, q0, q1⟩ := hcells i _ g3
        have hil : ((i : Int) < (M.files.length : Int)) = True := eq_true (by have := (List.getElem?_eq_some_iff.1 g3).1; omega)
        have hbl : b.length ≤ 1048576 := by
          obtain ⟨R, _, h2⟩ := hat
          have z1 := DiskM.len_le_total h2.ok g1
          have z2 := h2.ok.room
          have z3 := h2.ok.cap1
          omega
        have hen := rentries_any wr b (by omega)
        obtain ⟨bs, hbs⟩ : ∃ bs, strB b = bs := ⟨_, rfl⟩
        dsimp only at q1
        rw [hbs] at q1 hen
        have HEN := Lib.hid hen
        have hstep := HR.out.1.step (by omega) g1
        have HP2 := Lib.hid (And.intro hstep (And.intro (fileE_len b) hk))
        have HMO := Lib.hid (fun W2 sa c (hn : NewTexts wr (.slice sa (fileE b).length c) (fileE b) W2) => HRS.out.more (by omega) hn)
        clear hat hris hfull g1 g2 g3 hcells hbl hen hbs hstep q0 HRK HRS
        go_upto_region 9 with (first
          | (go_at_call 56; refine HF.out.mono ?_; rintro e' w1 ⟨rfl, rfl⟩)
          | (go_at_call 57; refine HEN.out.mono ?_; rintro e' w4 ⟨sa, c5, rfl, hn⟩; obtain ⟨sd, m, c6, w5, n1, hap, n2, n3, HM⟩ := HMO.out w4 sa c5 hn; clear hn))
        clear HF HEN HMO d1 q1
        go_upto_region 10 with (at_builtin; refine Lib.wpList_append_run _ rfl _ _ 23 23 rfl _ _ rfl rfl _ _ hap ?_)
        generalize hW6 : World.setCell _ _ _ = W6
        have HRS := Lib.hid (HM.out W6 hW6)
        have HRK := Lib.hid HRS.out.2.2.2
        clear hW6 HM n1 n2 n3 hap
        have hlb : L.length ≤ 64 := by omega
        by_cases h64 : (fileE b).length < 64
        · have z1 : decide (((fileE b).length : Int) < 64) = true := decide_eq_true (by omega)
          have z2 : decide ((fileE b).length < 64) = true := decide_eq_true h64
          have HLL := Lib.hid ((show OpenP M (L ++ [b]) false by have := HP2.out.1; rwa [decide_eq_false (by omega)] at this).done (Or.inl rfl))
          clear hk h64
          go_upto_region 12 with fail
          have e5 : (L.length : Int) + 1 = ((L ++ [b]).length : Int) := by rw [List.length_append, List.length_singleton]; omega
          rw [e5]
          refine open_rest (by assumption) (by kernel_rfl) (HAT.out.1.keep HRK.out (fun _ _ => id)) HLL.out HE.out (fun _ _ _ _ _ h => h) ?_ ?_
          · intros
            rename_i w9 H9
            refine bodyPost_ret (v := .tuple #[.pointer none, .int .i64 e]) (by simp [results, Tryz.results16, go_sem]) rfl ?_
            exact HNO.out _ _ HRK.out H9.out.1 H9.out.2
          · intros
            rename_i w9 H9
            refine bodyPost_ret (v := .tuple #[.pointer (some ⟨sb, 0, none⟩), .int .i64 0]) (by simp [results, Tryz.results16, go_sem]) rfl ?_
            exact HYS.out _ _ _ _ _ HLL.out HRS.out H9.out.1 H9.out.2
        · have z1 : decide (((fileE b).length : Int) < 64) = false := decide_eq_false (by omega)
          have z2 : decide ((fileE b).length < 64) = false := decide_eq_false h64
          have HPP := Lib.hid (show OpenP M (L ++ [b]) true by have := HP2.out.1; rwa [decide_eq_true (by have := HP2.out.2.1; omega)] at this)
          have HK := Lib.hid hk
          clear hk h64
          go_wp2_with fail
          go_roundw
          case rel => exact ⟨L ++ [b], _, by rw [List.length_append, List.length_singleton]; go_num, Lib.hid ⟨HPP.out, HRS.out⟩⟩
          case measure => have := HK.out; simp [intOf]; omega
    · have y1 : decide ((L.length : Int) < 64) = false := decide_eq_false (by omega)
      have y2 : decide (L.length < 64) = false := decide_eq_false hk
      have hfull := HR.out.1.full rfl
      have HLL := Lib.hid (HR.out.1.done (Or.inr (Or.inl ⟨rfl, by omega⟩)))
      clear hfull hk
      go_upto_region 12 with fail
      refine open_rest (by assumption) (by kernel_rfl) (HAT.out.1.keep HRK.out (fun _ _ => id)) HLL.out HE.out (fun _ _ _ _ _ h => h) ?_ ?_
      · intros
        rename_i w9 H9
        refine bodyPost_ret (v := .tuple #[.pointer none, .int .i64 e]) (by simp [results, Tryz.results16, go_sem]) rfl ?_
        exact HNO.out _ _ HRK.out H9.out.1 H9.out.2
      · intros
        rename_i w9 H9
        refine bodyPost_ret (v := .tuple #[.pointer (some ⟨sb, 0, none⟩), .int .i64 0]) (by simp [results, Tryz.results16, go_sem]) rfl ?_
        exact HYS.out _ _ _ _ _ HLL.out HRS.out H9.out.1 H9.out.2
end
end Go.Proofs.YtlgeijbgkipliaaGreatDoor

namespace Go.Proofs.YtlgeijbgkipliaaGreatDoor
open Go.RowKit
def SegR (w : World) (r : Nat) (x y : Value) (M : DiskM) (sb : Nat) (v : Value) (G : SegM) : Prop := RefAt w r M x y ∧ IsRS w sb r G v ∧ ∀ k, refOwn r x y k → ¬ rsOwn sb v k
def SegGoR (w : World) (r : Nat) (x y : Value) (sb : Nat) (v : Value) (M' : DiskM) (G' : SegM) (w' : World) : Prop :=
  ∃ x' y' v', SegR w' r x' y' M' sb v' G' ∧ Kept (fun k => k = r ∨ k = sb) w w' ∧ (∀ k, x'.ownBlock = some k → x.ownBlock = some k ∨ w.heap.size ≤ k) ∧ (∀ k, y'.ownBlock = some k → y.ownBlock = some k ∨ w.heap.size ≤ k) ∧ ∀ k, v'.ownBlock = some k → v.ownBlock = some k ∨ w.heap.size ≤ k
section
variable {w w1 w2 w' W : World} {sb r : Nat} {G : SegM} {v : Value} {x y : Value} {M M' M1 M2 : DiskM} {e : Int}
theorem SegR.lt (h : SegR w r x y M sb v G) : r < w.heap.size ∧ sb < w.heap.size ∧ sb ≠ r := ⟨h.1.lt (Or.inl rfl), h.2.1.lt (Or.inl rfl), fun q => h.2.2 r (Or.inl rfl) (Or.inl q.symm)⟩
theorem SegR.same (h : SegR w r x y M sb v G) (hk : Kept (fun _ => False) w w') : SegR w' r x y M sb v G := ⟨h.1.keep hk (fun _ _ => id), h.2.1.kept hk (fun _ _ => id), h.2.2⟩
theorem SegGoR.self (h : SegR w r x y M sb v G) : SegGoR w r x y sb v M G w := ⟨x, y, v, h, Kept.refl _ _, fun _ => Or.inl, fun _ => Or.inl, fun _ => Or.inl⟩
theorem SegR.go (h : SegR w r x y M sb v G) (hq : RefGo w r x y M' w') : SegGoR w r x y sb v M' G w' := by
  obtain ⟨h1, h2, h3⟩ := h
  obtain ⟨x', y', g1, g2, g3, g4⟩ := hq
  refine ⟨x', y', v, ⟨g1, h2.kept g2 (fun k q e => h3 k (Or.inl e) q), fun k q q2 => ?_⟩, g2.mono (fun _ _ => Or.inl), g3, g4, fun _ => Or.inl⟩
  have hlt := h2.lt q2
  rcases q with q | q | q
  · exact h3 k (Or.inl q) q2
  · rcases g3 k q with q | q
    · exact h3 k (Or.inr (Or.inl q)) q2
    · omega
  · rcases g4 k q with q | q
    · exact h3 k (Or.inr (Or.inr q)) q2
    · omega
theorem SegGoR.thru {x1 y1 v1 : Value} {G' : SegM} (h2 : Kept (fun k => k = r ∨ k = sb) w w1) (h3 : ∀ k, x1.ownBlock = some k → x.ownBlock = some k ∨ w.heap.size ≤ k) (h4 : ∀ k, y1.ownBlock = some k → y.ownBlock = some k ∨ w.heap.size ≤ k) (h5 : ∀ k, v1.ownBlock = some k → v.ownBlock = some k ∨ w.heap.size ≤ k) (hq : SegGoR w1 r x1 y1 sb v1 M' G' w2) : SegGoR w r x y sb v M' G' w2 := by
  obtain ⟨x', y', v', g1, g2, g3, g4, g5⟩ := hq
  have hs := h2.size
  refine ⟨x', y', v', g1, h2.trans g2, fun k q => ?_, fun k q => ?_, fun k q => ?_⟩
  · rcases g3 k q with q | q
    · exact h3 k q
    · exact Or.inr (by omega)
  · rcases g4 k q with q | q
    · exact h4 k q
    · exact Or.inr (by omega)
  · rcases g5 k q with q | q
    · exact h5 k q
    · exact Or.inr (by omega)
theorem SegR.mark (h : SegR w r x y M sb v G) (b : Bool) : w.frozen? ⟨sb, 3, none⟩ = false ∧ ∀ W, w.setCell ⟨sb, 3, none⟩ (.bool b) = W → SegGoR w r x y sb v M { G with dead := b } W := by
  obtain ⟨h1, h2, h3⟩ := h
  refine ⟨h2.1.free 3, fun W hW => ?_⟩
  have hk := kept_cell w sb 3 (.bool b)
  have hb := h2.1.set 3 (.bool b)
  rw [hW] at hk hb
  have hne : ∀ k, v.ownBlock = some k → k ≠ sb := fun k q => h2.2.ne_blk q h2.1 (by decide)
  exact ⟨x, y, v, ⟨h1.keep hk (fun k q e => h3 k q (Or.inl e)), ⟨hb, h2.2.kept hk (fun k q e => hne k q e)⟩, h3⟩, hk.mono (fun _ _ => Or.inr), fun _ => Or.inl, fun _ => Or.inl, fun _ => Or.inl⟩
theorem SegR.put {v' : Value} {E : List By} (h : SegR w r x y M sb v G) (hv : Row w 9 1 v' (strV E)) (hn : ∀ k, v'.ownBlock = some k → ¬ refOwn r x y k ∧ k ≠ sb) : w.frozen? ⟨sb, 1, none⟩ = false ∧ w.cell? ⟨sb, 1, none⟩ = some v ∧ ∀ W, w.setCell ⟨sb, 1, none⟩ v' = W → SegR W r x y M sb v' { G with entries := E } ∧ Kept (fun k => k = r ∨ k = sb) w W := by
  obtain ⟨h1, h2, h3⟩ := h
  refine ⟨h2.1.free 1, h2.1.cell rfl, fun W hW => ?_⟩
  have hk := kept_cell w sb 1 v'
  have hb := h2.1.set 1 v'
  rw [hW] at hk hb
  refine ⟨⟨h1.keep hk (fun k q e => h3 k q (Or.inl e)), ⟨hb, hv.kept hk (fun k q e => (hn k q).2 e)⟩, fun k q q2 => ?_⟩, hk.mono (fun _ _ => Or.inr)⟩
  rcases q2 with q2 | q2
  · exact h3 k q (Or.inl q2)
  · exact (hn k q2).1 q
set_option maxRecDepth 100000 in
set_option maxHeartbeats 4000000 in
theorem told_any (h : SegR w r x y M sb v G) (hd : G.dead = false) (e0 : Int) {M' : DiskM} (he : (if e0 = 0 then M.sync else (e0, M)) = (e, M')) :
    Calls Tryz.prog 68 #[.pointer (some ⟨sb, 0, none⟩), .int .i64 e0] w fun e' w' => e' = .returned (.int .i64 e) ∧ SegGoR w r x y sb v M' { G with dead := decide (e = 61) } w' := by
  have d0 := h.2.1.1.cell (i := 0) rfl
  by_cases h0 : e0 = 0
  · subst h0
    rw [if_pos rfl] at he
    have HSY := Lib.hid (sync_at h.1 he)
    have HG := Lib.hid (fun w' (hg : RefGo w r x y M' w') => h.go hg)
    have HH := Lib.hid hd
    clear he hd h
    go_enter Tryz.func68, Tryz.ntmps68
    go_upto_region 3 with (go_at_call 61; refine HSY.out.mono ?_; rintro e' w1 ⟨rfl, hg⟩; have H1 := Lib.hid (HG.out w1 hg); clear hg)
    obtain ⟨x1, y1, v1, g1, g2, g3, g4, g5⟩ := H1.out
    have d3 := g1.2.1.1.cell (i := 3) rfl
    rw [HH.out] at d3
    obtain ⟨z3, hm⟩ := g1.mark (decide (e = 61))
    have HM := Lib.hid (And.intro hm (And.intro g2 (And.intro g3 (And.intro g4 g5))))
    have y1 : (e == 61) = decide (e = 61) := by by_cases q : e = 61 <;> simp [q]
    clear hm g1 g2 g3 g4 g5 d0 HSY HG H1
    go_wp2_with fail
    generalize hW : World.setCell _ _ _ = W9
    have H9 := HM.out.1 W9 hW
    go_ret
    exact ⟨rfl, SegGoR.thru HM.out.2.1 HM.out.2.2.1 HM.out.2.2.2.1 HM.out.2.2.2.2 H9⟩
  · rw [if_neg h0] at he
    cases he
    have z0 : (e == 0) = false := by simpa using h0
    have d3 := h.2.1.1.cell (i := 3) rfl
    rw [hd] at d3
    obtain ⟨z3, hm⟩ := h.mark (decide (e = 61))
    have HM := Lib.hid hm
    have y1 : (e == 61) = decide (e = 61) := by by_cases q : e = 61 <;> simp [q]
    clear hm h hd h0
    go_enter Tryz.func68, Tryz.ntmps68
    go_wp2_with fail
    generalize hW : World.setCell _ _ _ = W9
    have H9 := HM.out W9 hW
    go_ret
    exact ⟨rfl, H9⟩
end
end Go.Proofs.YtlgeijbgkipliaaGreatDoor

namespace Go.Proofs.YtlgeijbgkipliaaGreatDoor
open Go.RowKit
section
variable {w w1 w2 w' W : World} {sb r : Nat} {G : SegM} {v : Value} {x y : Value} {M M' M1 M2 : DiskM} {e : Int}
def OverS (sb r : Nat) (st : Int) (W : World) : Prop := W.cell? ⟨sb, 0, none⟩ = some (.pointer (some ⟨r, 0, none⟩)) ∧ W.cell? ⟨r, 3, none⟩ = some (.bool false) ∧ W.cell? ⟨r, 4, none⟩ = some (.int .i64 st) ∧ W.cell? ⟨sb, 2, none⟩ = some (.int .i64 st)
theorem SegR.overS {x y v : Value} (h : SegR w r x y M sb v G) (hm : M.down = false) (hs : M.starts = G.starts) : OverS sb r G.starts w := by
  obtain ⟨a, c, rfl, -, c3, c4, -⟩ := h.1.cells
  rw [hm] at c3
  rw [hs] at c4
  exact ⟨h.2.1.1.cell rfl, c3, c4, h.2.1.1.cell rfl⟩
set_option maxRecDepth 100000 in
set_option maxHeartbeats 4000000 in
theorem over_no (h : SegR w r x y M sb v G) (hd : G.dead = false) (hm : M.down = false) (hs : M.starts = G.starts) :
    Calls Tryz.prog 67 #[.pointer (some ⟨sb, 0, none⟩)] w fun e' w' => e' = .returned (.bool false) ∧ SegGoR w r x y sb v M G w' := by
  have HH := Lib.hid (And.intro hd (And.intro hm hs))
  have hdr := h.same (Kept.refl _ _).drew
  have hKd : Kept (fun _ => False) w w.drew := (Kept.refl _ _).drew
  go_enter Tryz.func67, Tryz.ntmps67
  go_upto_region 1 with fail
  refine wp_region_held_drew (S := OverS sb r G.starts) (by kernel_rfl) (hdr.overS hm hs) (fun hS0 => ?_)
  generalize World.drew w = Wd at *
  have d3 := hdr.2.1.1.cell (i := 3) rfl
  rw [hd] at d3
  obtain ⟨z3, hmk⟩ := hdr.mark false
  have HM := Lib.hid (And.intro hmk hKd)
  have e0 : ({ G with dead := false } : SegM) = G := by rw [← hd]
  have HG := Lib.hid e0
  clear h hd hm hs hdr hKd hmk e0
  refine tk 0 rfl (fun _ _ _ h => h) hS0 ?_
  refine tk 1 rfl (fun _ _ _ h => h) hS0 ?_
  refine tk 2 rfl (fun _ _ _ h => h) hS0 ?_
  refine tk 3 rfl (fun _ _ _ h => h) hS0 ?_
  refine rd1 4 (fun K hK => ?_)
  have hq := d3
  go_simp
  clear hq
  refine hK.out _ _ hS0 (fun _ => ?_)
  clear hK K
  try simp only [lyA, lyB, lyC, lyD]
  refine tk 5 rfl (fun _ _ _ h => h) hS0 ?_
  refine tk 6 rfl (fun _ _ _ h => h) hS0 ?_
  refine tk 7 rfl (fun _ _ _ h => h) hS0 ?_
  refine tk 8 rfl (fun _ _ _ h => h) hS0 ?_
  refine tk 9 rfl (fun _ _ _ h => h) hS0 ?_ (hy := by (refine Or.inl ⟨by rfl, fun w hSw => ?_⟩; unfold OverS at hSw; go_simp; (try with_reducible rfl)))
  refine tk 10 rfl (fun _ _ _ h => h) hS0 ?_
  refine tk 11 rfl (fun _ _ _ h => h) hS0 ?_
  refine tk 12 rfl (fun _ _ _ h => h) hS0 ?_ (hy := by (refine Or.inl ⟨by rfl, fun w hSw => ?_⟩; unfold OverS at hSw; go_simp; (try with_reducible rfl)))
  refine tk 13 rfl (fun _ _ _ h => h) hS0 ?_
  refine tk 14 rfl (fun _ _ _ h => h) hS0 ?_
  refine tk 15 rfl (fun _ _ _ h => h) hS0 ?_
  refine tk 16 rfl (fun _ _ _ h => h) hS0 ?_
  refine tk 17 rfl (fun _ _ _ h => h) hS0 ?_
  refine tk 18 rfl (fun _ _ _ h => h) hS0 ?_ (hy := by (refine Or.inl ⟨by rfl, fun w hSw => ?_⟩; unfold OverS at hSw; go_simp; (try with_reducible rfl)))
  refine tk 19 rfl (fun _ _ _ h => h) hS0 ?_
  refine tk 20 rfl (fun _ _ _ h => h) hS0 ?_
  refine tk 21 rfl (fun _ _ _ h => h) hS0 ?_ (hy := by (refine Or.inl ⟨by rfl, fun w hSw => ?_⟩; unfold OverS at hSw; go_simp; (try with_reducible rfl)))
  refine tk 22 rfl (fun _ _ _ h => h) hS0 ?_
  refine tk 23 rfl (fun _ _ _ h => h) hS0 ?_
  refine tk 24 rfl (fun _ _ _ h => h) hS0 ?_
  refine tk 25 rfl (fun _ _ _ h => h) hS0 ?_ (hy := by (refine Or.inl ⟨by rfl, fun w hSw => ?_⟩; unfold OverS at hSw; go_simp; (try with_reducible rfl)))
  refine tk 26 rfl (fun _ _ _ h => h) hS0 ?_
  refine tk 27 rfl (fun _ _ _ h => h) hS0 ?_
  refine tk 28 rfl (fun _ _ _ h => h) hS0 ?_
  refine tk 29 rfl (fun _ _ _ h => h) hS0 ?_
  refine rd1 30 (fun K hK => ?_)
  have hq := d3
  have hq2 := z3
  go_simp
  clear hq hq2
  generalize hW : World.setCell _ _ _ = W9
  have h9 := HM.out.1 W9 hW
  rw [HG.out] at h9
  have H9 := Lib.hid h9
  obtain ⟨x9, y9, v9, g1, -⟩ := h9
  have hS9 := g1.overS HH.out.2.1 HH.out.2.2
  have d9 := g1.2.1.1.cell (i := 3) rfl
  rw [HH.out.1] at d9
  clear g1
  refine hK.out _ _ hS9 (fun _ => ?_)
  clear hK K
  try simp only [lyA, lyB, lyC, lyD]
  refine wpAnyH_done (by kernel_rfl) ?_ _
  go_wp2_with fail
  go_ret
  exact ⟨rfl, SegGoR.thru (HM.out.2.mono (fun _ _ => False.elim)) (fun _ => Or.inl) (fun _ => Or.inl) (fun _ => Or.inl) H9.out⟩
end
end Go.Proofs.YtlgeijbgkipliaaGreatDoor

namespace Go.Proofs.YtlgeijbgkipliaaGreatDoor
open Go.RowKit
section
variable {w w1 w2 w' W : World} {sb r : Nat} {G : SegM} {v : Value} {x y : Value} {M M' M1 M2 : DiskM} {e : Int} {l : List By}
def hasF (M : DiskM) (n : Int) : Bool := (AM.get M.files n).isSome
theorem over_not (hd : G.dead = false) (hm : M.down = false) (hs : M.starts = G.starts) : G.over M = false := by unfold SegM.over; rw [hd, hm, hs]; simp
theorem app_empty (ho : G.over M = false) : G.append M [] = (0, G, M) := by unfold SegM.append; rw [if_neg (by rw [ho]; simp), if_pos rfl]
theorem app_long (ho : G.over M = false) {p : By} (hp : p ∈ l) (h2 : 200 < p.length) : G.append M l = (3, G, M) := by
  unfold SegM.append
  rw [if_neg (by rw [ho]; simp), if_neg (by rintro rfl; cases hp), if_pos (List.any_eq_true.2 ⟨p, hp, by simpa using h2⟩)]
theorem any_not (h : ∀ p ∈ l, p.length ≤ 200) : ¬ (l.any fun p => decide (200 < p.length)) = true := by
  rw [List.any_eq_true]
  rintro ⟨p, hp, q⟩
  have := h p hp
  simp at q
  omega
theorem app_many (ho : G.over M = false) (h0 : l ≠ []) (h : ∀ p ∈ l, p.length ≤ 200) (hn : 4096 < G.entries.length + l.length) : G.append M l = (60, G, M) := by
  unfold SegM.append
  rw [if_neg (by rw [ho]; simp), if_neg h0, if_neg (any_not h), if_pos (by have := List.length_pos_iff.2 h0; omega)]
theorem app_full (ho : G.over M = false) (h0 : l ≠ []) (h : ∀ p ∈ l, p.length ≤ 200) (hn : ¬ 4096 < G.entries.length + l.length) (hf : M.cap - M.total < ((framesF l).length : Nat) ∨ 100 < M.files.length + makes (planC (hasF M) G.entries.length l)) : G.append M l = (60, G, M) := by
  unfold SegM.append
  rw [if_neg (by rw [ho]; simp), if_neg h0, if_neg (any_not h), if_neg (by omega)]
  exact if_pos hf
theorem app_run (ho : G.over M = false) (h0 : l ≠ []) (h : ∀ p ∈ l, p.length ≤ 200) (hn : ¬ 4096 < G.entries.length + l.length) (hf : ¬ (M.cap - M.total < ((framesF l).length : Nat) ∨ 100 < M.files.length + makes (planC (hasF M) G.entries.length l))) {M' : DiskM} (he : runAll (planC (hasF M) G.entries.length l ++ [.sync]) M = (e, M')) :
    G.append M l = (e, { G with entries := if e = 0 then G.entries ++ l else G.entries, dead := decide (e = 61) }, M') := by
  unfold SegM.append
  rw [if_neg (by rw [ho]; simp), if_neg h0, if_neg (any_not h), if_neg (by omega)]
  unfold hasF at hf he
  rw [if_neg hf, he]
def stepN (a len j : Nat) : Nat := min (64 - (a + j) % 64) (len - j)
theorem plan_at (has : Int → Bool) (a : Nat) {j : Nat} (hj : j < l.length) : planC has (a + j) (l.drop j) = (if has (1000 + (((a + j) / 64 : Nat) : Int)) = true then [] else [.make (1000 + (((a + j) / 64 : Nat) : Int))]) ++ .app (1000 + (((a + j) / 64 : Nat) : Int)) (framesF ((l.drop j).take (stepN a l.length j))) :: planC has (a + (j + stepN a l.length j)) (l.drop (j + stepN a l.length j)) := by
  have hne : l.drop j ≠ [] := by
    intro q
    have := congrArg List.length q
    rw [List.length_drop, List.length_nil] at this
    omega
  rw [planC_step has (a + j) hne, List.length_drop, List.drop_drop]
  unfold stepN
  rw [Nat.add_assoc]
theorem plan_end9 (has : Int → Bool) (a j : Nat) (hj : l.length ≤ j) : planC has (a + j) (l.drop j) = [] := by rw [List.drop_eq_nil_of_le hj]; exact planC_nil has _
def CountS (has : Int → Bool) (a : Nat) (l : List By) (k f : Nat) : Prop :=
  ∃ j, f + makes (planC has (a + j) (l.drop j)) = makes (planC has a l) ∧ ((j = l.length ∧ a + l.length ≤ 64 * k) ∨ (j < l.length ∧ (a + j) / 64 = k))
theorem CountS.start (has : Int → Bool) (a : Nat) (h0 : l ≠ []) : CountS has a l (a / 64) 0 := ⟨0, by simp, Or.inr ⟨List.length_pos_iff.2 h0, rfl⟩⟩
theorem makes_cons (c : Chg) (r : List Chg) : makes (c :: r) = (match c with | .make _ => 1 | _ => 0) + makes r := by cases c <;> simp only [makes] <;> omega
theorem CountS.next {has : Int → Bool} {a k f : Nat} (h : CountS has a l k f) (hlt : 64 * k < a + l.length) : CountS has a l (k + 1) (if has (1000 + (k : Int)) = true then f else f + 1) := by
  obtain ⟨j, h1, ⟨h2, h3⟩ | ⟨h2, h3⟩⟩ := h
  · omega
  · rw [plan_at has a h2, h3, makes_append, makes_cons] at h1
    refine ⟨j + stepN a l.length j, ?_, ?_⟩
    · by_cases hh : has (1000 + (k : Int)) = true
      · rw [if_pos hh] at h1 ⊢
        simp only [makes] at h1
        omega
      · rw [if_neg hh] at h1 ⊢
        simp only [makes] at h1
        omega
    · unfold stepN
      omega
theorem CountS.last {has : Int → Bool} {a k f : Nat} (h : CountS has a l k f) (hge : ¬ 64 * k < a + l.length) : f = makes (planC has a l) := by
  obtain ⟨j, h1, ⟨h2, h3⟩ | ⟨h2, h3⟩⟩ := h
  · rw [plan_end9 has a j (by omega)] at h1
    simpa [makes] using h1
  · omega
end
end Go.Proofs.YtlgeijbgkipliaaGreatDoor

namespace Go.Proofs.YtlgeijbgkipliaaGreatDoor
open Go.RowKit
section
variable {w w1 w2 w' W : World} {sb r : Nat} {G : SegM} {v : Value} {x y : Value} {M M' M1 M2 : DiskM} {e : Int} {l : List By}
theorem create_get {R : RefM} (h : Rel M R) {n : Int} (he : M.create n = (0, M1)) {m : Int} (hm : m ≠ n) : AM.get M1.files m = AM.get M.files m := by
  obtain ⟨t1, t2⟩ := h.mtick
  unfold DiskM.create at he
  split at he
  · cases he
  · split at he
    · cases he
    · split at he
      · cases he
      · split at he
        · cases he
        · rw [if_neg (by rw [t2]; simp), t1] at he
          cases he
          exact AM.get_set_other h.ok.rise _ hm
theorem append_get {R : RefM} (h : Rel M R) {n : Int} {s : By} (he : M.append n s = (0, M1)) {m : Int} (hm : m ≠ n) : AM.get M1.files m = AM.get M.files m := by
  obtain ⟨t1, t2⟩ := h.mtick
  unfold DiskM.append at he
  by_cases hh : M.has n = 0
  · rw [if_neg (by rw [hh]; simp)] at he
    split at he
    · cases he
    · rw [if_neg (by rw [t2]; simp)] at he
      have ht : (M.appended n s).tick = M.appended n s := by unfold DiskM.tick; rw [if_neg (by show ¬ M.fails = true; rw [h.nf]; simp)]
      rw [ht] at he
      cases he
      exact AM.get_set_other h.ok.rise _ hm
  · rw [if_pos hh] at he
    exact absurd (congrArg Prod.fst he) hh
def Pieces (M : DiskM) (n : Nat) : Prop := M.files.length + M.loose.length ≤ n
theorem create_pieces {n : Int} {k : Nat} {R : RefM} (h : Rel M R) (hk : Pieces M k) (he : M.create n = (e, M1)) : Pieces M1 (k + 1) := by
  obtain ⟨t1, t2⟩ := h.mtick
  unfold Pieces at *
  unfold DiskM.create at he
  split at he
  · cases he; omega
  · split at he
    · cases he; omega
    · split at he
      · cases he; omega
      · split at he
        · cases he; omega
        · rw [if_neg (by rw [t2]; simp), t1] at he
          cases he
          show (AM.set M.files n []).length + M.loose.length ≤ k + 1
          rw [AM.length_set]
          have := del_few M.files n
          omega
theorem append_pieces {n : Int} {s : By} {k : Nat} {R : RefM} (h : Rel M R) (hk : Pieces M k) (he : M.append n s = (e, M1)) : Pieces M1 (k + 2) := by
  obtain ⟨t1, t2⟩ := h.mtick
  unfold Pieces at *
  unfold DiskM.append at he
  split at he
  · cases he; omega
  · split at he
    · cases he; omega
    · rw [if_neg (by rw [t2]; simp)] at he
      have ht : (M.appended n s).tick = M.appended n s := by unfold DiskM.tick; rw [if_neg (by show ¬ M.fails = true; rw [h.nf]; simp)]
      rw [ht] at he
      cases he
      show (AM.set M.files n _).length + (M.loose ++ [(n, s.length)]).length ≤ k + 2
      rw [AM.length_set, List.length_append, List.length_singleton]
      have := del_few M.files n
      omega
def AppPl (w : World) (r : Nat) (x y : Value) (sb : Nat) (v : Value) (M : DiskM) (G : SegM) (l : List By) (j : Nat) (e : Int) (W : World) : Prop :=
  ∃ Mi, SegGoR w r x y sb v Mi G W ∧ Pieces Mi (200000000 + 3 * j) ∧ ((e = 0 ∧ runAll (planC (hasF M) G.entries.length l ++ [.sync]) M = runAll (planC (hasF M) (G.entries.length + j) (l.drop j) ++ [.sync]) Mi ∧ ∀ k : Nat, (G.entries.length + j) / 64 ≤ k → (j < l.length) → hasF Mi (1000 + (k : Int)) = hasF M (1000 + (k : Int))) ∨
    (e ≠ 0 ∧ runAll (planC (hasF M) G.entries.length l ++ [.sync]) M = (e, Mi)))
theorem AppPl.start (h : SegR w r x y M sb v G) (hp : Pieces M 200000000) : AppPl w r x y sb v M G l 0 0 w :=
  ⟨M, SegGoR.self h, by simpa using hp, Or.inl ⟨rfl, by simp, fun _ _ _ => rfl⟩⟩
structure StepAt (w : World) (r : Nat) (x y : Value) (sb : Nat) (v : Value) (G : SegM) (x1 y1 v1 : Value) (Mi : DiskM) (W : World) : Prop where
  seg : SegR W r x1 y1 Mi sb v1 G
  kept : Kept (fun k => k = r ∨ k = sb) w W
  ox : ∀ k, x1.ownBlock = some k → x.ownBlock = some k ∨ w.heap.size ≤ k
  oy : ∀ k, y1.ownBlock = some k → y.ownBlock = some k ∨ w.heap.size ≤ k
  ov : ∀ k, v1.ownBlock = some k → v.ownBlock = some k ∨ w.heap.size ≤ k
theorem StepAt.go {x1 y1 v1 : Value} (h : StepAt w r x y sb v G x1 y1 v1 M1 W) : SegGoR w r x y sb v M1 G W := ⟨x1, y1, v1, h.seg, h.kept, h.ox, h.oy, h.ov⟩
theorem SegGoR.stepAt (h : SegGoR w r x y sb v M1 G W) : ∃ x1 y1 v1, StepAt w r x y sb v G x1 y1 v1 M1 W := by
  obtain ⟨x1, y1, v1, h1, h2, h3, h4, h5⟩ := h
  exact ⟨x1, y1, v1, h1, h2, h3, h4, h5⟩
theorem StepAt.same {x1 y1 v1 : Value} (h : StepAt w r x y sb v G x1 y1 v1 M1 W) (hk : Kept (fun _ => False) W w2) : StepAt w r x y sb v G x1 y1 v1 M1 w2 := ⟨h.seg.same hk, h.kept.trans (hk.mono (fun _ _ => False.elim)), h.ox, h.oy, h.ov⟩
theorem StepAt.next {x1 y1 v1 : Value} (h : StepAt w r x y sb v G x1 y1 v1 M1 W) (hg : RefGo W r x1 y1 M2 w2) : SegGoR w r x y sb v M2 G w2 := SegGoR.thru h.kept h.ox h.oy h.ov (h.seg.go hg)
theorem plan_app {Ma : DiskM} {j : Nat} {R : RefM} (hr : Rel Ma R) (hj : j < l.length) (hpc : Pieces Ma (200000000 + 3 * j + 1))
    (hrun : runAll (planC (hasF M) G.entries.length l ++ [.sync]) M = runAll (.app (1000 + (((G.entries.length + j) / 64 : Nat) : Int)) (framesF ((l.drop j).take (stepN G.entries.length l.length j))) :: planC (hasF M) (G.entries.length + (j + stepN G.entries.length l.length j)) (l.drop (j + stepN G.entries.length l.length j)) ++ [.sync]) Ma)
    (hhas : ∀ k : Nat, (G.entries.length + j) / 64 < k → hasF Ma (1000 + (k : Int)) = hasF M (1000 + (k : Int)))
    (he : Ma.append (1000 + (((G.entries.length + j) / 64 : Nat) : Int)) (framesF ((l.drop j).take (stepN G.entries.length l.length j))) = (e, M2)) (hg : SegGoR w r x y sb v M2 G w2) : AppPl w r x y sb v M G l (j + stepN G.entries.length l.length j) e w2 := by
  have hs1 : 1 ≤ stepN G.entries.length l.length j := by unfold stepN; omega
  have hpc2 : Pieces M2 (200000000 + 3 * (j + stepN G.entries.length l.length j)) := by
    have := append_pieces hr hpc he
    unfold Pieces at *
    omega
  refine ⟨M2, hg, hpc2, ?_⟩
  have hc : (Chg.app (1000 + (((G.entries.length + j) / 64 : Nat) : Int)) (framesF ((l.drop j).take (stepN G.entries.length l.length j)))).run Ma = (e, M2) := he
  rw [List.cons_append] at hrun
  by_cases h0 : e = 0
  · left
    rw [runAll_cons_ok (by rw [hc]; exact h0), hc] at hrun
    subst h0
    refine ⟨rfl, hrun, fun k hk hlt => ?_⟩
    have hlt2 : (G.entries.length + j) / 64 < k := by
      unfold stepN at hk hlt
      omega
    unfold hasF
    rw [append_get hr he (by omega)]
    exact hhas k hlt2
  · right
    rw [runAll_cons_no (by rw [hc]; exact h0), hc] at hrun
    exact ⟨h0, hrun⟩
end
end Go.Proofs.YtlgeijbgkipliaaGreatDoor
