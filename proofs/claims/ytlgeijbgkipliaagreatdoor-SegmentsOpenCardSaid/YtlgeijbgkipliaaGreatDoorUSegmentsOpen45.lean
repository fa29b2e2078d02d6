/- RS11 RS12 -/
import Derived.Test.YtlgeijbgkipliaaGreatDoorUSegmentsOpen44
import Derived.Test.YtlgeijbgkipliaaGreatDoorUSegmentsOpen38
set_option linter.unusedVariables false
set_option linter.unusedSimpArgs false
namespace Go.Proofs.YtlgeijbgkipliaaGreatDoor
open Go.RowKit
set_option maxRecDepth 100000 in
set_option maxHeartbeats 8000000 in
theorem app_reg30 {w W : World} {r sb n wc a b k : Nat} {wa : Option Addr} {x y v x1 y1 v1 : Value} {G : SegM} {Ma M2 : DiskM} {e : Int} {L : List By} {Q : Exit → Act → World → Prop} {g1 g2 g3 g4 g5 g6 g7 g8 g10 g14 g15 g16 g17 g18 g19 g20 g21 g22 g23 g24 g25 g26 g27 g28 g29 g30 g31 g32 g33 g34 g35 g36 g37 g38 g39 g40 g41 g42 g43 g44 g45 g46 g47 g48 g49 g50 g51 g52 g53 g54 g55 g56 g57 g58 g59 g60 g61 g62 g63 g64 g65 g66 g67 g68 g69 g70 g71 g72 g73 g74 g75 g76 g77 g78 g79 g80 g81 g82 g83 g84 g85 g86 g87 g88 g89 g90 g91 g92 g93 g94 g95 g96 g97 g98 g99 g100 g101 g102 g103 g104 g105 g106 g107 g108 g109 g110 g111 g112 g113 g114 g115 g116 g117 g118 g119 g120 g121 g122 g123 g124 g125 g126 g127 g128 g129 g130 g131 g132 g133 g134 g135 g136 g137 g138 g139 g140 g141 g142 g143 g144 g145 g146 g147 g148 g149 : Value} {c1 : Code} {K : Act → World → Prop} (hcode : codeReg 30 (Tryz.f20.body.getD .skip) = some c1) (hst : StepAt w r x y sb v G x1 y1 v1 Ma W) (hv : View W 1 (.slice wa n wc) (strV L)) (hab : a ≤ b) (hbn : b ≤ n) (hn : n = L.length) (hn2 : n ≤ 100000) (hp : ∀ p ∈ (L.drop a).take (b - a), p.length ≤ 200) (hb64 : b - a ≤ 64) (hk : k ≤ 1000) (hpc : Ma.files.length + Ma.loose.length < 300000000) (he : Ma.append (1000 + (k : Int)) (framesF ((L.drop a).take (b - a))) = (e, M2))
    (HP : ∀ c a (k : Nat) v w, Q (.panic c) (Act.put a (some k) v) w → Q (.panic c) a w) (HEND : ∀ (v127 v128 v129 v130 v131 v132 v133 v134 v135 v136 v137 v138 : Value) (w' : World), Hid (SegGoR w r x y sb v M2 G w') → K ⟨List.toArray ((.pointer (some ⟨sb, 0, none⟩)) :: g1 :: g2 :: g3 :: g4 :: g5 :: g6 :: g7 :: g8 :: (.slice wa n wc) :: (.int .i64 e) :: (.int .i64 (a : Int)) :: (.int .i64 (k : Int)) :: (.int .i64 (b : Int)) :: g14 :: g15 :: g16 :: g17 :: g18 :: g19 :: g20 :: g21 :: g22 :: g23 :: g24 :: g25 :: g26 :: g27 :: g28 :: g29 :: g30 :: g31 :: g32 :: g33 :: g34 :: g35 :: g36 :: g37 :: g38 :: g39 :: g40 :: g41 :: g42 :: g43 :: g44 :: g45 :: g46 :: g47 :: g48 :: g49 :: g50 :: g51 :: g52 :: g53 :: g54 :: g55 :: g56 :: g57 :: g58 :: g59 :: g60 :: g61 :: g62 :: g63 :: g64 :: g65 :: g66 :: g67 :: g68 :: g69 :: g70 :: g71 :: g72 :: g73 :: g74 :: g75 :: g76 :: g77 :: g78 :: g79 :: g80 :: g81 :: g82 :: g83 :: g84 :: g85 :: g86 :: g87 :: g88 :: g89 :: g90 :: g91 :: g92 :: g93 :: g94 :: g95 :: g96 :: g97 :: g98 :: g99 :: g100 :: g101 :: g102 :: g103 :: g104 :: g105 :: g106 :: g107 :: g108 :: g109 :: g110 :: g111 :: g112 :: g113 :: g114 :: g115 :: g116 :: g117 :: g118 :: g119 :: g120 :: g121 :: g122 :: g123 :: g124 :: g125 :: g126 :: v127 :: v128 :: v129 :: v130 :: v131 :: v132 :: v133 :: v134 :: v135 :: v136 :: v137 :: v138 :: g139 :: g140 :: g141 :: g142 :: g143 :: g144 :: g145 :: g146 :: g147 :: g148 :: g149 :: []), []⟩ w') :
    Code.wp Tryz.prog c1 (Exit.then K Q) ⟨List.toArray ((.pointer (some ⟨sb, 0, none⟩)) :: g1 :: g2 :: g3 :: g4 :: g5 :: g6 :: g7 :: g8 :: (.slice wa n wc) :: g10 :: (.int .i64 (a : Int)) :: (.int .i64 (k : Int)) :: (.int .i64 (b : Int)) :: g14 :: g15 :: g16 :: g17 :: g18 :: g19 :: g20 :: g21 :: g22 :: g23 :: g24 :: g25 :: g26 :: g27 :: g28 :: g29 :: g30 :: g31 :: g32 :: g33 :: g34 :: g35 :: g36 :: g37 :: g38 :: g39 :: g40 :: g41 :: g42 :: g43 :: g44 :: g45 :: g46 :: g47 :: g48 :: g49 :: g50 :: g51 :: g52 :: g53 :: g54 :: g55 :: g56 :: g57 :: g58 :: g59 :: g60 :: g61 :: g62 :: g63 :: g64 :: g65 :: g66 :: g67 :: g68 :: g69 :: g70 :: g71 :: g72 :: g73 :: g74 :: g75 :: g76 :: g77 :: g78 :: g79 :: g80 :: g81 :: g82 :: g83 :: g84 :: g85 :: g86 :: g87 :: g88 :: g89 :: g90 :: g91 :: g92 :: g93 :: g94 :: g95 :: g96 :: g97 :: g98 :: g99 :: g100 :: g101 :: g102 :: g103 :: g104 :: g105 :: g106 :: g107 :: g108 :: g109 :: g110 :: g111 :: g112 :: g113 :: g114 :: g115 :: g116 :: g117 :: g118 :: g119 :: g120 :: g121 :: g122 :: g123 :: g124 :: g125 :: g126 :: g127 :: g128 :: g129 :: g130 :: g131 :: g132 :: g133 :: g134 :: g135 :: g136 :: g137 :: g138 :: g139 :: g140 :: g141 :: g142 :: g143 :: g144 :: g145 :: g146 :: g147 :: g148 :: g149 :: []), []⟩ W := by
  have HEND := Lib.hid HEND
  simp only [Tryz.f20, Option.getD_some, codeReg, Nat.reduceEqDiff, ↓reduceIte, Option.none_or, Option.or_none, Option.some_or, Option.some.injEq] at hcode
  subst hcode
  have d0 := hst.seg.2.1.1.cell (i := 0) rfl
  have hstd := hst.same (Kept.refl _ _).drew
  have hvd := hv.same (Kept.refl (fun _ => False) W).drew (by omega)
  refine wp_region_held_drew (S := fun W => W.cell? ⟨sb, 0, none⟩ = some (.pointer (some ⟨r, 0, none⟩))) (by kernel_rfl) d0 (fun hS0 => ?_)
  generalize World.drew W = Wd at *
  obtain ⟨pa, pc, hz, hvp⟩ := hvd.mid (P := Tryz.prog) (t := 23) (by kernel_rfl) (fun _ => by kernel_rfl) a b hab hbn
  rw [Nat.mul_one, Nat.mul_one] at hvp
  have e1 : ((strV L).drop a).take (b - a) = strV ((L.drop a).take (b - a)) := by unfold strV; rw [List.map_take, List.map_drop]
  rw [e1] at hvp
  obtain ⟨ps, hps⟩ : ∃ ps, (L.drop a).take (b - a) = ps := ⟨_, rfl⟩
  rw [hps] at hvp he hp
  have hpl : ps.length = b - a := by rw [← hps, List.length_take, List.length_drop]; omega
  rw [← hpl] at hvp hz
  have hfs : (framesF ps).length ≤ 212 * ps.length := by
    clear hps hpl hvp hz he
    induction ps with
    | nil => simp [framesF]
    | cons q rr ih =>
      have h1 := ih (fun p hp' => hp p (by simp [hp']))
      have h2 := hp q (by simp)
      rw [framesF_cons, List.length_append, frameF_len, List.length_cons]
      omega
  have htx := Lib.hid (rtext_any Wd pa pc ps hvp (fun p hp' => by have := hp p hp'; omega) (by omega) (by omega))
  have HAP := Lib.hid (fun w2 (hk2 : Kept (fun _ => False) Wd w2) => (show Calls Tryz.prog 14 #[.pointer (some ⟨r, 0, none⟩), .int .i64 (1000 + (k : Int)), .string (strB (framesF ps))] w2 (fun e' w' => e' = .returned (.int .i64 e) ∧ Hid (SegGoR w r x y sb v M2 G w') ∧ w'.cell? ⟨sb, 0, none⟩ = some (.pointer (some ⟨r, 0, none⟩))) from (append_at (hstd.same hk2).seg.1 (1000 + (k : Int)) (framesF ps) (by omega) hpc he).mono (fun e' w' q => ⟨q.1, Lib.hid ((hstd.same hk2).next q.2), by
    obtain ⟨x', y', v', g1, -⟩ := (hstd.same hk2).next q.2
    exact g1.2.1.1.cell rfl⟩)))
  obtain ⟨tb, htb⟩ : ∃ tb, strB (framesF ps) = tb := ⟨_, rfl⟩
  rw [htb] at htx HAP
  have hwr : IntKind.i64.wrap (1000 + (k : Int)) = 1000 + (k : Int) := IntWalk.i64_in _ (by omega)
  clear hstd hvd hvp hps hpl hfs he hp htb e1 d0 hst hv hpc hn hn2 hb64 hk
  refine tk 0 rfl (fun _ _ _ h => HP _ _ _ _ _ h) hS0 ?_
  refine tk 1 rfl (fun _ _ _ h => HP _ _ _ _ _ h) hS0 ?_
  refine tk 2 rfl (fun _ _ _ h => HP _ _ _ _ _ h) hS0 ?_
  refine tk 3 rfl (fun _ _ _ h => HP _ _ _ _ _ h) hS0 ?_ (hy := by (refine Or.inl ⟨by rfl, fun w hSw => ?_⟩; have hSw2 : w.cell? ⟨sb, 0, none⟩ = some (.pointer (some ⟨r, 0, none⟩)) := hSw; clear hSw; go_simp; (try with_reducible rfl)))
  refine tk 4 rfl (fun _ _ _ h => HP _ _ _ _ _ h) hS0 ?_
  refine tk 5 rfl (fun _ _ _ h => HP _ _ _ _ _ h) hS0 ?_
  refine tk 6 rfl (fun _ _ _ h => HP _ _ _ _ _ h) hS0 ?_
  refine tk 7 rfl (fun _ _ _ h => HP _ _ _ _ _ h) hS0 ?_
  refine tk 8 rfl (fun _ _ _ h => HP _ _ _ _ _ h) hS0 ?_
  refine tk 9 rfl (fun _ _ _ h => HP _ _ _ _ _ h) hS0 ?_
  refine rd1 10 (fun K hK => ?_)
  go_simp
  refine htx.out.mono ?_
  rintro e' w3 ⟨rfl, hk3⟩
  have hap := HAP.out w3 hk3
  have hS3 : w3.cell? ⟨sb, 0, none⟩ = some (.pointer (some ⟨r, 0, none⟩)) := hk3.cell hS0 id
  clear hk3 hz
  refine hK.out _ _ hS3 (fun _ => ?_)
  clear hK K
  try simp only [lyA, lyB, lyC, lyD]
  refine rd1 11 (fun K hK => ?_)
  go_simp
  refine hap.mono ?_
  clear hap
  rintro e' w4 ⟨rfl, hg4, hS4⟩
  refine hK.out _ _ hS4 (fun _ => ?_)
  clear hK K
  try simp only [lyA, lyB, lyC, lyD]
  refine tk 12 rfl (fun _ _ _ h => HP _ _ _ _ _ h) hS4 ?_
  refine wpAnyH_done (by kernel_rfl) ?_ _
  exact HEND.out _ _ _ _ _ _ _ _ _ _ _ _ _ hg4
end Go.Proofs.YtlgeijbgkipliaaGreatDoor

namespace Go.Proofs.YtlgeijbgkipliaaGreatDoor
open Go.RowKit
section
variable {w w1 w2 w' W : World} {sb r : Nat} {G : SegM} {v : Value} {x y : Value} {M M' M1 M2 : DiskM} {e : Int} {l : List By}
theorem ra_sing (c : Chg) (M : DiskM) : runAll [c] M = c.run M := by
  unfold runAll
  split
  · rename_i h; rw [show runAll [] (c.run M).2 = (0, (c.run M).2) from rfl, ← h]
  · rfl
theorem SegGoR.rel (h : SegGoR w r x y sb v M G W) : ∃ R, Rel M R := by
  obtain ⟨x', y', v', g, -⟩ := h
  obtain ⟨R, _, h2⟩ := g.1
  exact ⟨R, h2⟩
def partT (E l : List By) (a b : Nat) : By := framesF (((E ++ l).drop a).take (b - a))
structure RoundA (w : World) (r : Nat) (x y : Value) (sb : Nat) (v : Value) (M : DiskM) (G : SegM) (l : List By) (a b k j : Nat) (Mi : DiskM) : Prop where
  few : Mi.files.length + Mi.loose.length < 299999000
  there : hasF Mi (1000 + (k : Int)) = true → ∀ e M2 w2, Mi.append (1000 + (k : Int)) (partT G.entries l a b) = (e, M2) → SegGoR w r x y sb v M2 G w2 → AppPl w r x y sb v M G l j e w2
  bad : hasF Mi (1000 + (k : Int)) = false → ∀ e M1 w2, Mi.create (1000 + (k : Int)) = (e, M1) → e ≠ 0 → SegGoR w r x y sb v M1 G w2 → AppPl w r x y sb v M G l j e w2
  made : hasF Mi (1000 + (k : Int)) = false → ∀ M1, Mi.create (1000 + (k : Int)) = (0, M1) → M1.files.length + M1.loose.length < 300000000 ∧ ∀ e M2 w2, M1.append (1000 + (k : Int)) (partT G.entries l a b) = (e, M2) → SegGoR w r x y sb v M2 G w2 → AppPl w r x y sb v M G l j e w2
theorem AppPl.round {a j : Nat} (h : AppPl w r x y sb v M G l j 0 W) (ha : a = G.entries.length + j) (hj : j < l.length) (hl : l.length ≤ 10000) (hE : G.entries.length ≤ 100000) :
    ∃ Mi b x1 y1 v1, b = a + stepN G.entries.length l.length j ∧ StepAt w r x y sb v G x1 y1 v1 Mi W ∧ RoundA w r x y sb v M G l a b (a / 64) (j + stepN G.entries.length l.length j) Mi := by
  subst ha
  obtain ⟨Mi, hg, hpc, hcase⟩ := h
  obtain ⟨hrun, hhas⟩ := (hcase.resolve_right (fun q => q.1 rfl)).2
  obtain ⟨R, hr⟩ := hg.rel
  obtain ⟨x1, y1, v1, hst⟩ := hg.stepAt
  have hT : partT G.entries l (G.entries.length + j) (G.entries.length + j + stepN G.entries.length l.length j) = framesF ((l.drop j).take (stepN G.entries.length l.length j)) := by
    unfold partT
    rw [Nat.add_sub_cancel_left, ← List.drop_drop, List.drop_left]
  have hn := hhas ((G.entries.length + j) / 64) (Nat.le_refl _) hj
  rw [plan_at (hasF M) G.entries.length hj] at hrun
  refine ⟨Mi, _, x1, y1, v1, rfl, hst, ⟨?_, ?_, ?_, ?_⟩⟩
  · unfold Pieces at hpc; omega
  · intro hh e M2 w2 he hg2
    rw [hT] at he
    rw [← hn, if_pos hh, List.nil_append] at hrun
    refine plan_app hr hj ?_ hrun (fun k hk => hhas k (by omega) hj) he hg2
    unfold Pieces at hpc ⊢
    omega
  · intro hh e M1 w2 he h0 hg2
    rw [← hn, if_neg (by rw [hh]; simp), List.cons_append, List.nil_append, List.cons_append] at hrun
    have hc : (Chg.make (1000 + (((G.entries.length + j) / 64 : Nat) : Int))).run Mi = (e, M1) := he
    rw [runAll_cons_no (by rw [hc]; exact h0), hc] at hrun
    have hp1 := create_pieces hr hpc he
    refine ⟨M1, hg2, ?_, Or.inr ⟨h0, hrun⟩⟩
    unfold Pieces at hp1 ⊢
    have : 1 ≤ stepN G.entries.length l.length j := by unfold stepN; omega
    omega
  · intro hh M1 he
    have hp1 := create_pieces hr hpc he
    refine ⟨by unfold Pieces at hp1; omega, fun e M2 w2 ha hg2 => ?_⟩
    rw [hT] at ha
    rw [← hn, if_neg (by rw [hh]; simp), List.cons_append, List.nil_append, List.cons_append] at hrun
    have hc : (Chg.make (1000 + (((G.entries.length + j) / 64 : Nat) : Int))).run Mi = (0, M1) := he
    rw [runAll_cons_ok (by rw [hc]), hc] at hrun
    obtain ⟨R1, hr1⟩ : ∃ R1, Rel M1 R1 := by
      obtain ⟨R1, _, h1⟩ := hr.create (by omega) (by unfold Pieces at hpc; omega) he
      exact ⟨R1, h1⟩
    refine plan_app hr1 hj ?_ (by rw [List.cons_append]; exact hrun) (fun k hk => ?_) ha hg2
    · unfold Pieces at hp1 ⊢; omega
    · unfold hasF
      rw [create_get hr he (by omega)]
      exact hhas k (by omega) hj
theorem find_has (h : RefAt w r M x y) (n : Int) : (hasF M n = false ∧ findV M.files n = -1) ∨ (hasF M n = true ∧ ∃ i : Nat, findV M.files n = (i : Int)) := by
  obtain ⟨R, _, h2⟩ := h
  rcases find_get h2.ok.rise n with ⟨g1, g2⟩ | ⟨i, b, g1, g2, _⟩
  · exact Or.inl ⟨by unfold hasF; rw [g1]; rfl, g2⟩
  · exact Or.inr ⟨by unfold hasF; rw [g1]; rfl, i, g2⟩
theorem whole_put {w6 : World} {n3 : Nat} {x1 y1 v1 vw : Value} {G9 : SegM} {M9 : DiskM} {E : List By} (h6 : StepAt w r x y sb v G x1 y1 v1 M w6) (hg : SegGoR w6 r x1 y1 sb v1 M9 G9 W) (hw : w.heap.size ≤ n3) (h3 : ∀ k, refOwn r x1 y1 k → k < n3) (hsb : sb < n3) (hr : Row w6 9 1 vw (strV E)) (ho : ∀ k, vw.ownBlock = some k → n3 ≤ k) :
    W.frozen? ⟨sb, 1, none⟩ = false ∧ (∃ v', W.cell? ⟨sb, 1, none⟩ = some v') ∧ ∀ W', W.setCell ⟨sb, 1, none⟩ vw = W' → SegGoR w r x y sb v M9 { G9 with entries := E } W' := by
  obtain ⟨x', y', v', g1, g2, g3, g4, g5⟩ := hg
  have hrb : r < n3 := h3 r (Or.inl rfl)
  have hrow := hr.kept g2 (fun k q e => by have := ho k q; omega)
  obtain ⟨z1, z2, z3⟩ := g1.put hrow (fun k q => by
    have h1 := ho k q
    have h2 := hr.lt q
    refine ⟨fun e => ?_, by omega⟩
    rcases e with e | e | e
    · omega
    · rcases g3 k e with e | e
      · have := h3 k (Or.inr (Or.inl e)); omega
      · omega
    · rcases g4 k e with e | e
      · have := h3 k (Or.inr (Or.inr e)); omega
      · omega)
  refine ⟨z1, ⟨_, z2⟩, fun W' hW => ?_⟩
  obtain ⟨a1, a2⟩ := z3 W' hW
  have hs := h6.kept.size
  refine ⟨x', y', vw, a1, (h6.kept.trans g2).trans a2, fun k q => ?_, fun k q => ?_, fun k q => Or.inr (by have := ho k q; omega)⟩
  · rcases g3 k q with q | q
    · exact h6.ox k q
    · exact Or.inr (by omega)
  · rcases g4 k q with q | q
    · exact h6.oy k q
    · exact Or.inr (by omega)
theorem AppPl.over {a j : Nat} (h : AppPl w r x y sb v M G l j e W) (hd : e ≠ 0 ∨ j = l.length) : ∃ Mi x1 y1 v1, StepAt w r x y sb v G x1 y1 v1 Mi W ∧ (if e = 0 then Mi.sync else (e, Mi)) = runAll (planC (hasF M) G.entries.length l ++ [.sync]) M := by
  obtain ⟨Mi, hg, hpc, ⟨h0, hrun, hhas⟩ | ⟨hne, hrun⟩⟩ := h
  · obtain ⟨x1, y1, v1, hst⟩ := hg.stepAt
    rcases hd with hd | hd
    · exact absurd h0 hd
    · subst hd h0
      rw [plan_end9 _ _ _ (Nat.le_refl _), List.nil_append, ra_sing] at hrun
      exact ⟨Mi, x1, y1, v1, hst, by rw [if_pos rfl, hrun]; rfl⟩
  · obtain ⟨x1, y1, v1, hst⟩ := hg.stepAt
    exact ⟨Mi, x1, y1, v1, hst, by rw [if_neg hne, hrun]⟩
end
end Go.Proofs.YtlgeijbgkipliaaGreatDoor
