/- ChkP2 ChkP3 ChkP4 ChkE1 ChkE2 ChkE3 -/
import Derived.Deep.CutRange
import Derived.Test.YtlgeijbgkipliaaGreatDoorUChecksSure45
import Derived.Test.YtlgeijbgkipliaaGreatDoorUChecksSure03
import Derived.Test.YtlgeijbgkipliaaGreatDoorUChecksSure41
set_option linter.unusedVariables false
set_option linter.unusedSimpArgs false
namespace Go.Proofs.YtlgeijbgkipliaaGreatDoor
open Go.RowKit
set_option maxRecDepth 100000 in
set_option maxHeartbeats 8000000 in
theorem put_room {w0 w : World} {d c : Nat} {M : DiskM} {Os : List Og} {file many : Int} {P : List Value} {st : Int} {t : ByteArray} {nx : Bool} {Q : Exit → Act → World → Prop} {g1 g2 g3 g4 g5 g6 g7 g8 g10 g12 g13 g14 g15 g16 g17 g18 g19 g20 g21 g22 g23 g24 g25 g26 g27 g28 g29 g30 g31 g32 g33 g34 g35 g36 g37 g38 g39 g40 g41 g42 g43 g44 g45 g46 g47 g48 g49 g50 g51 g52 g53 g54 g55 g56 g57 g58 g59 g60 g61 g62 g63 g64 g65 g66 g67 g68 g69 g70 g71 g72 g73 g74 g75 g76 g77 g78 g79 g80 g81 g82 g83 g84 g85 g86 g87 g88 g89 g90 g91 g92 g93 g94 g95 g96 g97 g98 g99 g100 g101 g102 g103 g104 g105 g106 : Value} {c1 c2 : Code} {K : Act → World → Prop} (hK : ∀ a w, Code.wp Tryz.prog c2 Q a w → K a w) (hcode : codeSeq 9 (Tryz.f23.body.getD .skip) = some (.seq c1 c2)) (h : Owg w0 w d M (.blk c (chkC d file many P st false) 74 :: Os)) (f0 : -1 ≤ file) (f1 : file ≤ 1000000)
    (HP : ∀ c a (k : Nat) v w, Q (.panic c) (Act.put a (some k) v) w → Q (.panic c) a w) (HNO : ∀ (_ : ((decide (M.cap - M.total < (t.size : Int))) || (nx && (decide (1000 ≤ file + 1) || decide (100 ≤ M.files.length)))) = true) (v42 v43 v44 v45 v46 v47 v48 v49 v50 v51 v52 v53 v54 v55 v56 v57 v58 v59 v60 v61 v62 v63 v64 v65 v66 v67 v68 v69 : Value) (w' : World), Hid (Owg w0 w' d M (.blk c (chkC d file many P st false) 74 :: Os)) → Q .ret ⟨List.toArray ((.pointer (some ⟨c, 0, none⟩)) :: g1 :: g2 :: g3 :: g4 :: g5 :: (.int .i64 60) :: g7 :: g8 :: (.string t) :: g10 :: (.bool nx) :: g12 :: g13 :: g14 :: g15 :: g16 :: g17 :: g18 :: g19 :: g20 :: g21 :: g22 :: g23 :: g24 :: g25 :: g26 :: g27 :: g28 :: g29 :: g30 :: g31 :: g32 :: g33 :: g34 :: g35 :: g36 :: g37 :: g38 :: g39 :: g40 :: g41 :: v42 :: v43 :: v44 :: v45 :: v46 :: v47 :: v48 :: v49 :: v50 :: v51 :: v52 :: v53 :: v54 :: v55 :: v56 :: v57 :: v58 :: v59 :: v60 :: v61 :: v62 :: v63 :: v64 :: v65 :: v66 :: v67 :: v68 :: v69 :: g70 :: g71 :: g72 :: g73 :: g74 :: g75 :: g76 :: g77 :: g78 :: g79 :: g80 :: g81 :: g82 :: g83 :: g84 :: g85 :: g86 :: g87 :: g88 :: g89 :: g90 :: g91 :: g92 :: g93 :: g94 :: g95 :: g96 :: g97 :: g98 :: g99 :: g100 :: g101 :: g102 :: g103 :: g104 :: g105 :: g106 :: []), []⟩ w') (HYES : ∀ (_ : ((decide (M.cap - M.total < (t.size : Int))) || (nx && (decide (1000 ≤ file + 1) || decide (100 ≤ M.files.length)))) = false) (v42 v43 v44 v45 v46 v47 v48 v49 v50 v51 v52 v53 v54 v55 v56 v57 v58 v59 v60 v61 v62 v63 v64 v65 v66 v67 v68 v69 : Value) (w' : World), Hid (Owg w0 w' d M (.blk c (chkC d file many P st false) 74 :: Os)) → Q .normal ⟨List.toArray ((.pointer (some ⟨c, 0, none⟩)) :: g1 :: g2 :: g3 :: g4 :: g5 :: g6 :: g7 :: g8 :: (.string t) :: g10 :: (.bool nx) :: g12 :: g13 :: g14 :: g15 :: g16 :: g17 :: g18 :: g19 :: g20 :: g21 :: g22 :: g23 :: g24 :: g25 :: g26 :: g27 :: g28 :: g29 :: g30 :: g31 :: g32 :: g33 :: g34 :: g35 :: g36 :: g37 :: g38 :: g39 :: g40 :: g41 :: v42 :: v43 :: v44 :: v45 :: v46 :: v47 :: v48 :: v49 :: v50 :: v51 :: v52 :: v53 :: v54 :: v55 :: v56 :: v57 :: v58 :: v59 :: v60 :: v61 :: v62 :: v63 :: v64 :: v65 :: v66 :: v67 :: v68 :: v69 :: g70 :: g71 :: g72 :: g73 :: g74 :: g75 :: g76 :: g77 :: g78 :: g79 :: g80 :: g81 :: g82 :: g83 :: g84 :: g85 :: g86 :: g87 :: g88 :: g89 :: g90 :: g91 :: g92 :: g93 :: g94 :: g95 :: g96 :: g97 :: g98 :: g99 :: g100 :: g101 :: g102 :: g103 :: g104 :: g105 :: g106 :: []), []⟩ w') :
    Code.wp Tryz.prog c1 (Exit.then K Q) ⟨List.toArray ((.pointer (some ⟨c, 0, none⟩)) :: g1 :: g2 :: g3 :: g4 :: g5 :: g6 :: g7 :: g8 :: (.string t) :: g10 :: (.bool nx) :: g12 :: g13 :: g14 :: g15 :: g16 :: g17 :: g18 :: g19 :: g20 :: g21 :: g22 :: g23 :: g24 :: g25 :: g26 :: g27 :: g28 :: g29 :: g30 :: g31 :: g32 :: g33 :: g34 :: g35 :: g36 :: g37 :: g38 :: g39 :: g40 :: g41 :: g42 :: g43 :: g44 :: g45 :: g46 :: g47 :: g48 :: g49 :: g50 :: g51 :: g52 :: g53 :: g54 :: g55 :: g56 :: g57 :: g58 :: g59 :: g60 :: g61 :: g62 :: g63 :: g64 :: g65 :: g66 :: g67 :: g68 :: g69 :: g70 :: g71 :: g72 :: g73 :: g74 :: g75 :: g76 :: g77 :: g78 :: g79 :: g80 :: g81 :: g82 :: g83 :: g84 :: g85 :: g86 :: g87 :: g88 :: g89 :: g90 :: g91 :: g92 :: g93 :: g94 :: g95 :: g96 :: g97 :: g98 :: g99 :: g100 :: g101 :: g102 :: g103 :: g104 :: g105 :: g106 :: []), []⟩ w := by
  have HP := Lib.hid HP
  have HNO := Lib.hid HNO
  have HYES := Lib.hid HYES
  simp only [Tryz.f23, Option.getD_some, codeSeq, codeBlock, codeCond, Nat.reduceEqDiff, ↓reduceIte, Option.none_or, Option.or_none, Option.some_or, Option.some.injEq, Code.seq.injEq] at hcode
  obtain ⟨rfl, rfl⟩ := hcode
  have HFR := Lib.hid h.dfree
  have c0 := (chk_blk h).cell (i := 0) rfl
  have c1 := (chk_blk h).cell (i := 1) rfl
  have HH := Lib.hid h
  clear h
  generalize hT : M.cap - M.total = T at *
  by_cases h1 : T < (t.size : Int)
  · have x1 : decide (T < (t.size : Int)) = true := decide_eq_true h1
    have HNO := Lib.hid (HNO.out (by simp [h1]))
    clear h1 hT HYES
    go_wp2_with first
      | (go_at_call 46; refine HFR.out.mono ?_; rintro e w1 ⟨rfl, h1⟩; have H1 := Lib.hid h1; have c01 := (chk_blk h1).cell (i := 0) rfl; have c11 := (chk_blk h1).cell (i := 1) rfl; clear h1)
    exact HNO.out _ _ _ _ _ _ _ _ _ _ _ _ _ _ _ _ _ _ _ _ _ _ _ _ _ _ _ _ _ H1
  · have x1 : decide (T < (t.size : Int)) = false := decide_eq_false h1
    cases nx with
    | false =>
      have HYES := Lib.hid (HYES.out (by simp [h1]))
      clear h1 hT HNO
      go_wp2_with first
        | (go_at_call 46; refine HFR.out.mono ?_; rintro e w1 ⟨rfl, h1⟩; have H1 := Lib.hid h1; have c01 := (chk_blk h1).cell (i := 0) rfl; have c11 := (chk_blk h1).cell (i := 1) rfl; clear h1)
      exact HYES.out _ _ _ _ _ _ _ _ _ _ _ _ _ _ _ _ _ _ _ _ _ _ _ _ _ _ _ _ _ H1
    | true =>
      by_cases h2 : 1000 ≤ file + 1
      · have x2 : decide (1000 ≤ file + 1) = true := decide_eq_true h2
        have HNO := Lib.hid (HNO.out (by simp [h2]))
        clear h1 hT HYES
        go_wp2_with first
          | (go_at_call 46; refine HFR.out.mono ?_; rintro e w1 ⟨rfl, h1⟩; have H1 := Lib.hid h1; have c01 := (chk_blk h1).cell (i := 0) rfl; have c11 := (chk_blk h1).cell (i := 1) rfl; clear h1)
        exact HNO.out _ _ _ _ _ _ _ _ _ _ _ _ _ _ _ _ _ _ _ _ _ _ _ _ _ _ _ _ _ H1
      · have x2 : decide (1000 ≤ file + 1) = false := decide_eq_false h2
        by_cases h3 : 100 ≤ M.files.length
        · have hz : decide ((100 : Int) ≤ (M.files.length : Int)) = true := decide_eq_true (by omega)
          have HNO := Lib.hid (HNO.out (by simp [h3]))
          clear h1 hT h2 h3 HYES
          go_wp2_with first
            | (go_at_call 46; refine HFR.out.mono ?_; rintro e w1 ⟨rfl, h1⟩; have H1 := Lib.hid h1; have c01 := (chk_blk h1).cell (i := 0) rfl; have c11 := (chk_blk h1).cell (i := 1) rfl; clear h1)
            | (go_at_call 28; refine H1.out.dfiles.mono ?_; rintro e w2 ⟨fa, fn, fc, rfl, hn, h2⟩; have H2 := Lib.hid h2.drop; clear h2; have z1 : decide ((100 : Int) ≤ (fn : Int)) = true := by rw [hn]; exact hz)
          exact HNO.out _ _ _ _ _ _ _ _ _ _ _ _ _ _ _ _ _ _ _ _ _ _ _ _ _ _ _ _ _ H2
        · have hz : decide ((100 : Int) ≤ (M.files.length : Int)) = false := decide_eq_false (by omega)
          have HYES := Lib.hid (HYES.out (by simp [h1, h2, h3]))
          clear h1 hT h2 h3 HNO
          go_wp2_with first
            | (go_at_call 46; refine HFR.out.mono ?_; rintro e w1 ⟨rfl, h1⟩; have H1 := Lib.hid h1; have c01 := (chk_blk h1).cell (i := 0) rfl; have c11 := (chk_blk h1).cell (i := 1) rfl; clear h1)
            | (go_at_call 28; refine H1.out.dfiles.mono ?_; rintro e w2 ⟨fa, fn, fc, rfl, hn, h2⟩; have H2 := Lib.hid h2.drop; clear h2; have z1 : decide ((100 : Int) ≤ (fn : Int)) = false := by rw [hn]; exact hz)
          exact HYES.out _ _ _ _ _ _ _ _ _ _ _ _ _ _ _ _ _ _ _ _ _ _ _ _ _ _ _ _ _ H2
end Go.Proofs.YtlgeijbgkipliaaGreatDoor

namespace Go.Proofs.YtlgeijbgkipliaaGreatDoor
open Go.RowKit
section
variable {w0 w w' : World} {d c : Nat} {M : DiskM} {Os : List Og} {x y : Og} {B : Nat → Prop}
theorem FrG.add2 (h : FrG w0 w d M B Os) (hk : Kept (fun _ => False) w w') (hx : x.holds w' d) (hy : y.holds w' d) (ho : ∀ k, x.own k → w.heap.size ≤ k) (ho2 : ∀ k, y.own k → w.heap.size ≤ k) (hxy : ∀ k, x.own k → ¬ y.own k) : FrG w0 w' d M (fun k => B k ∨ (x.own k ∨ y.own k)) (x :: y :: Os) := by
  have hlt : ∀ z ∈ Os, ∀ k, z.own k → k < w.heap.size := fun z q k e => Og.lt (h.obs z q).1 e
  refine ⟨h.ap.grow hk (fun _ _ => False.elim) (fun k q => q.imp id (fun q => q.elim (fun q => ⟨ho k q, Og.lt hx q⟩) (fun q => ⟨ho2 k q, Og.lt hy q⟩))), fun k q => Or.inl (h.old k q), h.tab0, h.kept.trans hk, fun z q => ?_, List.pairwise_cons.2 ⟨fun z q k e e2 => ?_, List.pairwise_cons.2 ⟨fun z q k e e2 => ?_, h.apart⟩⟩⟩
  · rcases List.mem_cons.1 q with rfl | q
    · exact ⟨hx, fun k e => ⟨Or.inr (Or.inl e), Nat.le_trans h.kept.size (ho k e)⟩⟩
    · rcases List.mem_cons.1 q with rfl | q
      · exact ⟨hy, fun k e => ⟨Or.inr (Or.inr e), Nat.le_trans h.kept.size (ho2 k e)⟩⟩
      · have hz := h.obs z q
        exact ⟨Og.keep hz.1 hk (fun _ _ => id), fun k e => ⟨Or.inl (hz.2 k e).1, (hz.2 k e).2⟩⟩
  · rcases List.mem_cons.1 q with rfl | q
    · exact hxy k e e2
    · have := hlt z q k e2; have := ho k e; omega
  · have := hlt z q k e2; have := ho2 k e; omega
theorem Owg.add2 (h : Owg w0 w d M Os) (hk : Kept (fun _ => False) w w') (hx : x.holds w' d) (hy : y.holds w' d) (ho : ∀ k, x.own k → w.heap.size ≤ k) (ho2 : ∀ k, y.own k → w.heap.size ≤ k) (hxy : ∀ k, x.own k → ¬ y.own k) : Owg w0 w' d M (x :: y :: Os) := by
  obtain ⟨B, h⟩ := h
  exact ⟨_, h.add2 hk hx hy ho ho2 hxy⟩
theorem chkC_splice {d : Nat} {file many : Int} {P P' : List Value} {st : Int} {dead : Bool} (hP : P.length = 38) (hP' : P'.length = 38) : splice (chkC d file many P st dead) 3 P' = chkC d file many P' st dead := by
  unfold splice chkC
  simp only [List.take_succ_cons, List.take_zero, List.cons_append, List.nil_append, hP', List.drop_succ_cons]
  rw [List.drop_append_of_le_length (by omega), List.drop_of_length_le (by omega)]
  rfl
theorem chk_stored {file many : Int} {P P' : List Value} {st : Int} (h : Owg w0 w d M (.blk c (chkC d file many P st false) 74 :: Os)) (hP : P.length = 38) (hP' : P'.length = 38) :
    w.there c 3 P'.toArray.size ∧ Owg w0 (w.setCells c 3 P') d M (.blk c (chkC d file many P' st false) 74 :: Os) := by
  have hl : (chkC d file many P st false).length = 43 := by simp [chkC, hP]
  have hl2 : (chkC d file many P' st false).length = 43 := by simp [chkC, hP']
  refine ⟨(chk_blk h).there 3 _ (by rw [List.size_toArray, hl]; omega), ?_⟩
  have h2 := (chk_blk h).setCells 3 P' (by omega)
  rw [chkC_splice hP hP'] at h2
  exact h.turn (kept_setCells _ _ _ _) h2
theorem chk_more {file many : Int} {P : List Value} {st : Int} (h : Owg w0 w d M (.blk c (chkC d file many P st false) 74 :: Os)) : Owg w0 (w.setCell ⟨c, 2, none⟩ (.int .i64 (many + 1))) d M (.blk c (chkC d file (many + 1) P st false) 74 :: Os) := by
  have h2 := h.turn (kept_cell w c 2 (.int .i64 (many + 1))) ((chk_blk h).set 2 _)
  rw [chkC_set2] at h2
  exact h2
end
theorem put_own {w0 w1 w2 : World} {d c b8 : Nat} {M : DiskM} {Os : List Og} {file many : Int} {P : List Value} {st : Int} {p : PtM} {u v u1 v1 : Value} (h : Owg w0 w1 d M (.blk c (chkC d file many P st false) 74 :: .blk b8 (p.cells u v) 72 :: Os))
    (h1 : Row w2 57 32 u1 (hcells p.hs) ∧ ∀ k, u1.ownBlock = some k → w1.heap.size ≤ k) (h2 : Row w2 57 32 v1 (hcells p.path) ∧ ∀ k, v1.ownBlock = some k → w1.heap.size ≤ k) (h3 : ∀ k, u1.ownBlock = some k → ¬ v1.ownBlock = some k) (hk : Kept (fun _ => False) w1 w2) (hP : P.length = 38) (hp : p.Ok) :
    w2.there c 3 (p.cells u1 v1).toArray.size ∧ Owg w0 (w2.setCells c 3 (p.cells u1 v1)) d M (.blk c (chkC d file many (p.cells u1 v1) st false) 74 :: .hrow u1 p.hs :: .hrow v1 p.path :: .blk b8 (p.cells u v) 72 :: Os) := by
  have h4 := h.add2 (x := .hrow u1 p.hs) (y := .hrow v1 p.path) hk h1.1 h2.1 h1.2 h2.2 h3
  have h5 : Owg w0 w2 d M (.blk c (chkC d file many P st false) 74 :: .hrow u1 p.hs :: .hrow v1 p.path :: .blk b8 (p.cells u v) 72 :: Os) := h4.perm (((List.Perm.swap _ _ _).cons _).trans (List.Perm.swap _ _ _))
  exact chk_stored h5 hP (p.cells_len hp _ _)
def Put1 (w0 w' : World) (d c : Nat) (M : DiskM) (Os : List Og) (file many st : Int) (p : PtM) : Prop :=
  ∃ a1 c1 b1 d1, Owg w0 w' d M (.blk c (chkC d file many (p.cells (.slice a1 p.hs.length c1) (.slice b1 3 d1)) st false) 74 :: .hrow (.slice a1 p.hs.length c1) p.hs :: .hrow (.slice b1 3 d1) p.path :: Os)
set_option maxRecDepth 100000 in
set_option maxHeartbeats 8000000 in
theorem put_lays {w0 w : World} {d c b8 : Nat} {M M' : DiskM} {Os : List Og} {file many y : Int} {P : List Value} {st : Int} {t : ByteArray} {nx : Bool} {p : PtM} {a b : Option Addr} {ca cb : Nat} {Q : Exit → Act → World → Prop} {g1 g2 g3 g4 g5 g6 g7 g10 g12 g13 g14 g15 g16 g17 g18 g19 g20 g21 g22 g23 g24 g25 g26 g27 g28 g29 g30 g31 g32 g33 g34 g35 g36 g37 g38 g39 g40 g41 g42 g43 g44 g45 g46 g47 g48 g49 g50 g51 g52 g53 g54 g55 g56 g57 g58 g59 g60 g61 g62 g63 g64 g65 g66 g67 g68 g69 g70 g71 g72 g73 g74 g75 g76 g77 g78 g79 g80 g81 g82 g83 g84 g85 g86 g87 g88 g89 g90 g91 g92 g93 g94 g95 g96 g97 g98 g99 g100 g101 g102 g103 g104 g105 g106 : Value} {c1 c2 : Code} {K : Act → World → Prop} (hK : ∀ a w, Code.wp Tryz.prog c2 Q a w → K a w) (hcode : codeSeq 11 (Tryz.f23.body.getD .skip) = some (.seq c1 c2)) (h : Owg w0 w d M (.blk c (chkC d file many P st false) 74 :: .blk b8 (p.cells (.slice a p.hs.length ca) (.slice b 3 cb)) 72 :: Os)) (hP : P.length = 38) (hp : p.Ok) (hv : ∀ w' M', Owg w0 w' d M' Os → View w' 32 (.slice a p.hs.length ca) (hcells p.hs) ∧ View w' 32 (.slice b 3 cb) (hcells p.path)) (f0 : -1 ≤ file) (f1 : file ≤ 1000000) (m0 : 0 ≤ many) (m1 : many ≤ 1000) (hn : nx = false → 0 ≤ file) (hc : M.files.length + M.loose.length < 300000000) (hc1 : (M.create (file + 1)).2.files.length + (M.create (file + 1)).2.loose.length < 300000000) (he : (if nx = true then freshM M file t.data.toList else layM M file t.data.toList) = (y, M'))
    (HP : ∀ c a (k : Nat) v w, Q (.panic c) (Act.put a (some k) v) w → Q (.panic c) a w) (HR : ∀  (v12 v70 v71 v72 v73 v74 v75 v76 v77 v78 v79 v80 v81 v82 v83 v84 v85 v86 v87 v88 v89 v90 v91 v92 v93 v94 v95 v96 v97 v98 v99 v100 v101 v102 v103 v104 v105 v106 : Value) (w' : World), (y = 0 → Hid (Put1 w0 w' d c M' (.blk b8 (p.cells (.slice a p.hs.length ca) (.slice b 3 cb)) 72 :: Os) (if nx = true then file + 1 else file) (if nx = true then 1 else many + 1) st p)) → (y ≠ 0 → Hid (Owg w0 w' d M' (.blk c (chkC d file many P st (y == 61)) 74 :: .blk b8 (p.cells (.slice a p.hs.length ca) (.slice b 3 cb)) 72 :: Os))) → Q .ret ⟨List.toArray ((.pointer (some ⟨c, 0, none⟩)) :: g1 :: g2 :: g3 :: g4 :: g5 :: (.int .i64 y) :: g7 :: (.pointer (some ⟨b8, 0, none⟩)) :: (.string t) :: g10 :: (.bool nx) :: v12 :: g13 :: g14 :: g15 :: g16 :: g17 :: g18 :: g19 :: g20 :: g21 :: g22 :: g23 :: g24 :: g25 :: g26 :: g27 :: g28 :: g29 :: g30 :: g31 :: g32 :: g33 :: g34 :: g35 :: g36 :: g37 :: g38 :: g39 :: g40 :: g41 :: g42 :: g43 :: g44 :: g45 :: g46 :: g47 :: g48 :: g49 :: g50 :: g51 :: g52 :: g53 :: g54 :: g55 :: g56 :: g57 :: g58 :: g59 :: g60 :: g61 :: g62 :: g63 :: g64 :: g65 :: g66 :: g67 :: g68 :: g69 :: v70 :: v71 :: v72 :: v73 :: v74 :: v75 :: v76 :: v77 :: v78 :: v79 :: v80 :: v81 :: v82 :: v83 :: v84 :: v85 :: v86 :: v87 :: v88 :: v89 :: v90 :: v91 :: v92 :: v93 :: v94 :: v95 :: v96 :: v97 :: v98 :: v99 :: v100 :: v101 :: v102 :: v103 :: v104 :: v105 :: v106 :: []), []⟩ w') :
    Code.wp Tryz.prog c1 (Exit.then K Q) ⟨List.toArray ((.pointer (some ⟨c, 0, none⟩)) :: g1 :: g2 :: g3 :: g4 :: g5 :: g6 :: g7 :: (.pointer (some ⟨b8, 0, none⟩)) :: (.string t) :: g10 :: (.bool nx) :: g12 :: g13 :: g14 :: g15 :: g16 :: g17 :: g18 :: g19 :: g20 :: g21 :: g22 :: g23 :: g24 :: g25 :: g26 :: g27 :: g28 :: g29 :: g30 :: g31 :: g32 :: g33 :: g34 :: g35 :: g36 :: g37 :: g38 :: g39 :: g40 :: g41 :: g42 :: g43 :: g44 :: g45 :: g46 :: g47 :: g48 :: g49 :: g50 :: g51 :: g52 :: g53 :: g54 :: g55 :: g56 :: g57 :: g58 :: g59 :: g60 :: g61 :: g62 :: g63 :: g64 :: g65 :: g66 :: g67 :: g68 :: g69 :: g70 :: g71 :: g72 :: g73 :: g74 :: g75 :: g76 :: g77 :: g78 :: g79 :: g80 :: g81 :: g82 :: g83 :: g84 :: g85 :: g86 :: g87 :: g88 :: g89 :: g90 :: g91 :: g92 :: g93 :: g94 :: g95 :: g96 :: g97 :: g98 :: g99 :: g100 :: g101 :: g102 :: g103 :: g104 :: g105 :: g106 :: []), []⟩ w := by
  have HP := Lib.hid HP
  have HR := Lib.hid HR
  simp only [Tryz.f23, Option.getD_some, codeSeq, codeBlock, codeCond, Nat.reduceEqDiff, ↓reduceIte, Option.none_or, Option.or_none, Option.some_or, Option.some.injEq, Code.seq.injEq] at hcode
  obtain ⟨rfl, rfl⟩ := hcode
  have HP38 := Lib.hid hP
  have HRO := Lib.hid hv
  have e8 := (h.has (x := .blk b8 (p.cells (.slice a p.hs.length ca) (.slice b 3 cb)) 72) (by simp))
  have q4 := fun (x y : Int) => (chkC_at (d := d) (file := x) (many := y) (st := st) (dead := false) hP).2.2.2.2
  cases nx with
  | true =>
    rw [if_pos rfl] at he
    have HF := Lib.hid (chk_fresh h f0 f1 t hc hc1 he)
    clear he hc hc1
    by_cases hy : y = 0
    · subst hy
      unfold freshC at HF
      rw [if_pos rfl] at HF
      have HP8 := Lib.hid e8
      clear e8 h
      go_upto_region 18 with (go_at_call 76; refine HF.out.mono ?_; rintro e w1 ⟨rfl, h1⟩; have H1 := Lib.hid h1; have e5 := (chk_blk h1).cell (q4 _ _); have z5 := (chk_blk h1).free 42; clear h1)
      clear e5 z5
      have HV := Lib.hid (HRO.out _ _ H1.out.drop.drop)
      have HO := Lib.hid (own_any w1 (p.size : Int) a b p.hs.length ca 3 cb p.hs p.path (p.z : Int) p.root (p.i : Int) p.sig hp.hr HV.out.1 HV.out.2 hp.h32 hp.p32 (by have := hp.hlen; omega) (by have := hp.p3; omega))
      have HPB := Lib.hid (H1.out.has (x := .blk b8 (p.cells (.slice a p.hs.length ca) (.slice b 3 cb)) 72) (by simp)).range0
      have HPO := Lib.hid hp
      clear hp hv hP
      go_upto_region 19 with first
        | ((with_reducible show wpList _ _ _ (⟨some 96, _, _, _, _, _⟩ :: _) _ _); refine wpList_load_mid rfl 72 _ rfl b8 0 rfl (p.cells (.slice a p.hs.length ca) (.slice b 3 cb)) _ HPB.out Tryz.underlying72 rfl (by rw [p.cells_len HPO.out]; exact info_point) ?_)
        | (go_at_call 71; refine HO.out.mono ?_; rintro e w2 ⟨a1, c1, b1, d1, rfl, H2⟩; have HS := Lib.hid (put_own H1.out H2.out.1 H2.out.2.1 H2.out.2.2.1 H2.out.2.2.2 HP38.out HPO.out))
        | ((with_reducible show wpList _ _ _ (⟨none, .store _ (.tmp 99) _, _, _, _, _⟩ :: _) _ _); refine wpList_store_mid rfl 72 _ _ rfl c 3 (p.cells (.slice a1 p.hs.length c1) (.slice b1 3 d1)).toArray rfl rfl HS.out.1 (by rw [List.size_toArray, p.cells_len HPO.out]; exact info_point) (all_oneCell_toArray (point_one rfl rfl)) ?_)
      generalize hW3 : World.setCells _ _ _ _ = W3
      have H3 := Lib.hid (show Owg w0 W3 d M' _ from by rw [← hW3]; exact HS.out.2)
      have c21 := (chk_blk H3.out).cell (i := 2) rfl
      have z21 := (chk_blk H3.out).free 2
      clear hW3 HS
      go_wp2_with fail
      exact HR.out _ _ _ _ _ _ _ _ _ _ _ _ _ _ _ _ _ _ _ _ _ _ _ _ _ _ _ _ _ _ _ _ _ _ _ _ _ _ _ (fun _ => Lib.hid ⟨a1, c1, b1, d1, chk_more H3.out⟩) (fun q => (q rfl).elim)
    · have y0 : (y != 0) = true := by rw [bne_iff_ne]; exact hy
      unfold freshC at HF
      rw [if_neg hy] at HF
      clear h e8
      go_wp2_with (go_at_call 76; refine HF.out.mono ?_; rintro e w1 ⟨rfl, h1⟩; have H1 := Lib.hid h1; have e5 := (chk_blk h1).cell (q4 _ _); have z5 := (chk_blk h1).free 42; clear h1)
      exact HR.out _ _ _ _ _ _ _ _ _ _ _ _ _ _ _ _ _ _ _ _ _ _ _ _ _ _ _ _ _ _ _ _ _ _ _ _ _ _ _ (fun q => (hy q).elim) (fun _ => Lib.hid (chk_dead H1.out HP38.out (y == 61)))
  | false =>
    rw [if_neg (by simp)] at he
    have c1 := (chk_blk h).cell (i := 1) rfl
    have HF := Lib.hid (chk_lay h file (by have := hn rfl; omega) t hc he)
    clear he hc hc1
    by_cases hy : y = 0
    · subst hy
      have HP8 := Lib.hid e8
      clear e8 h
      go_upto_region 18 with (go_at_call 77; refine HF.out.mono ?_; rintro e w1 ⟨rfl, h1⟩; have H1 := Lib.hid h1; have e5 := (chk_blk h1).cell (q4 _ _); have z5 := (chk_blk h1).free 42; clear h1)
      clear e5 z5
      have HV := Lib.hid (HRO.out _ _ H1.out.drop.drop)
      have HO := Lib.hid (own_any w1 (p.size : Int) a b p.hs.length ca 3 cb p.hs p.path (p.z : Int) p.root (p.i : Int) p.sig hp.hr HV.out.1 HV.out.2 hp.h32 hp.p32 (by have := hp.hlen; omega) (by have := hp.p3; omega))
      have HPB := Lib.hid (H1.out.has (x := .blk b8 (p.cells (.slice a p.hs.length ca) (.slice b 3 cb)) 72) (by simp)).range0
      have HPO := Lib.hid hp
      clear hp hv hP
      go_upto_region 19 with first
        | ((with_reducible show wpList _ _ _ (⟨some 96, _, _, _, _, _⟩ :: _) _ _); refine wpList_load_mid rfl 72 _ rfl b8 0 rfl (p.cells (.slice a p.hs.length ca) (.slice b 3 cb)) _ HPB.out Tryz.underlying72 rfl (by rw [p.cells_len HPO.out]; exact info_point) ?_)
        | (go_at_call 71; refine HO.out.mono ?_; rintro e w2 ⟨a1, c1, b1, d1, rfl, H2⟩; have HS := Lib.hid (put_own H1.out H2.out.1 H2.out.2.1 H2.out.2.2.1 H2.out.2.2.2 HP38.out HPO.out))
        | ((with_reducible show wpList _ _ _ (⟨none, .store _ (.tmp 99) _, _, _, _, _⟩ :: _) _ _); refine wpList_store_mid rfl 72 _ _ rfl c 3 (p.cells (.slice a1 p.hs.length c1) (.slice b1 3 d1)).toArray rfl rfl HS.out.1 (by rw [List.size_toArray, p.cells_len HPO.out]; exact info_point) (all_oneCell_toArray (point_one rfl rfl)) ?_)
      generalize hW3 : World.setCells _ _ _ _ = W3
      have H3 := Lib.hid (show Owg w0 W3 d M' _ from by rw [← hW3]; exact HS.out.2)
      have c21 := (chk_blk H3.out).cell (i := 2) rfl
      have z21 := (chk_blk H3.out).free 2
      clear hW3 HS
      go_wp2_with fail
      exact HR.out _ _ _ _ _ _ _ _ _ _ _ _ _ _ _ _ _ _ _ _ _ _ _ _ _ _ _ _ _ _ _ _ _ _ _ _ _ _ _ (fun _ => Lib.hid ⟨a1, c1, b1, d1, chk_more H3.out⟩) (fun q => (q rfl).elim)
    · have y0 : (y != 0) = true := by rw [bne_iff_ne]; exact hy
      clear h e8
      go_wp2_with (go_at_call 77; refine HF.out.mono ?_; rintro e w1 ⟨rfl, h1⟩; have H1 := Lib.hid h1; have e5 := (chk_blk h1).cell (q4 _ _); have z5 := (chk_blk h1).free 42; clear h1)
      exact HR.out _ _ _ _ _ _ _ _ _ _ _ _ _ _ _ _ _ _ _ _ _ _ _ _ _ _ _ _ _ _ _ _ _ _ _ _ _ _ _ (fun q => (hy q).elim) (fun _ => Lib.hid (chk_dead H1.out HP38.out (y == 61)))
end Go.Proofs.YtlgeijbgkipliaaGreatDoor

namespace Go.Proofs.YtlgeijbgkipliaaGreatDoor
open Go.RowKit
theorem create_few {M : DiskM} {n : Int} : (M.create n).2.files.length + (M.create n).2.loose.length ≤ M.files.length + M.loose.length + 1 := by
  have hf : M.tick.files = M.files := by unfold DiskM.tick; split <;> rfl
  have hl : M.tick.loose = M.loose := by unfold DiskM.tick; split <;> rfl
  unfold DiskM.create
  split
  · exact Nat.le_succ _
  split
  · exact Nat.le_succ _
  split
  · exact Nat.le_succ _
  split
  · exact Nat.le_succ _
  split
  · have h1 := DiskM.crashed_len M.tick.files (DiskM.gone M.tick.loose M.keep)
    have h2 := DiskM.gone_len M.tick.loose M.keep
    rw [hf, hl] at h1
    rw [hl] at h2
    show (DiskM.crashed M.tick.files (DiskM.gone M.tick.loose M.keep)).length + 0 ≤ _
    rw [hf, hl]
    omega
  · have h1 := AM.length_set_le M.files n ([] : By)
    show (AM.set M.files n []).length + M.tick.loose.length ≤ _
    rw [hl]
    omega
def PutTo (w0 : World) (d c : Nat) (C' : ChkM) (M' : DiskM) (P : List Value) (p : PtM) (Os : List Og) (y : Int) (e : Ending) (w' : World) : Prop :=
  e = .returned (.int .i64 y) ∧ (y = 0 → Hid (Put1 w0 w' d c M' Os C'.file C'.many C'.starts p)) ∧ (y ≠ 0 → Hid (Owg w0 w' d M' (.blk c (chkC d C'.file C'.many P C'.starts C'.dead) 74 :: Os)))
theorem Put1.drop2 {w0 w : World} {d c : Nat} {M : DiskM} {x y z : Og} {Os : List Og} {file many st : Int} {p : PtM} (h : Put1 w0 w d c M (x :: y :: z :: Os) file many st p) : Put1 w0 w d c M Os file many st p := by
  obtain ⟨a1, c1, b1, d1, h⟩ := h
  exact ⟨a1, c1, b1, d1, h.sub (((((List.sublist_cons_self ..).cons _).cons _).cons_cons _).cons_cons _ |>.cons_cons _)⟩
theorem put_new {w0 w1 : World} {d : Nat} {M : DiskM} {x : Og} {Os : List Og} {p : PtM} (h : Owg w0 w1 d M (x :: Os)) (hp : p.Ok) (u v : Value) :
    (w1.alloc (.cells pointZ.toArray 72)).there w1.heap.size 0 (p.cells u v).toArray.size ∧ Owg w0 ((w1.alloc (.cells pointZ.toArray 72)).setCells w1.heap.size 0 (p.cells u v)) d M (x :: .blk w1.heap.size (p.cells u v) 72 :: Os) := by
  have hb := Blk.new w1 pointZ 72
  have hq := hb.setCells 0 (p.cells u v) (by rw [p.cells_len hp, pointZ_len]; omega)
  rw [splice_whole (by rw [p.cells_len hp, pointZ_len])] at hq
  have h2 := h.add (x := .blk w1.heap.size (p.cells u v) 72) (((Kept.refl (fun _ => False) w1).alloc (.cells pointZ.toArray 72)).then_ (kept_setCells _ _ _ _) (fun i hi e => by omega)) hq (fun k q => by have : k = w1.heap.size := q; omega)
  exact ⟨hb.there 0 _ (by rw [List.size_toArray, p.cells_len hp, pointZ_len]; omega), h2.two⟩
set_option maxRecDepth 100000 in
set_option maxHeartbeats 8000000 in
theorem chk_put {w0 w : World} {d c : Nat} {M M' : DiskM} {Os : List Og} {C C' : ChkM} {y : Int} {P : List Value} {p : PtM} {a b : Option Addr} {ca cb : Nat} (h : Owg w0 w d M (.blk c (chkC d C.file C.many P C.starts C.dead) 74 :: Os)) (hP : P.length = 38) (hp : p.Ok)
    (hv : ∀ w' M', Owg w0 w' d M' Os → View w' 32 (.slice a p.hs.length ca) (hcells p.hs) ∧ View w' 32 (.slice b 3 cb) (hcells p.path)) (hf : -1 ≤ C.file ∧ C.file ≤ 1000000) (hm : 0 ≤ C.many ∧ C.many ≤ 1000) (hc : M.files.length + M.loose.length < 200000000) (he : putM C M p.may p.frame = (y, C', M')) :
    Calls Tryz.prog 23 #[.pointer (some ⟨c, 0, none⟩), rngV (p.size : Int) (.slice a p.hs.length ca), signedV (p.z : Int) p.root (p.i : Int) p.sig (.slice b 3 cb)] w (PutTo w0 d c C' M' P p Os y) := by
  obtain ⟨W, hW⟩ : ∃ W : World, W = (w.alloc (.cells #[.int .i64 (p.size : Int), .slice a p.hs.length ca] 55)).alloc (.cells (signedC (p.z : Int) p.root (p.i : Int) p.sig (.slice b 3 cb)).toArray 63) := ⟨_, rfl⟩
  have h0 : Owg w0 W d M (.blk c (chkC d C.file C.many P C.starts C.dead) 74 :: .blk (w.heap.size + 1) (signedC (p.z : Int) p.root (p.i : Int) p.sig (.slice b 3 cb)) 63 :: .blk w.heap.size [.int .i64 (p.size : Int), .slice a p.hs.length ca] 55 :: Os) := by
    have h1 := (h.new [.int .i64 (p.size : Int), .slice a p.hs.length ca] 55).new (signedC (p.z : Int) p.root (p.i : Int) p.sig (.slice b 3 cb)) 63
    rw [World.size_alloc] at h1
    rw [hW]
    exact h1.perm (((List.Perm.swap _ _ _).cons _).trans (List.Perm.swap _ _ _))
  have HRY := Lib.hid (chk_ready h0 hP)
  have HPO := Lib.hid hp
  have HV := Lib.hid hv
  clear h hv h0 hp
  cases hoff : offB M C.starts C.dead with
  | true =>
    rw [putM_off hoff] at he
    rw [hoff] at HRY
    cases he
    go_enter Tryz.func23, Tryz.ntmps23
    go_upto_region 1 with fail
    generalize hWx : World.alloc _ _ = Wx
    obtain rfl : W = Wx := by rw [hW, ← hWx]
    clear hW hWx
    go_wp2_with (go_at_call 72; refine HRY.out.mono ?_; rintro e w1 ⟨rfl, h1⟩; have H1 := Lib.hid h1; clear h1)
    go_ret
    exact ⟨rfl, fun q => (by cases q), fun _ => Lib.hid (H1.out.sub ((((List.sublist_cons_self ..).cons _)).cons_cons _))⟩
  | false =>
    have hd : C.dead = false := by
      unfold offB at hoff
      cases hq : C.dead with
      | false => rfl
      | true => rw [hq] at hoff; simp at hoff
    rw [hoff] at HRY
    have iR : (Tryz.prog.info? 63).map (·.size) = some (signedC (p.z : Int) p.root (p.i : Int) p.sig (.slice b 3 cb)).length := by rw [signedC_len HPO.out.hr]; exact info_signed_
    have IR := Lib.hid iR
    have HR32 := Lib.hid HPO.out.hr
    clear iR
    go_enter Tryz.func23, Tryz.ntmps23
    go_upto_region 1 with fail
    generalize hWx : World.alloc _ _ = Wx
    obtain rfl : W = Wx := by rw [hW, ← hWx]
    clear hW hWx
    go_upto_region 4 with (go_at_call 72; refine HRY.out.mono ?_; rintro e w1 ⟨rfl, h1⟩; have H1 := Lib.hid h1; clear h1)
    have hbr := H1.out.has (x := .blk w.heap.size [.int .i64 (p.size : Int), .slice a p.hs.length ca] 55) (by simp)
    have r0 := Blk.cell (w := w1) hbr (i := 0) rfl
    have r1 := Blk.cell (w := w1) hbr (i := 1) rfl
    have hbs := H1.out.has (x := .blk (w.heap.size + 1) (signedC (p.z : Int) p.root (p.i : Int) p.sig (.slice b 3 cb)) 63) (by simp)
    have HBS := Lib.hid (Blk.range0 (w := w1) hbs)
    have HPN := Lib.hid (put_new (p := p) H1.out HPO.out (.slice a p.hs.length ca) (.slice b 3 cb))
    clear hbr hbs
    go_upto_region 5 with first
      | ((with_reducible show wpList _ _ _ (⟨some 19, _, _, _, _, _⟩ :: _) _ _); refine wpList_load_mid rfl 63 _ rfl (w.heap.size + 1) 0 rfl (signedC (p.z : Int) p.root (p.i : Int) p.sig (.slice b 3 cb)) _ HBS.out Tryz.underlying63 rfl IR.out ?_)
      | ((with_reducible show wpList _ _ _ (⟨some 20, _, _, _, _, _⟩ :: _) _ _); refine wpList_plain rfl (fun K hK => ?_); refine wp_build_point 18 19 rfl HR32.out (p.size : Int) (.slice a p.hs.length ca) (p.z : Int) (p.i : Int) p.sig (.slice b 3 cb) rfl rfl ?_; refine hK _ _ ?_; clear hK K)
      | ((with_reducible show wpList _ _ _ (⟨none, .store _ (.tmp 8) _, _, _, _, _⟩ :: _) _ _); refine wpList_store_mid rfl 72 _ _ rfl w1.heap.size 0 (p.cells (.slice a p.hs.length ca) (.slice b 3 cb)).toArray rfl rfl HPN.out.1 (by rw [List.size_toArray, p.cells_len HPO.out]; exact info_point) (all_oneCell_toArray (point_one rfl rfl)) ?_)
    generalize hW5 : World.setCells _ _ _ _ = W5
    have H5 := Lib.hid (show Owg w0 W5 d M _ from by rw [← hW5]; exact HPN.out.2)
    clear hW5 HPN HBS r0 r1 HRY
    generalize w1.heap.size = b8 at *
    have HPV := Lib.hid (HV.out _ _ H5.out.drop.drop.drop.drop)
    have HP8 := Lib.hid (Blk.range0 (w := W5) (H5.out.has (x := .blk b8 (p.cells (.slice a p.hs.length ca) (.slice b 3 cb)) 72) (by simp)))
    have HMY := Lib.hid (show Calls Tryz.prog 73 #[.agg (p.cells (.slice a p.hs.length ca) (.slice b 3 cb)).toArray] W5 fun e w' => e = .returned (.bool p.may) ∧ Kept (fun _ => False) W5 w' from may_any W5 p.size p.z p.i a ca p.hs p.root p.sig b cb HPV.out.1 HPO.out.h32 (by have := HPO.out.hlen; omega) HPO.out.hok H5.out.tab HPO.out.hr HPO.out.hz HPO.out.hi HPO.out.hsg)
    cases hmay : p.may with
    | false =>
      rw [hmay, putM_arg hoff] at he
      rw [hmay] at HMY
      cases he
      clear hmay hoff
      go_wp2_with first
        | ((with_reducible show wpList _ _ _ (⟨some 21, _, _, _, _, _⟩ :: _) _ _); refine wpList_load_mid rfl 72 _ rfl b8 0 rfl (p.cells (.slice a p.hs.length ca) (.slice b 3 cb)) _ HP8.out Tryz.underlying72 rfl (by rw [p.cells_len HPO.out]; exact info_point) ?_)
        | (go_at_call 73; refine HMY.out.mono ?_; rintro e w2 ⟨rfl, k2⟩; have H6 := Lib.hid (H5.out.same k2); clear k2)
      go_ret
      refine ⟨rfl, fun q => (by cases q), fun _ => Lib.hid ?_⟩
      rw [hd]
      exact H6.out.sub (((((List.sublist_cons_self ..).cons _).cons _)).cons_cons _)
    | true =>
      rw [hmay] at he HMY
      go_upto_region 7 with first
        | ((with_reducible show wpList _ _ _ (⟨some 21, _, _, _, _, _⟩ :: _) _ _); refine wpList_load_mid rfl 72 _ rfl b8 0 rfl (p.cells (.slice a p.hs.length ca) (.slice b 3 cb)) _ HP8.out Tryz.underlying72 rfl (by rw [p.cells_len HPO.out]; exact info_point) ?_)
        | (go_at_call 73; refine HMY.out.mono ?_; rintro e w2 ⟨rfl, k2⟩; have H6 := Lib.hid (H5.out.same k2); clear k2)
      have HPV6 := Lib.hid (HV.out _ _ H6.out.drop.drop.drop.drop)
      have HP86 := Lib.hid (Blk.range0 (w := w2) (H6.out.has (x := .blk b8 (p.cells (.slice a p.hs.length ca) (.slice b 3 cb)) 72) (by simp)))
      have HBY := Lib.hid (show Calls Tryz.prog 75 #[.agg (p.cells (.slice a p.hs.length ca) (.slice b 3 cb)).toArray] w2 fun e w' => e = .returned (.string ⟨p.bytes.toArray⟩) ∧ Kept (fun _ => False) w2 w' from pbytes_any w2 p.size p.z p.i a p.hs.length ca p.hs p.root p.sig b cb p.path HPV6.out.1 HPO.out.h32 HPO.out.hlen HPV6.out.2 HPO.out.p32 HPO.out.hsize HPO.out.hr HPO.out.hz HPO.out.hi HPO.out.hsg)
      have HFR := Lib.hid (fun w3 (k : Kept (fun _ => False) w2 w3) => frame_any w3 ⟨p.bytes.toArray⟩ (show p.bytes.toArray.size ≤ 65536 by rw [List.size_toArray]; have := PtM.bytes_len HPO.out; omega) (H6.out.same k).tab)
      clear HMY HP8 HPV H5
      go_upto_region 8 with first
        | ((with_reducible show wpList _ _ _ (⟨some 25, _, _, _, _, _⟩ :: _) _ _); refine wpList_load_mid rfl 72 _ rfl b8 0 rfl (p.cells (.slice a p.hs.length ca) (.slice b 3 cb)) _ HP86.out Tryz.underlying72 rfl (by rw [p.cells_len HPO.out]; exact info_point) ?_)
        | (go_at_call 75; refine HBY.out.mono ?_; rintro e w3 ⟨rfl, k3⟩; have K3 := Lib.hid k3; clear k3)
        | (go_at_call 74; refine (HFR.out w3 K3.out).mono ?_; rintro e w4 ⟨rfl, k4⟩; have H7 := Lib.hid (H6.out.same (K3.out.trans k4)); clear k4)
      obtain ⟨t, ht⟩ : ∃ t : ByteArray, t = ⟨(frameF (⟨p.bytes.toArray⟩ : ByteArray).data.toList).toArray⟩ := ⟨_, rfl⟩
      rw [← ht]
      have ht1 : t.data.toList = p.frame := by rw [ht]; rfl
      have ht2 : (t.size : Int) = (p.frame.length : Int) := by rw [← bstr_len, ht1]
      have c1 := (chk_blk H7.out).cell (i := 1) rfl
      have c2 := (chk_blk H7.out).cell (i := 2) rfl
      have HT := Lib.hid (And.intro ht1 (And.intro ht2 (And.intro hoff (And.intro he hc))))
      clear ht ht1 ht2 hoff he hc hmay HFR HBY HP86 HPV6 H6
      by_cases hf0 : C.file < 0
      · have y1 : decide (C.file < 0) = true := decide_eq_true hf0
        have HN := Lib.hid (show C.next = true from by unfold ChkM.next; rw [y1]; rfl)
        clear c2
        go_upto_region 9 with fail
        refine put_room (by assumption) (by kernel_rfl) H7.out hf.1 hf.2 ?hp_1 (fun hfull => ?_) (fun hfull => ?_)
        case hp_1 => exact fun _ _ _ _ _ h => h
        · intros
          rename_i w5 h5
          have hfl : C.full M p.frame = true := by unfold ChkM.full; rw [HN.out, ← HT.out.2.1]; exact hfull
          have he := HT.out.2.2.2.1
          rw [putM_full HT.out.2.2.1 hfl] at he
          cases he
          go_wp2_with fail
          go_ret
          refine ⟨rfl, fun q => (by cases q), fun _ => Lib.hid ?_⟩
          rw [hd]
          exact h5.out.sub (((((List.sublist_cons_self ..).cons _).cons _)).cons_cons _)
        · intros
          rename_i w5 h5
          have hfl : C.full M p.frame = false := by unfold ChkM.full; rw [HN.out, ← HT.out.2.1]; exact hfull
          have he := HT.out.2.2.2.1
          rw [putM_lays HT.out.2.2.1 hfl] at he
          obtain ⟨r, M2, hr⟩ : ∃ r M2, C.lays M p.frame = (r, M2) := ⟨_, _, rfl⟩
          simp only [hr] at he
          have hl : (if true = true then freshM M C.file t.data.toList else layM M C.file t.data.toList) = (r, M2) := by rw [← hr, HT.out.1]; unfold ChkM.lays; rw [HN.out]
          simp only [Prod.mk.injEq] at he
          obtain ⟨rfl, rfl, rfl⟩ := he
          clear hr hfull hfl
          have HL := Lib.hid hl
          clear hl
          go_upto_region 11 with fail
          refine put_lays (by assumption) (by kernel_rfl) h5.out hP HPO.out ?hv_1 hf.1 hf.2 hm.1 hm.2 ?hn_1 ?hc_1 ?hc1_1 HL.out ?hq_1 ?hr_1
          case hv_1 => exact fun w' M' h => HV.out w' M' h.drop.drop
          case hn_1 => exact fun h => by cases h
          case hc_1 => have := HT.out.2.2.2.2; omega
          case hc1_1 => have := HT.out.2.2.2.2; have := create_few (M := M) (n := C.file + 1); omega
          case hq_1 => exact fun _ _ _ _ _ h => h
          intros
          rename_i w6 h60 h61
          go_wp2_with fail
          go_ret
          refine ⟨rfl, fun q => Lib.hid ?_, fun q => Lib.hid ?_⟩
          · have h := (h60 q).out.drop2
            unfold ChkM.behind
            rw [if_pos q, HN.out]
            exact h
          · have h := (h61 q).out.sub (((((List.sublist_cons_self ..).cons _).cons _)).cons_cons _)
            unfold ChkM.behind
            rw [if_neg q]
            show Owg w0 w6 d M2 (.blk c (chkC d C.file C.many P C.starts (C.dead || decide (r = 61))) 74 :: Os)
            rw [hd]
            exact h
      · have y1 : decide (C.file < 0) = false := decide_eq_false hf0
        by_cases hm0 : 3 ≤ C.many
        · have y2 : decide (3 ≤ C.many) = true := decide_eq_true hm0
          have HN := Lib.hid (show C.next = true from by unfold ChkM.next; rw [y1, y2]; rfl)
          go_upto_region 9 with fail
          refine put_room (by assumption) (by kernel_rfl) H7.out hf.1 hf.2 ?hp_2 (fun hfull => ?_) (fun hfull => ?_)
          case hp_2 => exact fun _ _ _ _ _ h => h
          · intros
            rename_i w5 h5
            have hfl : C.full M p.frame = true := by unfold ChkM.full; rw [HN.out, ← HT.out.2.1]; exact hfull
            have he := HT.out.2.2.2.1
            rw [putM_full HT.out.2.2.1 hfl] at he
            cases he
            go_wp2_with fail
            go_ret
            refine ⟨rfl, fun q => (by cases q), fun _ => Lib.hid ?_⟩
            rw [hd]
            exact h5.out.sub (((((List.sublist_cons_self ..).cons _).cons _)).cons_cons _)
          · intros
            rename_i w5 h5
            have hfl : C.full M p.frame = false := by unfold ChkM.full; rw [HN.out, ← HT.out.2.1]; exact hfull
            have he := HT.out.2.2.2.1
            rw [putM_lays HT.out.2.2.1 hfl] at he
            obtain ⟨r, M2, hr⟩ : ∃ r M2, C.lays M p.frame = (r, M2) := ⟨_, _, rfl⟩
            simp only [hr] at he
            have hl : (if true = true then freshM M C.file t.data.toList else layM M C.file t.data.toList) = (r, M2) := by rw [← hr, HT.out.1]; unfold ChkM.lays; rw [HN.out]
            simp only [Prod.mk.injEq] at he
            obtain ⟨rfl, rfl, rfl⟩ := he
            clear hr hfull hfl
            have HL := Lib.hid hl
            clear hl
            go_upto_region 11 with fail
            refine put_lays (by assumption) (by kernel_rfl) h5.out hP HPO.out ?hv_2 hf.1 hf.2 hm.1 hm.2 ?hn_2 ?hc_2 ?hc1_2 HL.out ?hq_2 ?hr_2
            case hv_2 => exact fun w' M' h => HV.out w' M' h.drop.drop
            case hn_2 => exact fun h => by cases h
            case hc_2 => have := HT.out.2.2.2.2; omega
            case hc1_2 => have := HT.out.2.2.2.2; have := create_few (M := M) (n := C.file + 1); omega
            case hq_2 => exact fun _ _ _ _ _ h => h
            intros
            rename_i w6 h60 h61
            go_wp2_with fail
            go_ret
            refine ⟨rfl, fun q => Lib.hid ?_, fun q => Lib.hid ?_⟩
            · have h := (h60 q).out.drop2
              unfold ChkM.behind
              rw [if_pos q, HN.out]
              exact h
            · have h := (h61 q).out.sub (((((List.sublist_cons_self ..).cons _).cons _)).cons_cons _)
              unfold ChkM.behind
              rw [if_neg q]
              show Owg w0 w6 d M2 (.blk c (chkC d C.file C.many P C.starts (C.dead || decide (r = 61))) 74 :: Os)
              rw [hd]
              exact h
        · have y2 : decide (3 ≤ C.many) = false := decide_eq_false hm0
          have HN := Lib.hid (show C.next = false from by unfold ChkM.next; rw [y1, y2]; rfl)
          go_upto_region 9 with fail
          refine put_room (by assumption) (by kernel_rfl) H7.out hf.1 hf.2 ?hp_3 (fun hfull => ?_) (fun hfull => ?_)
          case hp_3 => exact fun _ _ _ _ _ h => h
          · intros
            rename_i w5 h5
            have hfl : C.full M p.frame = true := by unfold ChkM.full; rw [HN.out, ← HT.out.2.1]; exact hfull
            have he := HT.out.2.2.2.1
            rw [putM_full HT.out.2.2.1 hfl] at he
            cases he
            go_wp2_with fail
            go_ret
            refine ⟨rfl, fun q => (by cases q), fun _ => Lib.hid ?_⟩
            rw [hd]
            exact h5.out.sub (((((List.sublist_cons_self ..).cons _).cons _)).cons_cons _)
          · intros
            rename_i w5 h5
            have hfl : C.full M p.frame = false := by unfold ChkM.full; rw [HN.out, ← HT.out.2.1]; exact hfull
            have he := HT.out.2.2.2.1
            rw [putM_lays HT.out.2.2.1 hfl] at he
            obtain ⟨r, M2, hr⟩ : ∃ r M2, C.lays M p.frame = (r, M2) := ⟨_, _, rfl⟩
            simp only [hr] at he
            have hl : (if false = true then freshM M C.file t.data.toList else layM M C.file t.data.toList) = (r, M2) := by rw [← hr, HT.out.1]; unfold ChkM.lays; rw [HN.out]
            simp only [Prod.mk.injEq] at he
            obtain ⟨rfl, rfl, rfl⟩ := he
            clear hr hfull hfl
            have HL := Lib.hid hl
            clear hl
            go_upto_region 11 with fail
            refine put_lays (by assumption) (by kernel_rfl) h5.out hP HPO.out ?hv_3 hf.1 hf.2 hm.1 hm.2 ?hn_3 ?hc_3 ?hc1_3 HL.out ?hq_3 ?hr_3
            case hv_3 => exact fun w' M' h => HV.out w' M' h.drop.drop
            case hn_3 => exact fun _ => by omega
            case hc_3 => have := HT.out.2.2.2.2; omega
            case hc1_3 => have := HT.out.2.2.2.2; have := create_few (M := M) (n := C.file + 1); omega
            case hq_3 => exact fun _ _ _ _ _ h => h
            intros
            rename_i w6 h60 h61
            go_wp2_with fail
            go_ret
            refine ⟨rfl, fun q => Lib.hid ?_, fun q => Lib.hid ?_⟩
            · have h := (h60 q).out.drop2
              unfold ChkM.behind
              rw [if_pos q, HN.out]
              exact h
            · have h := (h61 q).out.sub (((((List.sublist_cons_self ..).cons _).cons _)).cons_cons _)
              unfold ChkM.behind
              rw [if_neg q]
              show Owg w0 w6 d M2 (.blk c (chkC d C.file C.many P C.starts (C.dead || decide (r = 61))) 74 :: Os)
              rw [hd]
              exact h
end Go.Proofs.YtlgeijbgkipliaaGreatDoor

namespace Go.Proofs.YtlgeijbgkipliaaGreatDoor
open Go.RowKit Go.Shelf
attribute [local go_sem] Oper.semAt_some
def dropK (file : Int) : List Int → DiskM → Int × DiskM
  | [], M => (0, M)
  | n :: r, M => if n = file ∨ 1000 ≤ n then dropK file r M else if (M.delete n).1 = 0 then dropK file r (M.delete n).2 else M.delete n
def mendM (M : DiskM) (file en : Int) (whole : Bool) : Int × DiskM :=
  if (dropK file (M.files.map (·.1)).reverse M).1 = 0 then
    if whole = true then (dropK file (M.files.map (·.1)).reverse M).2.sync
    else if ((dropK file (M.files.map (·.1)).reverse M).2.truncate file en).1 = 0 then ((dropK file (M.files.map (·.1)).reverse M).2.truncate file en).2.sync
    else (dropK file (M.files.map (·.1)).reverse M).2.truncate file en
  else dropK file (M.files.map (·.1)).reverse M
theorem delete_fp {d : Nat} {fp : Nat → Prop} {M M' : DiskM} {r : Int} (w : World) (n : Int) (n0 : -9223372036854775808 ≤ n ∧ n ≤ 9223372036854775807) (hd : IsDisk w d fp M) (hl : M.Live) (hr : M.delete n = (r, M')) :
    Calls Tryz.prog 95 #[.pointer (some ⟨d, 0, none⟩), .int .i64 n] w fun e w' => e = .returned (.int .i64 r) ∧ IsDisk w' d fp M' ∧ Kept fp w w' := by
  rcases M.has_cases n with ⟨h0, hdn, b, hb⟩ | ⟨h0, _⟩ | ⟨h0, _⟩
  · cases hs : M.sinks
    · have e : M.delete n = (0, M.tick.deleted n) := by
        unfold DiskM.delete
        rw [if_neg (by simp [h0]), if_neg (by simp [hs])]
      rw [e] at hr
      cases hr
      exact delete_ok w n n0 b hd hl hdn hb hs
    · have e : M.delete n = (61, M.sunk) := by
        unfold DiskM.delete
        rw [if_neg (by simp [h0]), if_pos hs]
      rw [e] at hr
      cases hr
      exact delete_sinks w n n0 hd hl h0 hdn hs
  all_goals
    have e : M.delete n = (M.has n, M) := by
      unfold DiskM.delete
      rw [if_pos (by rw [h0]; decide)]
    rw [e] at hr
    cases hr
    refine (delete_err w n n0 hd (by rw [h0]; decide)).mono ?_
    rintro e w' ⟨rfl, rfl⟩
    exact ⟨rfl, hd, Kept.refl _ _⟩
def Og.obj (D : Nat) (o : Obj) : Og := ⟨fun k => k = D, fun w _ => w.heap[D]? = some o, fun h hk hZ => by rw [hk.block D (Array.getElem?_eq_some_iff.1 h).1 (hZ D rfl)]; exact h, fun h hk => by rw [show _ = D from hk]; exact (Array.getElem?_eq_some_iff.1 h).1⟩
def LoopD (W0 : World) (d : Nat) (B fp Z : Nat → Prop) (M : DiskM) (W : World) : Prop := M.Live ∧ IsDisk W d fp M ∧ Kept (fun k => ¬ B k ∨ W0.heap.size ≤ k ∨ Z k) W0 W
section
variable {w0 w w' W0 W W' : World} {d c D : Nat} {B fp Z : Nat → Prop} {M M' M2 : DiskM} {Os : List Og} {o : Obj}
theorem loopD_start (h : FrG w0 W0 d M B Os) : ∃ fp : Nat → Prop, (∀ k, fp k → k < W0.heap.size ∧ ¬ B k) ∧ LoopD W0 d B fp (fun _ => False) M W0 := by
  obtain ⟨hl, hb, fp, h1, h2⟩ := h.ap
  exact ⟨fun k => fp k ∧ k < W0.heap.size, fun k q => ⟨q.2, h2 k q.1⟩, hl, h1.low, Kept.refl _ _⟩
theorem LoopD.row (h : LoopD W0 d B fp Z M W) (hf : ∀ k, fp k → k < W0.heap.size ∧ ¬ B k) {row : Option Nat} (hg : W.grownBy W' row) (hr : ∀ k, row = some k → W0.heap.size ≤ k) : LoopD W0 d B fp Z M W' :=
  ⟨h.1, h.2.1.kept (grown_kept hg) (fun k q e => by have := hr k e; have := (hf k q).1; omega), h.2.2.trans ((grown_kept hg).mono (fun k _ e => Or.inr (Or.inl (hr k e))))⟩
theorem LoopD.kept (h : LoopD W0 d B fp Z M W) : Kept (fun k => ¬ B k ∨ Z k) W0 W := h.2.2.mono (fun k hk q => by rcases q with q | q | q; exact Or.inl q; omega; exact Or.inr q)
theorem LoopD.ap (h : LoopD W0 d B fp Z M2 W) (hf : ∀ k, fp k → k < W0.heap.size ∧ ¬ B k) (hb : ∀ k, B k → k < W0.heap.size) : Apart B d M2 W := ⟨h.1, fun k q => Nat.lt_of_lt_of_le (hb k q) h.2.2.size, fp, h.2.1, fun k q => (hf k q).2⟩
theorem LoopD.frg (h : LoopD W0 d B fp (fun _ => False) M2 W) (hf : ∀ k, fp k → k < W0.heap.size ∧ ¬ B k) (h0 : FrG w0 W0 d M B Os) : FrG w0 W d M2 B Os :=
  h0.to (h.kept.mono (fun _ _ q => q.elim id False.elim)) (h.ap hf h0.ap.2.1)
theorem LoopD.frg2 (h : LoopD W0 d B fp (fun _ => False) M2 W) (hf : ∀ k, fp k → k < W0.heap.size ∧ ¬ B k) (h0 : FrG w0 W0 d M B Os) (hD : W0.heap.size ≤ D) (ho : W.heap[D]? = some o) : Owg w0 W d M2 (Og.obj D o :: Os) :=
  ⟨_, h0.come (x := Og.obj D o) (h.kept.mono (fun _ _ q => q.elim id False.elim)) ⟨h.1, fun k q => q.elim (fun q => Nat.lt_of_lt_of_le (h0.ap.2.1 k q) h.2.2.size) (fun q => by rw [show k = D from q]; exact (Array.getElem?_eq_some_iff.1 ho).1), fp, h.2.1, fun k q z => z.elim (hf k q).2 (fun z => by have := (hf k q).1; have : k = D := z; omega)⟩ ho (fun k q => by have : k = D := q; omega)⟩
theorem LoopD.next (h : LoopD W0 d B fp Z M W) (hf : ∀ k, fp k → k < W0.heap.size ∧ ¬ B k) (hd : IsDisk W' d fp M') (hl : M'.Live) (hk : Kept fp W W') : LoopD W0 d B fp Z M' W' :=
  ⟨hl, hd, h.2.2.trans (hk.mono (fun k _ q => Or.inl (hf k q).2))⟩
theorem LoopD.poke {b : Nat} (h : LoopD W0 d B fp (fun _ => False) M W) (hf : ∀ k, fp k → k < W0.heap.size ∧ ¬ B k) (hb : B b) (hk : Kept (· = b) W W') : LoopD W0 d B fp (· = b) M W' :=
  ⟨h.1, h.2.1.kept hk (fun k q e => (hf k q).2 (by rw [e]; exact hb)), (h.2.2.mono (fun k _ q => by rcases q with q | q | q; exact Or.inl q; exact Or.inr (Or.inl q); exact q.elim)).trans (hk.mono (fun k _ e => Or.inr (Or.inr e)))⟩
theorem LoopD.frg3 {b : Nat} {c c' : List Value} {t : TypeId} (h : LoopD W0 d B fp (· = b) M2 W) (hf : ∀ k, fp k → k < W0.heap.size ∧ ¬ B k) (h0 : FrG w0 W0 d M B (Og.blk b c t :: Os)) (hc : Blk W b c' t) : Owg w0 W d M2 (Og.blk b c' t :: Os) := by
  have hB := ((h0.obs _ (List.mem_cons_self ..)).2 b rfl).1
  exact ⟨_, h0.swap (x := Og.blk b c' t) h.kept ((h.ap hf h0.ap.2.1).fewer (fun k q => q.elim id (fun e => by rw [show k = b from e]; exact hB))) hc (fun _ q => Or.inl q)⟩
theorem Owg.poke (h : Owg w0 w d M (Og.obj D o :: Os)) (hk : Kept (· = D) w w') : Owg w0 w' d M Os := by
  obtain ⟨B, h⟩ := h
  obtain ⟨p1, p2⟩ := List.pairwise_cons.1 h.apart
  have h1 := (h.obs _ (List.mem_cons_self ..)).2 D rfl
  exact ⟨B, h.ap.turn hk (fun k e => by rw [e]; exact h1.1), h.old, h.tab0, h.kept.then_ hk (fun i hi e => by omega), fun x q => ⟨Og.keep (h.obs x (List.mem_cons_of_mem _ q)).1 hk (fun k e z => p1 x q D rfl (by rw [← show k = D from z]; exact e)), (h.obs x (List.mem_cons_of_mem _ q)).2⟩, p2⟩
theorem loop_end {w5 : World} {b : Nat} {v : Value} {t : TypeId} (h5 : Owg w0 w5 d M (Og.obj D (.deferred (some [])) :: Og.blk b [v] t :: Os)) (x : Value) {W6 : World} (hW : w5.setCell ⟨b, 0, none⟩ x = W6) :
    W6.heap[D]? = some (.deferred (some [])) ∧ (W6.putObj D (.deferred none)).cell? ⟨b, 0, none⟩ = some x ∧ Owg w0 (W6.putObj D (.deferred none)) d M Os := by
  have h6 := ((h5.two).turn (kept_cell w5 b 0 x) ((h5.has (x := Og.blk b [v] t) (by simp)).set 0 x)).two
  rw [hW] at h6
  have hk : Kept (· = D) W6 (W6.putObj D (.deferred none)) := (grown_kept (grownBy_putObj' W6 D (.deferred none))).mono (fun k _ e => by cases e; rfl)
  have h7 := h6.poke hk
  have hb := h7.has (x := Og.blk b [x] t) (List.mem_cons_self ..)
  exact ⟨h6.has (x := Og.obj D (.deferred (some []))) (List.mem_cons_self ..), Blk.cell hb (i := 0) rfl, h7.drop⟩
theorem keepsFrom_low {w w' : World} {Z : Nat → Prop} {b : Nat} (hk : Kept Z w w') (hZ : ∀ k, Z k → k < b) : KeepsFrom b w w' :=
  ⟨hk.size, fun k o hB h _ => (hk.block k (Array.getElem?_eq_some_iff.1 h).1 (fun z => by have := hZ k z; omega)).trans h⟩
end
section
variable {w0 w w' : World} {d c : Nat} {M M' : DiskM} {Os : List Og} {y : Int} {file many : Int} {P : List Value} {st : Int} {dead : Bool}
set_option maxRecDepth 100000 in
set_option maxHeartbeats 8000000 in
theorem chk_mend (h : Owg w0 w d M (.blk c (chkC d file many P st dead) 74 :: Os)) (f0 : -9223372036854775808 ≤ file ∧ file ≤ 9223372036854775807) (en : Int) (whole : Bool) (he : mendM M file en whole = (y, M')) :
    Calls Tryz.prog 82 #[.pointer (some ⟨c, 0, none⟩), .int .i64 en, .bool whole] w fun e w' => e = .returned (.int .i64 y) ∧ Owg w0 w' d M' (.blk c (chkC d file many P st dead) 74 :: Os) := by
  have hlen : (M.files.map (·.1)).length ≤ 400000000 := by rw [List.length_map]; have := h.ok.count; omega
  have hkeys : ∀ x ∈ M.files.map (·.1), -9223372036854775808 ≤ x ∧ x ≤ 9223372036854775807 := by obtain ⟨B, h⟩ := h; exact h.ap.keys
  refine (callsIn_wide (n := 6)).1 ?_
  obtain ⟨W1, hW1⟩ : ∃ W1, W1 = (w.alloc (.cells #[.pointer (some ⟨c, 0, none⟩)] 66)).alloc (.cells #[.int .i64 0] 30) := ⟨_, rfl⟩
  have h1 : Owg w0 W1 d M (.blk (w.heap.size + 1) [.int .i64 0] 30 :: .blk w.heap.size [.pointer (some ⟨c, 0, none⟩)] 66 :: .blk c (chkC d file many P st dead) 74 :: Os) := by
    have := (h.new [.pointer (some ⟨c, 0, none⟩)] 66).new [.int .i64 0] 30
    rw [World.size_alloc] at this
    rw [hW1]; exact this
  have c1 := Blk.cell (w := W1) (h1.has (x := .blk w.heap.size [.pointer (some ⟨c, 0, none⟩)] 66) (by simp)) (i := 0) rfl
  have c2 := Blk.cell (w := W1) (h1.has (x := .blk c (chkC d file many P st dead) 74) (by simp)) (i := 0) rfl
  have HF := Lib.hid (callsIn_wide (n := 5) |>.2 h1.dfiles)
  have HBK := Lib.hid (fun a m c w' => callsIn_wide (n := 5) |>.2 (backward_any a m c w'))
  have hfF : Fence.wide.fn 28 := trivial
  have hfB : Fence.wide.fn 79 := trivial
  have hle1 : w.heap.size + 2 = W1.heap.size := by rw [hW1, World.size_alloc, World.size_alloc]
  clear h
  refine callsIn_of_wp_marks Tryz.func82 rfl trivial ?_ rfl
  simp only [Tryz.ntmps82, List.size_toArray, List.length_cons, List.length_nil, Nat.reduceAdd, Nat.reduceSub, Array.replicate_succ, Array.replicate_zero, List.push_toArray, List.append_toArray, List.nil_append, List.cons_append]
  gi_upto_region 1 with (fail)
  generalize hWx : World.alloc _ _ = Wx
  obtain rfl : W1 = Wx := by rw [hW1, ← hWx]
  clear hW1 hWx
  gi_wp2_with (first | (gi_at_call 28; refine HF.out.mono ?_; rintro e w2 ⟨xa, xm, xc, rfl, rfl, h2⟩) | (gi_at_call 79; refine (HBK.out _ _ _ _).mono ?_; rintro e w' ⟨rfl, rfl⟩))
  have hBs := Blk.new w2 [.slice xa M.files.length xc] 83
  have hz : w2.heap.size < (w2.alloc (.cells #[.slice xa M.files.length xc] 83)).heap.size := by rw [World.size_alloc]; omega
  have h0 := h2.new [.slice xa M.files.length xc] 83
  have hBs' : Blk (w2.alloc (.cells #[.slice xa M.files.length xc] 83)) w2.heap.size [.slice xa M.files.length xc] 83 := hBs
  obtain ⟨W0, hW0⟩ : ∃ W0, w2.alloc (.cells #[.slice xa M.files.length xc] 83) = W0 := ⟨_, rfl⟩
  rw [hW0] at hBs' hz ⊢
  have h0 : Owg w0 W0 d M (.blk (w.heap.size + 1) [.int .i64 0] 30 :: .blk w2.heap.size [.slice xa M.files.length xc] 83 :: .irow (.slice xa M.files.length xc) (M.files.map (·.1)) :: .blk w.heap.size [.pointer (some ⟨c, 0, none⟩)] 66 :: .blk c (chkC d file many P st dead) 74 :: Os) := by
    rw [← hW0]
    exact h0.perm (((List.Perm.swap _ _ _).cons _).trans (List.Perm.swap _ _ _))
  have hrow0 : Row W0 3 1 (.slice xa M.files.length xc) (icells (M.files.map (·.1))) := by
    have q := h0.has (x := .irow (.slice xa M.files.length xc) (M.files.map (·.1))) (by simp)
    exact q
  rw [icells_intsV] at hrow0
  obtain ⟨B, hFr⟩ := h0
  obtain ⟨fp, hfp, hJ0⟩ := loopD_start hFr
  clear h2 hW0 hBs HBK HF hfF hfB c1 c2 h1 hle1
  obtain ⟨ns, hns⟩ : ∃ ns, M.files.map (·.1) = ns := ⟨_, rfl⟩
  rw [hns] at hrow0 hkeys hlen
  have HFR := Lib.hid (And.intro hFr (And.intro hfp (And.intro he hns)))
  have hI : OwnFrom W0.heap.size (fun (pre : List (BkX ns)) W => ∃ M2, LoopD W0 d B fp (fun _ => False) M2 W ∧ ∀ r, dropK file (pre.map (·.1.2) ++ r) M = dropK file r M2) := fun pre X Y row h hg hr => by
    obtain ⟨M2, h1, h2⟩ := h
    exact ⟨M2, h1.row hfp hg (fun k e => (hr k e).1), h2⟩
  have hIx : ∀ cc : Code, OwnFrom W0.heap.size (fun (pre : List (BkX ns)) W => cc = .ret ∧ ∃ M2 r, LoopD W0 d B fp (· = w.heap.size + 1) M2 W ∧ Blk W (w.heap.size + 1) [.int .i64 r] 30 ∧ (∀ rest, dropK file (pre.map (·.1.2) ++ rest) M = (r, M2)) ∧ r ≠ 0) := fun cc pre X Y row h hg hr => by
    obtain ⟨e, M2, r, h1, h2, h3⟩ := h
    have hlt := hFr.lt (x := .blk (w.heap.size + 1) [.int .i64 0] 30) (by simp) (k := w.heap.size + 1) rfl
    exact ⟨e, M2, r, h1.row hfp hg (fun k e => (hr k e).1), h2.kept (grown_kept hg) (fun e => by have := (hr _ e).1; omega), h3⟩
  clear hFr hns he
  refine wpIn_rangeFunc_ownH rfl (by omega) (gf := 119) (lb := #[.pointer (some ⟨w2.heap.size, 0, none⟩)]) rfl trivial (enters_of Tryz.func119 (by kernel_rfl) rfl)
    (backB_stops Fence.wide _ trivial rfl (by omega) w2.heap.size W0.heap.size (fun k => ¬ (k = w2.heap.size ∨ (Value.slice xa M.files.length xc).ownBlock = some k)) (.slice xa M.files.length xc) ns hkeys (by omega) W0 (hBs'.cell (i := 0) rfl) hz ⟨hz, fun q => q (Or.inl rfl)⟩ hrow0 (fun k q => ⟨hrow0.lt q, fun n => n (Or.inr q)⟩))
    (fun h1 h2 => h1.trans h2) (fun W l o o' hl _ _ _ => KeptB.putObj _ W l o' hl) (Below.refl _ _) (fun _ => rfl)
    (fun pre W => ∃ M2, LoopD W0 d B fp (fun _ => False) M2 W ∧ ∀ r, dropK file (pre.map (·.1.2) ++ r) M = dropK file r M2)
    (fun cc pre W => cc = .ret ∧ ∃ M2 r, LoopD W0 d B fp (· = w.heap.size + 1) M2 W ∧ Blk W (w.heap.size + 1) [.int .i64 r] 30 ∧ (∀ rest, dropK file (pre.map (·.1.2) ++ rest) M = (r, M2)) ∧ r ≠ 0) hI hIx ⟨M, hJ0, fun _ => rfl⟩
    (fun x a' W => a' = { tmps := #[.pointer (some ⟨c, 0, none⟩), .int .i64 en, .bool whole, .pointer (some ⟨w.heap.size, 0, none⟩), undef, undef, .pointer (some ⟨w.heap.size + 1, 0, none⟩), undef, .int .i64 x.1.2, undef, undef, .pointer (some ⟨c, 0, none⟩), .pointer (some ⟨c, 0, none⟩), .pointer (some ⟨c, 0, none⟩), .pointer (some ⟨d, 0, none⟩), .slice xa M.files.length xc, .func (.func 119) #[] #[.pointer (some ⟨w2.heap.size, 0, none⟩)], .int .i64 (x.1.1 : Int), .int .i64 x.1.2, undef, undef, undef, undef, undef, undef, undef, undef, undef, undef, undef, undef, undef, undef, undef, undef, undef, undef, undef, undef, undef, undef, undef, undef, undef, undef, undef, undef, undef, undef, undef, undef, undef, undef, undef, undef, undef, undef, undef], defers := [] })
    ?hAx ?assign ?body ?done ?stop
  case hAx =>
    rintro x a' u X Y row e hg hr
    exact e
  case assign =>
    intro l pre x W K hi hK
    gi_wp2
    exact hK _ _ (KeepsFrom.refl _ _) (KeptB.refl _ _ _) hi rfl
  case body =>
    rintro g pre x a' W hl ⟨r, hr⟩ ⟨M2, hJ, hd⟩ rfl hlt
    have hO := hJ.frg hfp HFR.out.1
    have cb0 := Blk.cell (w := W) (hO.obs (.blk w.heap.size [.pointer (some ⟨c, 0, none⟩)] 66) (by simp)).1 (i := 0) rfl
    have hbc := (hO.obs (.blk c (chkC d file many P st dead) 74) (by simp)).1
    have cc0 := Blk.cell (w := W) hbc (i := 0) rfl
    have cc1 := Blk.cell (w := W) hbc (i := 1) rfl
    have hbq : ∀ k, k = w2.heap.size ∨ (Value.slice xa M.files.length xc).ownBlock = some k → B k := fun k q => q.elim (fun e => ((hO.obs (.blk w2.heap.size [.slice xa M.files.length xc] 83) (by simp)).2 k e).1) (fun e => ((hO.obs (.irow (.slice xa M.files.length xc) (M.files.map (·.1))) (by simp)).2 k e).1)
    have hrb := (hO.obs (.blk (w.heap.size + 1) [.int .i64 0] 30) (by simp))
    have hx2 := hkeys _ (backsI_mem x.2)
    have HB := Lib.hid (And.intro hrb.1 (hrb.2 (w.heap.size + 1) rfl).1)
    have hmap : ∀ rest, (pre ++ [x]).map (·.1.2) ++ rest = pre.map (·.1.2) ++ x.1.2 :: rest := fun rest => by simp
    have HM := Lib.hid hmap
    have HBQ := Lib.hid hbq
    have HJ := Lib.hid hJ
    have HD0 := Lib.hid hd
    clear hO hbc hrb hJ hd hr hmap hbq
    by_cases h1 : x.1.2 = file
    · have y1 : (x.1.2 == file) = true := by rw [beq_iff_eq]; exact h1
      have HN := Lib.hid (show ∀ rest, dropK file ((pre ++ [x]).map (·.1.2) ++ rest) M = dropK file rest M2 from fun rest => by rw [HM.out, HD0.out, dropK, if_pos (Or.inl h1)])
      clear h1
      gi_wp2
      exact ⟨KeepsFrom.refl _ _, KeptB.refl _ _ _, M2, HJ.out, HN.out⟩
    · have y1 : (x.1.2 == file) = false := by rw [beq_eq_false_iff_ne]; exact h1
      by_cases h2 : 1000 ≤ x.1.2
      · have y2 : decide (1000 ≤ x.1.2) = true := decide_eq_true h2
        have HN := Lib.hid (show ∀ rest, dropK file ((pre ++ [x]).map (·.1.2) ++ rest) M = dropK file rest M2 from fun rest => by rw [HM.out, HD0.out, dropK, if_pos (Or.inr h2)])
        clear h1 h2
        gi_wp2
        exact ⟨KeepsFrom.refl _ _, KeptB.refl _ _ _, M2, HJ.out, HN.out⟩
      · have y2 : decide (1000 ≤ x.1.2) = false := decide_eq_false h2
        obtain ⟨r, M3, hr⟩ : ∃ r M3, M2.delete x.1.2 = (r, M3) := ⟨_, _, rfl⟩
        have hdel := HJ.out.2.1
        have HDL := Lib.hid (((callsIn_wide (n := 4 - 1)).2 (delete_fp W x.1.2 hx2 HJ.out.2.1 HJ.out.1 hr)).inRound g)
        have hfD : Fence.wide.fn 95 := trivial
        have HL3 := Lib.hid (show M3.Live from by have := DiskM.Live.delete HJ.out.1 x.1.2; rw [hr] at this; exact this)
        by_cases h0 : r = 0
        · subst h0
          have HN := Lib.hid (show ∀ rest, dropK file ((pre ++ [x]).map (·.1.2) ++ rest) M = dropK file rest M3 from fun rest => by rw [HM.out, HD0.out, dropK, if_neg (fun q => q.elim h1 h2), hr, if_pos rfl])
          clear h1 h2 hr hdel
          gi_wp2_with (gi_at_call 95; refine HDL.out.mono ?_; rintro e w3 ⟨rfl, hd3, hk3⟩)
          have hJ3 := HJ.out.next hfp hd3 HL3.out hk3
          refine ⟨keepsFrom_low hk3 (fun k q => (hfp k q).1), hk3.keptB HJ.out.2.2.size (fun k hk z q => (hfp k z).2 (HBQ.out k q)), M3, hJ3, HN.out⟩
        · have y3 : (r != 0) = true := by rw [bne_iff_ne]; exact h0
          have HN := Lib.hid (show ∀ rest, dropK file ((pre ++ [x]).map (·.1.2) ++ rest) M = (r, M3) from fun rest => by rw [HM.out, HD0.out, dropK, if_neg (fun q => q.elim h1 h2), hr, if_neg h0])
          have H0 := Lib.hid h0
          clear h1 h2 hr hdel h0
          gi_wp2_with (gi_at_call 95; refine HDL.out.mono ?_; rintro e w3 ⟨rfl, hd3, hk3⟩; have hJ3 := HJ.out.next hfp hd3 HL3.out hk3; have hb3 := HB.out.1.kept hk3 (fun q => (hfp _ q).2 HB.out.2); have z3 := Blk.free (w := w3) hb3 0; have e3 := Blk.cell (w := w3) hb3 (i := 0) rfl)
          have hk4 := kept_cell w3 (w.heap.size + 1) 0 (.int .i64 r)
          have hlt : w.heap.size + 1 < W0.heap.size := HFR.out.1.ap.2.1 _ HB.out.2
          exact ⟨(keepsFrom_low hk3 (fun k q => (hfp k q).1)).trans (keepsFrom_low hk4 (fun k e => by omega)), rfl, M3, r, hJ3.poke hfp HB.out.2 hk4, hb3.set 0 _, HN.out, H0.out⟩
  case done =>
    rintro D ys W hD hy ⟨M2, hJ, hd⟩ hK
    have hd2 : dropK file (M.files.map (·.1)).reverse M = (0, M2) := by
      have h1 := hd []
      have e : ys.map (·.1.2) = ns.reverse := by rw [← backsI_map]; have q := congrArg (fun l => l.map (·.2)) hy; rw [← q, List.map_map]; rfl
      rw [List.append_nil, e] at h1
      rw [HFR.out.2.2.2, h1]
      rfl
    have he := HFR.out.2.2.1
    unfold mendM at he
    rw [hd2, if_pos rfl] at he
    have hO := hJ.frg2 hfp HFR.out.1 hD hK
    have cb0 := Blk.cell (w := W) (hO.has (x := .blk w.heap.size [.pointer (some ⟨c, 0, none⟩)] 66) (by simp)) (i := 0) rfl
    have hbc := hO.has (x := .blk c (chkC d file many P st dead) 74) (by simp)
    have cc0 := Blk.cell (w := W) hbc (i := 0) rfl
    have cc1 := Blk.cell (w := W) hbc (i := 1) rfl
    have hfS : Fence.wide.fn 55 := trivial
    have hfT : Fence.wide.fn 52 := trivial
    have HO := Lib.hid hO
    clear hJ hd hy hd2 hbc hO
    cases whole with
    | true =>
      rw [if_pos rfl] at he
      have HS := Lib.hid ((callsIn_wide (n := 5)).2 (HO.out.dsync he))
      clear he
      gi_wp2_with (gi_at_call 55; refine HS.out.mono ?_; rintro e w5 ⟨rfl, h5⟩; have hb5 := h5.has (x := .blk (w.heap.size + 1) [.int .i64 0] 30) (by simp); have z5 := Blk.free (w := w5) hb5 0; have e5 := Blk.cell (w := w5) hb5 (i := 0) rfl; have H5 := Lib.hid h5; clear h5 hb5)
      generalize hW6 : World.setCell _ _ _ = W6
      obtain ⟨hK6, c6, h6⟩ := loop_end H5.out (.int .i64 y) hW6
      refine ⟨by simp, .inl ⟨_, _, rfl, run_takeDeferred hK6, .int .i64 y, ?_, rfl, h6.drop.drop.drop⟩⟩
      simp [results, Tryz.f82, go_sem, c6]
    | false =>
      rw [if_neg (by simp)] at he
      obtain ⟨r, M3, hr⟩ : ∃ r M3, M2.truncate file en = (r, M3) := ⟨_, _, rfl⟩
      dsimp only at he
      rw [hr] at he
      have HT := Lib.hid ((HO.out.same (Kept.refl _ _).drew).dtruncate file en f0 hr)
      clear hr
      by_cases h0 : r = 0
      · subst h0
        rw [if_pos rfl] at he
        have HE := Lib.hid he
        clear he
        gi_upto_region 8 with fail
        refine wpIn_wide.2 ?_
        refine wp_region_tail 9 (by kernel_rfl) (by kernel_rfl) ?_
        simp only [List.take_succ_cons, List.take_zero, List.drop_succ_cons, List.drop_zero]
        repeat still_step
        refine wpStill_nil ?_
        generalize World.drew W = Wd at *
        go_wp2_with (go_at_call 52; refine HT.out.mono ?_; rintro e w4 ⟨rfl, h4⟩; have cb4 := Blk.cell (w := w4) (h4.has (x := .blk w.heap.size [.pointer (some ⟨c, 0, none⟩)] 66) (by simp)) (i := 0) rfl; have cc4 := Blk.cell (w := w4) (h4.has (x := .blk c (chkC d file many P st dead) 74) (by simp)) (i := 0) rfl; have H4 := Lib.hid h4; clear h4)
        gi_upto_region 11 with fail
        have HS := Lib.hid ((callsIn_wide (n := 5)).2 (H4.out.dsync HE.out))
        gi_wp2_with (gi_at_call 55; refine HS.out.mono ?_; rintro e w5 ⟨rfl, h5⟩; have hb5 := h5.has (x := .blk (w.heap.size + 1) [.int .i64 0] 30) (by simp); have z5 := Blk.free (w := w5) hb5 0; have e5 := Blk.cell (w := w5) hb5 (i := 0) rfl; have H5 := Lib.hid h5; clear h5 hb5)
        generalize hW6 : World.setCell _ _ _ = W6
        obtain ⟨hK6, c6, h6⟩ := loop_end H5.out (.int .i64 y) hW6
        refine ⟨by simp, .inl ⟨_, _, rfl, run_takeDeferred hK6, .int .i64 y, ?_, rfl, h6.drop.drop.drop⟩⟩
        simp [results, Tryz.f82, go_sem, c6]
      · have y3 : (r != 0) = true := by rw [bne_iff_ne]; exact h0
        rw [if_neg h0] at he
        cases he
        clear h0
        gi_upto_region 8 with fail
        refine wpIn_wide.2 ?_
        refine wp_region_tail 9 (by kernel_rfl) (by kernel_rfl) ?_
        simp only [List.take_succ_cons, List.take_zero, List.drop_succ_cons, List.drop_zero]
        repeat still_step
        refine wpStill_nil ?_
        generalize World.drew W = Wd at *
        go_wp2_with (go_at_call 52; refine HT.out.mono ?_; rintro e w5 ⟨rfl, h5⟩; have hb5 := h5.has (x := .blk (w.heap.size + 1) [.int .i64 0] 30) (by simp); have z5 := Blk.free (w := w5) hb5 0; have e5 := Blk.cell (w := w5) hb5 (i := 0) rfl; have H5 := Lib.hid h5; clear h5 hb5)
        gi_wp2
        generalize hW6 : World.setCell _ _ _ = W6
        obtain ⟨hK6, c6, h6⟩ := loop_end H5.out (.int .i64 y) hW6
        refine ⟨by simp, .inl ⟨_, _, rfl, run_takeDeferred hK6, .int .i64 y, ?_, rfl, h6.drop.drop.drop⟩⟩
        simp [results, Tryz.f82, go_sem, c6]
  case stop =>
    rintro D cc pre W hD hp ⟨rfl, M2, r, h1, h2, h3, h4⟩ hK
    have hd2 : dropK file (M.files.map (·.1)).reverse M = (r, M2) := by
      obtain ⟨t, ht⟩ := hp
      have q := congrArg (fun l => l.map (·.2)) ht
      have e : pre.map (·.1.2) ++ t.map (·.2) = ns.reverse := by rw [← backsI_map, ← q, List.map_append, List.map_map]; rfl
      rw [HFR.out.2.2.2, ← e]
      exact h3 _
    have he := HFR.out.2.2.1
    unfold mendM at he
    rw [hd2, if_neg h4] at he
    cases he
    have hg := grownBy_putObj' W D (.deferred none)
    have h6 := (h1.row hfp hg (fun k e => by cases e; exact hD)).frg3 hfp HFR.out.1 (h2.kept (grown_kept hg) (fun e => by cases e; have := HFR.out.1.lt (x := .blk (w.heap.size + 1) [.int .i64 0] 30) (by simp) (k := w.heap.size + 1) rfl; omega))
    have c6 := Blk.cell (h6.has (x := .blk (w.heap.size + 1) [.int .i64 y] 30) (by simp)) (i := 0) rfl
    clear h1 h2 h3 h4 hd2 hp hg
    gi_wp2
    refine ⟨by simp, .inl ⟨_, _, rfl, run_takeDeferred hK, .int .i64 y, ?_, rfl, h6.drop.drop.drop.drop⟩⟩
    simp [results, Tryz.f82, go_sem, c6]
end
end Go.Proofs.YtlgeijbgkipliaaGreatDoor

namespace Go.Proofs.YtlgeijbgkipliaaGreatDoor
open Go.RowKit Go.Shelf
section
variable {P : Program} {ops : Array Oper} {Q : Exit → Act → World → Prop} {md : Region.Mode} {S : World → Prop} {fuel : Nat} {listed : Array Bool} {a : Act} {w : World}
theorem rd3 {oi oj ok : Oper} (i j k : Nat) (h1 : ∀ K' : Act → World → Prop, Shut (∀ a w, S w → (S w → wpAnyH P md ops Q S fuel (listed.setIfInBounds i true) a w) → K' a w) → if Region.wanted oi (yielded ops a.tmps) = true then Oper.wp P oi a w K' Q else K' (a.put oi.dst undef) w)
    (h2 : ∀ K' : Act → World → Prop, Shut (∀ a w, S w → (S w → wpAnyH P md ops Q S fuel (listed.setIfInBounds j true) a w) → K' a w) → if Region.wanted oj (yielded ops a.tmps) = true then Oper.wp P oj a w K' Q else K' (a.put oj.dst undef) w)
    (h3 : ∀ K' : Act → World → Prop, Shut (∀ a w, S w → (S w → wpAnyH P md ops Q S fuel (listed.setIfInBounds k true) a w) → K' a w) → if Region.wanted ok (yielded ops a.tmps) = true then Oper.wp P ok a w K' Q else K' (a.put ok.dst undef) w)
    (hr : Region.ready md ops listed = [i, j, k] := by kernel_rfl) (ho : ops.toList[i]? = some oi := by rfl) (ho2 : ops.toList[j]? = some oj := by rfl) (ho3 : ops.toList[k]? = some ok := by rfl) : wpAnyH P md ops Q S (fuel + 1) listed a w :=
  wpAnyH_ready hr (by simp) (AllReadyH.cons (by rw [← Array.getElem?_toList]; exact ho) h1 (AllReadyH.cons (by rw [← Array.getElem?_toList]; exact ho2) h2 (AllReadyH.cons (by rw [← Array.getElem?_toList]; exact ho3) h3 AllReadyH.nil)))
theorem wp_built {o : Oper} {K : Act → World → Prop} (t : TypeId) (parts : Array (Nat × Operand)) (ho : o.op = .build t parts) (cells : Array Value) (hb : P.built t (parts.map fun (i, x) => (i, a.eval x)).toList = some cells) (h : K (a.put o.dst (.agg cells)) w) : o.wp P a w K Q :=
  wp_build t parts ho (by rw [hb]; rfl) (by rw [hb]; exact h)
end
def codeRegion (n : Nat) : Code → Option Code
  | .region m o d => if m = n then some (.region m o d) else none
  | .seq a b => (codeRegion n a).or (codeRegion n b)
  | .cond _ a b => (codeRegion n a).or (codeRegion n b)
  | .block _ c => codeRegion n c
  | .loop c => codeRegion n c
  | .rangeFunc _ _ a b => (codeRegion n a).or (codeRegion n b)
  | _ => none
abbrev chkZ (d : Nat) (st : Int) : List Value := chkC d (-1) 0 pointZ st false
abbrev chk0 : List Value := .pointer none :: .int .i64 0 :: .int .i64 0 :: (pointZ ++ [.int .i64 0, .bool false])
theorem built_chk (parts : List (Nat × Value)) : (Tryz.prog).built 74 parts = Instr.fill ((#[(0, 1), (1, 1), (2, 1), (3, 38), (41, 1), (42, 1)] : Array (Nat × Nat))[·]?) chk0.toArray parts := by kernel_rfl
set_option maxRecDepth 100000 in
theorem built_chk3 (d : Nat) (st : Int) : (Tryz.prog).built 74 [(0, .pointer (some ⟨d, 0, none⟩)), (1, .int .i64 (-1)), (4, .int .i64 st)] = some (chkZ d st).toArray := by
  rw [built_chk]
  have hz : (zeros 32).length = 32 := zeros_len 32
  simp [Instr.fill, Value.cells, chkC, hz, List.set_append]
def OpS (p d : Nat) (W : World) : Prop := W.cell? ⟨p, 0, none⟩ = some (.pointer (some ⟨d, 0, none⟩))
def OpTo (w0 : World) (d : Nat) (M : DiskM) (Os : List Og) (p6 c : Nat) (w' : World) : Prop := Owg w0 w' d M (.blk p6 [.pointer (some ⟨c, 0, none⟩)] 66 :: .blk c (chkZ d M.starts) 74 :: Os)
theorem op_box {w0 w w' : World} {d : Nat} {M : DiskM} {Os : List Og} {c : List Value} {t : TypeId} (h : Owg w0 w d M Os) {b : Nat} (hb : b = w.heap.size) (hW : w' = w.alloc (.cells c.toArray t)) : Owg w0 w' d M (.blk b c t :: Os) := by
  rw [hb, hW]; exact h.new c t
theorem op_set {w0 w : World} {d p6 : Nat} {M : DiskM} {Os : List Og} {v : Value} {t : TypeId} (h : Owg w0 w d M (.blk p6 [v] t :: Os)) (x : Value) : w.frozen? ⟨p6, 0, none⟩ = false ∧ w.cell? ⟨p6, 0, none⟩ = some v ∧ Owg w0 (w.setCell ⟨p6, 0, none⟩ x) d M (.blk p6 [x] t :: Os) := by
  have hb := h.has (x := .blk p6 [v] t) (List.mem_cons_self ..)
  exact ⟨Blk.free hb 0, Blk.cell hb (i := 0) rfl, h.turn (kept_cell w p6 0 x) (Blk.set hb 0 x)⟩
set_option maxRecDepth 100000 in
set_option maxHeartbeats 8000000 in
theorem open_make {w0 W : World} {d p1 : Nat} {M : DiskM} {Os : List Og} {Q : Exit → Act → World → Prop} {g0 g2 g3 g4 g5 g6 g7 g8 g9 g10 g11 g12 g13 g14 g15 g16 g17 g18 g19 g20 g21 g22 g23 g24 g25 g26 g27 g28 g29 g30 g31 g32 g33 g34 g35 g36 g37 g38 g39 g40 g41 g42 g43 g44 g45 g46 g47 g48 g49 g50 g51 g52 g53 g54 g55 g56 g57 g58 g59 g60 g61 g62 g63 g64 g65 g66 g67 g68 g69 g70 g71 g72 g73 g74 g75 g76 g77 g78 g79 g80 g81 g82 g83 g84 g85 g86 g87 g88 : Value} {c1 : Code} {K : Act → World → Prop} (hcode : codeRegion 4 (Tryz.f25.body.getD .skip) = some c1) (h : Owg w0 W d M (.blk p1 [.pointer (some ⟨d, 0, none⟩)] 29 :: Os))
    (HEND : ∀ (p6 c : Nat) (v28 v29 v30 v31 v32 : Value) (w' : World), Hid (OpTo w0 d M (.blk p1 [.pointer (some ⟨d, 0, none⟩)] 29 :: Os) p6 c w') → K ⟨List.toArray (g0 :: (.pointer (some ⟨p1, 0, none⟩)) :: g2 :: g3 :: g4 :: g5 :: (.pointer (some ⟨p6, 0, none⟩)) :: g7 :: g8 :: g9 :: g10 :: g11 :: g12 :: g13 :: g14 :: g15 :: g16 :: g17 :: g18 :: g19 :: g20 :: g21 :: g22 :: g23 :: g24 :: g25 :: g26 :: g27 :: v28 :: v29 :: v30 :: v31 :: v32 :: g33 :: g34 :: g35 :: g36 :: g37 :: g38 :: g39 :: g40 :: g41 :: g42 :: g43 :: g44 :: g45 :: g46 :: g47 :: g48 :: g49 :: g50 :: g51 :: g52 :: g53 :: g54 :: g55 :: g56 :: g57 :: g58 :: g59 :: g60 :: g61 :: g62 :: g63 :: g64 :: g65 :: g66 :: g67 :: g68 :: g69 :: g70 :: g71 :: g72 :: g73 :: g74 :: g75 :: g76 :: g77 :: g78 :: g79 :: g80 :: g81 :: g82 :: g83 :: g84 :: g85 :: g86 :: g87 :: g88 :: []), []⟩ w') :
    Code.wp Tryz.prog c1 (Exit.then K Q) ⟨List.toArray (g0 :: (.pointer (some ⟨p1, 0, none⟩)) :: g2 :: g3 :: g4 :: g5 :: g6 :: g7 :: g8 :: g9 :: g10 :: g11 :: g12 :: g13 :: g14 :: g15 :: g16 :: g17 :: g18 :: g19 :: g20 :: g21 :: g22 :: g23 :: g24 :: g25 :: g26 :: g27 :: g28 :: g29 :: g30 :: g31 :: g32 :: g33 :: g34 :: g35 :: g36 :: g37 :: g38 :: g39 :: g40 :: g41 :: g42 :: g43 :: g44 :: g45 :: g46 :: g47 :: g48 :: g49 :: g50 :: g51 :: g52 :: g53 :: g54 :: g55 :: g56 :: g57 :: g58 :: g59 :: g60 :: g61 :: g62 :: g63 :: g64 :: g65 :: g66 :: g67 :: g68 :: g69 :: g70 :: g71 :: g72 :: g73 :: g74 :: g75 :: g76 :: g77 :: g78 :: g79 :: g80 :: g81 :: g82 :: g83 :: g84 :: g85 :: g86 :: g87 :: g88 :: []), []⟩ W := by
  have HEND := Lib.hid HEND
  simp only [Tryz.f25, Option.getD_some, codeRegion, Nat.reduceEqDiff, ↓reduceIte, Option.none_or, Option.or_none, Option.some_or, Option.some.injEq] at hcode
  subst hcode
  have hS0 : OpS p1 d W := Blk.cell (w := W) (h.has (x := .blk p1 [.pointer (some ⟨d, 0, none⟩)] 29) (by simp)) (i := 0) rfl
  have H0 := Lib.hid (h.same (Kept.refl _ _).drew)
  clear h
  refine wp_region_held_drew (S := OpS p1 d) (by kernel_rfl) hS0 (fun hS0 => ?_)
  generalize World.drew W = W0 at *
  have HST := Lib.hid (fun (X : World) (Ox : List Og) (hX : Owg w0 X d M Ox) => hX.starts (r := M.starts) rfl)
  have HBB := Lib.hid (built_chk3 d M.starts)
  refine rd3 0 1 5 (fun K hK => ?_) (fun K hK => ?_) (fun K hK => ?_)
  · have hq : W0.cell? ⟨p1, 0, none⟩ = _ := hS0
    go_simp
    clear hq
    refine hK.out _ _ hS0 (fun _ => ?_)
    clear hK K
    try simp only [lyA, lyB, lyC, lyD]
    refine rd2 1 5 (fun K hK => ?_) (fun K hK => ?_)
    · have hq : W0.cell? ⟨p1, 0, none⟩ = _ := hS0
      go_simp
      clear hq
      refine hK.out _ _ hS0 (fun _ => ?_)
      clear hK K
      try simp only [lyA, lyB, lyC, lyD]
      refine rd2 2 5 (fun K hK => ?_) (fun K hK => ?_)
      · go_simp
        refine (HST.out _ _ H0.out).mono ?_
        rintro e w2 ⟨rfl, rfl⟩
        refine hK.out _ _ hS0 (fun _ => ?_)
        clear hK K
        try simp only [lyA, lyB, lyC, lyD]
        refine rd2 3 5 (fun K hK => ?_) (fun K hK => ?_)
        · rw [if_pos (by rfl)]
          refine wp_built _ _ rfl (chkZ d M.starts).toArray (by rw [List.map_toArray]; exact HBB.out) ?_
          refine hK.out _ _ hS0 (fun _ => ?_)
          clear hK K
          try simp only [lyA, lyB, lyC, lyD]
          refine rd2 4 5 (fun K hK => ?_) (fun K hK => ?_)
          · rw [if_pos (by rfl)]
            go_simp
            obtain ⟨c, hc⟩ : ∃ x, x = W0.heap.size := ⟨_, rfl⟩
            rw [← hc]
            generalize hW1 : World.alloc W0 _ = W1
            have H1 := Lib.hid (op_box (c := chkZ d M.starts) (t := 74) H0.out hc hW1.symm)
            have hS1 : OpS p1 d W1 := Blk.cell (w := W1) (H1.out.has (x := .blk p1 [.pointer (some ⟨d, 0, none⟩)] 29) (by simp)) (i := 0) rfl
            clear hW1 hc
            refine hK.out _ _ hS1 (fun _ => ?_)
            clear hK K
            try simp only [lyA, lyB, lyC, lyD]
            refine rd1 5 (fun K hK => ?_)
            rw [if_pos (by rfl)]
            go_simp
            obtain ⟨p6, hp6⟩ : ∃ x, x = W1.heap.size := ⟨_, rfl⟩
            rw [← hp6]
            generalize hW2 : World.alloc W1 _ = W2
            have H2 := Lib.hid (op_box (c := [.pointer none]) (t := 66) H1.out hp6 hW2.symm)
            have hS2 : OpS p1 d W2 := Blk.cell (w := W2) (H2.out.has (x := .blk p1 [.pointer (some ⟨d, 0, none⟩)] 29) (by simp)) (i := 0) rfl
            clear hW2 hp6
            refine hK.out _ _ hS2 (fun _ => ?_)
            clear hK K
            try simp only [lyA, lyB, lyC, lyD]
            refine rd1 6 (fun K hK => ?_)
            have HZ := Lib.hid (op_set (x := .pointer (some ⟨c, 0, none⟩)) H2.out)
            rw [if_pos (by rfl)]
            have z1 := HZ.out.1
            have z2 := HZ.out.2.1
            go_simp
            clear z1 z2
            refine hK.out _ _ (Blk.cell (HZ.out.2.2.has (x := .blk p1 [.pointer (some ⟨d, 0, none⟩)] 29) (by simp)) (i := 0) rfl) (fun _ => ?_)
            clear hK K
            try simp only [lyA, lyB, lyC, lyD]
            refine wpAnyH_done (by kernel_rfl) ?_ _
            exact HEND.out p6 c _ _ _ _ _ _ (Lib.hid HZ.out.2.2)
          · rw [if_pos (by rfl)]
            go_simp
            obtain ⟨p6, hp6⟩ : ∃ x, x = W0.heap.size := ⟨_, rfl⟩
            rw [← hp6]
            generalize hW1 : World.alloc W0 _ = W1
            have H1 := Lib.hid (op_box (c := [.pointer none]) (t := 66) H0.out hp6 hW1.symm)
            have hS1 : OpS p1 d W1 := Blk.cell (w := W1) (H1.out.has (x := .blk p1 [.pointer (some ⟨d, 0, none⟩)] 29) (by simp)) (i := 0) rfl
            clear hW1 hp6
            refine hK.out _ _ hS1 (fun _ => ?_)
            clear hK K
            try simp only [lyA, lyB, lyC, lyD]
            refine rd1 4 (fun K hK => ?_)
            rw [if_pos (by rfl)]
            go_simp
            obtain ⟨c, hc⟩ : ∃ x, x = W1.heap.size := ⟨_, rfl⟩
            rw [← hc]
            generalize hW2 : World.alloc W1 _ = W2
            have H2 := Lib.hid (op_box (c := chkZ d M.starts) (t := 74) H1.out hc hW2.symm)
            have hS2 : OpS p1 d W2 := Blk.cell (w := W2) (H2.out.has (x := .blk p1 [.pointer (some ⟨d, 0, none⟩)] 29) (by simp)) (i := 0) rfl
            clear hW2 hc
            refine hK.out _ _ hS2 (fun _ => ?_)
            clear hK K
            try simp only [lyA, lyB, lyC, lyD]
            refine rd1 6 (fun K hK => ?_)
            have HZ := Lib.hid (op_set (x := .pointer (some ⟨c, 0, none⟩)) H2.out.two)
            rw [if_pos (by rfl)]
            have z1 := HZ.out.1
            have z2 := HZ.out.2.1
            go_simp
            clear z1 z2
            refine hK.out _ _ (Blk.cell (HZ.out.2.2.has (x := .blk p1 [.pointer (some ⟨d, 0, none⟩)] 29) (by simp)) (i := 0) rfl) (fun _ => ?_)
            clear hK K
            try simp only [lyA, lyB, lyC, lyD]
            refine wpAnyH_done (by kernel_rfl) ?_ _
            exact HEND.out p6 c _ _ _ _ _ _ (Lib.hid HZ.out.2.2)
        · rw [if_pos (by rfl)]
          go_simp
          obtain ⟨p6, hp6⟩ : ∃ x, x = W0.heap.size := ⟨_, rfl⟩
          rw [← hp6]
          generalize hW1 : World.alloc W0 _ = W1
          have H1 := Lib.hid (op_box (c := [.pointer none]) (t := 66) H0.out hp6 hW1.symm)
          have hS1 : OpS p1 d W1 := Blk.cell (w := W1) (H1.out.has (x := .blk p1 [.pointer (some ⟨d, 0, none⟩)] 29) (by simp)) (i := 0) rfl
          clear hW1 hp6
          refine hK.out _ _ hS1 (fun _ => ?_)
          clear hK K
          try simp only [lyA, lyB, lyC, lyD]
          refine rd1 3 (fun K hK => ?_)
          rw [if_pos (by rfl)]
          refine wp_built _ _ rfl (chkZ d M.starts).toArray (by rw [List.map_toArray]; exact HBB.out) ?_
          refine hK.out _ _ hS1 (fun _ => ?_)
          clear hK K
          try simp only [lyA, lyB, lyC, lyD]
          refine rd1 4 (fun K hK => ?_)
          rw [if_pos (by rfl)]
          go_simp
          obtain ⟨c, hc⟩ : ∃ x, x = W1.heap.size := ⟨_, rfl⟩
          rw [← hc]
          generalize hW2 : World.alloc W1 _ = W2
          have H2 := Lib.hid (op_box (c := chkZ d M.starts) (t := 74) H1.out hc hW2.symm)
          have hS2 : OpS p1 d W2 := Blk.cell (w := W2) (H2.out.has (x := .blk p1 [.pointer (some ⟨d, 0, none⟩)] 29) (by simp)) (i := 0) rfl
          clear hW2 hc
          refine hK.out _ _ hS2 (fun _ => ?_)
          clear hK K
          try simp only [lyA, lyB, lyC, lyD]
          refine rd1 6 (fun K hK => ?_)
          have HZ := Lib.hid (op_set (x := .pointer (some ⟨c, 0, none⟩)) H2.out.two)
          rw [if_pos (by rfl)]
          have z1 := HZ.out.1
          have z2 := HZ.out.2.1
          go_simp
          clear z1 z2
          refine hK.out _ _ (Blk.cell (HZ.out.2.2.has (x := .blk p1 [.pointer (some ⟨d, 0, none⟩)] 29) (by simp)) (i := 0) rfl) (fun _ => ?_)
          clear hK K
          try simp only [lyA, lyB, lyC, lyD]
          refine wpAnyH_done (by kernel_rfl) ?_ _
          exact HEND.out p6 c _ _ _ _ _ _ (Lib.hid HZ.out.2.2)
      · rw [if_pos (by rfl)]
        go_simp
        obtain ⟨p6, hp6⟩ : ∃ x, x = W0.heap.size := ⟨_, rfl⟩
        rw [← hp6]
        generalize hW1 : World.alloc W0 _ = W1
        have H1 := Lib.hid (op_box (c := [.pointer none]) (t := 66) H0.out hp6 hW1.symm)
        have hS1 : OpS p1 d W1 := Blk.cell (w := W1) (H1.out.has (x := .blk p1 [.pointer (some ⟨d, 0, none⟩)] 29) (by simp)) (i := 0) rfl
        clear hW1 hp6
        refine hK.out _ _ hS1 (fun _ => ?_)
        clear hK K
        try simp only [lyA, lyB, lyC, lyD]
        refine rd1 2 (fun K hK => ?_)
        go_simp
        refine (HST.out _ _ H1.out).mono ?_
        rintro e w2 ⟨rfl, rfl⟩
        refine hK.out _ _ hS1 (fun _ => ?_)
        clear hK K
        try simp only [lyA, lyB, lyC, lyD]
        refine rd1 3 (fun K hK => ?_)
        rw [if_pos (by rfl)]
        refine wp_built _ _ rfl (chkZ d M.starts).toArray (by rw [List.map_toArray]; exact HBB.out) ?_
        refine hK.out _ _ hS1 (fun _ => ?_)
        clear hK K
        try simp only [lyA, lyB, lyC, lyD]
        refine rd1 4 (fun K hK => ?_)
        rw [if_pos (by rfl)]
        go_simp
        obtain ⟨c, hc⟩ : ∃ x, x = W1.heap.size := ⟨_, rfl⟩
        rw [← hc]
        generalize hW2 : World.alloc W1 _ = W2
        have H2 := Lib.hid (op_box (c := chkZ d M.starts) (t := 74) H1.out hc hW2.symm)
        have hS2 : OpS p1 d W2 := Blk.cell (w := W2) (H2.out.has (x := .blk p1 [.pointer (some ⟨d, 0, none⟩)] 29) (by simp)) (i := 0) rfl
        clear hW2 hc
        refine hK.out _ _ hS2 (fun _ => ?_)
        clear hK K
        try simp only [lyA, lyB, lyC, lyD]
        refine rd1 6 (fun K hK => ?_)
        have HZ := Lib.hid (op_set (x := .pointer (some ⟨c, 0, none⟩)) H2.out.two)
        rw [if_pos (by rfl)]
        have z1 := HZ.out.1
        have z2 := HZ.out.2.1
        go_simp
        clear z1 z2
        refine hK.out _ _ (Blk.cell (HZ.out.2.2.has (x := .blk p1 [.pointer (some ⟨d, 0, none⟩)] 29) (by simp)) (i := 0) rfl) (fun _ => ?_)
        clear hK K
        try simp only [lyA, lyB, lyC, lyD]
        refine wpAnyH_done (by kernel_rfl) ?_ _
        exact HEND.out p6 c _ _ _ _ _ _ (Lib.hid HZ.out.2.2)
    · rw [if_pos (by rfl)]
      go_simp
      obtain ⟨p6, hp6⟩ : ∃ x, x = W0.heap.size := ⟨_, rfl⟩
      rw [← hp6]
      generalize hW1 : World.alloc W0 _ = W1
      have H1 := Lib.hid (op_box (c := [.pointer none]) (t := 66) H0.out hp6 hW1.symm)
      have hS1 : OpS p1 d W1 := Blk.cell (w := W1) (H1.out.has (x := .blk p1 [.pointer (some ⟨d, 0, none⟩)] 29) (by simp)) (i := 0) rfl
      clear hW1 hp6
      refine hK.out _ _ hS1 (fun _ => ?_)
      clear hK K
      try simp only [lyA, lyB, lyC, lyD]
      refine rd1 1 (fun K hK => ?_)
      have hq : W1.cell? ⟨p1, 0, none⟩ = _ := hS1
      go_simp
      clear hq
      refine hK.out _ _ hS1 (fun _ => ?_)
      clear hK K
      try simp only [lyA, lyB, lyC, lyD]
      refine rd1 2 (fun K hK => ?_)
      go_simp
      refine (HST.out _ _ H1.out).mono ?_
      rintro e w2 ⟨rfl, rfl⟩
      refine hK.out _ _ hS1 (fun _ => ?_)
      clear hK K
      try simp only [lyA, lyB, lyC, lyD]
      refine rd1 3 (fun K hK => ?_)
      rw [if_pos (by rfl)]
      refine wp_built _ _ rfl (chkZ d M.starts).toArray (by rw [List.map_toArray]; exact HBB.out) ?_
      refine hK.out _ _ hS1 (fun _ => ?_)
      clear hK K
      try simp only [lyA, lyB, lyC, lyD]
      refine rd1 4 (fun K hK => ?_)
      rw [if_pos (by rfl)]
      go_simp
      obtain ⟨c, hc⟩ : ∃ x, x = W1.heap.size := ⟨_, rfl⟩
      rw [← hc]
      generalize hW2 : World.alloc W1 _ = W2
      have H2 := Lib.hid (op_box (c := chkZ d M.starts) (t := 74) H1.out hc hW2.symm)
      have hS2 : OpS p1 d W2 := Blk.cell (w := W2) (H2.out.has (x := .blk p1 [.pointer (some ⟨d, 0, none⟩)] 29) (by simp)) (i := 0) rfl
      clear hW2 hc
      refine hK.out _ _ hS2 (fun _ => ?_)
      clear hK K
      try simp only [lyA, lyB, lyC, lyD]
      refine rd1 6 (fun K hK => ?_)
      have HZ := Lib.hid (op_set (x := .pointer (some ⟨c, 0, none⟩)) H2.out.two)
      rw [if_pos (by rfl)]
      have z1 := HZ.out.1
      have z2 := HZ.out.2.1
      go_simp
      clear z1 z2
      refine hK.out _ _ (Blk.cell (HZ.out.2.2.has (x := .blk p1 [.pointer (some ⟨d, 0, none⟩)] 29) (by simp)) (i := 0) rfl) (fun _ => ?_)
      clear hK K
      try simp only [lyA, lyB, lyC, lyD]
      refine wpAnyH_done (by kernel_rfl) ?_ _
      exact HEND.out p6 c _ _ _ _ _ _ (Lib.hid HZ.out.2.2)
  · have hq : W0.cell? ⟨p1, 0, none⟩ = _ := hS0
    go_simp
    clear hq
    refine hK.out _ _ hS0 (fun _ => ?_)
    clear hK K
    try simp only [lyA, lyB, lyC, lyD]
    refine rd3 0 2 5 (fun K hK => ?_) (fun K hK => ?_) (fun K hK => ?_)
    · have hq : W0.cell? ⟨p1, 0, none⟩ = _ := hS0
      go_simp
      clear hq
      refine hK.out _ _ hS0 (fun _ => ?_)
      clear hK K
      try simp only [lyA, lyB, lyC, lyD]
      refine rd2 2 5 (fun K hK => ?_) (fun K hK => ?_)
      · go_simp
        refine (HST.out _ _ H0.out).mono ?_
        rintro e w2 ⟨rfl, rfl⟩
        refine hK.out _ _ hS0 (fun _ => ?_)
        clear hK K
        try simp only [lyA, lyB, lyC, lyD]
        refine rd2 3 5 (fun K hK => ?_) (fun K hK => ?_)
        · rw [if_pos (by rfl)]
          refine wp_built _ _ rfl (chkZ d M.starts).toArray (by rw [List.map_toArray]; exact HBB.out) ?_
          refine hK.out _ _ hS0 (fun _ => ?_)
          clear hK K
          try simp only [lyA, lyB, lyC, lyD]
          refine rd2 4 5 (fun K hK => ?_) (fun K hK => ?_)
          · rw [if_pos (by rfl)]
            go_simp
            obtain ⟨c, hc⟩ : ∃ x, x = W0.heap.size := ⟨_, rfl⟩
            rw [← hc]
            generalize hW1 : World.alloc W0 _ = W1
            have H1 := Lib.hid (op_box (c := chkZ d M.starts) (t := 74) H0.out hc hW1.symm)
            have hS1 : OpS p1 d W1 := Blk.cell (w := W1) (H1.out.has (x := .blk p1 [.pointer (some ⟨d, 0, none⟩)] 29) (by simp)) (i := 0) rfl
            clear hW1 hc
            refine hK.out _ _ hS1 (fun _ => ?_)
            clear hK K
            try simp only [lyA, lyB, lyC, lyD]
            refine rd1 5 (fun K hK => ?_)
            rw [if_pos (by rfl)]
            go_simp
            obtain ⟨p6, hp6⟩ : ∃ x, x = W1.heap.size := ⟨_, rfl⟩
            rw [← hp6]
            generalize hW2 : World.alloc W1 _ = W2
            have H2 := Lib.hid (op_box (c := [.pointer none]) (t := 66) H1.out hp6 hW2.symm)
            have hS2 : OpS p1 d W2 := Blk.cell (w := W2) (H2.out.has (x := .blk p1 [.pointer (some ⟨d, 0, none⟩)] 29) (by simp)) (i := 0) rfl
            clear hW2 hp6
            refine hK.out _ _ hS2 (fun _ => ?_)
            clear hK K
            try simp only [lyA, lyB, lyC, lyD]
            refine rd1 6 (fun K hK => ?_)
            have HZ := Lib.hid (op_set (x := .pointer (some ⟨c, 0, none⟩)) H2.out)
            rw [if_pos (by rfl)]
            have z1 := HZ.out.1
            have z2 := HZ.out.2.1
            go_simp
            clear z1 z2
            refine hK.out _ _ (Blk.cell (HZ.out.2.2.has (x := .blk p1 [.pointer (some ⟨d, 0, none⟩)] 29) (by simp)) (i := 0) rfl) (fun _ => ?_)
            clear hK K
            try simp only [lyA, lyB, lyC, lyD]
            refine wpAnyH_done (by kernel_rfl) ?_ _
            exact HEND.out p6 c _ _ _ _ _ _ (Lib.hid HZ.out.2.2)
          · rw [if_pos (by rfl)]
            go_simp
            obtain ⟨p6, hp6⟩ : ∃ x, x = W0.heap.size := ⟨_, rfl⟩
            rw [← hp6]
            generalize hW1 : World.alloc W0 _ = W1
            have H1 := Lib.hid (op_box (c := [.pointer none]) (t := 66) H0.out hp6 hW1.symm)
            have hS1 : OpS p1 d W1 := Blk.cell (w := W1) (H1.out.has (x := .blk p1 [.pointer (some ⟨d, 0, none⟩)] 29) (by simp)) (i := 0) rfl
            clear hW1 hp6
            refine hK.out _ _ hS1 (fun _ => ?_)
            clear hK K
            try simp only [lyA, lyB, lyC, lyD]
            refine rd1 4 (fun K hK => ?_)
            rw [if_pos (by rfl)]
            go_simp
            obtain ⟨c, hc⟩ : ∃ x, x = W1.heap.size := ⟨_, rfl⟩
            rw [← hc]
            generalize hW2 : World.alloc W1 _ = W2
            have H2 := Lib.hid (op_box (c := chkZ d M.starts) (t := 74) H1.out hc hW2.symm)
            have hS2 : OpS p1 d W2 := Blk.cell (w := W2) (H2.out.has (x := .blk p1 [.pointer (some ⟨d, 0, none⟩)] 29) (by simp)) (i := 0) rfl
            clear hW2 hc
            refine hK.out _ _ hS2 (fun _ => ?_)
            clear hK K
            try simp only [lyA, lyB, lyC, lyD]
            refine rd1 6 (fun K hK => ?_)
            have HZ := Lib.hid (op_set (x := .pointer (some ⟨c, 0, none⟩)) H2.out.two)
            rw [if_pos (by rfl)]
            have z1 := HZ.out.1
            have z2 := HZ.out.2.1
            go_simp
            clear z1 z2
            refine hK.out _ _ (Blk.cell (HZ.out.2.2.has (x := .blk p1 [.pointer (some ⟨d, 0, none⟩)] 29) (by simp)) (i := 0) rfl) (fun _ => ?_)
            clear hK K
            try simp only [lyA, lyB, lyC, lyD]
            refine wpAnyH_done (by kernel_rfl) ?_ _
            exact HEND.out p6 c _ _ _ _ _ _ (Lib.hid HZ.out.2.2)
        · rw [if_pos (by rfl)]
          go_simp
          obtain ⟨p6, hp6⟩ : ∃ x, x = W0.heap.size := ⟨_, rfl⟩
          rw [← hp6]
          generalize hW1 : World.alloc W0 _ = W1
          have H1 := Lib.hid (op_box (c := [.pointer none]) (t := 66) H0.out hp6 hW1.symm)
          have hS1 : OpS p1 d W1 := Blk.cell (w := W1) (H1.out.has (x := .blk p1 [.pointer (some ⟨d, 0, none⟩)] 29) (by simp)) (i := 0) rfl
          clear hW1 hp6
          refine hK.out _ _ hS1 (fun _ => ?_)
          clear hK K
          try simp only [lyA, lyB, lyC, lyD]
          refine rd1 3 (fun K hK => ?_)
          rw [if_pos (by rfl)]
          refine wp_built _ _ rfl (chkZ d M.starts).toArray (by rw [List.map_toArray]; exact HBB.out) ?_
          refine hK.out _ _ hS1 (fun _ => ?_)
          clear hK K
          try simp only [lyA, lyB, lyC, lyD]
          refine rd1 4 (fun K hK => ?_)
          rw [if_pos (by rfl)]
          go_simp
          obtain ⟨c, hc⟩ : ∃ x, x = W1.heap.size := ⟨_, rfl⟩
          rw [← hc]
          generalize hW2 : World.alloc W1 _ = W2
          have H2 := Lib.hid (op_box (c := chkZ d M.starts) (t := 74) H1.out hc hW2.symm)
          have hS2 : OpS p1 d W2 := Blk.cell (w := W2) (H2.out.has (x := .blk p1 [.pointer (some ⟨d, 0, none⟩)] 29) (by simp)) (i := 0) rfl
          clear hW2 hc
          refine hK.out _ _ hS2 (fun _ => ?_)
          clear hK K
          try simp only [lyA, lyB, lyC, lyD]
          refine rd1 6 (fun K hK => ?_)
          have HZ := Lib.hid (op_set (x := .pointer (some ⟨c, 0, none⟩)) H2.out.two)
          rw [if_pos (by rfl)]
          have z1 := HZ.out.1
          have z2 := HZ.out.2.1
          go_simp
          clear z1 z2
          refine hK.out _ _ (Blk.cell (HZ.out.2.2.has (x := .blk p1 [.pointer (some ⟨d, 0, none⟩)] 29) (by simp)) (i := 0) rfl) (fun _ => ?_)
          clear hK K
          try simp only [lyA, lyB, lyC, lyD]
          refine wpAnyH_done (by kernel_rfl) ?_ _
          exact HEND.out p6 c _ _ _ _ _ _ (Lib.hid HZ.out.2.2)
      · rw [if_pos (by rfl)]
        go_simp
        obtain ⟨p6, hp6⟩ : ∃ x, x = W0.heap.size := ⟨_, rfl⟩
        rw [← hp6]
        generalize hW1 : World.alloc W0 _ = W1
        have H1 := Lib.hid (op_box (c := [.pointer none]) (t := 66) H0.out hp6 hW1.symm)
        have hS1 : OpS p1 d W1 := Blk.cell (w := W1) (H1.out.has (x := .blk p1 [.pointer (some ⟨d, 0, none⟩)] 29) (by simp)) (i := 0) rfl
        clear hW1 hp6
        refine hK.out _ _ hS1 (fun _ => ?_)
        clear hK K
        try simp only [lyA, lyB, lyC, lyD]
        refine rd1 2 (fun K hK => ?_)
        go_simp
        refine (HST.out _ _ H1.out).mono ?_
        rintro e w2 ⟨rfl, rfl⟩
        refine hK.out _ _ hS1 (fun _ => ?_)
        clear hK K
        try simp only [lyA, lyB, lyC, lyD]
        refine rd1 3 (fun K hK => ?_)
        rw [if_pos (by rfl)]
        refine wp_built _ _ rfl (chkZ d M.starts).toArray (by rw [List.map_toArray]; exact HBB.out) ?_
        refine hK.out _ _ hS1 (fun _ => ?_)
        clear hK K
        try simp only [lyA, lyB, lyC, lyD]
        refine rd1 4 (fun K hK => ?_)
        rw [if_pos (by rfl)]
        go_simp
        obtain ⟨c, hc⟩ : ∃ x, x = W1.heap.size := ⟨_, rfl⟩
        rw [← hc]
        generalize hW2 : World.alloc W1 _ = W2
        have H2 := Lib.hid (op_box (c := chkZ d M.starts) (t := 74) H1.out hc hW2.symm)
        have hS2 : OpS p1 d W2 := Blk.cell (w := W2) (H2.out.has (x := .blk p1 [.pointer (some ⟨d, 0, none⟩)] 29) (by simp)) (i := 0) rfl
        clear hW2 hc
        refine hK.out _ _ hS2 (fun _ => ?_)
        clear hK K
        try simp only [lyA, lyB, lyC, lyD]
        refine rd1 6 (fun K hK => ?_)
        have HZ := Lib.hid (op_set (x := .pointer (some ⟨c, 0, none⟩)) H2.out.two)
        rw [if_pos (by rfl)]
        have z1 := HZ.out.1
        have z2 := HZ.out.2.1
        go_simp
        clear z1 z2
        refine hK.out _ _ (Blk.cell (HZ.out.2.2.has (x := .blk p1 [.pointer (some ⟨d, 0, none⟩)] 29) (by simp)) (i := 0) rfl) (fun _ => ?_)
        clear hK K
        try simp only [lyA, lyB, lyC, lyD]
        refine wpAnyH_done (by kernel_rfl) ?_ _
        exact HEND.out p6 c _ _ _ _ _ _ (Lib.hid HZ.out.2.2)
    · go_simp
      refine (HST.out _ _ H0.out).mono ?_
      rintro e w2 ⟨rfl, rfl⟩
      refine hK.out _ _ hS0 (fun _ => ?_)
      clear hK K
      try simp only [lyA, lyB, lyC, lyD]
      refine rd2 0 5 (fun K hK => ?_) (fun K hK => ?_)
      · have hq : W0.cell? ⟨p1, 0, none⟩ = _ := hS0
        go_simp
        clear hq
        refine hK.out _ _ hS0 (fun _ => ?_)
        clear hK K
        try simp only [lyA, lyB, lyC, lyD]
        refine rd2 3 5 (fun K hK => ?_) (fun K hK => ?_)
        · rw [if_pos (by rfl)]
          refine wp_built _ _ rfl (chkZ d M.starts).toArray (by rw [List.map_toArray]; exact HBB.out) ?_
          refine hK.out _ _ hS0 (fun _ => ?_)
          clear hK K
          try simp only [lyA, lyB, lyC, lyD]
          refine rd2 4 5 (fun K hK => ?_) (fun K hK => ?_)
          · rw [if_pos (by rfl)]
            go_simp
            obtain ⟨c, hc⟩ : ∃ x, x = W0.heap.size := ⟨_, rfl⟩
            rw [← hc]
            generalize hW1 : World.alloc W0 _ = W1
            have H1 := Lib.hid (op_box (c := chkZ d M.starts) (t := 74) H0.out hc hW1.symm)
            have hS1 : OpS p1 d W1 := Blk.cell (w := W1) (H1.out.has (x := .blk p1 [.pointer (some ⟨d, 0, none⟩)] 29) (by simp)) (i := 0) rfl
            clear hW1 hc
            refine hK.out _ _ hS1 (fun _ => ?_)
            clear hK K
            try simp only [lyA, lyB, lyC, lyD]
            refine rd1 5 (fun K hK => ?_)
            rw [if_pos (by rfl)]
            go_simp
            obtain ⟨p6, hp6⟩ : ∃ x, x = W1.heap.size := ⟨_, rfl⟩
            rw [← hp6]
            generalize hW2 : World.alloc W1 _ = W2
            have H2 := Lib.hid (op_box (c := [.pointer none]) (t := 66) H1.out hp6 hW2.symm)
            have hS2 : OpS p1 d W2 := Blk.cell (w := W2) (H2.out.has (x := .blk p1 [.pointer (some ⟨d, 0, none⟩)] 29) (by simp)) (i := 0) rfl
            clear hW2 hp6
            refine hK.out _ _ hS2 (fun _ => ?_)
            clear hK K
            try simp only [lyA, lyB, lyC, lyD]
            refine rd1 6 (fun K hK => ?_)
            have HZ := Lib.hid (op_set (x := .pointer (some ⟨c, 0, none⟩)) H2.out)
            rw [if_pos (by rfl)]
            have z1 := HZ.out.1
            have z2 := HZ.out.2.1
            go_simp
            clear z1 z2
            refine hK.out _ _ (Blk.cell (HZ.out.2.2.has (x := .blk p1 [.pointer (some ⟨d, 0, none⟩)] 29) (by simp)) (i := 0) rfl) (fun _ => ?_)
            clear hK K
            try simp only [lyA, lyB, lyC, lyD]
            refine wpAnyH_done (by kernel_rfl) ?_ _
            exact HEND.out p6 c _ _ _ _ _ _ (Lib.hid HZ.out.2.2)
          · rw [if_pos (by rfl)]
            go_simp
            obtain ⟨p6, hp6⟩ : ∃ x, x = W0.heap.size := ⟨_, rfl⟩
            rw [← hp6]
            generalize hW1 : World.alloc W0 _ = W1
            have H1 := Lib.hid (op_box (c := [.pointer none]) (t := 66) H0.out hp6 hW1.symm)
            have hS1 : OpS p1 d W1 := Blk.cell (w := W1) (H1.out.has (x := .blk p1 [.pointer (some ⟨d, 0, none⟩)] 29) (by simp)) (i := 0) rfl
            clear hW1 hp6
            refine hK.out _ _ hS1 (fun _ => ?_)
            clear hK K
            try simp only [lyA, lyB, lyC, lyD]
            refine rd1 4 (fun K hK => ?_)
            rw [if_pos (by rfl)]
            go_simp
            obtain ⟨c, hc⟩ : ∃ x, x = W1.heap.size := ⟨_, rfl⟩
            rw [← hc]
            generalize hW2 : World.alloc W1 _ = W2
            have H2 := Lib.hid (op_box (c := chkZ d M.starts) (t := 74) H1.out hc hW2.symm)
            have hS2 : OpS p1 d W2 := Blk.cell (w := W2) (H2.out.has (x := .blk p1 [.pointer (some ⟨d, 0, none⟩)] 29) (by simp)) (i := 0) rfl
            clear hW2 hc
            refine hK.out _ _ hS2 (fun _ => ?_)
            clear hK K
            try simp only [lyA, lyB, lyC, lyD]
            refine rd1 6 (fun K hK => ?_)
            have HZ := Lib.hid (op_set (x := .pointer (some ⟨c, 0, none⟩)) H2.out.two)
            rw [if_pos (by rfl)]
            have z1 := HZ.out.1
            have z2 := HZ.out.2.1
            go_simp
            clear z1 z2
            refine hK.out _ _ (Blk.cell (HZ.out.2.2.has (x := .blk p1 [.pointer (some ⟨d, 0, none⟩)] 29) (by simp)) (i := 0) rfl) (fun _ => ?_)
            clear hK K
            try simp only [lyA, lyB, lyC, lyD]
            refine wpAnyH_done (by kernel_rfl) ?_ _
            exact HEND.out p6 c _ _ _ _ _ _ (Lib.hid HZ.out.2.2)
        · rw [if_pos (by rfl)]
          go_simp
          obtain ⟨p6, hp6⟩ : ∃ x, x = W0.heap.size := ⟨_, rfl⟩
          rw [← hp6]
          generalize hW1 : World.alloc W0 _ = W1
          have H1 := Lib.hid (op_box (c := [.pointer none]) (t := 66) H0.out hp6 hW1.symm)
          have hS1 : OpS p1 d W1 := Blk.cell (w := W1) (H1.out.has (x := .blk p1 [.pointer (some ⟨d, 0, none⟩)] 29) (by simp)) (i := 0) rfl
          clear hW1 hp6
          refine hK.out _ _ hS1 (fun _ => ?_)
          clear hK K
          try simp only [lyA, lyB, lyC, lyD]
          refine rd1 3 (fun K hK => ?_)
          rw [if_pos (by rfl)]
          refine wp_built _ _ rfl (chkZ d M.starts).toArray (by rw [List.map_toArray]; exact HBB.out) ?_
          refine hK.out _ _ hS1 (fun _ => ?_)
          clear hK K
          try simp only [lyA, lyB, lyC, lyD]
          refine rd1 4 (fun K hK => ?_)
          rw [if_pos (by rfl)]
          go_simp
          obtain ⟨c, hc⟩ : ∃ x, x = W1.heap.size := ⟨_, rfl⟩
          rw [← hc]
          generalize hW2 : World.alloc W1 _ = W2
          have H2 := Lib.hid (op_box (c := chkZ d M.starts) (t := 74) H1.out hc hW2.symm)
          have hS2 : OpS p1 d W2 := Blk.cell (w := W2) (H2.out.has (x := .blk p1 [.pointer (some ⟨d, 0, none⟩)] 29) (by simp)) (i := 0) rfl
          clear hW2 hc
          refine hK.out _ _ hS2 (fun _ => ?_)
          clear hK K
          try simp only [lyA, lyB, lyC, lyD]
          refine rd1 6 (fun K hK => ?_)
          have HZ := Lib.hid (op_set (x := .pointer (some ⟨c, 0, none⟩)) H2.out.two)
          rw [if_pos (by rfl)]
          have z1 := HZ.out.1
          have z2 := HZ.out.2.1
          go_simp
          clear z1 z2
          refine hK.out _ _ (Blk.cell (HZ.out.2.2.has (x := .blk p1 [.pointer (some ⟨d, 0, none⟩)] 29) (by simp)) (i := 0) rfl) (fun _ => ?_)
          clear hK K
          try simp only [lyA, lyB, lyC, lyD]
          refine wpAnyH_done (by kernel_rfl) ?_ _
          exact HEND.out p6 c _ _ _ _ _ _ (Lib.hid HZ.out.2.2)
      · rw [if_pos (by rfl)]
        go_simp
        obtain ⟨p6, hp6⟩ : ∃ x, x = W0.heap.size := ⟨_, rfl⟩
        rw [← hp6]
        generalize hW1 : World.alloc W0 _ = W1
        have H1 := Lib.hid (op_box (c := [.pointer none]) (t := 66) H0.out hp6 hW1.symm)
        have hS1 : OpS p1 d W1 := Blk.cell (w := W1) (H1.out.has (x := .blk p1 [.pointer (some ⟨d, 0, none⟩)] 29) (by simp)) (i := 0) rfl
        clear hW1 hp6
        refine hK.out _ _ hS1 (fun _ => ?_)
        clear hK K
        try simp only [lyA, lyB, lyC, lyD]
        refine rd1 0 (fun K hK => ?_)
        have hq : W1.cell? ⟨p1, 0, none⟩ = _ := hS1
        go_simp
        clear hq
        refine hK.out _ _ hS1 (fun _ => ?_)
        clear hK K
        try simp only [lyA, lyB, lyC, lyD]
        refine rd1 3 (fun K hK => ?_)
        rw [if_pos (by rfl)]
        refine wp_built _ _ rfl (chkZ d M.starts).toArray (by rw [List.map_toArray]; exact HBB.out) ?_
        refine hK.out _ _ hS1 (fun _ => ?_)
        clear hK K
        try simp only [lyA, lyB, lyC, lyD]
        refine rd1 4 (fun K hK => ?_)
        rw [if_pos (by rfl)]
        go_simp
        obtain ⟨c, hc⟩ : ∃ x, x = W1.heap.size := ⟨_, rfl⟩
        rw [← hc]
        generalize hW2 : World.alloc W1 _ = W2
        have H2 := Lib.hid (op_box (c := chkZ d M.starts) (t := 74) H1.out hc hW2.symm)
        have hS2 : OpS p1 d W2 := Blk.cell (w := W2) (H2.out.has (x := .blk p1 [.pointer (some ⟨d, 0, none⟩)] 29) (by simp)) (i := 0) rfl
        clear hW2 hc
        refine hK.out _ _ hS2 (fun _ => ?_)
        clear hK K
        try simp only [lyA, lyB, lyC, lyD]
        refine rd1 6 (fun K hK => ?_)
        have HZ := Lib.hid (op_set (x := .pointer (some ⟨c, 0, none⟩)) H2.out.two)
        rw [if_pos (by rfl)]
        have z1 := HZ.out.1
        have z2 := HZ.out.2.1
        go_simp
        clear z1 z2
        refine hK.out _ _ (Blk.cell (HZ.out.2.2.has (x := .blk p1 [.pointer (some ⟨d, 0, none⟩)] 29) (by simp)) (i := 0) rfl) (fun _ => ?_)
        clear hK K
        try simp only [lyA, lyB, lyC, lyD]
        refine wpAnyH_done (by kernel_rfl) ?_ _
        exact HEND.out p6 c _ _ _ _ _ _ (Lib.hid HZ.out.2.2)
    · rw [if_pos (by rfl)]
      go_simp
      obtain ⟨p6, hp6⟩ : ∃ x, x = W0.heap.size := ⟨_, rfl⟩
      rw [← hp6]
      generalize hW1 : World.alloc W0 _ = W1
      have H1 := Lib.hid (op_box (c := [.pointer none]) (t := 66) H0.out hp6 hW1.symm)
      have hS1 : OpS p1 d W1 := Blk.cell (w := W1) (H1.out.has (x := .blk p1 [.pointer (some ⟨d, 0, none⟩)] 29) (by simp)) (i := 0) rfl
      clear hW1 hp6
      refine hK.out _ _ hS1 (fun _ => ?_)
      clear hK K
      try simp only [lyA, lyB, lyC, lyD]
      refine rd2 0 2 (fun K hK => ?_) (fun K hK => ?_)
      · have hq : W1.cell? ⟨p1, 0, none⟩ = _ := hS1
        go_simp
        clear hq
        refine hK.out _ _ hS1 (fun _ => ?_)
        clear hK K
        try simp only [lyA, lyB, lyC, lyD]
        refine rd1 2 (fun K hK => ?_)
        go_simp
        refine (HST.out _ _ H1.out).mono ?_
        rintro e w2 ⟨rfl, rfl⟩
        refine hK.out _ _ hS1 (fun _ => ?_)
        clear hK K
        try simp only [lyA, lyB, lyC, lyD]
        refine rd1 3 (fun K hK => ?_)
        rw [if_pos (by rfl)]
        refine wp_built _ _ rfl (chkZ d M.starts).toArray (by rw [List.map_toArray]; exact HBB.out) ?_
        refine hK.out _ _ hS1 (fun _ => ?_)
        clear hK K
        try simp only [lyA, lyB, lyC, lyD]
        refine rd1 4 (fun K hK => ?_)
        rw [if_pos (by rfl)]
        go_simp
        obtain ⟨c, hc⟩ : ∃ x, x = W1.heap.size := ⟨_, rfl⟩
        rw [← hc]
        generalize hW2 : World.alloc W1 _ = W2
        have H2 := Lib.hid (op_box (c := chkZ d M.starts) (t := 74) H1.out hc hW2.symm)
        have hS2 : OpS p1 d W2 := Blk.cell (w := W2) (H2.out.has (x := .blk p1 [.pointer (some ⟨d, 0, none⟩)] 29) (by simp)) (i := 0) rfl
        clear hW2 hc
        refine hK.out _ _ hS2 (fun _ => ?_)
        clear hK K
        try simp only [lyA, lyB, lyC, lyD]
        refine rd1 6 (fun K hK => ?_)
        have HZ := Lib.hid (op_set (x := .pointer (some ⟨c, 0, none⟩)) H2.out.two)
        rw [if_pos (by rfl)]
        have z1 := HZ.out.1
        have z2 := HZ.out.2.1
        go_simp
        clear z1 z2
        refine hK.out _ _ (Blk.cell (HZ.out.2.2.has (x := .blk p1 [.pointer (some ⟨d, 0, none⟩)] 29) (by simp)) (i := 0) rfl) (fun _ => ?_)
        clear hK K
        try simp only [lyA, lyB, lyC, lyD]
        refine wpAnyH_done (by kernel_rfl) ?_ _
        exact HEND.out p6 c _ _ _ _ _ _ (Lib.hid HZ.out.2.2)
      · go_simp
        refine (HST.out _ _ H1.out).mono ?_
        rintro e w2 ⟨rfl, rfl⟩
        refine hK.out _ _ hS1 (fun _ => ?_)
        clear hK K
        try simp only [lyA, lyB, lyC, lyD]
        refine rd1 0 (fun K hK => ?_)
        have hq : W1.cell? ⟨p1, 0, none⟩ = _ := hS1
        go_simp
        clear hq
        refine hK.out _ _ hS1 (fun _ => ?_)
        clear hK K
        try simp only [lyA, lyB, lyC, lyD]
        refine rd1 3 (fun K hK => ?_)
        rw [if_pos (by rfl)]
        refine wp_built _ _ rfl (chkZ d M.starts).toArray (by rw [List.map_toArray]; exact HBB.out) ?_
        refine hK.out _ _ hS1 (fun _ => ?_)
        clear hK K
        try simp only [lyA, lyB, lyC, lyD]
        refine rd1 4 (fun K hK => ?_)
        rw [if_pos (by rfl)]
        go_simp
        obtain ⟨c, hc⟩ : ∃ x, x = W1.heap.size := ⟨_, rfl⟩
        rw [← hc]
        generalize hW2 : World.alloc W1 _ = W2
        have H2 := Lib.hid (op_box (c := chkZ d M.starts) (t := 74) H1.out hc hW2.symm)
        have hS2 : OpS p1 d W2 := Blk.cell (w := W2) (H2.out.has (x := .blk p1 [.pointer (some ⟨d, 0, none⟩)] 29) (by simp)) (i := 0) rfl
        clear hW2 hc
        refine hK.out _ _ hS2 (fun _ => ?_)
        clear hK K
        try simp only [lyA, lyB, lyC, lyD]
        refine rd1 6 (fun K hK => ?_)
        have HZ := Lib.hid (op_set (x := .pointer (some ⟨c, 0, none⟩)) H2.out.two)
        rw [if_pos (by rfl)]
        have z1 := HZ.out.1
        have z2 := HZ.out.2.1
        go_simp
        clear z1 z2
        refine hK.out _ _ (Blk.cell (HZ.out.2.2.has (x := .blk p1 [.pointer (some ⟨d, 0, none⟩)] 29) (by simp)) (i := 0) rfl) (fun _ => ?_)
        clear hK K
        try simp only [lyA, lyB, lyC, lyD]
        refine wpAnyH_done (by kernel_rfl) ?_ _
        exact HEND.out p6 c _ _ _ _ _ _ (Lib.hid HZ.out.2.2)
  · rw [if_pos (by rfl)]
    go_simp
    obtain ⟨p6, hp6⟩ : ∃ x, x = W0.heap.size := ⟨_, rfl⟩
    rw [← hp6]
    generalize hW1 : World.alloc W0 _ = W1
    have H1 := Lib.hid (op_box (c := [.pointer none]) (t := 66) H0.out hp6 hW1.symm)
    have hS1 : OpS p1 d W1 := Blk.cell (w := W1) (H1.out.has (x := .blk p1 [.pointer (some ⟨d, 0, none⟩)] 29) (by simp)) (i := 0) rfl
    clear hW1 hp6
    refine hK.out _ _ hS1 (fun _ => ?_)
    clear hK K
    try simp only [lyA, lyB, lyC, lyD]
    refine rd2 0 1 (fun K hK => ?_) (fun K hK => ?_)
    · have hq : W1.cell? ⟨p1, 0, none⟩ = _ := hS1
      go_simp
      clear hq
      refine hK.out _ _ hS1 (fun _ => ?_)
      clear hK K
      try simp only [lyA, lyB, lyC, lyD]
      refine rd1 1 (fun K hK => ?_)
      have hq : W1.cell? ⟨p1, 0, none⟩ = _ := hS1
      go_simp
      clear hq
      refine hK.out _ _ hS1 (fun _ => ?_)
      clear hK K
      try simp only [lyA, lyB, lyC, lyD]
      refine rd1 2 (fun K hK => ?_)
      go_simp
      refine (HST.out _ _ H1.out).mono ?_
      rintro e w2 ⟨rfl, rfl⟩
      refine hK.out _ _ hS1 (fun _ => ?_)
      clear hK K
      try simp only [lyA, lyB, lyC, lyD]
      refine rd1 3 (fun K hK => ?_)
      rw [if_pos (by rfl)]
      refine wp_built _ _ rfl (chkZ d M.starts).toArray (by rw [List.map_toArray]; exact HBB.out) ?_
      refine hK.out _ _ hS1 (fun _ => ?_)
      clear hK K
      try simp only [lyA, lyB, lyC, lyD]
      refine rd1 4 (fun K hK => ?_)
      rw [if_pos (by rfl)]
      go_simp
      obtain ⟨c, hc⟩ : ∃ x, x = W1.heap.size := ⟨_, rfl⟩
      rw [← hc]
      generalize hW2 : World.alloc W1 _ = W2
      have H2 := Lib.hid (op_box (c := chkZ d M.starts) (t := 74) H1.out hc hW2.symm)
      have hS2 : OpS p1 d W2 := Blk.cell (w := W2) (H2.out.has (x := .blk p1 [.pointer (some ⟨d, 0, none⟩)] 29) (by simp)) (i := 0) rfl
      clear hW2 hc
      refine hK.out _ _ hS2 (fun _ => ?_)
      clear hK K
      try simp only [lyA, lyB, lyC, lyD]
      refine rd1 6 (fun K hK => ?_)
      have HZ := Lib.hid (op_set (x := .pointer (some ⟨c, 0, none⟩)) H2.out.two)
      rw [if_pos (by rfl)]
      have z1 := HZ.out.1
      have z2 := HZ.out.2.1
      go_simp
      clear z1 z2
      refine hK.out _ _ (Blk.cell (HZ.out.2.2.has (x := .blk p1 [.pointer (some ⟨d, 0, none⟩)] 29) (by simp)) (i := 0) rfl) (fun _ => ?_)
      clear hK K
      try simp only [lyA, lyB, lyC, lyD]
      refine wpAnyH_done (by kernel_rfl) ?_ _
      exact HEND.out p6 c _ _ _ _ _ _ (Lib.hid HZ.out.2.2)
    · have hq : W1.cell? ⟨p1, 0, none⟩ = _ := hS1
      go_simp
      clear hq
      refine hK.out _ _ hS1 (fun _ => ?_)
      clear hK K
      try simp only [lyA, lyB, lyC, lyD]
      refine rd2 0 2 (fun K hK => ?_) (fun K hK => ?_)
      · have hq : W1.cell? ⟨p1, 0, none⟩ = _ := hS1
        go_simp
        clear hq
        refine hK.out _ _ hS1 (fun _ => ?_)
        clear hK K
        try simp only [lyA, lyB, lyC, lyD]
        refine rd1 2 (fun K hK => ?_)
        go_simp
        refine (HST.out _ _ H1.out).mono ?_
        rintro e w2 ⟨rfl, rfl⟩
        refine hK.out _ _ hS1 (fun _ => ?_)
        clear hK K
        try simp only [lyA, lyB, lyC, lyD]
        refine rd1 3 (fun K hK => ?_)
        rw [if_pos (by rfl)]
        refine wp_built _ _ rfl (chkZ d M.starts).toArray (by rw [List.map_toArray]; exact HBB.out) ?_
        refine hK.out _ _ hS1 (fun _ => ?_)
        clear hK K
        try simp only [lyA, lyB, lyC, lyD]
        refine rd1 4 (fun K hK => ?_)
        rw [if_pos (by rfl)]
        go_simp
        obtain ⟨c, hc⟩ : ∃ x, x = W1.heap.size := ⟨_, rfl⟩
        rw [← hc]
        generalize hW2 : World.alloc W1 _ = W2
        have H2 := Lib.hid (op_box (c := chkZ d M.starts) (t := 74) H1.out hc hW2.symm)
        have hS2 : OpS p1 d W2 := Blk.cell (w := W2) (H2.out.has (x := .blk p1 [.pointer (some ⟨d, 0, none⟩)] 29) (by simp)) (i := 0) rfl
        clear hW2 hc
        refine hK.out _ _ hS2 (fun _ => ?_)
        clear hK K
        try simp only [lyA, lyB, lyC, lyD]
        refine rd1 6 (fun K hK => ?_)
        have HZ := Lib.hid (op_set (x := .pointer (some ⟨c, 0, none⟩)) H2.out.two)
        rw [if_pos (by rfl)]
        have z1 := HZ.out.1
        have z2 := HZ.out.2.1
        go_simp
        clear z1 z2
        refine hK.out _ _ (Blk.cell (HZ.out.2.2.has (x := .blk p1 [.pointer (some ⟨d, 0, none⟩)] 29) (by simp)) (i := 0) rfl) (fun _ => ?_)
        clear hK K
        try simp only [lyA, lyB, lyC, lyD]
        refine wpAnyH_done (by kernel_rfl) ?_ _
        exact HEND.out p6 c _ _ _ _ _ _ (Lib.hid HZ.out.2.2)
      · go_simp
        refine (HST.out _ _ H1.out).mono ?_
        rintro e w2 ⟨rfl, rfl⟩
        refine hK.out _ _ hS1 (fun _ => ?_)
        clear hK K
        try simp only [lyA, lyB, lyC, lyD]
        refine rd1 0 (fun K hK => ?_)
        have hq : W1.cell? ⟨p1, 0, none⟩ = _ := hS1
        go_simp
        clear hq
        refine hK.out _ _ hS1 (fun _ => ?_)
        clear hK K
        try simp only [lyA, lyB, lyC, lyD]
        refine rd1 3 (fun K hK => ?_)
        rw [if_pos (by rfl)]
        refine wp_built _ _ rfl (chkZ d M.starts).toArray (by rw [List.map_toArray]; exact HBB.out) ?_
        refine hK.out _ _ hS1 (fun _ => ?_)
        clear hK K
        try simp only [lyA, lyB, lyC, lyD]
        refine rd1 4 (fun K hK => ?_)
        rw [if_pos (by rfl)]
        go_simp
        obtain ⟨c, hc⟩ : ∃ x, x = W1.heap.size := ⟨_, rfl⟩
        rw [← hc]
        generalize hW2 : World.alloc W1 _ = W2
        have H2 := Lib.hid (op_box (c := chkZ d M.starts) (t := 74) H1.out hc hW2.symm)
        have hS2 : OpS p1 d W2 := Blk.cell (w := W2) (H2.out.has (x := .blk p1 [.pointer (some ⟨d, 0, none⟩)] 29) (by simp)) (i := 0) rfl
        clear hW2 hc
        refine hK.out _ _ hS2 (fun _ => ?_)
        clear hK K
        try simp only [lyA, lyB, lyC, lyD]
        refine rd1 6 (fun K hK => ?_)
        have HZ := Lib.hid (op_set (x := .pointer (some ⟨c, 0, none⟩)) H2.out.two)
        rw [if_pos (by rfl)]
        have z1 := HZ.out.1
        have z2 := HZ.out.2.1
        go_simp
        clear z1 z2
        refine hK.out _ _ (Blk.cell (HZ.out.2.2.has (x := .blk p1 [.pointer (some ⟨d, 0, none⟩)] 29) (by simp)) (i := 0) rfl) (fun _ => ?_)
        clear hK K
        try simp only [lyA, lyB, lyC, lyD]
        refine wpAnyH_done (by kernel_rfl) ?_ _
        exact HEND.out p6 c _ _ _ _ _ _ (Lib.hid HZ.out.2.2)
end Go.Proofs.YtlgeijbgkipliaaGreatDoor

namespace Go.Proofs.YtlgeijbgkipliaaGreatDoor
open Go.RowKit Go.Shelf
attribute [local go_sem] Oper.semAt_some
section
variable {w0 w w' : World} {d D : Nat} {M M' : DiskM} {Os : List Og} {y : Int}
theorem loop_end2 {w6 : World} (h6 : Owg w0 w6 d M (Og.obj D (.deferred (some [])) :: Os)) : w6.heap[D]? = some (.deferred (some [])) ∧ Owg w0 (w6.putObj D (.deferred none)) d M Os :=
  ⟨h6.has (x := Og.obj D (.deferred (some []))) (List.mem_cons_self ..), h6.poke ((grown_kept (grownBy_putObj' w6 D (.deferred none))).mono (fun k _ e => by cases e; rfl))⟩
theorem mendM_none {file en : Int} (hf : M.files = []) : mendM M file en true = M.sync := by
  unfold mendM
  rw [hf]
  rfl
set_option maxRecDepth 100000 in
set_option maxHeartbeats 8000000 in
theorem chk_open0 (h : Owg w0 w d M Os) (hup : M.down = false) (hf : M.files = []) (he : M.sync = (0, M')) :
    Calls Tryz.prog 25 #[.pointer (some ⟨d, 0, none⟩)] w fun e w' => ∃ c, e = .returned (.tuple #[.pointer (some ⟨c, 0, none⟩), .int .i64 0]) ∧ Owg w0 w' d M' (.blk c (chkZ d M.starts) 74 :: Os) := by
  refine (callsIn_wide (n := 6)).1 ?_
  obtain ⟨W1, hW1⟩ : ∃ W1, W1 = ((w.alloc (.cells #[.pointer (some ⟨d, 0, none⟩)] 29)).alloc (.cells #[.pointer none] 66)).alloc (.cells #[.int .i64 0] 30) := ⟨_, rfl⟩
  have h1 : Owg w0 W1 d M (.blk w.heap.size [.pointer (some ⟨d, 0, none⟩)] 29 :: .blk (w.heap.size + 1) [.pointer none] 66 :: .blk (w.heap.size + 1 + 1) [.int .i64 0] 30 :: Os) := by
    have := ((h.new [.pointer (some ⟨d, 0, none⟩)] 29).new [.pointer none] 66).new [.int .i64 0] 30
    rw [World.size_alloc, World.size_alloc] at this
    rw [hW1]
    exact this.perm ((List.Perm.swap _ _ _).trans (((List.Perm.swap _ _ _).cons _).trans (List.Perm.swap _ _ _)))
  have c1 := Blk.cell (w := W1) (h1.has (x := .blk w.heap.size [.pointer (some ⟨d, 0, none⟩)] 29) (by simp)) (i := 0) rfl
  have HUP := Lib.hid (callsIn_wide (n := 5) |>.2 (h1.isup (b := true) (by rw [hup]; rfl)))
  have hfU : Fence.wide.fn 32 := trivial
  have hfF : Fence.wide.fn 28 := trivial
  have hfB : Fence.wide.fn 79 := trivial
  have hfM : Fence.wide.fn 82 := trivial
  have H1 := Lib.hid h1
  have HE := Lib.hid (And.intro he hf)
  clear h h1 he hf hup
  refine callsIn_of_wp_marks Tryz.func25 rfl trivial ?_ rfl
  simp only [Tryz.ntmps25, List.size_toArray, List.length_cons, List.length_nil, Nat.reduceAdd, Nat.reduceSub, Array.replicate_succ, Array.replicate_zero, List.push_toArray, List.append_toArray, List.nil_append, List.cons_append]
  gi_upto_region 1 with (fail)
  generalize hWx : World.alloc _ _ = Wx
  obtain rfl : W1 = Wx := by rw [hW1, ← hWx]
  clear hW1 hWx
  generalize w.heap.size = z at *
  gi_upto_region 4 with (gi_at_call 32; refine HUP.out.mono ?_; rintro e w' ⟨rfl, rfl⟩)
  refine wpIn_wide.2 ?_
  refine open_make (by kernel_rfl) H1.out ?hend
  intro p6 c v28 v29 v30 v31 v32 W2 h2
  clear c1 HUP hfU H1
  gi_upto_region 6 with fail
  have h3 : Owg w0 ((W2.alloc (.cells #[.int .i64 0] 3)).alloc (.cells #[.bool true] 4)) d M (.blk (W2.heap.size + 1) [.bool true] 4 :: .blk W2.heap.size [.int .i64 0] 3 :: .blk p6 [.pointer (some ⟨c, 0, none⟩)] 66 :: .blk c (chkZ d M.starts) 74 :: .blk z [.pointer (some ⟨d, 0, none⟩)] 29 :: .blk (z + 1) [.pointer none] 66 :: .blk (z + 1 + 1) [.int .i64 0] 30 :: Os) := by
    have := (h2.out.new [.int .i64 0] 3).new [.bool true] 4
    rw [World.size_alloc] at this
    exact this
  generalize World.alloc _ _ = W3 at *
  generalize W2.heap.size + 1 = wb at *
  generalize W2.heap.size = eb at *
  have cz := Blk.cell (w := W3) (h3.has (x := .blk z [.pointer (some ⟨d, 0, none⟩)] 29) (by simp)) (i := 0) rfl
  have HF := Lib.hid (callsIn_wide (n := 5) |>.2 h3.dfiles)
  have HBK := Lib.hid (fun a m c w' => callsIn_wide (n := 5) |>.2 (backward_any a m c w'))
  clear h2 h3
  gi_wp2_with (first | (gi_at_call 28; refine HF.out.mono ?_; rintro e w2 ⟨xa, xm, xc, rfl, rfl, h4⟩) | (gi_at_call 79; refine (HBK.out _ _ _ _).mono ?_; rintro e w' ⟨rfl, rfl⟩))
  have hBs := Blk.new w2 [.slice xa M.files.length xc] 83
  have hz : w2.heap.size < (w2.alloc (.cells #[.slice xa M.files.length xc] 83)).heap.size := by rw [World.size_alloc]; omega
  have h0 := h4.new [.slice xa M.files.length xc] 83
  have hBs' : Blk (w2.alloc (.cells #[.slice xa M.files.length xc] 83)) w2.heap.size [.slice xa M.files.length xc] 83 := hBs
  obtain ⟨W0, hW0⟩ : ∃ W0, w2.alloc (.cells #[.slice xa M.files.length xc] 83) = W0 := ⟨_, rfl⟩
  rw [hW0] at h0 hBs' hz ⊢
  have hrow0 : Row W0 3 1 (.slice xa M.files.length xc) (icells (M.files.map (·.1))) := by
    have q := h0.has (x := .irow (.slice xa M.files.length xc) (M.files.map (·.1))) (by simp)
    exact q
  rw [icells_intsV] at hrow0
  obtain ⟨ns, hns⟩ : ∃ ns, M.files.map (·.1) = ns := ⟨_, rfl⟩
  have hnil : ns = [] := by rw [← hns, HE.out.2]; rfl
  rw [hns] at hrow0
  have HO := Lib.hid h0
  clear h4 h0 hW0 hBs HBK HF hfF hfB cz hns
  have hI : OwnFrom (β := List (BkX ns)) W0.heap.size (fun _ W => Kept (fun k => W0.heap.size ≤ k) W0 W) := fun pre X Y row h hg hr =>
    h.trans ((grown_kept hg).mono (fun k _ e => (hr k e).1))
  refine wpIn_rangeFunc_ownH rfl (by omega) (gf := 119) (lb := #[.pointer (some ⟨w2.heap.size, 0, none⟩)]) rfl trivial (enters_of Tryz.func119 (by kernel_rfl) rfl)
    (backB_stops Fence.wide _ trivial rfl (by omega) w2.heap.size W0.heap.size (fun k => ¬ (k = w2.heap.size ∨ (Value.slice xa M.files.length xc).ownBlock = some k)) (.slice xa M.files.length xc) ns (by rw [hnil]; intro x hx; cases hx) (by rw [hnil]; simp) W0 (hBs'.cell (i := 0) rfl) hz ⟨hz, fun q => q (Or.inl rfl)⟩ hrow0 (fun k q => ⟨hrow0.lt q, fun n => n (Or.inr q)⟩))
    (fun h1 h2 => h1.trans h2) (fun W l o o' hl _ _ _ => KeptB.putObj _ W l o' hl) (Below.refl _ _) (fun _ => rfl)
    (fun _ W => Kept (fun k => W0.heap.size ≤ k) W0 W) (fun _ _ _ => False) hI (fun _ _ _ _ _ hs _ _ => hs) (Kept.refl _ _) (fun _ _ _ => True)
    ?hAx ?assign ?body ?done ?stop
  case hAx => exact fun _ _ _ _ _ _ _ _ _ => trivial
  case assign =>
    intro l pre x W K hi hK
    subst hnil
    exact absurd x.2 (by simp [backsI])
  case body =>
    intro g pre x a' W hl hr hJ ha hlt
    subst hnil
    exact absurd x.2 (by simp [backsI])
  case stop =>
    rintro D cc pre W hD hp h hK
    exact h.elim
  case done =>
    rintro D ys W hD hy hJ hK
    have h5 := (HO.out.add (x := Og.obj D (.deferred (some []))) (hJ.mono (fun k hk q => by omega)) hK (fun k e => by have : k = D := e; omega)).perm (List.perm_middle (l₁ := [_, _, _, _, _, _]))
    have c6 := Blk.cell (w := W) (h5.has (x := .blk p6 [.pointer (some ⟨c, 0, none⟩)] 66) (by simp)) (i := 0) rfl
    have ce := Blk.cell (w := W) (h5.has (x := .blk eb [.int .i64 0] 3) (by simp)) (i := 0) rfl
    have cw := Blk.cell (w := W) (h5.has (x := .blk wb [.bool true] 4) (by simp)) (i := 0) rfl
    have HM := Lib.hid (callsIn_wide (n := 5) |>.2 (chk_mend h5 ⟨by decide, by decide⟩ 0 true (show mendM M (-1) 0 true = (0, M') from by rw [mendM_none HE.out.2]; exact HE.out.1)))
    clear h5 hJ hy hrow0 hBs' hz hI
    gi_wp2_with (gi_at_call 82; refine HM.out.mono ?_; rintro e w6 ⟨rfl, h6⟩; have c66 := Blk.cell (w := w6) (h6.has (x := .blk p6 [.pointer (some ⟨c, 0, none⟩)] 66) (by simp)) (i := 0) rfl; have b2 := h6.has (x := .blk (z + 1) [.pointer none] 66) (by simp); have b3 := h6.has (x := .blk (z + 1 + 1) [.int .i64 0] 30) (by simp); have e2 := Blk.cell (w := w6) b2 (i := 0) rfl; have e3 := Blk.cell (w := w6) b3 (i := 0) rfl; have z2 := Blk.free (w := w6) b2 0; have z3 := Blk.free (w := w6) b3 0; have H6 := Lib.hid h6; clear h6 b2 b3)
    have h7 : Owg w0 w6 d M' (.blk (z + 1) [.pointer none] 66 :: .blk c (chkZ d M.starts) 74 :: .obj D (.deferred (some [])) :: .blk w2.heap.size [.slice xa M.files.length xc] 83 :: .irow (.slice xa M.files.length xc) (M.files.map (·.1)) :: .blk wb [.bool true] 4 :: .blk eb [.int .i64 0] 3 :: .blk p6 [.pointer (some ⟨c, 0, none⟩)] 66 :: .blk z [.pointer (some ⟨d, 0, none⟩)] 29 :: .blk (z + 1 + 1) [.int .i64 0] 30 :: Os) := H6.out.perm (List.perm_middle (l₁ := [_, _, _, _, _, _, _, _]))
    have h8 := (op_set (x := .pointer (some ⟨c, 0, none⟩)) h7).2.2
    generalize hW7 : w6.setCell _ _ = W7 at h8 ⊢
    have h9 : Owg w0 W7 d M' (.blk (z + 1 + 1) [.int .i64 0] 30 :: .blk (z + 1) [.pointer (some ⟨c, 0, none⟩)] 66 :: .blk c (chkZ d M.starts) 74 :: .obj D (.deferred (some [])) :: .blk w2.heap.size [.slice xa M.files.length xc] 83 :: .irow (.slice xa M.files.length xc) (M.files.map (·.1)) :: .blk wb [.bool true] 4 :: .blk eb [.int .i64 0] 3 :: .blk p6 [.pointer (some ⟨c, 0, none⟩)] 66 :: .blk z [.pointer (some ⟨d, 0, none⟩)] 29 :: Os) := h8.perm (List.perm_middle (l₁ := [_, _, _, _, _, _, _, _, _]))
    have h10 := (op_set (x := .int .i64 0) h9).2.2
    generalize hW8 : W7.setCell _ _ = W8 at h10 ⊢
    have h11 : Owg w0 W8 d M' (.obj D (.deferred (some [])) :: .blk (z + 1 + 1) [.int .i64 0] 30 :: .blk (z + 1) [.pointer (some ⟨c, 0, none⟩)] 66 :: .blk c (chkZ d M.starts) 74 :: .blk w2.heap.size [.slice xa M.files.length xc] 83 :: .irow (.slice xa M.files.length xc) (M.files.map (·.1)) :: .blk wb [.bool true] 4 :: .blk eb [.int .i64 0] 3 :: .blk p6 [.pointer (some ⟨c, 0, none⟩)] 66 :: .blk z [.pointer (some ⟨d, 0, none⟩)] 29 :: Os) := h10.perm (List.perm_middle (l₁ := [_, _, _]))
    obtain ⟨hK8, h12⟩ := loop_end2 h11
    have r2 := Blk.cell (h12.has (x := .blk (z + 1) [.pointer (some ⟨c, 0, none⟩)] 66) (by simp)) (i := 0) rfl
    have r3 := Blk.cell (h12.has (x := .blk (z + 1 + 1) [.int .i64 0] 30) (by simp)) (i := 0) rfl
    refine ⟨by simp, .inl ⟨_, _, rfl, run_takeDeferred hK8, .tuple #[.pointer (some ⟨c, 0, none⟩), .int .i64 0], ?_, c, rfl, h12.drop.drop.sub (List.Sublist.cons_cons _ ?_)⟩⟩
    · simp [results, Tryz.f25, go_sem, r2, r3]
    · exact (((((List.sublist_cons_self _ _).cons _).cons _).cons _).cons _).cons _
end
end Go.Proofs.YtlgeijbgkipliaaGreatDoor
