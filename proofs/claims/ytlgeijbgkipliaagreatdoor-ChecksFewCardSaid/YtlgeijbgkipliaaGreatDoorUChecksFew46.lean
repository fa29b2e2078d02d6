/- Package checks: Open: the statement that makes checks. Package checks: Open on a disk without files. Law 15: what the laws' walks hold. Law 15: what the chapter's example needs. Law 15: the chapter's example. -/
import Derived.Test.YtlgeijbgkipliaaGreatDoorUChecksFew43
import Derived.Test.YtlgeijbgkipliaaGreatDoorUChecksFew02
import Derived.Test.YtlgeijbgkipliaaGreatDoorUChecksFew45
set_option linter.unusedVariables false
set_option linter.unusedSimpArgs false
namespace Go.Proofs.YtlgeijbgkipliaaGreatDoor
open Go.RowKit Go.Shelf

section
variable {P : Program} {ops : Array Oper} {Q : Exit → Act → World → Prop} {md : Region.Mode} {S : World → Prop} {fuel : Nat} {listed : Array Bool} {a : Act} {w : World}
/-- Three may come up. -/
theorem rd3 {oi oj ok : Oper} (i j k : Nat) (h1 : ∀ K' : Act → World → Prop, Shut (∀ a w, S w → (S w → wpAnyH P md ops Q S fuel (listed.setIfInBounds i true) a w) → K' a w) → if Region.wanted oi (yielded ops a.tmps) = true then Oper.wp P oi a w K' Q else K' (a.put oi.dst undef) w)
    (h2 : ∀ K' : Act → World → Prop, Shut (∀ a w, S w → (S w → wpAnyH P md ops Q S fuel (listed.setIfInBounds j true) a w) → K' a w) → if Region.wanted oj (yielded ops a.tmps) = true then Oper.wp P oj a w K' Q else K' (a.put oj.dst undef) w)
    (h3 : ∀ K' : Act → World → Prop, Shut (∀ a w, S w → (S w → wpAnyH P md ops Q S fuel (listed.setIfInBounds k true) a w) → K' a w) → if Region.wanted ok (yielded ops a.tmps) = true then Oper.wp P ok a w K' Q else K' (a.put ok.dst undef) w)
    (hr : Region.ready md ops listed = [i, j, k] := by kernel_rfl) (ho : ops.toList[i]? = some oi := by rfl) (ho2 : ops.toList[j]? = some oj := by rfl) (ho3 : ops.toList[k]? = some ok := by rfl) : wpAnyH P md ops Q S (fuel + 1) listed a w :=
  wpAnyH_ready hr (by simp) (AllReadyH.cons (by rw [← Array.getElem?_toList]; exact ho) h1 (AllReadyH.cons (by rw [← Array.getElem?_toList]; exact ho2) h2 (AllReadyH.cons (by rw [← Array.getElem?_toList]; exact ho3) h3 AllReadyH.nil)))
theorem wp_built {o : Oper} {K : Act → World → Prop} (t : TypeId) (parts : Array (Nat × Operand)) (ho : o.op = .build t parts) (cells : Array Value) (hb : P.built t (parts.map fun (i, x) => (i, a.eval x)).toList = some cells) (h : K (a.put o.dst (.agg cells)) w) : o.wp P a w K Q :=
  wp_build t parts ho (by rw [hb]; rfl) (by rw [hb]; exact h)
end
/-- The region of that number. -/
def codeRegion (n : Nat) : Code → Option Code
  | .region m o d => if m = n then some (.region m o d) else none
  | .seq a b => (codeRegion n a).or (codeRegion n b)
  | .cond _ a b => (codeRegion n a).or (codeRegion n b)
  | .block _ c => codeRegion n c
  | .loop c => codeRegion n c
  | .rangeFunc _ _ a b => (codeRegion n a).or (codeRegion n b)
  | _ => none
/-- Checks, made anew. -/
abbrev chkZ (d : Nat) (st : Int) : List Value := chkC d (-1) 0 pointZ st false
theorem chkZ_len {d : Nat} {st : Int} : (chkZ d st).length = 43 := by simp [chkC, zeros_len]
abbrev chk0 : List Value := .pointer none :: .int .i64 0 :: .int .i64 0 :: (pointZ ++ [.int .i64 0, .bool false])
theorem built_chk (parts : List (Nat × Value)) : (Tryz.prog).built 74 parts = Instr.fill ((#[(0, 1), (1, 1), (2, 1), (3, 38), (41, 1), (42, 1)] : Array (Nat × Nat))[·]?) chk0.toArray parts := by kernel_rfl
set_option maxRecDepth 100000 in
theorem built_chk3 (d : Nat) (st : Int) : (Tryz.prog).built 74 [(0, .pointer (some ⟨d, 0, none⟩)), (1, .int .i64 (-1)), (4, .int .i64 st)] = some (chkZ d st).toArray := by
  rw [built_chk]
  have hz : (zeros 32).length = 32 := zeros_len 32
  simp [Instr.fill, Value.cells, chkC, hz, List.set_append]
/-- What holds all the way through the statement. -/
def OpS (p d : Nat) (W : World) : Prop := W.cell? ⟨p, 0, none⟩ = some (.pointer (some ⟨d, 0, none⟩))
/-- What it leaves. -/
def OpTo (w0 : World) (d : Nat) (M : DiskM) (Os : List Og) (p6 c : Nat) (w' : World) : Prop := Owg w0 w' d M (.blk p6 [.pointer (some ⟨c, 0, none⟩)] 66 :: .blk c (chkZ d M.starts) 74 :: Os)
theorem op_box {w0 w w' : World} {d : Nat} {M : DiskM} {Os : List Og} {c : List Value} {t : TypeId} (h : Owg w0 w d M Os) {b : Nat} (hb : b = w.heap.size) (hW : w' = w.alloc (.cells c.toArray t)) : Owg w0 w' d M (.blk b c t :: Os) := by
  rw [hb, hW]; exact h.new c t
theorem op_set {w0 w : World} {d p6 : Nat} {M : DiskM} {Os : List Og} {v : Value} {t : TypeId} (h : Owg w0 w d M (.blk p6 [v] t :: Os)) (x : Value) : w.frozen? ⟨p6, 0, none⟩ = false ∧ w.cell? ⟨p6, 0, none⟩ = some v ∧ Owg w0 (w.setCell ⟨p6, 0, none⟩ x) d M (.blk p6 [x] t :: Os) := by
  have hb := h.has (x := .blk p6 [v] t) (List.mem_cons_self ..)
  exact ⟨Blk.free hb 0, Blk.cell hb (i := 0) rfl, h.turn (kept_cell w p6 0 x) (Blk.set hb 0 x)⟩
set_option maxRecDepth 100000 in
set_option maxHeartbeats 8000000 in
theorem open_make {w0 W : World} {d p1 : Nat} {M : DiskM} {Os : List Og} {Q : Exit → Act → World → Prop} {g0 g2 g3 g4 g5 g6 g7 g8 g9 g10 g11 g12 g13 g14 g15 g16 g17 g18 g19 g20 g21 g22 g23 g24 g25 g26 g27 g28 g29 g30 g31 g32 g33 g34 g35 g36 g37 g38 g39 g40 g41 g42 g43 g44 g45 g46 g47 g48 g49 g50 g51 g52 g53 g54 g55 g56 g57 g58 g59 g60 g61 g62 g63 g64 g65 g66 g67 g68 g69 g70 g71 g72 g73 g74 g75 g76 g77 g78 g79 g80 g81 g82 g83 g84 g85 g86 g87 g88 : Value} {c1 : Code} {K : Act → World → Prop} (hcode : codeRegion 4 (Tryz.f25.body.getD .skip) = some c1) (h : Owg w0 W d M (.blk p1 [.pointer (some ⟨d, 0, none⟩)] 29 :: Os))
    (HEND : ∀ (p6 c : Nat) (v28 v29 v30 v31 v32 : Value) (w' : World), Hid (OpTo w0 d M (.blk p1 [.pointer (some ⟨d, 0, none⟩)] 29 :: Os) p6 c w') → K ⟨List.toArray (g0 :: (.pointer (some ⟨p1, 0, none⟩)) :: g2 :: g3 :: g4 :: g5 :: (.pointer (some ⟨p6, 0, none⟩)) :: g7 :: g8 :: g9 :: g10 :: g11 :: g12 :: g13 :: g14 :: g15 :: g16 :: g17 :: g18 :: g19 :: g20 :: g21 :: g22 :: g23 :: g24 :: g25 :: g26 :: g27 :: v28 :: v29 :: v30 :: v31 :: v32 :: g33 :: g34 :: g35 :: g36 :: g37 :: g38 :: g39 :: g40 :: g41 :: g42 :: g43 :: g44 :: g45 :: g46 :: g47 :: g48 :: g49 :: g50 :: g51 :: g52 :: g53 :: g54 :: g55 :: g56 :: g57 :: g58 :: g59 :: g60 :: g61 :: g62 :: g63 :: g64 :: g65 :: g66 :: g67 :: g68 :: g69 :: g70 :: g71 :: g72 :: g73 :: g74 :: g75 :: g76 :: g77 :: g78 :: g79 :: g80 :: g81 :: g82 :: g83 :: g84 :: g85 :: g86 :: g87 :: g88 :: []), []⟩ w') :
    Code.wp Tryz.prog c1 (Exit.then K Q) ⟨List.toArray (g0 :: (.pointer (some ⟨p1, 0, none⟩)) :: g2 :: g3 :: g4 :: g5 :: g6 :: g7 :: g8 :: g9 :: g10 :: g11 :: g12 :: g13 :: g14 :: g15 :: g16 :: g17 :: g18 :: g19 :: g20 :: g21 :: g22 :: g23 :: g24 :: g25 :: g26 :: g27 :: g28 :: g29 :: g30 :: g31 :: g32 :: g33 :: g34 :: g35 :: g36 :: g37 :: g38 :: g39 :: g40 :: g41 :: g42 :: g43 :: g44 :: g45 :: g46 :: g47 :: g48 :: g49 :: g50 :: g51 :: g52 :: g53 :: g54 :: g55 :: g56 :: g57 :: g58 :: g59 :: g60 :: g61 :: g62 :: g63 :: g64 :: g65 :: g66 :: g67 :: g68 :: g69 :: g70 :: g71 :: g72 :: g73 :: g74 :: g75 :: g76 :: g77 :: g78 :: g79 :: g80 :: g81 :: g82 :: g83 :: g84 :: g85 :: g86 :: g87 :: g88 :: []), []⟩ W := by
  have HEND := Lib.hid HEND
  simp only [Tryz.f25, Option.getD_some, codeRegion, Nat.reduceEqDiff, ↓reduceIte, Option.none_or, Option.or_none, Option.some_or, Option.some.injEq] at hcode
  subst hcode
  have hS0 : OpS p1 d W := Blk.cell (w := W) (h.has (x := .blk p1 [.pointer (some ⟨d, 0, none⟩)] 29) (by simp)) (i := 0) rfl
  have H0 := Lib.hid (h.same (Kept.refl _ _).drew)
  clear h
  refine wp_region_held_drew (S := OpS p1 d) (by kernel_rfl) hS0 (fun hS0 => ?_)
  generalize World.drew W = W0 at *
  have HST := Lib.hid (fun (X : World) (Ox : List Og) (hX : Owg w0 X d M Ox) => hX.starts (r := M.starts) rfl)
  have HBB := Lib.hid (built_chk3 d M.starts)
  refine rd3 0 1 5 (fun K hK => ?_) (fun K hK => ?_) (fun K hK => ?_)
  · have hq : W0.cell? ⟨p1, 0, none⟩ = _ := hS0
    go_simp
    clear hq
    refine hK.out _ _ hS0 (fun _ => ?_)
    clear hK K
    try simp only [lyA, lyB, lyC, lyD]
    refine rd2 1 5 (fun K hK => ?_) (fun K hK => ?_)
    · have hq : W0.cell? ⟨p1, 0, none⟩ = _ := hS0
      go_simp
      clear hq
      refine hK.out _ _ hS0 (fun _ => ?_)
      clear hK K
      try simp only [lyA, lyB, lyC, lyD]
      refine rd2 2 5 (fun K hK => ?_) (fun K hK => ?_)
      · go_simp
        refine (HST.out _ _ H0.out).mono ?_
        rintro e w2 ⟨rfl, rfl⟩
        refine hK.out _ _ hS0 (fun _ => ?_)
        clear hK K
        try simp only [lyA, lyB, lyC, lyD]
        refine rd2 3 5 (fun K hK => ?_) (fun K hK => ?_)
        · rw [if_pos (by rfl)]
          refine wp_built _ _ rfl (chkZ d M.starts).toArray (by rw [List.map_toArray]; exact HBB.out) ?_
          refine hK.out _ _ hS0 (fun _ => ?_)
          clear hK K
          try simp only [lyA, lyB, lyC, lyD]
          refine rd2 4 5 (fun K hK => ?_) (fun K hK => ?_)
          · rw [if_pos (by rfl)]
            go_simp
            obtain ⟨c, hc⟩ : ∃ x, x = W0.heap.size := ⟨_, rfl⟩
            rw [← hc]
            generalize hW1 : World.alloc W0 _ = W1
            have H1 := Lib.hid (op_box (c := chkZ d M.starts) (t := 74) H0.out hc hW1.symm)
            have hS1 : OpS p1 d W1 := Blk.cell (w := W1) (H1.out.has (x := .blk p1 [.pointer (some ⟨d, 0, none⟩)] 29) (by simp)) (i := 0) rfl
            clear hW1 hc
            refine hK.out _ _ hS1 (fun _ => ?_)
            clear hK K
            try simp only [lyA, lyB, lyC, lyD]
            refine rd1 5 (fun K hK => ?_)
            rw [if_pos (by rfl)]
            go_simp
            obtain ⟨p6, hp6⟩ : ∃ x, x = W1.heap.size := ⟨_, rfl⟩
            rw [← hp6]
            generalize hW2 : World.alloc W1 _ = W2
            have H2 := Lib.hid (op_box (c := [.pointer none]) (t := 66) H1.out hp6 hW2.symm)
            have hS2 : OpS p1 d W2 := Blk.cell (w := W2) (H2.out.has (x := .blk p1 [.pointer (some ⟨d, 0, none⟩)] 29) (by simp)) (i := 0) rfl
            clear hW2 hp6
            refine hK.out _ _ hS2 (fun _ => ?_)
            clear hK K
            try simp only [lyA, lyB, lyC, lyD]
            refine rd1 6 (fun K hK => ?_)
            have HZ := Lib.hid (op_set (x := .pointer (some ⟨c, 0, none⟩)) H2.out)
            rw [if_pos (by rfl)]
            have z1 := HZ.out.1
            have z2 := HZ.out.2.1
            go_simp
            clear z1 z2
            refine hK.out _ _ (Blk.cell (HZ.out.2.2.has (x := .blk p1 [.pointer (some ⟨d, 0, none⟩)] 29) (by simp)) (i := 0) rfl) (fun _ => ?_)
            clear hK K
            try simp only [lyA, lyB, lyC, lyD]
            refine wpAnyH_done (by kernel_rfl) ?_ _
            exact HEND.out p6 c _ _ _ _ _ _ (Lib.hid HZ.out.2.2)
          · rw [if_pos (by rfl)]
            go_simp
            obtain ⟨p6, hp6⟩ : ∃ x, x = W0.heap.size := ⟨_, rfl⟩
            rw [← hp6]
            generalize hW1 : World.alloc W0 _ = W1
            have H1 := Lib.hid (op_box (c := [.pointer none]) (t := 66) H0.out hp6 hW1.symm)
            have hS1 : OpS p1 d W1 := Blk.cell (w := W1) (H1.out.has (x := .blk p1 [.pointer (some ⟨d, 0, none⟩)] 29) (by simp)) (i := 0) rfl
            clear hW1 hp6
            refine hK.out _ _ hS1 (fun _ => ?_)
            clear hK K
            try simp only [lyA, lyB, lyC, lyD]
            refine rd1 4 (fun K hK => ?_)
            rw [if_pos (by rfl)]
            go_simp
            obtain ⟨c, hc⟩ : ∃ x, x = W1.heap.size := ⟨_, rfl⟩
            rw [← hc]
            generalize hW2 : World.alloc W1 _ = W2
            have H2 := Lib.hid (op_box (c := chkZ d M.starts) (t := 74) H1.out hc hW2.symm)
            have hS2 : OpS p1 d W2 := Blk.cell (w := W2) (H2.out.has (x := .blk p1 [.pointer (some ⟨d, 0, none⟩)] 29) (by simp)) (i := 0) rfl
            clear hW2 hc
            refine hK.out _ _ hS2 (fun _ => ?_)
            clear hK K
            try simp only [lyA, lyB, lyC, lyD]
            refine rd1 6 (fun K hK => ?_)
            have HZ := Lib.hid (op_set (x := .pointer (some ⟨c, 0, none⟩)) H2.out.two)
            rw [if_pos (by rfl)]
            have z1 := HZ.out.1
            have z2 := HZ.out.2.1
            go_simp
            clear z1 z2
            refine hK.out _ _ (Blk.cell (HZ.out.2.2.has (x := .blk p1 [.pointer (some ⟨d, 0, none⟩)] 29) (by simp)) (i := 0) rfl) (fun _ => ?_)
            clear hK K
            try simp only [lyA, lyB, lyC, lyD]
            refine wpAnyH_done (by kernel_rfl) ?_ _
            exact HEND.out p6 c _ _ _ _ _ _ (Lib.hid HZ.out.2.2)
        · rw [if_pos (by rfl)]
          go_simp
          obtain ⟨p6, hp6⟩ : ∃ x, x = W0.heap.size := ⟨_, rfl⟩
          rw [← hp6]
          generalize hW1 : World.alloc W0 _ = W1
          have H1 := Lib.hid (op_box (c := [.pointer none]) (t := 66) H0.out hp6 hW1.symm)
          have hS1 : OpS p1 d W1 := Blk.cell (w := W1) (H1.out.has (x := .blk p1 [.pointer (some ⟨d, 0, none⟩)] 29) (by simp)) (i := 0) rfl
          clear hW1 hp6
          refine hK.out _ _ hS1 (fun _ => ?_)
          clear hK K
          try simp only [lyA, lyB, lyC, lyD]
          refine rd1 3 (fun K hK => ?_)
          rw [if_pos (by rfl)]
          refine wp_built _ _ rfl (chkZ d M.starts).toArray (by rw [List.map_toArray]; exact HBB.out) ?_
          refine hK.out _ _ hS1 (fun _ => ?_)
          clear hK K
          try simp only [lyA, lyB, lyC, lyD]
          refine rd1 4 (fun K hK => ?_)
          rw [if_pos (by rfl)]
          go_simp
          obtain ⟨c, hc⟩ : ∃ x, x = W1.heap.size := ⟨_, rfl⟩
          rw [← hc]
          generalize hW2 : World.alloc W1 _ = W2
          have H2 := Lib.hid (op_box (c := chkZ d M.starts) (t := 74) H1.out hc hW2.symm)
          have hS2 : OpS p1 d W2 := Blk.cell (w := W2) (H2.out.has (x := .blk p1 [.pointer (some ⟨d, 0, none⟩)] 29) (by simp)) (i := 0) rfl
          clear hW2 hc
          refine hK.out _ _ hS2 (fun _ => ?_)
          clear hK K
          try simp only [lyA, lyB, lyC, lyD]
          refine rd1 6 (fun K hK => ?_)
          have HZ := Lib.hid (op_set (x := .pointer (some ⟨c, 0, none⟩)) H2.out.two)
          rw [if_pos (by rfl)]
          have z1 := HZ.out.1
          have z2 := HZ.out.2.1
          go_simp
          clear z1 z2
          refine hK.out _ _ (Blk.cell (HZ.out.2.2.has (x := .blk p1 [.pointer (some ⟨d, 0, none⟩)] 29) (by simp)) (i := 0) rfl) (fun _ => ?_)
          clear hK K
          try simp only [lyA, lyB, lyC, lyD]
          refine wpAnyH_done (by kernel_rfl) ?_ _
          exact HEND.out p6 c _ _ _ _ _ _ (Lib.hid HZ.out.2.2)
      · rw [if_pos (by rfl)]
        go_simp
        obtain ⟨p6, hp6⟩ : ∃ x, x = W0.heap.size := ⟨_, rfl⟩
        rw [← hp6]
        generalize hW1 : World.alloc W0 _ = W1
        have H1 := Lib.hid (op_box (c := [.pointer none]) (t := 66) H0.out hp6 hW1.symm)
        have hS1 : OpS p1 d W1 := Blk.cell (w := W1) (H1.out.has (x := .blk p1 [.pointer (some ⟨d, 0, none⟩)] 29) (by simp)) (i := 0) rfl
        clear hW1 hp6
        refine hK.out _ _ hS1 (fun _ => ?_)
        clear hK K
        try simp only [lyA, lyB, lyC, lyD]
        refine rd1 2 (fun K hK => ?_)
        go_simp
        refine (HST.out _ _ H1.out).mono ?_
        rintro e w2 ⟨rfl, rfl⟩
        refine hK.out _ _ hS1 (fun _ => ?_)
        clear hK K
        try simp only [lyA, lyB, lyC, lyD]
        refine rd1 3 (fun K hK => ?_)
        rw [if_pos (by rfl)]
        refine wp_built _ _ rfl (chkZ d M.starts).toArray (by rw [List.map_toArray]; exact HBB.out) ?_
        refine hK.out _ _ hS1 (fun _ => ?_)
        clear hK K
        try simp only [lyA, lyB, lyC, lyD]
        refine rd1 4 (fun K hK => ?_)
        rw [if_pos (by rfl)]
        go_simp
        obtain ⟨c, hc⟩ : ∃ x, x = W1.heap.size := ⟨_, rfl⟩
        rw [← hc]
        generalize hW2 : World.alloc W1 _ = W2
        have H2 := Lib.hid (op_box (c := chkZ d M.starts) (t := 74) H1.out hc hW2.symm)
        have hS2 : OpS p1 d W2 := Blk.cell (w := W2) (H2.out.has (x := .blk p1 [.pointer (some ⟨d, 0, none⟩)] 29) (by simp)) (i := 0) rfl
        clear hW2 hc
        refine hK.out _ _ hS2 (fun _ => ?_)
        clear hK K
        try simp only [lyA, lyB, lyC, lyD]
        refine rd1 6 (fun K hK => ?_)
        have HZ := Lib.hid (op_set (x := .pointer (some ⟨c, 0, none⟩)) H2.out.two)
        rw [if_pos (by rfl)]
        have z1 := HZ.out.1
        have z2 := HZ.out.2.1
        go_simp
        clear z1 z2
        refine hK.out _ _ (Blk.cell (HZ.out.2.2.has (x := .blk p1 [.pointer (some ⟨d, 0, none⟩)] 29) (by simp)) (i := 0) rfl) (fun _ => ?_)
        clear hK K
        try simp only [lyA, lyB, lyC, lyD]
        refine wpAnyH_done (by kernel_rfl) ?_ _
        exact HEND.out p6 c _ _ _ _ _ _ (Lib.hid HZ.out.2.2)
    · rw [if_pos (by rfl)]
      go_simp
      obtain ⟨p6, hp6⟩ : ∃ x, x = W0.heap.size := ⟨_, rfl⟩
      rw [← hp6]
      generalize hW1 : World.alloc W0 _ = W1
      have H1 := Lib.hid (op_box (c := [.pointer none]) (t := 66) H0.out hp6 hW1.symm)
      have hS1 : OpS p1 d W1 := Blk.cell (w := W1) (H1.out.has (x := .blk p1 [.pointer (some ⟨d, 0, none⟩)] 29) (by simp)) (i := 0) rfl
      clear hW1 hp6
      refine hK.out _ _ hS1 (fun _ => ?_)
      clear hK K
      try simp only [lyA, lyB, lyC, lyD]
      refine rd1 1 (fun K hK => ?_)
      have hq : W1.cell? ⟨p1, 0, none⟩ = _ := hS1
      go_simp
      clear hq
      refine hK.out _ _ hS1 (fun _ => ?_)
      clear hK K
      try simp only [lyA, lyB, lyC, lyD]
      refine rd1 2 (fun K hK => ?_)
      go_simp
      refine (HST.out _ _ H1.out).mono ?_
      rintro e w2 ⟨rfl, rfl⟩
      refine hK.out _ _ hS1 (fun _ => ?_)
      clear hK K
      try simp only [lyA, lyB, lyC, lyD]
      refine rd1 3 (fun K hK => ?_)
      rw [if_pos (by rfl)]
      refine wp_built _ _ rfl (chkZ d M.starts).toArray (by rw [List.map_toArray]; exact HBB.out) ?_
      refine hK.out _ _ hS1 (fun _ => ?_)
      clear hK K
      try simp only [lyA, lyB, lyC, lyD]
      refine rd1 4 (fun K hK => ?_)
      rw [if_pos (by rfl)]
      go_simp
      obtain ⟨c, hc⟩ : ∃ x, x = W1.heap.size := ⟨_, rfl⟩
      rw [← hc]
      generalize hW2 : World.alloc W1 _ = W2
      have H2 := Lib.hid (op_box (c := chkZ d M.starts) (t := 74) H1.out hc hW2.symm)
      have hS2 : OpS p1 d W2 := Blk.cell (w := W2) (H2.out.has (x := .blk p1 [.pointer (some ⟨d, 0, none⟩)] 29) (by simp)) (i := 0) rfl
      clear hW2 hc
      refine hK.out _ _ hS2 (fun _ => ?_)
      clear hK K
      try simp only [lyA, lyB, lyC, lyD]
      refine rd1 6 (fun K hK => ?_)
      have HZ := Lib.hid (op_set (x := .pointer (some ⟨c, 0, none⟩)) H2.out.two)
      rw [if_pos (by rfl)]
      have z1 := HZ.out.1
      have z2 := HZ.out.2.1
      go_simp
      clear z1 z2
      refine hK.out _ _ (Blk.cell (HZ.out.2.2.has (x := .blk p1 [.pointer (some ⟨d, 0, none⟩)] 29) (by simp)) (i := 0) rfl) (fun _ => ?_)
      clear hK K
      try simp only [lyA, lyB, lyC, lyD]
      refine wpAnyH_done (by kernel_rfl) ?_ _
      exact HEND.out p6 c _ _ _ _ _ _ (Lib.hid HZ.out.2.2)
  · have hq : W0.cell? ⟨p1, 0, none⟩ = _ := hS0
    go_simp
    clear hq
    refine hK.out _ _ hS0 (fun _ => ?_)
    clear hK K
    try simp only [lyA, lyB, lyC, lyD]
    refine rd3 0 2 5 (fun K hK => ?_) (fun K hK => ?_) (fun K hK => ?_)
    · have hq : W0.cell? ⟨p1, 0, none⟩ = _ := hS0
      go_simp
      clear hq
      refine hK.out _ _ hS0 (fun _ => ?_)
      clear hK K
      try simp only [lyA, lyB, lyC, lyD]
      refine rd2 2 5 (fun K hK => ?_) (fun K hK => ?_)
      · go_simp
        refine (HST.out _ _ H0.out).mono ?_
        rintro e w2 ⟨rfl, rfl⟩
        refine hK.out _ _ hS0 (fun _ => ?_)
        clear hK K
        try simp only [lyA, lyB, lyC, lyD]
        refine rd2 3 5 (fun K hK => ?_) (fun K hK => ?_)
        · rw [if_pos (by rfl)]
          refine wp_built _ _ rfl (chkZ d M.starts).toArray (by rw [List.map_toArray]; exact HBB.out) ?_
          refine hK.out _ _ hS0 (fun _ => ?_)
          clear hK K
          try simp only [lyA, lyB, lyC, lyD]
          refine rd2 4 5 (fun K hK => ?_) (fun K hK => ?_)
          · rw [if_pos (by rfl)]
            go_simp
            obtain ⟨c, hc⟩ : ∃ x, x = W0.heap.size := ⟨_, rfl⟩
            rw [← hc]
            generalize hW1 : World.alloc W0 _ = W1
            have H1 := Lib.hid (op_box (c := chkZ d M.starts) (t := 74) H0.out hc hW1.symm)
            have hS1 : OpS p1 d W1 := Blk.cell (w := W1) (H1.out.has (x := .blk p1 [.pointer (some ⟨d, 0, none⟩)] 29) (by simp)) (i := 0) rfl
            clear hW1 hc
            refine hK.out _ _ hS1 (fun _ => ?_)
            clear hK K
            try simp only [lyA, lyB, lyC, lyD]
            refine rd1 5 (fun K hK => ?_)
            rw [if_pos (by rfl)]
            go_simp
            obtain ⟨p6, hp6⟩ : ∃ x, x = W1.heap.size := ⟨_, rfl⟩
            rw [← hp6]
            generalize hW2 : World.alloc W1 _ = W2
            have H2 := Lib.hid (op_box (c := [.pointer none]) (t := 66) H1.out hp6 hW2.symm)
            have hS2 : OpS p1 d W2 := Blk.cell (w := W2) (H2.out.has (x := .blk p1 [.pointer (some ⟨d, 0, none⟩)] 29) (by simp)) (i := 0) rfl
            clear hW2 hp6
            refine hK.out _ _ hS2 (fun _ => ?_)
            clear hK K
            try simp only [lyA, lyB, lyC, lyD]
            refine rd1 6 (fun K hK => ?_)
            have HZ := Lib.hid (op_set (x := .pointer (some ⟨c, 0, none⟩)) H2.out)
            rw [if_pos (by rfl)]
            have z1 := HZ.out.1
            have z2 := HZ.out.2.1
            go_simp
            clear z1 z2
            refine hK.out _ _ (Blk.cell (HZ.out.2.2.has (x := .blk p1 [.pointer (some ⟨d, 0, none⟩)] 29) (by simp)) (i := 0) rfl) (fun _ => ?_)
            clear hK K
            try simp only [lyA, lyB, lyC, lyD]
            refine wpAnyH_done (by kernel_rfl) ?_ _
            exact HEND.out p6 c _ _ _ _ _ _ (Lib.hid HZ.out.2.2)
          · rw [if_pos (by rfl)]
            go_simp
            obtain ⟨p6, hp6⟩ : ∃ x, x = W0.heap.size := ⟨_, rfl⟩
            rw [← hp6]
            generalize hW1 : World.alloc W0 _ = W1
            have H1 := Lib.hid (op_box (c := [.pointer none]) (t := 66) H0.out hp6 hW1.symm)
            have hS1 : OpS p1 d W1 := Blk.cell (w := W1) (H1.out.has (x := .blk p1 [.pointer (some ⟨d, 0, none⟩)] 29) (by simp)) (i := 0) rfl
            clear hW1 hp6
            refine hK.out _ _ hS1 (fun _ => ?_)
            clear hK K
            try simp only [lyA, lyB, lyC, lyD]
            refine rd1 4 (fun K hK => ?_)
            rw [if_pos (by rfl)]
            go_simp
            obtain ⟨c, hc⟩ : ∃ x, x = W1.heap.size := ⟨_, rfl⟩
            rw [← hc]
            generalize hW2 : World.alloc W1 _ = W2
            have H2 := Lib.hid (op_box (c := chkZ d M.starts) (t := 74) H1.out hc hW2.symm)
            have hS2 : OpS p1 d W2 := Blk.cell (w := W2) (H2.out.has (x := .blk p1 [.pointer (some ⟨d, 0, none⟩)] 29) (by simp)) (i := 0) rfl
            clear hW2 hc
            refine hK.out _ _ hS2 (fun _ => ?_)
            clear hK K
            try simp only [lyA, lyB, lyC, lyD]
            refine rd1 6 (fun K hK => ?_)
            have HZ := Lib.hid (op_set (x := .pointer (some ⟨c, 0, none⟩)) H2.out.two)
            rw [if_pos (by rfl)]
            have z1 := HZ.out.1
            have z2 := HZ.out.2.1
            go_simp
            clear z1 z2
            refine hK.out _ _ (Blk.cell (HZ.out.2.2.has (x := .blk p1 [.pointer (some ⟨d, 0, none⟩)] 29) (by simp)) (i := 0) rfl) (fun _ => ?_)
            clear hK K
            try simp only [lyA, lyB, lyC, lyD]
            refine wpAnyH_done (by kernel_rfl) ?_ _
            exact HEND.out p6 c _ _ _ _ _ _ (Lib.hid HZ.out.2.2)
        · rw [if_pos (by rfl)]
          go_simp
          obtain ⟨p6, hp6⟩ : ∃ x, x = W0.heap.size := ⟨_, rfl⟩
          rw [← hp6]
          generalize hW1 : World.alloc W0 _ = W1
          have H1 := Lib.hid (op_box (c := [.pointer none]) (t := 66) H0.out hp6 hW1.symm)
          have hS1 : OpS p1 d W1 := Blk.cell (w := W1) (H1.out.has (x := .blk p1 [.pointer (some ⟨d, 0, none⟩)] 29) (by simp)) (i := 0) rfl
          clear hW1 hp6
          refine hK.out _ _ hS1 (fun _ => ?_)
          clear hK K
          try simp only [lyA, lyB, lyC, lyD]
          refine rd1 3 (fun K hK => ?_)
          rw [if_pos (by rfl)]
          refine wp_built _ _ rfl (chkZ d M.starts).toArray (by rw [List.map_toArray]; exact HBB.out) ?_
          refine hK.out _ _ hS1 (fun _ => ?_)
          clear hK K
          try simp only [lyA, lyB, lyC, lyD]
          refine rd1 4 (fun K hK => ?_)
          rw [if_pos (by rfl)]
          go_simp
          obtain ⟨c, hc⟩ : ∃ x, x = W1.heap.size := ⟨_, rfl⟩
          rw [← hc]
          generalize hW2 : World.alloc W1 _ = W2
          have H2 := Lib.hid (op_box (c := chkZ d M.starts) (t := 74) H1.out hc hW2.symm)
          have hS2 : OpS p1 d W2 := Blk.cell (w := W2) (H2.out.has (x := .blk p1 [.pointer (some ⟨d, 0, none⟩)] 29) (by simp)) (i := 0) rfl
          clear hW2 hc
          refine hK.out _ _ hS2 (fun _ => ?_)
          clear hK K
          try simp only [lyA, lyB, lyC, lyD]
          refine rd1 6 (fun K hK => ?_)
          have HZ := Lib.hid (op_set (x := .pointer (some ⟨c, 0, none⟩)) H2.out.two)
          rw [if_pos (by rfl)]
          have z1 := HZ.out.1
          have z2 := HZ.out.2.1
          go_simp
          clear z1 z2
          refine hK.out _ _ (Blk.cell (HZ.out.2.2.has (x := .blk p1 [.pointer (some ⟨d, 0, none⟩)] 29) (by simp)) (i := 0) rfl) (fun _ => ?_)
          clear hK K
          try simp only [lyA, lyB, lyC, lyD]
          refine wpAnyH_done (by kernel_rfl) ?_ _
          exact HEND.out p6 c _ _ _ _ _ _ (Lib.hid HZ.out.2.2)
      · rw [if_pos (by rfl)]
        go_simp
        obtain ⟨p6, hp6⟩ : ∃ x, x = W0.heap.size := ⟨_, rfl⟩
        rw [← hp6]
        generalize hW1 : World.alloc W0 _ = W1
        have H1 := Lib.hid (op_box (c := [.pointer none]) (t := 66) H0.out hp6 hW1.symm)
        have hS1 : OpS p1 d W1 := Blk.cell (w := W1) (H1.out.has (x := .blk p1 [.pointer (some ⟨d, 0, none⟩)] 29) (by simp)) (i := 0) rfl
        clear hW1 hp6
        refine hK.out _ _ hS1 (fun _ => ?_)
        clear hK K
        try simp only [lyA, lyB, lyC, lyD]
        refine rd1 2 (fun K hK => ?_)
        go_simp
        refine (HST.out _ _ H1.out).mono ?_
        rintro e w2 ⟨rfl, rfl⟩
        refine hK.out _ _ hS1 (fun _ => ?_)
        clear hK K
        try simp only [lyA, lyB, lyC, lyD]
        refine rd1 3 (fun K hK => ?_)
        rw [if_pos (by rfl)]
        refine wp_built _ _ rfl (chkZ d M.starts).toArray (by rw [List.map_toArray]; exact HBB.out) ?_
        refine hK.out _ _ hS1 (fun _ => ?_)
        clear hK K
        try simp only [lyA, lyB, lyC, lyD]
        refine rd1 4 (fun K hK => ?_)
        rw [if_pos (by rfl)]
        go_simp
        obtain ⟨c, hc⟩ : ∃ x, x = W1.heap.size := ⟨_, rfl⟩
        rw [← hc]
        generalize hW2 : World.alloc W1 _ = W2
        have H2 := Lib.hid (op_box (c := chkZ d M.starts) (t := 74) H1.out hc hW2.symm)
        have hS2 : OpS p1 d W2 := Blk.cell (w := W2) (H2.out.has (x := .blk p1 [.pointer (some ⟨d, 0, none⟩)] 29) (by simp)) (i := 0) rfl
        clear hW2 hc
        refine hK.out _ _ hS2 (fun _ => ?_)
        clear hK K
        try simp only [lyA, lyB, lyC, lyD]
        refine rd1 6 (fun K hK => ?_)
        have HZ := Lib.hid (op_set (x := .pointer (some ⟨c, 0, none⟩)) H2.out.two)
        rw [if_pos (by rfl)]
        have z1 := HZ.out.1
        have z2 := HZ.out.2.1
        go_simp
        clear z1 z2
        refine hK.out _ _ (Blk.cell (HZ.out.2.2.has (x := .blk p1 [.pointer (some ⟨d, 0, none⟩)] 29) (by simp)) (i := 0) rfl) (fun _ => ?_)
        clear hK K
        try simp only [lyA, lyB, lyC, lyD]
        refine wpAnyH_done (by kernel_rfl) ?_ _
        exact HEND.out p6 c _ _ _ _ _ _ (Lib.hid HZ.out.2.2)
    · go_simp
      refine (HST.out _ _ H0.out).mono ?_
      rintro e w2 ⟨rfl, rfl⟩
      refine hK.out _ _ hS0 (fun _ => ?_)
      clear hK K
      try simp only [lyA, lyB, lyC, lyD]
      refine rd2 0 5 (fun K hK => ?_) (fun K hK => ?_)
      · have hq : W0.cell? ⟨p1, 0, none⟩ = _ := hS0
        go_simp
        clear hq
        refine hK.out _ _ hS0 (fun _ => ?_)
        clear hK K
        try simp only [lyA, lyB, lyC, lyD]
        refine rd2 3 5 (fun K hK => ?_) (fun K hK => ?_)
        · rw [if_pos (by rfl)]
          refine wp_built _ _ rfl (chkZ d M.starts).toArray (by rw [List.map_toArray]; exact HBB.out) ?_
          refine hK.out _ _ hS0 (fun _ => ?_)
          clear hK K
          try simp only [lyA, lyB, lyC, lyD]
          refine rd2 4 5 (fun K hK => ?_) (fun K hK => ?_)
          · rw [if_pos (by rfl)]
            go_simp
            obtain ⟨c, hc⟩ : ∃ x, x = W0.heap.size := ⟨_, rfl⟩
            rw [← hc]
            generalize hW1 : World.alloc W0 _ = W1
            have H1 := Lib.hid (op_box (c := chkZ d M.starts) (t := 74) H0.out hc hW1.symm)
            have hS1 : OpS p1 d W1 := Blk.cell (w := W1) (H1.out.has (x := .blk p1 [.pointer (some ⟨d, 0, none⟩)] 29) (by simp)) (i := 0) rfl
            clear hW1 hc
            refine hK.out _ _ hS1 (fun _ => ?_)
            clear hK K
            try simp only [lyA, lyB, lyC, lyD]
            refine rd1 5 (fun K hK => ?_)
            rw [if_pos (by rfl)]
            go_simp
            obtain ⟨p6, hp6⟩ : ∃ x, x = W1.heap.size := ⟨_, rfl⟩
            rw [← hp6]
            generalize hW2 : World.alloc W1 _ = W2
            have H2 := Lib.hid (op_box (c := [.pointer none]) (t := 66) H1.out hp6 hW2.symm)
            have hS2 : OpS p1 d W2 := Blk.cell (w := W2) (H2.out.has (x := .blk p1 [.pointer (some ⟨d, 0, none⟩)] 29) (by simp)) (i := 0) rfl
            clear hW2 hp6
            refine hK.out _ _ hS2 (fun _ => ?_)
            clear hK K
            try simp only [lyA, lyB, lyC, lyD]
            refine rd1 6 (fun K hK => ?_)
            have HZ := Lib.hid (op_set (x := .pointer (some ⟨c, 0, none⟩)) H2.out)
            rw [if_pos (by rfl)]
            have z1 := HZ.out.1
            have z2 := HZ.out.2.1
            go_simp
            clear z1 z2
            refine hK.out _ _ (Blk.cell (HZ.out.2.2.has (x := .blk p1 [.pointer (some ⟨d, 0, none⟩)] 29) (by simp)) (i := 0) rfl) (fun _ => ?_)
            clear hK K
            try simp only [lyA, lyB, lyC, lyD]
            refine wpAnyH_done (by kernel_rfl) ?_ _
            exact HEND.out p6 c _ _ _ _ _ _ (Lib.hid HZ.out.2.2)
          · rw [if_pos (by rfl)]
            go_simp
            obtain ⟨p6, hp6⟩ : ∃ x, x = W0.heap.size := ⟨_, rfl⟩
            rw [← hp6]
            generalize hW1 : World.alloc W0 _ = W1
            have H1 := Lib.hid (op_box (c := [.pointer none]) (t := 66) H0.out hp6 hW1.symm)
            have hS1 : OpS p1 d W1 := Blk.cell (w := W1) (H1.out.has (x := .blk p1 [.pointer (some ⟨d, 0, none⟩)] 29) (by simp)) (i := 0) rfl
            clear hW1 hp6
            refine hK.out _ _ hS1 (fun _ => ?_)
            clear hK K
            try simp only [lyA, lyB, lyC, lyD]
            refine rd1 4 (fun K hK => ?_)
            rw [if_pos (by rfl)]
            go_simp
            obtain ⟨c, hc⟩ : ∃ x, x = W1.heap.size := ⟨_, rfl⟩
            rw [← hc]
            generalize hW2 : World.alloc W1 _ = W2
            have H2 := Lib.hid (op_box (c := chkZ d M.starts) (t := 74) H1.out hc hW2.symm)
            have hS2 : OpS p1 d W2 := Blk.cell (w := W2) (H2.out.has (x := .blk p1 [.pointer (some ⟨d, 0, none⟩)] 29) (by simp)) (i := 0) rfl
            clear hW2 hc
            refine hK.out _ _ hS2 (fun _ => ?_)
            clear hK K
            try simp only [lyA, lyB, lyC, lyD]
            refine rd1 6 (fun K hK => ?_)
            have HZ := Lib.hid (op_set (x := .pointer (some ⟨c, 0, none⟩)) H2.out.two)
            rw [if_pos (by rfl)]
            have z1 := HZ.out.1
            have z2 := HZ.out.2.1
            go_simp
            clear z1 z2
            refine hK.out _ _ (Blk.cell (HZ.out.2.2.has (x := .blk p1 [.pointer (some ⟨d, 0, none⟩)] 29) (by simp)) (i := 0) rfl) (fun _ => ?_)
            clear hK K
            try simp only [lyA, lyB, lyC, lyD]
            refine wpAnyH_done (by kernel_rfl) ?_ _
            exact HEND.out p6 c _ _ _ _ _ _ (Lib.hid HZ.out.2.2)
        · rw [if_pos (by rfl)]
          go_simp
          obtain ⟨p6, hp6⟩ : ∃ x, x = W0.heap.size := ⟨_, rfl⟩
          rw [← hp6]
          generalize hW1 : World.alloc W0 _ = W1
          have H1 := Lib.hid (op_box (c := [.pointer none]) (t := 66) H0.out hp6 hW1.symm)
          have hS1 : OpS p1 d W1 := Blk.cell (w := W1) (H1.out.has (x := .blk p1 [.pointer (some ⟨d, 0, none⟩)] 29) (by simp)) (i := 0) rfl
          clear hW1 hp6
          refine hK.out _ _ hS1 (fun _ => ?_)
          clear hK K
          try simp only [lyA, lyB, lyC, lyD]
          refine rd1 3 (fun K hK => ?_)
          rw [if_pos (by rfl)]
          refine wp_built _ _ rfl (chkZ d M.starts).toArray (by rw [List.map_toArray]; exact HBB.out) ?_
          refine hK.out _ _ hS1 (fun _ => ?_)
          clear hK K
          try simp only [lyA, lyB, lyC, lyD]
          refine rd1 4 (fun K hK => ?_)
          rw [if_pos (by rfl)]
          go_simp
          obtain ⟨c, hc⟩ : ∃ x, x = W1.heap.size := ⟨_, rfl⟩
          rw [← hc]
          generalize hW2 : World.alloc W1 _ = W2
          have H2 := Lib.hid (op_box (c := chkZ d M.starts) (t := 74) H1.out hc hW2.symm)
          have hS2 : OpS p1 d W2 := Blk.cell (w := W2) (H2.out.has (x := .blk p1 [.pointer (some ⟨d, 0, none⟩)] 29) (by simp)) (i := 0) rfl
          clear hW2 hc
          refine hK.out _ _ hS2 (fun _ => ?_)
          clear hK K
          try simp only [lyA, lyB, lyC, lyD]
          refine rd1 6 (fun K hK => ?_)
          have HZ := Lib.hid (op_set (x := .pointer (some ⟨c, 0, none⟩)) H2.out.two)
          rw [if_pos (by rfl)]
          have z1 := HZ.out.1
          have z2 := HZ.out.2.1
          go_simp
          clear z1 z2
          refine hK.out _ _ (Blk.cell (HZ.out.2.2.has (x := .blk p1 [.pointer (some ⟨d, 0, none⟩)] 29) (by simp)) (i := 0) rfl) (fun _ => ?_)
          clear hK K
          try simp only [lyA, lyB, lyC, lyD]
          refine wpAnyH_done (by kernel_rfl) ?_ _
          exact HEND.out p6 c _ _ _ _ _ _ (Lib.hid HZ.out.2.2)
      · rw [if_pos (by rfl)]
        go_simp
        obtain ⟨p6, hp6⟩ : ∃ x, x = W0.heap.size := ⟨_, rfl⟩
        rw [← hp6]
        generalize hW1 : World.alloc W0 _ = W1
        have H1 := Lib.hid (op_box (c := [.pointer none]) (t := 66) H0.out hp6 hW1.symm)
        have hS1 : OpS p1 d W1 := Blk.cell (w := W1) (H1.out.has (x := .blk p1 [.pointer (some ⟨d, 0, none⟩)] 29) (by simp)) (i := 0) rfl
        clear hW1 hp6
        refine hK.out _ _ hS1 (fun _ => ?_)
        clear hK K
        try simp only [lyA, lyB, lyC, lyD]
        refine rd1 0 (fun K hK => ?_)
        have hq : W1.cell? ⟨p1, 0, none⟩ = _ := hS1
        go_simp
        clear hq
        refine hK.out _ _ hS1 (fun _ => ?_)
        clear hK K
        try simp only [lyA, lyB, lyC, lyD]
        refine rd1 3 (fun K hK => ?_)
        rw [if_pos (by rfl)]
        refine wp_built _ _ rfl (chkZ d M.starts).toArray (by rw [List.map_toArray]; exact HBB.out) ?_
        refine hK.out _ _ hS1 (fun _ => ?_)
        clear hK K
        try simp only [lyA, lyB, lyC, lyD]
        refine rd1 4 (fun K hK => ?_)
        rw [if_pos (by rfl)]
        go_simp
        obtain ⟨c, hc⟩ : ∃ x, x = W1.heap.size := ⟨_, rfl⟩
        rw [← hc]
        generalize hW2 : World.alloc W1 _ = W2
        have H2 := Lib.hid (op_box (c := chkZ d M.starts) (t := 74) H1.out hc hW2.symm)
        have hS2 : OpS p1 d W2 := Blk.cell (w := W2) (H2.out.has (x := .blk p1 [.pointer (some ⟨d, 0, none⟩)] 29) (by simp)) (i := 0) rfl
        clear hW2 hc
        refine hK.out _ _ hS2 (fun _ => ?_)
        clear hK K
        try simp only [lyA, lyB, lyC, lyD]
        refine rd1 6 (fun K hK => ?_)
        have HZ := Lib.hid (op_set (x := .pointer (some ⟨c, 0, none⟩)) H2.out.two)
        rw [if_pos (by rfl)]
        have z1 := HZ.out.1
        have z2 := HZ.out.2.1
        go_simp
        clear z1 z2
        refine hK.out _ _ (Blk.cell (HZ.out.2.2.has (x := .blk p1 [.pointer (some ⟨d, 0, none⟩)] 29) (by simp)) (i := 0) rfl) (fun _ => ?_)
        clear hK K
        try simp only [lyA, lyB, lyC, lyD]
        refine wpAnyH_done (by kernel_rfl) ?_ _
        exact HEND.out p6 c _ _ _ _ _ _ (Lib.hid HZ.out.2.2)
    · rw [if_pos (by rfl)]
      go_simp
      obtain ⟨p6, hp6⟩ : ∃ x, x = W0.heap.size := ⟨_, rfl⟩
      rw [← hp6]
      generalize hW1 : World.alloc W0 _ = W1
      have H1 := Lib.hid (op_box (c := [.pointer none]) (t := 66) H0.out hp6 hW1.symm)
      have hS1 : OpS p1 d W1 := Blk.cell (w := W1) (H1.out.has (x := .blk p1 [.pointer (some ⟨d, 0, none⟩)] 29) (by simp)) (i := 0) rfl
      clear hW1 hp6
      refine hK.out _ _ hS1 (fun _ => ?_)
      clear hK K
      try simp only [lyA, lyB, lyC, lyD]
      refine rd2 0 2 (fun K hK => ?_) (fun K hK => ?_)
      · have hq : W1.cell? ⟨p1, 0, none⟩ = _ := hS1
        go_simp
        clear hq
        refine hK.out _ _ hS1 (fun _ => ?_)
        clear hK K
        try simp only [lyA, lyB, lyC, lyD]
        refine rd1 2 (fun K hK => ?_)
        go_simp
        refine (HST.out _ _ H1.out).mono ?_
        rintro e w2 ⟨rfl, rfl⟩
        refine hK.out _ _ hS1 (fun _ => ?_)
        clear hK K
        try simp only [lyA, lyB, lyC, lyD]
        refine rd1 3 (fun K hK => ?_)
        rw [if_pos (by rfl)]
        refine wp_built _ _ rfl (chkZ d M.starts).toArray (by rw [List.map_toArray]; exact HBB.out) ?_
        refine hK.out _ _ hS1 (fun _ => ?_)
        clear hK K
        try simp only [lyA, lyB, lyC, lyD]
        refine rd1 4 (fun K hK => ?_)
        rw [if_pos (by rfl)]
        go_simp
        obtain ⟨c, hc⟩ : ∃ x, x = W1.heap.size := ⟨_, rfl⟩
        rw [← hc]
        generalize hW2 : World.alloc W1 _ = W2
        have H2 := Lib.hid (op_box (c := chkZ d M.starts) (t := 74) H1.out hc hW2.symm)
        have hS2 : OpS p1 d W2 := Blk.cell (w := W2) (H2.out.has (x := .blk p1 [.pointer (some ⟨d, 0, none⟩)] 29) (by simp)) (i := 0) rfl
        clear hW2 hc
        refine hK.out _ _ hS2 (fun _ => ?_)
        clear hK K
        try simp only [lyA, lyB, lyC, lyD]
        refine rd1 6 (fun K hK => ?_)
        have HZ := Lib.hid (op_set (x := .pointer (some ⟨c, 0, none⟩)) H2.out.two)
        rw [if_pos (by rfl)]
        have z1 := HZ.out.1
        have z2 := HZ.out.2.1
        go_simp
        clear z1 z2
        refine hK.out _ _ (Blk.cell (HZ.out.2.2.has (x := .blk p1 [.pointer (some ⟨d, 0, none⟩)] 29) (by simp)) (i := 0) rfl) (fun _ => ?_)
        clear hK K
        try simp only [lyA, lyB, lyC, lyD]
        refine wpAnyH_done (by kernel_rfl) ?_ _
        exact HEND.out p6 c _ _ _ _ _ _ (Lib.hid HZ.out.2.2)
      · go_simp
        refine (HST.out _ _ H1.out).mono ?_
        rintro e w2 ⟨rfl, rfl⟩
        refine hK.out _ _ hS1 (fun _ => ?_)
        clear hK K
        try simp only [lyA, lyB, lyC, lyD]
        refine rd1 0 (fun K hK => ?_)
        have hq : W1.cell? ⟨p1, 0, none⟩ = _ := hS1
        go_simp
        clear hq
        refine hK.out _ _ hS1 (fun _ => ?_)
        clear hK K
        try simp only [lyA, lyB, lyC, lyD]
        refine rd1 3 (fun K hK => ?_)
        rw [if_pos (by rfl)]
        refine wp_built _ _ rfl (chkZ d M.starts).toArray (by rw [List.map_toArray]; exact HBB.out) ?_
        refine hK.out _ _ hS1 (fun _ => ?_)
        clear hK K
        try simp only [lyA, lyB, lyC, lyD]
        refine rd1 4 (fun K hK => ?_)
        rw [if_pos (by rfl)]
        go_simp
        obtain ⟨c, hc⟩ : ∃ x, x = W1.heap.size := ⟨_, rfl⟩
        rw [← hc]
        generalize hW2 : World.alloc W1 _ = W2
        have H2 := Lib.hid (op_box (c := chkZ d M.starts) (t := 74) H1.out hc hW2.symm)
        have hS2 : OpS p1 d W2 := Blk.cell (w := W2) (H2.out.has (x := .blk p1 [.pointer (some ⟨d, 0, none⟩)] 29) (by simp)) (i := 0) rfl
        clear hW2 hc
        refine hK.out _ _ hS2 (fun _ => ?_)
        clear hK K
        try simp only [lyA, lyB, lyC, lyD]
        refine rd1 6 (fun K hK => ?_)
        have HZ := Lib.hid (op_set (x := .pointer (some ⟨c, 0, none⟩)) H2.out.two)
        rw [if_pos (by rfl)]
        have z1 := HZ.out.1
        have z2 := HZ.out.2.1
        go_simp
        clear z1 z2
        refine hK.out _ _ (Blk.cell (HZ.out.2.2.has (x := .blk p1 [.pointer (some ⟨d, 0, none⟩)] 29) (by simp)) (i := 0) rfl) (fun _ => ?_)
        clear hK K
        try simp only [lyA, lyB, lyC, lyD]
        refine wpAnyH_done (by kernel_rfl) ?_ _
        exact HEND.out p6 c _ _ _ _ _ _ (Lib.hid HZ.out.2.2)
  · rw [if_pos (by rfl)]
    go_simp
    obtain ⟨p6, hp6⟩ : ∃ x, x = W0.heap.size := ⟨_, rfl⟩
    rw [← hp6]
    generalize hW1 : World.alloc W0 _ = W1
    have H1 := Lib.hid (op_box (c := [.pointer none]) (t := 66) H0.out hp6 hW1.symm)
    have hS1 : OpS p1 d W1 := Blk.cell (w := W1) (H1.out.has (x := .blk p1 [.pointer (some ⟨d, 0, none⟩)] 29) (by simp)) (i := 0) rfl
    clear hW1 hp6
    refine hK.out _ _ hS1 (fun _ => ?_)
    clear hK K
    try simp only [lyA, lyB, lyC, lyD]
    refine rd2 0 1 (fun K hK => ?_) (fun K hK => ?_)
    · have hq : W1.cell? ⟨p1, 0, none⟩ = _ := hS1
      go_simp
      clear hq
      refine hK.out _ _ hS1 (fun _ => ?_)
      clear hK K
      try simp only [lyA, lyB, lyC, lyD]
      refine rd1 1 (fun K hK => ?_)
      have hq : W1.cell? ⟨p1, 0, none⟩ = _ := hS1
      go_simp
      clear hq
      refine hK.out _ _ hS1 (fun _ => ?_)
      clear hK K
      try simp only [lyA, lyB, lyC, lyD]
      refine rd1 2 (fun K hK => ?_)
      go_simp
      refine (HST.out _ _ H1.out).mono ?_
      rintro e w2 ⟨rfl, rfl⟩
      refine hK.out _ _ hS1 (fun _ => ?_)
      clear hK K
      try simp only [lyA, lyB, lyC, lyD]
      refine rd1 3 (fun K hK => ?_)
      rw [if_pos (by rfl)]
      refine wp_built _ _ rfl (chkZ d M.starts).toArray (by rw [List.map_toArray]; exact HBB.out) ?_
      refine hK.out _ _ hS1 (fun _ => ?_)
      clear hK K
      try simp only [lyA, lyB, lyC, lyD]
      refine rd1 4 (fun K hK => ?_)
      rw [if_pos (by rfl)]
      go_simp
      obtain ⟨c, hc⟩ : ∃ x, x = W1.heap.size := ⟨_, rfl⟩
      rw [← hc]
      generalize hW2 : World.alloc W1 _ = W2
      have H2 := Lib.hid (op_box (c := chkZ d M.starts) (t := 74) H1.out hc hW2.symm)
      have hS2 : OpS p1 d W2 := Blk.cell (w := W2) (H2.out.has (x := .blk p1 [.pointer (some ⟨d, 0, none⟩)] 29) (by simp)) (i := 0) rfl
      clear hW2 hc
      refine hK.out _ _ hS2 (fun _ => ?_)
      clear hK K
      try simp only [lyA, lyB, lyC, lyD]
      refine rd1 6 (fun K hK => ?_)
      have HZ := Lib.hid (op_set (x := .pointer (some ⟨c, 0, none⟩)) H2.out.two)
      rw [if_pos (by rfl)]
      have z1 := HZ.out.1
      have z2 := HZ.out.2.1
      go_simp
      clear z1 z2
      refine hK.out _ _ (Blk.cell (HZ.out.2.2.has (x := .blk p1 [.pointer (some ⟨d, 0, none⟩)] 29) (by simp)) (i := 0) rfl) (fun _ => ?_)
      clear hK K
      try simp only [lyA, lyB, lyC, lyD]
      refine wpAnyH_done (by kernel_rfl) ?_ _
      exact HEND.out p6 c _ _ _ _ _ _ (Lib.hid HZ.out.2.2)
    · have hq : W1.cell? ⟨p1, 0, none⟩ = _ := hS1
      go_simp
      clear hq
      refine hK.out _ _ hS1 (fun _ => ?_)
      clear hK K
      try simp only [lyA, lyB, lyC, lyD]
      refine rd2 0 2 (fun K hK => ?_) (fun K hK => ?_)
      · have hq : W1.cell? ⟨p1, 0, none⟩ = _ := hS1
        go_simp
        clear hq
        refine hK.out _ _ hS1 (fun _ => ?_)
        clear hK K
        try simp only [lyA, lyB, lyC, lyD]
        refine rd1 2 (fun K hK => ?_)
        go_simp
        refine (HST.out _ _ H1.out).mono ?_
        rintro e w2 ⟨rfl, rfl⟩
        refine hK.out _ _ hS1 (fun _ => ?_)
        clear hK K
        try simp only [lyA, lyB, lyC, lyD]
        refine rd1 3 (fun K hK => ?_)
        rw [if_pos (by rfl)]
        refine wp_built _ _ rfl (chkZ d M.starts).toArray (by rw [List.map_toArray]; exact HBB.out) ?_
        refine hK.out _ _ hS1 (fun _ => ?_)
        clear hK K
        try simp only [lyA, lyB, lyC, lyD]
        refine rd1 4 (fun K hK => ?_)
        rw [if_pos (by rfl)]
        go_simp
        obtain ⟨c, hc⟩ : ∃ x, x = W1.heap.size := ⟨_, rfl⟩
        rw [← hc]
        generalize hW2 : World.alloc W1 _ = W2
        have H2 := Lib.hid (op_box (c := chkZ d M.starts) (t := 74) H1.out hc hW2.symm)
        have hS2 : OpS p1 d W2 := Blk.cell (w := W2) (H2.out.has (x := .blk p1 [.pointer (some ⟨d, 0, none⟩)] 29) (by simp)) (i := 0) rfl
        clear hW2 hc
        refine hK.out _ _ hS2 (fun _ => ?_)
        clear hK K
        try simp only [lyA, lyB, lyC, lyD]
        refine rd1 6 (fun K hK => ?_)
        have HZ := Lib.hid (op_set (x := .pointer (some ⟨c, 0, none⟩)) H2.out.two)
        rw [if_pos (by rfl)]
        have z1 := HZ.out.1
        have z2 := HZ.out.2.1
        go_simp
        clear z1 z2
        refine hK.out _ _ (Blk.cell (HZ.out.2.2.has (x := .blk p1 [.pointer (some ⟨d, 0, none⟩)] 29) (by simp)) (i := 0) rfl) (fun _ => ?_)
        clear hK K
        try simp only [lyA, lyB, lyC, lyD]
        refine wpAnyH_done (by kernel_rfl) ?_ _
        exact HEND.out p6 c _ _ _ _ _ _ (Lib.hid HZ.out.2.2)
      · go_simp
        refine (HST.out _ _ H1.out).mono ?_
        rintro e w2 ⟨rfl, rfl⟩
        refine hK.out _ _ hS1 (fun _ => ?_)
        clear hK K
        try simp only [lyA, lyB, lyC, lyD]
        refine rd1 0 (fun K hK => ?_)
        have hq : W1.cell? ⟨p1, 0, none⟩ = _ := hS1
        go_simp
        clear hq
        refine hK.out _ _ hS1 (fun _ => ?_)
        clear hK K
        try simp only [lyA, lyB, lyC, lyD]
        refine rd1 3 (fun K hK => ?_)
        rw [if_pos (by rfl)]
        refine wp_built _ _ rfl (chkZ d M.starts).toArray (by rw [List.map_toArray]; exact HBB.out) ?_
        refine hK.out _ _ hS1 (fun _ => ?_)
        clear hK K
        try simp only [lyA, lyB, lyC, lyD]
        refine rd1 4 (fun K hK => ?_)
        rw [if_pos (by rfl)]
        go_simp
        obtain ⟨c, hc⟩ : ∃ x, x = W1.heap.size := ⟨_, rfl⟩
        rw [← hc]
        generalize hW2 : World.alloc W1 _ = W2
        have H2 := Lib.hid (op_box (c := chkZ d M.starts) (t := 74) H1.out hc hW2.symm)
        have hS2 : OpS p1 d W2 := Blk.cell (w := W2) (H2.out.has (x := .blk p1 [.pointer (some ⟨d, 0, none⟩)] 29) (by simp)) (i := 0) rfl
        clear hW2 hc
        refine hK.out _ _ hS2 (fun _ => ?_)
        clear hK K
        try simp only [lyA, lyB, lyC, lyD]
        refine rd1 6 (fun K hK => ?_)
        have HZ := Lib.hid (op_set (x := .pointer (some ⟨c, 0, none⟩)) H2.out.two)
        rw [if_pos (by rfl)]
        have z1 := HZ.out.1
        have z2 := HZ.out.2.1
        go_simp
        clear z1 z2
        refine hK.out _ _ (Blk.cell (HZ.out.2.2.has (x := .blk p1 [.pointer (some ⟨d, 0, none⟩)] 29) (by simp)) (i := 0) rfl) (fun _ => ?_)
        clear hK K
        try simp only [lyA, lyB, lyC, lyD]
        refine wpAnyH_done (by kernel_rfl) ?_ _
        exact HEND.out p6 c _ _ _ _ _ _ (Lib.hid HZ.out.2.2)
end Go.Proofs.YtlgeijbgkipliaaGreatDoor

namespace Go.Proofs.YtlgeijbgkipliaaGreatDoor
open Go.RowKit Go.Shelf
attribute [local go_sem] Oper.semAt_some

section
variable {w0 w w' : World} {d D : Nat} {M M' : DiskM} {Os : List Og} {y : Int}
theorem loop_end2 {w6 : World} (h6 : Owg w0 w6 d M (Og.obj D (.deferred (some [])) :: Os)) : w6.heap[D]? = some (.deferred (some [])) ∧ Owg w0 (w6.putObj D (.deferred none)) d M Os :=
  ⟨h6.has (x := Og.obj D (.deferred (some []))) (List.mem_cons_self ..), h6.poke ((grown_kept (grownBy_putObj' w6 D (.deferred none))).mono (fun k _ e => by cases e; rfl))⟩
/-- A block of the second place is stored into. -/
theorem Owg.turn2 {a : Og} {b : Nat} {v : Value} {t : TypeId} (h : Owg w0 w d M (a :: .blk b [v] t :: Os)) (x : Value) : Owg w0 (w.setCell ⟨b, 0, none⟩ x) d M (a :: .blk b [x] t :: Os) :=
  ((h.two).turn (kept_cell w b 0 x) (Blk.set (h.has (x := .blk b [v] t) (by simp)) 0 x)).two
theorem mendM_none {file en : Int} (hf : M.files = []) : mendM M file en true = M.sync := by
  unfold mendM
  rw [hf]
  rfl
set_option maxRecDepth 100000 in
set_option maxHeartbeats 8000000 in
theorem chk_open0 (h : Owg w0 w d M Os) (hup : M.down = false) (hf : M.files = []) (he : M.sync = (0, M')) :
    Calls Tryz.prog 25 #[.pointer (some ⟨d, 0, none⟩)] w fun e w' => ∃ c, e = .returned (.tuple #[.pointer (some ⟨c, 0, none⟩), .int .i64 0]) ∧ Owg w0 w' d M' (.blk c (chkZ d M.starts) 74 :: Os) := by
  refine (callsIn_wide (n := 6)).1 ?_
  obtain ⟨W1, hW1⟩ : ∃ W1, W1 = ((w.alloc (.cells #[.pointer (some ⟨d, 0, none⟩)] 29)).alloc (.cells #[.pointer none] 66)).alloc (.cells #[.int .i64 0] 30) := ⟨_, rfl⟩
  have h1 : Owg w0 W1 d M (.blk w.heap.size [.pointer (some ⟨d, 0, none⟩)] 29 :: .blk (w.heap.size + 1) [.pointer none] 66 :: .blk (w.heap.size + 1 + 1) [.int .i64 0] 30 :: Os) := by
    have := ((h.new [.pointer (some ⟨d, 0, none⟩)] 29).new [.pointer none] 66).new [.int .i64 0] 30
    rw [World.size_alloc, World.size_alloc] at this
    rw [hW1]
    exact this.perm ((List.Perm.swap _ _ _).trans (((List.Perm.swap _ _ _).cons _).trans (List.Perm.swap _ _ _)))
  have c1 := Blk.cell (w := W1) (h1.has (x := .blk w.heap.size [.pointer (some ⟨d, 0, none⟩)] 29) (by simp)) (i := 0) rfl
  have HUP := Lib.hid (callsIn_wide (n := 5) |>.2 (h1.isup (b := true) (by rw [hup]; rfl)))
  have hfU : Fence.wide.fn 32 := trivial
  have hfF : Fence.wide.fn 28 := trivial
  have hfB : Fence.wide.fn 79 := trivial
  have hfM : Fence.wide.fn 82 := trivial
  have H1 := Lib.hid h1
  have HE := Lib.hid (And.intro he hf)
  clear h h1 he hf hup
  refine callsIn_of_wp_marks Tryz.func25 rfl trivial ?_ rfl
  simp only [Tryz.ntmps25, List.size_toArray, List.length_cons, List.length_nil, Nat.reduceAdd, Nat.reduceSub, Array.replicate_succ, Array.replicate_zero, List.push_toArray, List.append_toArray, List.nil_append, List.cons_append]
  gi_upto_region 1 with (fail)
  generalize hWx : World.alloc _ _ = Wx
  obtain rfl : W1 = Wx := by rw [hW1, ← hWx]
  clear hW1 hWx
  generalize w.heap.size = z at *
  gi_upto_region 4 with (gi_at_call 32; refine HUP.out.mono ?_; rintro e w' ⟨rfl, rfl⟩)
  refine wpIn_wide.2 ?_
  refine open_make (by kernel_rfl) H1.out ?hend
  intro p6 c v28 v29 v30 v31 v32 W2 h2
  clear c1 HUP hfU H1
  gi_upto_region 6 with fail
  have h3 : Owg w0 ((W2.alloc (.cells #[.int .i64 0] 3)).alloc (.cells #[.bool true] 4)) d M (.blk (W2.heap.size + 1) [.bool true] 4 :: .blk W2.heap.size [.int .i64 0] 3 :: .blk p6 [.pointer (some ⟨c, 0, none⟩)] 66 :: .blk c (chkZ d M.starts) 74 :: .blk z [.pointer (some ⟨d, 0, none⟩)] 29 :: .blk (z + 1) [.pointer none] 66 :: .blk (z + 1 + 1) [.int .i64 0] 30 :: Os) := by
    have := (h2.out.new [.int .i64 0] 3).new [.bool true] 4
    rw [World.size_alloc] at this
    exact this
  generalize World.alloc _ _ = W3 at *
  generalize W2.heap.size + 1 = wb at *
  generalize W2.heap.size = eb at *
  have cz := Blk.cell (w := W3) (h3.has (x := .blk z [.pointer (some ⟨d, 0, none⟩)] 29) (by simp)) (i := 0) rfl
  have HF := Lib.hid (callsIn_wide (n := 5) |>.2 h3.dfiles)
  have HBK := Lib.hid (fun a m c w' => callsIn_wide (n := 5) |>.2 (backward_any a m c w'))
  clear h2 h3
  gi_wp2_with (first | (gi_at_call 28; refine HF.out.mono ?_; rintro e w2 ⟨xa, xm, xc, rfl, rfl, h4⟩) | (gi_at_call 79; refine (HBK.out _ _ _ _).mono ?_; rintro e w' ⟨rfl, rfl⟩))
  have hBs := Blk.new w2 [.slice xa M.files.length xc] 83
  have hz : w2.heap.size < (w2.alloc (.cells #[.slice xa M.files.length xc] 83)).heap.size := by rw [World.size_alloc]; omega
  have h0 := h4.new [.slice xa M.files.length xc] 83
  have hBs' : Blk (w2.alloc (.cells #[.slice xa M.files.length xc] 83)) w2.heap.size [.slice xa M.files.length xc] 83 := hBs
  obtain ⟨W0, hW0⟩ : ∃ W0, w2.alloc (.cells #[.slice xa M.files.length xc] 83) = W0 := ⟨_, rfl⟩
  rw [hW0] at h0 hBs' hz ⊢
  have hrow0 : Row W0 3 1 (.slice xa M.files.length xc) (icells (M.files.map (·.1))) := by
    have q := h0.has (x := .irow (.slice xa M.files.length xc) (M.files.map (·.1))) (by simp)
    exact q
  rw [icells_intsV] at hrow0
  obtain ⟨ns, hns⟩ : ∃ ns, M.files.map (·.1) = ns := ⟨_, rfl⟩
  have hnil : ns = [] := by rw [← hns, HE.out.2]; rfl
  rw [hns] at hrow0
  have HO := Lib.hid h0
  clear h4 h0 hW0 hBs HBK HF hfF hfB cz hns
  have hI : OwnFrom (β := List (BkX ns)) W0.heap.size (fun _ W => Kept (fun k => W0.heap.size ≤ k) W0 W) := fun pre X Y row h hg hr =>
    h.trans ((grown_kept hg).mono (fun k _ e => (hr k e).1))
  refine wpIn_rangeFunc_ownH rfl (by omega) (gf := 119) (lb := #[.pointer (some ⟨w2.heap.size, 0, none⟩)]) rfl trivial (enters_of Tryz.func119 (by kernel_rfl) rfl)
    (backB_stops Fence.wide _ trivial rfl (by omega) w2.heap.size W0.heap.size (fun k => ¬ (k = w2.heap.size ∨ (Value.slice xa M.files.length xc).ownBlock = some k)) (.slice xa M.files.length xc) ns (by rw [hnil]; intro x hx; cases hx) (by rw [hnil]; simp) W0 (hBs'.cell (i := 0) rfl) hz ⟨hz, fun q => q (Or.inl rfl)⟩ hrow0 (fun k q => ⟨hrow0.lt q, fun n => n (Or.inr q)⟩))
    (fun h1 h2 => h1.trans h2) (fun W l o o' hl _ _ _ => KeptB.putObj _ W l o' hl) (Below.refl _ _) (fun _ => rfl)
    (fun _ W => Kept (fun k => W0.heap.size ≤ k) W0 W) (fun _ _ _ => False) hI (fun _ _ _ _ _ hs _ _ => hs) (Kept.refl _ _) (fun _ _ _ => True)
    ?hAx ?assign ?body ?done ?stop
  case hAx => exact fun _ _ _ _ _ _ _ _ _ => trivial
  case assign =>
    intro l pre x W K hi hK
    subst hnil
    exact absurd x.2 (by simp [backsI])
  case body =>
    intro g pre x a' W hl hr hJ ha hlt
    subst hnil
    exact absurd x.2 (by simp [backsI])
  case stop =>
    rintro D cc pre W hD hp h hK
    exact h.elim
  case done =>
    rintro D ys W hD hy hJ hK
    have h5 := (HO.out.add (x := Og.obj D (.deferred (some []))) (hJ.mono (fun k hk q => by omega)) hK (fun k e => by have : k = D := e; omega)).perm (List.perm_middle (l₁ := [_, _, _, _, _, _]))
    have c6 := Blk.cell (w := W) (h5.has (x := .blk p6 [.pointer (some ⟨c, 0, none⟩)] 66) (by simp)) (i := 0) rfl
    have ce := Blk.cell (w := W) (h5.has (x := .blk eb [.int .i64 0] 3) (by simp)) (i := 0) rfl
    have cw := Blk.cell (w := W) (h5.has (x := .blk wb [.bool true] 4) (by simp)) (i := 0) rfl
    have HM := Lib.hid (callsIn_wide (n := 5) |>.2 (chk_mend h5 ⟨by decide, by decide⟩ 0 true (show mendM M (-1) 0 true = (0, M') from by rw [mendM_none HE.out.2]; exact HE.out.1)))
    clear h5 hJ hy hrow0 hBs' hz hI
    gi_wp2_with (gi_at_call 82; refine HM.out.mono ?_; rintro e w6 ⟨rfl, h6⟩; have c66 := Blk.cell (w := w6) (h6.has (x := .blk p6 [.pointer (some ⟨c, 0, none⟩)] 66) (by simp)) (i := 0) rfl; have b2 := h6.has (x := .blk (z + 1) [.pointer none] 66) (by simp); have b3 := h6.has (x := .blk (z + 1 + 1) [.int .i64 0] 30) (by simp); have e2 := Blk.cell (w := w6) b2 (i := 0) rfl; have e3 := Blk.cell (w := w6) b3 (i := 0) rfl; have z2 := Blk.free (w := w6) b2 0; have z3 := Blk.free (w := w6) b3 0; have H6 := Lib.hid h6; clear h6 b2 b3)
    have h7 : Owg w0 w6 d M' (.blk (z + 1) [.pointer none] 66 :: .blk c (chkZ d M.starts) 74 :: .obj D (.deferred (some [])) :: .blk w2.heap.size [.slice xa M.files.length xc] 83 :: .irow (.slice xa M.files.length xc) (M.files.map (·.1)) :: .blk wb [.bool true] 4 :: .blk eb [.int .i64 0] 3 :: .blk p6 [.pointer (some ⟨c, 0, none⟩)] 66 :: .blk z [.pointer (some ⟨d, 0, none⟩)] 29 :: .blk (z + 1 + 1) [.int .i64 0] 30 :: Os) := H6.out.perm (List.perm_middle (l₁ := [_, _, _, _, _, _, _, _]))
    have h8 := (op_set (x := .pointer (some ⟨c, 0, none⟩)) h7).2.2
    generalize hW7 : w6.setCell _ _ = W7 at h8 ⊢
    have h9 : Owg w0 W7 d M' (.blk (z + 1 + 1) [.int .i64 0] 30 :: .blk (z + 1) [.pointer (some ⟨c, 0, none⟩)] 66 :: .blk c (chkZ d M.starts) 74 :: .obj D (.deferred (some [])) :: .blk w2.heap.size [.slice xa M.files.length xc] 83 :: .irow (.slice xa M.files.length xc) (M.files.map (·.1)) :: .blk wb [.bool true] 4 :: .blk eb [.int .i64 0] 3 :: .blk p6 [.pointer (some ⟨c, 0, none⟩)] 66 :: .blk z [.pointer (some ⟨d, 0, none⟩)] 29 :: Os) := h8.perm (List.perm_middle (l₁ := [_, _, _, _, _, _, _, _, _]))
    have h10 := (op_set (x := .int .i64 0) h9).2.2
    generalize hW8 : W7.setCell _ _ = W8 at h10 ⊢
    have h11 : Owg w0 W8 d M' (.obj D (.deferred (some [])) :: .blk (z + 1 + 1) [.int .i64 0] 30 :: .blk (z + 1) [.pointer (some ⟨c, 0, none⟩)] 66 :: .blk c (chkZ d M.starts) 74 :: .blk w2.heap.size [.slice xa M.files.length xc] 83 :: .irow (.slice xa M.files.length xc) (M.files.map (·.1)) :: .blk wb [.bool true] 4 :: .blk eb [.int .i64 0] 3 :: .blk p6 [.pointer (some ⟨c, 0, none⟩)] 66 :: .blk z [.pointer (some ⟨d, 0, none⟩)] 29 :: Os) := h10.perm (List.perm_middle (l₁ := [_, _, _]))
    obtain ⟨hK8, h12⟩ := loop_end2 h11
    have r2 := Blk.cell (h12.has (x := .blk (z + 1) [.pointer (some ⟨c, 0, none⟩)] 66) (by simp)) (i := 0) rfl
    have r3 := Blk.cell (h12.has (x := .blk (z + 1 + 1) [.int .i64 0] 30) (by simp)) (i := 0) rfl
    refine ⟨by simp, .inl ⟨_, _, rfl, run_takeDeferred hK8, .tuple #[.pointer (some ⟨c, 0, none⟩), .int .i64 0], ?_, c, rfl, h12.drop.drop.sub (List.Sublist.cons_cons _ ?_)⟩⟩
    · simp [results, Tryz.f25, go_sem, r2, r3]
    · exact (((((List.sublist_cons_self _ _).cons _).cons _).cons _).cons _).cons _
end
end Go.Proofs.YtlgeijbgkipliaaGreatDoor

namespace Go.Proofs.YtlgeijbgkipliaaGreatDoor
open Go.RowKit

set_option maxRecDepth 1000000 in
theorem root51 : ptRoot 5 1 ≠ h3P 9 0 0 := by
  have h : (ptRoot 5 1).head? ≠ some 9 := by decide +kernel
  intro e
  rw [e] at h
  exact h rfl
theorem PtM.same_self (p : PtM) : p.same p = true := by simp [PtM.same]
/-- What Of hands back. -/
def PtTo (w : World) (p : PtM) (e : Ending) (w' : World) : Prop :=
  ∃ a c b d, e = .returned (.tuple #[rngV (p.size : Int) (.slice a p.hs.length c), signedV (p.z : Int) p.root (p.i : Int) p.sig (.slice b 3 d)]) ∧
    Hid (Row w' 57 32 (.slice a p.hs.length c) (hcells p.hs) ∧ (∀ k, (Value.slice a p.hs.length c).ownBlock = some k → w.heap.size ≤ k) ∧ Row w' 57 32 (.slice b 3 d) (hcells p.path) ∧ (∀ k, (Value.slice b 3 d).ownBlock = some k → w.heap.size ≤ k) ∧ (∀ k, (Value.slice a p.hs.length c).ownBlock = some k → ¬ (Value.slice b 3 d).ownBlock = some k) ∧ Kept (fun _ => False) w w')
theorem pt_of2 (w : World) (sz sd : Nat) (hsz : sz < 65536) (hsd : sd < 256) (ht : Tab w) {p : PtM} (hp : PtM.of sz sd = p) : Calls Tryz.prog 21 #[.agg (ptC sz sd).toArray] w (PtTo w p) := by
  have hof := pt_of w sz sd hsz hsd ht
  have h32 := ptPath_32 (sd := sd)
  have h3 : (ptPath sd).length = 3 := rfl
  have em : ((sd : Int) % 8) = ((sd % 8 : Nat) : Int) := by omega
  unfold PtOf at hof
  rw [em] at hof
  clear em
  unfold PtM.of at hp
  generalize ptSize sz = zq at *
  generalize ptHs sz sd = hq at *
  generalize ptRoot sz sd = rq at *
  generalize ptSig sz sd = sq at *
  generalize ptPath sd = pq at *
  generalize sd % 8 = iq at *
  subst hp
  refine hof.mono ?_
  rintro e w' ⟨a, c, pb, rfl, H⟩
  have e : ∀ k, (Value.slice (some ⟨pb, 0, none⟩) 3 3).ownBlock = some k → k = pb := fun k q => by simp [Value.ownBlock] at q; exact q.symm
  exact ⟨a, c, _, _, rfl, Lib.hid ⟨H.out.1, fun k q => (H.out.2.1 k q).1, pathRow H.out.2.2.1 h32 h3, fun k q => by rw [e k q]; exact H.out.2.2.2.1, fun k q q2 => (H.out.2.1 k q).2 (e k q2), H.out.2.2.2.2⟩⟩
section
variable {w0 w w' : World} {d : Nat} {M : DiskM} {Os : List Og} {p : PtM}
/-- A point that came of Of. -/
theorem of_held (h : Owg w0 w d M Os) {u v : Value} (H : Row w' 57 32 u (hcells p.hs) ∧ (∀ k, u.ownBlock = some k → w.heap.size ≤ k) ∧ Row w' 57 32 v (hcells p.path) ∧ (∀ k, v.ownBlock = some k → w.heap.size ≤ k) ∧ (∀ k, u.ownBlock = some k → ¬ v.ownBlock = some k) ∧ Kept (fun _ => False) w w') :
    Owg w0 w' d M (.hrow u p.hs :: .hrow v p.path :: Os) :=
  h.add2 (x := .hrow u p.hs) (y := .hrow v p.path) H.2.2.2.2.2 H.1 H.2.2.1 H.2.1 H.2.2.2.1 H.2.2.2.2.1
/-- The views of a point's rows, as Put wants them. -/
theorem held_views {u v : Value} (h : ∀ w' M', Owg w0 w' d M' Os → Owg w0 w' d M' (.hrow u p.hs :: .hrow v p.path :: [])) : ∀ w' M', Owg w0 w' d M' Os → View w' 32 u (hcells p.hs) ∧ View w' 32 v (hcells p.path) := fun w' M' q =>
  ⟨Row.view (show Row w' 57 32 u (hcells p.hs) from (h w' M' q).has (x := .hrow u p.hs) (by simp)), Row.view (show Row w' 57 32 v (hcells p.path) from (h w' M' q).has (x := .hrow v p.path) (by simp))⟩
theorem signedC_splice {z : Int} {root root' : By} {i : Int} {s : ByteArray} {v : Value} (hr : root.length = 32) (hr' : root'.length = 32) : splice (signedC z root i s v) 1 (bytes8 root') = signedC z root' i s v := by
  have h1 : (bytes8 root).length = 32 := by rw [bytes8_len, hr]
  have h2 : (bytes8 root').length = 32 := by rw [bytes8_len, hr']
  unfold splice signedC
  rw [h2, List.cons_append, List.take_succ_cons, List.take_zero, show 1 + 32 = 32 + 1 from rfl, List.drop_succ_cons, List.drop_append_of_le_length (by omega), List.drop_of_length_le (by omega)]
  simp
theorem files_one {a : Option Addr} {n c : Nat} {x : Int} (h : Row w 3 1 (.slice a n c) (icells [x])) : n = 1 ∧ ∃ g, a = some ⟨g, 0, none⟩ ∧ w.cell? ⟨g, 0, none⟩ = some (.int .i64 x) := by
  rcases h with ⟨_, h⟩ | ⟨g, n', c', rest, e, h1, hb, h2, _⟩
  · simp [icells] at h
  · cases e
    have : n = 1 := by simp [icells] at h1; omega
    exact ⟨this, g, rfl, hb.cell rfl⟩
/-- What Files hands back of one file. -/
theorem Owg.dfile1 (h : Owg w0 w d M Os) {x : Int} {b : By} (hf : M.files = [(x, b)]) : Calls Tryz.prog 28 #[.pointer (some ⟨d, 0, none⟩)] w fun e w' => ∃ g c, e = .returned (.slice (some ⟨g, 0, none⟩) 1 c) ∧ w'.cell? ⟨g, 0, none⟩ = some (.int .i64 x) ∧ Owg w0 w' d M Os := by
  refine h.dfiles.mono ?_
  rintro e w' ⟨a, n, c, rfl, _, h1⟩
  have hr : Row w' 3 1 (.slice a n c) (icells (M.files.map (·.1))) := by
    have q := h1.has (x := .irow (.slice a n c) (M.files.map (·.1))) (List.mem_cons_self ..)
    exact q
  rw [hf] at hr
  obtain ⟨rfl, g, rfl, hc⟩ := files_one hr
  exact ⟨g, c, rfl, hc, h1.drop⟩
/-- Checks that hold a point. -/
def ChkHold (w0 w : World) (d c : Nat) (M : DiskM) (file many st : Int) (p : PtM) (Os : List Og) : Prop :=
  ∃ a1 c1 b1 d1, Owg w0 w d M (.blk c (chkC d file many (p.cells (.slice a1 p.hs.length c1) (.slice b1 3 d1)) st false) 74 :: .hrow (.slice a1 p.hs.length c1) p.hs :: .hrow (.slice b1 3 d1) p.path :: Os)
end
end Go.Proofs.YtlgeijbgkipliaaGreatDoor

namespace Go.Proofs.YtlgeijbgkipliaaGreatDoor
open Go.RowKit

/-- The first point, with another root. -/
theorem odd_point {p q : PtM} (hp : PtM.of 5 1 = p) (hq : (⟨p.size, p.hs, p.z, h3P 9 0 0, p.i, p.sig, p.path⟩ : PtM) = q) : p.Ok ∧ p.may = true ∧ q.Ok ∧ q.may = false := by
  have h1 := PtM.of_ok 5 1
  have h2 := PtM.of_may 5 1
  have h3 := root51
  rw [show ptRoot 5 1 = (PtM.of 5 1).root from rfl] at h3
  rw [hp] at h1 h2 h3
  refine ⟨h1, h2, ?_, ?_⟩
  · rw [← hq]
    exact ⟨h1.h32, h1.hlen, h1.p32, h1.p3, h1.hok, h1.hsize, h3P_len _ _ _, h1.hz, h1.hi, h1.hsg⟩
  · have h4 := of_decide_eq_true h2
    rw [← hq]
    exact decide_eq_false (fun e => h3 (h4.2.trans e.2.symm))
theorem zed_facts {Z : List Value} (h : Z = signZ) : Z.length = 36 ∧ (Tryz.prog.info? 63).map (·.size) = some Z.toArray.size ∧ Z.toArray.all (·.oneCell') = true := by
  have hl : Z.length = 36 := by rw [h]; exact signZ_len
  refine ⟨hl, by rw [List.size_toArray, hl]; exact info_signed_, all_oneCell_toArray (fun v hv => ?_)⟩
  rw [h, List.mem_append, List.mem_cons] at hv
  rcases hv with (rfl | hv) | hv
  · rfl
  · rw [zeros, List.mem_replicate] at hv
    rw [hv.2]; rfl
  · simp at hv
    rcases hv with rfl | rfl | rfl <;> rfl
theorem signed_new (w : World) {y : List Value} (hy : y.length = 36) : (w.alloc (.cells signZ.toArray 63)).there w.heap.size 0 y.toArray.size ∧ ∀ W2, (w.alloc (.cells signZ.toArray 63)).setCells w.heap.size 0 y = W2 → Blk W2 w.heap.size y 63 ∧ Kept (fun _ => False) w W2 := by
  have hb := Blk.new w signZ 63
  refine ⟨hb.there 0 _ (by rw [List.size_toArray, hy, signZ_len]; omega), fun W2 e => ?_⟩
  have b2 := hb.setCells 0 y (by rw [hy, signZ_len]; omega)
  rw [splice_whole (by rw [hy, signZ_len])] at b2
  have k2 := kept_setCells (w.alloc (.cells signZ.toArray 63)) w.heap.size 0 y
  rw [e] at b2 k2
  exact ⟨b2, ((Kept.refl (fun _ => False) w).alloc _).then_ k2 (fun i hi q => by omega)⟩
theorem root_set {w0 w W8 : World} {d b : Nat} {M : DiskM} {Os : List Og} {z : Int} {root root' : By} {i : Int} {s : ByteArray} {v : Value} (h : Owg w0 w d M (.blk b (signedC z root i s v) 63 :: Os)) (hr : root.length = 32) (hr' : root'.length = 32) (hW : w.setCells b 1 (bytes8 root') = W8) : Owg w0 W8 d M (.blk b (signedC z root' i s v) 63 :: Os) := by
  have h1 := h.has (x := .blk b (signedC z root i s v) 63) (List.mem_cons_self ..)
  have h2 := Blk.setCells (w := w) h1 1 (bytes8 root') (by rw [signedC_len hr, bytes8_len, hr']; omega)
  rw [signedC_splice hr hr', hW] at h2
  have hk := kept_setCells w b 1 (bytes8 root')
  rw [hW] at hk
  exact h.turn hk h2
theorem put_odd {w0 W : World} {d c : Nat} {p q : PtM} {a b : Option Addr} {ca cb : Nat} {x y z : Og} (hq : (⟨p.size, p.hs, p.z, h3P 9 0 0, p.i, p.sig, p.path⟩ : PtM) = q) (h1 : q.Ok ∧ q.may = false) (h : Owg w0 W d (ckD [] 200000 0) (.blk c (chkZ d 0) 74 :: x :: y :: z :: .hrow (.slice a p.hs.length ca) p.hs :: .hrow (.slice b 3 cb) p.path :: [])) :
    Calls Tryz.prog 23 #[.pointer (some ⟨c, 0, none⟩), rngV (p.size : Int) (.slice a p.hs.length ca), signedV (p.z : Int) (h3P 9 0 0) (p.i : Int) p.sig (.slice b 3 cb)] W fun e w' => e = .returned (.int .i64 2) ∧ Owg w0 w' d (ckD [] 200000 0) (.blk c (chkZ d 0) 74 :: x :: y :: z :: .hrow (.slice a p.hs.length ca) p.hs :: .hrow (.slice b 3 cb) p.path :: []) := by
  have hput := chk_put (C := ⟨-1, 0, 0, false⟩) (C' := ⟨-1, 0, 0, false⟩) (M' := ckD [] 200000 0) (y := 2) (P := pointZ) (p := q) (a := a) (b := b) (ca := ca) (cb := cb) h pointZ_len h1.1 (by
    subst hq
    exact held_views (fun w' M' q => q.drop.drop.drop)) ⟨by decide, by decide⟩ ⟨by decide, by decide⟩ (by show 0 + 0 < _; omega) (by rw [h1.2]; exact putM_arg rfl)
  subst hq
  refine hput.mono ?_
  rintro e w' ⟨rfl, _, h2⟩
  exact ⟨rfl, (h2 (by decide)).out⟩
theorem put_one {w0 W : World} {d c : Nat} {p : PtM} {a b : Option Addr} {ca cb : Nat} {x y z : Og} (hp : p.Ok) (hm : p.may = true) (h : Owg w0 W d (ckD [] 200000 0) (.blk c (chkZ d 0) 74 :: x :: y :: z :: .hrow (.slice a p.hs.length ca) p.hs :: .hrow (.slice b 3 cb) p.path :: [])) :
    Calls Tryz.prog 23 #[.pointer (some ⟨c, 0, none⟩), rngV (p.size : Int) (.slice a p.hs.length ca), signedV (p.z : Int) p.root (p.i : Int) p.sig (.slice b 3 cb)] W fun e w' => e = .returned (.int .i64 0) ∧ ChkHold w0 w' d c (ckD [(0, p.frame)] 200000 0) 0 1 0 p [] := by
  have hl := PtM.frame_len hp
  refine (chk_put (C := ⟨-1, 0, 0, false⟩) (C' := ⟨0, 1, 0, false⟩) (M' := ckD [(0, p.frame)] 200000 0) (y := 0) (P := pointZ) (p := p) (a := a) (b := b) (ca := ca) (cb := cb) h pointZ_len hp (held_views (fun w' M' q => q.drop.drop.drop)) ⟨by decide, by decide⟩ ⟨by decide, by decide⟩ (by show 0 + 0 < _; omega) (by rw [hm]; exact put_first (by omega))).mono ?_
  rintro e w' ⟨rfl, h2, _⟩
  obtain ⟨a1, c1, b1, d1, h3⟩ := (h2 rfl).out
  exact ⟨rfl, a1, c1, b1, d1, h3.sub (((List.nil_sublist _).cons_cons _).cons_cons _ |>.cons_cons _)⟩
theorem hold_files {w0 W : World} {d c : Nat} {file many st : Int} {p : PtM} {x : Int} {b : By} {cap s : Int} (h : ChkHold w0 W d c (ckD [(x, b)] cap s) file many st p []) : Calls Tryz.prog 28 #[.pointer (some ⟨d, 0, none⟩)] W fun e w' => ∃ g c1, e = .returned (.slice (some ⟨g, 0, none⟩) 1 c1) ∧ w'.cell? ⟨g, 0, none⟩ = some (.int .i64 x) ∧ ChkHold w0 w' d c (ckD [(x, b)] cap s) file many st p [] := by
  obtain ⟨a1, c1, b1, d1, h⟩ := h
  refine (h.dfile1 rfl).mono ?_
  rintro e w' ⟨g, c2, rfl, h1, h2⟩
  exact ⟨g, c2, rfl, h1, a1, c1, b1, d1, h2⟩
/-- A point more, on a disk that has room. -/
theorem put_again {w0 W : World} {d c : Nat} {n m cap st : Int} {B : By} {P : List Value} {p : PtM} {a b : Option Addr} {ca cb : Nat} {Os : List Og} (hp : p.Ok) (hm : p.may = true) (h : Owg w0 W d (ckD [(n, B)] cap st) (.blk c (chkC d n m P st false) 74 :: .hrow (.slice a p.hs.length ca) p.hs :: .hrow (.slice b 3 cb) p.path :: Os)) (hP : P.length = 38) (n0 : 0 ≤ n) (n1 : n + 1 < 1000) (m0 : 0 ≤ m) (m1 : m ≤ 3) (hc : ((B.length + p.frame.length : Nat) : Int) ≤ cap) :
    Calls Tryz.prog 23 #[.pointer (some ⟨c, 0, none⟩), rngV (p.size : Int) (.slice a p.hs.length ca), signedV (p.z : Int) p.root (p.i : Int) p.sig (.slice b 3 cb)] W fun e w' => e = .returned (.int .i64 0) ∧ ∃ n' m' B', ((m < 3 ∧ n' = n ∧ m' = m + 1 ∧ B' = B ++ p.frame) ∨ (m = 3 ∧ n' = n + 1 ∧ m' = 1 ∧ B' = p.frame)) ∧ ChkHold w0 w' d c (ckD [(n', B')] cap st) n' m' st p (.hrow (.slice a p.hs.length ca) p.hs :: .hrow (.slice b 3 cb) p.path :: Os) := by
  have hv : ∀ w' M', Owg w0 w' d M' (.hrow (.slice a p.hs.length ca) p.hs :: .hrow (.slice b 3 cb) p.path :: Os) → View w' 32 (.slice a p.hs.length ca) (hcells p.hs) ∧ View w' 32 (.slice b 3 cb) (hcells p.path) := held_views (fun w' M' q => q.sub (((List.nil_sublist _).cons_cons _).cons_cons _))
  by_cases h3 : m < 3
  · refine (chk_put (C := ⟨n, m, st, false⟩) (C' := ⟨n, m + 1, st, false⟩) (M' := ckD [(n, B ++ p.frame)] cap st) (y := 0) (P := P) (p := p) (a := a) (b := b) (ca := ca) (cb := cb) h hP hp hv ⟨by show -1 ≤ n; omega, by show n ≤ _; omega⟩ ⟨m0, by show m ≤ _; omega⟩ (by show 1 + 0 < _; omega) (by rw [hm]; exact put_more n0 h3 hc)).mono ?_
    rintro e w' ⟨rfl, h2, _⟩
    obtain ⟨a1, c1, b1, d1, h4⟩ := (h2 rfl).out
    exact ⟨rfl, n, m + 1, B ++ p.frame, Or.inl ⟨h3, rfl, rfl, rfl⟩, a1, c1, b1, d1, h4⟩
  · obtain rfl : m = 3 := by omega
    refine (chk_put (C := ⟨n, 3, st, false⟩) (C' := ⟨n + 1, 1, st, false⟩) (M' := ckD [(n + 1, p.frame)] cap st) (y := 0) (P := P) (p := p) (a := a) (b := b) (ca := ca) (cb := cb) h hP hp hv ⟨by show -1 ≤ n; omega, by show n ≤ _; omega⟩ ⟨by show (0 : Int) ≤ 3; omega, by show (3 : Int) ≤ _; omega⟩ (by show 1 + 0 < _; omega) (by rw [hm]; exact put_over n0 n1 hc)).mono ?_
    rintro e w' ⟨rfl, h2, _⟩
    obtain ⟨a1, c1, b1, d1, h4⟩ := (h2 rfl).out
    exact ⟨rfl, n + 1, 1, p.frame, Or.inr ⟨rfl, rfl, rfl, rfl⟩, a1, c1, b1, d1, h4⟩
/-- Between two rounds of the chapter's loop. -/
def LoopC (w : World) (d c k : Nat) (W : World) : Prop :=
  ∃ (n m : Int) (B : By) (q : PtM), q.Ok ∧ ChkHold w W d c (ckD [(n, B)] 200000 0) n m 0 q [] ∧ B.length ≤ 30012 * (k + 1) ∧ ((k < 3 ∧ n = 0 ∧ m = (k : Int) + 1) ∨ (k = 3 ∧ n = 1 ∧ m = 1 ∧ q = PtM.of 8 2))
theorem LoopC.put {w W : World} {d c k : Nat} {p : PtM} {a b : Option Addr} {ca cb : Nat} (hk : k < 3) (hp : p.Ok) (hm : p.may = true) (h8 : k = 2 → p = PtM.of 8 2) {n m : Int} {B : By} {P : List Value} (hP : P.length = 38) {x y : Og} (h : Owg w W d (ckD [(n, B)] 200000 0) (.blk c (chkC d n m P 0 false) 74 :: .hrow (.slice a p.hs.length ca) p.hs :: .hrow (.slice b 3 cb) p.path :: x :: y :: [])) (hB : B.length ≤ 30012 * (k + 1)) (hn : n = 0) (hm2 : m = (k : Int) + 1) :
    Calls Tryz.prog 23 #[.pointer (some ⟨c, 0, none⟩), rngV (p.size : Int) (.slice a p.hs.length ca), signedV (p.z : Int) p.root (p.i : Int) p.sig (.slice b 3 cb)] W fun e w' => e = .returned (.int .i64 0) ∧ Hid (LoopC w d c (k + 1) w') := by
  have hl := PtM.frame_len hp
  refine (put_again hp hm h hP (by omega) (by omega) (by omega) (by omega) (by omega)).mono ?_
  rintro e w' ⟨rfl, n', m', B', hc, a1, c1, b1, d1, h2⟩
  refine ⟨rfl, Lib.hid ⟨n', m', B', p, hp, ⟨a1, c1, b1, d1, h2.sub ((((List.nil_sublist _).cons_cons _).cons_cons _).cons_cons _)⟩, ?_, ?_⟩⟩
  · rcases hc with ⟨_, _, _, rfl⟩ | ⟨_, _, _, rfl⟩
    · rw [List.length_append]; omega
    · omega
  · rcases hc with ⟨h3, rfl, rfl, _⟩ | ⟨h3, rfl, rfl, _⟩
    · exact Or.inl ⟨by omega, hn, by omega⟩
    · exact Or.inr ⟨by omega, by omega, rfl, h8 (by omega)⟩
theorem hold_is {w0 W : World} {d c : Nat} {M : DiskM} {file many st : Int} {q : PtM} {Os : List Og} (h : ChkHold w0 W d c M file many st q Os) (hq : q.Ok) (hf : 0 ≤ file) (sz sd : Nat) (hsz : sz < 65536) (hsd : sd < 256) :
    Calls Tryz.prog 29 #[.agg (ptC sz sd).toArray, .pointer (some ⟨c, 0, none⟩)] W fun e w' => e = .returned (.bool (q.same (PtM.of sz sd))) ∧ ChkHold w0 w' d c M file many st q Os := by
  obtain ⟨a1, c1, b1, d1, h⟩ := h
  have hr : Row W 57 32 (.slice a1 q.hs.length c1) (hcells q.hs) := h.has (x := .hrow (.slice a1 q.hs.length c1) q.hs) (by simp)
  have hr2 : Row W 57 32 (.slice b1 3 d1) (hcells q.path) := h.has (x := .hrow (.slice b1 3 d1) q.path) (by simp)
  refine (is_any hq a1 b1 c1 d1 sz sd hsz hsd (chk_blk h) hf hr.view hr2.view h.tab).mono ?_
  rintro e w' ⟨rfl, hk⟩
  exact ⟨rfl, a1, c1, b1, d1, h.same hk⟩
end Go.Proofs.YtlgeijbgkipliaaGreatDoor

namespace Go.Proofs.YtlgeijbgkipliaaGreatDoor
open Go.RowKit

set_option maxRecDepth 100000 in
set_option maxHeartbeats 8000000 in
theorem checked_any (w : World) (ht : Tab w) : Calls Tryz.prog 27 #[] w fun e w' => e = .returned (.bool true) ∧ Kept (fun _ => False) w w' := by
  obtain ⟨p, hp⟩ : ∃ p, PtM.of 5 1 = p := ⟨_, rfl⟩
  obtain ⟨q, hq⟩ : ∃ q, (⟨p.size, p.hs, p.z, h3P 9 0 0, p.i, p.sig, p.path⟩ : PtM) = q := ⟨_, rfl⟩
  have HPQ := Lib.hid (odd_point hp hq)
  have HT := Lib.hid ht
  have HE := Lib.hid (And.intro hp hq)
  clear ht
  go_enter Tryz.func27, Tryz.ntmps27
  go_upto_region 2 with (go_at_call 9; refine (new_ok _ 200000 (by omega) (by omega)).mono ?_; rintro e w1 hnew; obtain ⟨d, rfl, hA1, k1⟩ := Apart.made _ hnew; have HO1 : Hid (Owg w w1 d (ckD [] 200000 0) []) := Lib.hid (Owg.made hA1 HT.out k1); clear hnew hA1 k1)
  have HOP := Lib.hid (chk_open0 HO1.out rfl rfl ck_sync)
  go_upto_region 3 with (go_at_call 25; refine HOP.out.mono ?_; rintro e w2 ⟨c, rfl, h2⟩; have HO2 : Hid (Owg w w2 d (ckD [] 200000 0) (.blk c (chkZ d 0) 74 :: [])) := Lib.hid h2; clear h2)
  have HLA := Lib.hid (chk_last0 (chk_blk HO2.out) (by decide))
  obtain ⟨Z, hZ⟩ : ∃ Z, Z = signZ := ⟨_, rfl⟩
  rw [← hZ] at HLA
  have HZ := Lib.hid (zed_facts hZ)
  clear hZ
  go_upto_region 4 with first
    | (go_at_call 22; refine HLA.out.mono ?_; rintro e w3 ⟨rfl, k3⟩; have HS := Lib.hid (two_stored w3 [.int .i64 0, .slice none 0 0] Z HZ.out.1); have HO3 := Lib.hid (HO2.out.same k3); clear k3)
    | ((with_reducible show wpList _ _ _ (⟨none, .store _ (.tmp 6) _, _, _, _, _⟩ :: _) _ _); refine wpList_store_mid rfl 63 _ _ rfl (w3.heap.size + 1) 0 Z.toArray rfl rfl HS.out.1 HZ.out.2.1 HZ.out.2.2 ?_)
  generalize hW4 : World.setCells _ _ _ _ = W4
  have HO4 := Lib.hid (HO3.out.same (HS.out.2 W4 hW4).2.2)
  clear hW4 HS HO3 HLA HO2 HOP HO1
  have HOF := Lib.hid (pt_of2 W4 5 1 (by decide) (by decide) HO4.out.tab hp)
  have hr32 : p.root.length = 32 := HPQ.out.1.hr
  go_upto_region 7 with first
    | (go_at_call 21; refine HOF.out.mono ?_; rintro e w5 ⟨a5, c5, b5, d5, rfl, H5⟩; have HS := Lib.hid (two_stored w5 [.int .i64 (p.size : Int), .slice a5 p.hs.length c5] (signedC (p.z : Int) p.root (p.i : Int) p.sig (.slice b5 3 d5)) (signedC_len hr32)); have HO5 := Lib.hid (of_held HO4.out H5.out))
    | ((with_reducible show wpList _ _ _ (⟨none, .store _ (.tmp 9) _, _, _, _, _⟩ :: _) _ _); refine wpList_store_mid rfl 63 _ _ rfl (w5.heap.size + 1) 0 (signedC (p.z : Int) p.root (p.i : Int) p.sig (.slice b5 3 d5)).toArray rfl rfl HS.out.1 (info_signed_of hr32) (all_oneCell_toArray (signed_one _ _ _ _ _ rfl)) ?_)
  generalize hW6 : World.setCells _ _ _ _ = W6
  have H6 := Lib.hid (HS.out.2 W6 hW6)
  have h6 := HO5.out.add2 (x := .blk w5.heap.size [.int .i64 (p.size : Int), .slice a5 p.hs.length c5] 55) (y := .blk (w5.heap.size + 1) (signedC (p.z : Int) p.root (p.i : Int) p.sig (.slice b5 3 d5)) 63) H6.out.2.2 H6.out.1 H6.out.2.1 (fun k q => by have : k = w5.heap.size := q; omega) (fun k q => by have : k = w5.heap.size + 1 := q; omega) (fun k q q2 => by have : k = w5.heap.size := q; have : k = w5.heap.size + 1 := q2; omega)
  clear hW6 HS HO5 HOF HO4 H5
  generalize w5.heap.size + 1 = p9 at *
  generalize w5.heap.size = p8 at *
  have HO6 : Hid (Owg w W6 d (ckD [] 200000 0) (.blk c (chkZ d 0) 74 :: .blk p8 [.int .i64 (p.size : Int), .slice a5 p.hs.length c5] 55 :: .blk p9 (signedC (p.z : Int) p.root (p.i : Int) p.sig (.slice b5 3 d5)) 63 :: .hrow (.slice a5 p.hs.length c5) p.hs :: .hrow (.slice b5 3 d5) p.path :: [])) := Lib.hid (h6.perm (List.perm_middle (l₁ := [_, _, _, _])))
  clear h6
  have i9 : (Tryz.prog.info? 63).map (·.size) = some (signedC (p.z : Int) p.root (p.i : Int) p.sig (.slice b5 3 d5)).length := by rw [signedC_len hr32]; exact info_signed_
  have HR9 := Lib.hid (And.intro H6.out.2.1.range0 i9)
  clear i9
  have HN := Lib.hid (signed_new W6 (signedC_len (size := (p.z : Int)) (root := p.root) (i := (p.i : Int)) (s := p.sig) (v := .slice b5 3 d5) hr32))
  go_upto_region 8 with first
    | ((with_reducible show wpList _ _ _ (⟨some 43, _, _, _, _, _⟩ :: _) _ _); refine wpList_load_mid rfl 63 _ rfl p9 0 rfl _ _ HR9.out.1 Tryz.underlying63 rfl HR9.out.2 ?_)
    | ((with_reducible show wpList _ _ _ (⟨none, .store _ (.tmp 10) _, _, _, _, _⟩ :: _) _ _); refine wpList_store_mid rfl 63 _ _ rfl W6.heap.size 0 (signedC (p.z : Int) p.root (p.i : Int) p.sig (.slice b5 3 d5)).toArray rfl rfl HN.out.1 (info_signed_of hr32) (all_oneCell_toArray (signed_one _ _ _ _ _ rfl)) ?_)
  generalize hW7 : World.setCells _ _ _ _ = W7
  have H7 := Lib.hid (HN.out.2 W7 hW7)
  have HO7 := Lib.hid (HO6.out.add (x := .blk W6.heap.size (signedC (p.z : Int) p.root (p.i : Int) p.sig (.slice b5 3 d5)) 63) H7.out.2 H7.out.1 (fun k q => by have : k = W6.heap.size := q; omega))
  have HR7 := Lib.hid (And.intro (H6.out.1.kept H7.out.2 id) (And.intro (H6.out.2.1.kept H7.out.2 id) H7.out.1))
  generalize W6.heap.size = p10 at *
  clear hW7 HN HR9 H6 H7
  simp only [Act.put]
  refine wp_region_lit ?_
  refine wpList_plain rfl (fun K hK => ?_)
  go_simp
  refine hK _ _ ?_
  clear hK K
  refine wpList_plain rfl (fun K hK => ?_)
  go_simp
  refine hK _ _ ?_
  clear hK K
  refine wpList_plain rfl (fun K hK => ?_)
  go_simp
  refine hK _ _ ?_
  clear hK K
  refine wpList_store_mid rfl 57 _ _ rfl p10 1 (bytes8 (h3P 9 0 0)).toArray rfl (by rfl) (HR7.out.2.2.there 1 32 (by rw [signedC_len hr32]; omega)) (by kernel_rfl) (all_oneCell_toArray (fun y hy => u8_oneCell y hy)) ?_
  generalize hW8 : World.setCells _ _ _ _ = W8
  have HO8 := Lib.hid (root_set HO7.out hr32 (h3P_len 9 0 0) hW8).two
  have HP1 := Lib.hid (put_odd hq HPQ.out.2.2 HO8.out)
  have HP2 := Lib.hid (fun w9 (h : Owg w w9 d (ckD [] 200000 0) (.blk c (chkZ d 0) 74 :: .blk p10 (signedC (p.z : Int) (h3P 9 0 0) (p.i : Int) p.sig (.slice b5 3 d5)) 63 :: .blk p8 [.int .i64 (p.size : Int), .slice a5 p.hs.length c5] 55 :: .blk p9 (signedC (p.z : Int) p.root (p.i : Int) p.sig (.slice b5 3 d5)) 63 :: .hrow (.slice a5 p.hs.length c5) p.hs :: .hrow (.slice b5 3 d5) p.path :: [])) => put_one HPQ.out.1 HPQ.out.2.1 h)
  have HVW := Lib.hid (fun w9 (h : Owg w w9 d (ckD [] 200000 0) (.blk c (chkZ d 0) 74 :: .blk p10 (signedC (p.z : Int) (h3P 9 0 0) (p.i : Int) p.sig (.slice b5 3 d5)) 63 :: .blk p8 [.int .i64 (p.size : Int), .slice a5 p.hs.length c5] 55 :: .blk p9 (signedC (p.z : Int) p.root (p.i : Int) p.sig (.slice b5 3 d5)) 63 :: .hrow (.slice a5 p.hs.length c5) p.hs :: .hrow (.slice b5 3 d5) p.path :: [])) => (show (w9.cell? ⟨p8, 0, none⟩ = some (.int .i64 (p.size : Int)) ∧ w9.cell? ⟨p8, 1, none⟩ = some (.slice a5 p.hs.length c5)) ∧ w9.rangeAt p9 0 (signedC (p.z : Int) p.root (p.i : Int) p.sig (.slice b5 3 d5)) ∧ w9.rangeAt p10 0 (signedC (p.z : Int) (h3P 9 0 0) (p.i : Int) p.sig (.slice b5 3 d5)) from
    ⟨⟨Blk.cell (h.has (x := .blk p8 [.int .i64 (p.size : Int), .slice a5 p.hs.length c5] 55) (by simp)) (i := 0) rfl, Blk.cell (h.has (x := .blk p8 [.int .i64 (p.size : Int), .slice a5 p.hs.length c5] 55) (by simp)) (i := 1) rfl⟩, Blk.range0 (h.has (x := .blk p9 (signedC (p.z : Int) p.root (p.i : Int) p.sig (.slice b5 3 d5)) 63) (by simp)), Blk.range0 (h.has (x := .blk p10 (signedC (p.z : Int) (h3P 9 0 0) (p.i : Int) p.sig (.slice b5 3 d5)) 63) (by simp))⟩))
  have v80 := (HVW.out W8 HO8.out).1.1
  have v81 := (HVW.out W8 HO8.out).1.2
  have HR10 := Lib.hid (HVW.out W8 HO8.out).2.2
  have is9 : (Tryz.prog.info? 63).map (·.size) = some (signedC (p.z : Int) p.root (p.i : Int) p.sig (.slice b5 3 d5)).length := by rw [signedC_len hr32]; exact info_signed_
  have is10 : (Tryz.prog.info? 63).map (·.size) = some (signedC (p.z : Int) (h3P 9 0 0) (p.i : Int) p.sig (.slice b5 3 d5)).length := by rw [signedC_len (h3P_len 9 0 0)]; exact info_signed_
  have IS := Lib.hid (And.intro is9 is10)
  clear hW8 HO7 HO6 HR7 is9 is10 hp hq
  go_upto_region 11 with first
    | ((with_reducible show wpList _ _ _ (⟨some 49, _, _, _, _, _⟩ :: _) _ _); refine wpList_load_mid rfl 63 _ rfl p10 0 rfl _ _ HR10.out Tryz.underlying63 rfl IS.out.2 ?_)
    | (go_at_call 23; with_reducible refine HP1.out.mono ?_; rintro e w9 ⟨rfl, h9⟩; have HO9 := Lib.hid h9; have v90 := (HVW.out w9 h9).1.1; have v91 := (HVW.out w9 h9).1.2; have HR9 := Lib.hid (HVW.out w9 h9).2.1; clear h9)
    | ((with_reducible show wpList _ _ _ (⟨some 55, _, _, _, _, _⟩ :: _) _ _); refine wpList_load_wanted (by rfl) 63 _ rfl p9 0 rfl _ _ HR9.out Tryz.underlying63 rfl IS.out.1 ?_)
    | (go_at_call 23; refine (HP2.out w9 HO9.out).mono ?_; rintro e w10 ⟨rfl, h10⟩; have HO10 := Lib.hid h10; clear h10)
    | (go_at_call 28; refine (hold_files HO10.out).mono ?_; rintro e w11 ⟨g1, c11, rfl, hg1, h11⟩; have HO11 := Lib.hid h11; clear h11)
    | (go_at_call 28; refine (hold_files HO11.out).mono ?_; rintro e w12 ⟨g2, c12, rfl, hg2, h12⟩; have HO12 := Lib.hid h12; clear h12)
  have HJ := Lib.hid (show LoopC w d c 0 w12 from ⟨0, 1, p.frame, p, HPQ.out.1, HO12.out, by have := PtM.frame_len HPQ.out.1; omega, Or.inl ⟨by omega, rfl, rfl⟩⟩)
  clear HO12 HO11 HO10 HO9 HO8 HP1 HP2 HVW HR10 HR9 IS hg1 hg2 v80 v81 v90 v91
  go_wp2_with fail
  go_loopw [11] (fun x wr => ∃ k : Nat, k ≤ 3 ∧ x = .int .i64 (k : Int) ∧ Hid (LoopC w d c k wr)) (fun x _ => 3 - (intOf x).toNat)
  case atStart => exact ⟨0, by omega, rfl, HJ⟩
  case round =>
    obtain ⟨k, hk, rfl, HR⟩ := hrel
    by_cases hlt : k < 3
    · have y1 : decide ((k : Int) < 3) = true := decide_eq_true (by omega)
      obtain ⟨n, m, B, q1, HQ, ⟨a1, c1, b1, d1, HO⟩, hB, hc⟩ := HR.out
      obtain ⟨hn, hm⟩ : n = 0 ∧ m = (k : Int) + 1 := by omega
      have hP1 := q1.cells_len HQ (.slice a1 q1.hs.length c1) (.slice b1 3 d1)
      generalize q1.cells (.slice a1 q1.hs.length c1) (.slice b1 3 d1) = P1 at *
      obtain ⟨p1, hp1⟩ : ∃ p1, PtM.of (6 + k) 2 = p1 := ⟨_, rfl⟩
      have hok := PtM.of_ok (6 + k) 2
      have hmay := PtM.of_may (6 + k) 2
      rw [hp1] at hok hmay
      have h8 : k = 2 → p1 = PtM.of 8 2 := fun e => by rw [← hp1, e]
      have HOF := Lib.hid (pt_of2 wr (6 + k) 2 (by omega) (by decide) HO.tab hp1)
      have HX := Lib.hid (And.intro hok (And.intro hmay (And.intro h8 (And.intro hP1 (And.intro HO (And.intro hB (And.intro hn hm)))))))
      have hr1 : p1.root.length = 32 := hok.hr
      have hw6 : IntKind.u16.wrap (6 + (k : Int)) = ((6 + k : Nat) : Int) := by
        simp only [IntKind.wrap, IntKind.bits, IntKind.signed]
        simp
        omega
      clear hp1 hok hmay h8 hP1 HO hB hn hm HQ hc HR
      go_upto_region 15 with first
        | (go_at_call 21; refine HOF.out.mono ?_; rintro e w5 ⟨a6, c6, b6, d6, rfl, H5⟩; have HS := Lib.hid (two_stored w5 [.int .i64 (p1.size : Int), .slice a6 p1.hs.length c6] (signedC (p1.z : Int) p1.root (p1.i : Int) p1.sig (.slice b6 3 d6)) (signedC_len hr1)))
        | ((with_reducible show wpList _ _ _ (⟨none, .store _ (.tmp 13) _, _, _, _, _⟩ :: _) _ _); refine wpList_store_mid rfl 63 _ _ rfl (w5.heap.size + 1) 0 (signedC (p1.z : Int) p1.root (p1.i : Int) p1.sig (.slice b6 3 d6)).toArray rfl rfl HS.out.1 (info_signed_of hr1) (all_oneCell_toArray (signed_one _ _ _ _ _ rfl)) ?_)
      generalize hW6 : World.setCells _ _ _ _ = W6
      have H6 := Lib.hid (HS.out.2 W6 hW6)
      have h6 := ((of_held HX.out.2.2.2.2.1 H5.out).same H6.out.2.2).perm (List.perm_middle (l₁ := [_, _]))
      have HPT := Lib.hid (LoopC.put hlt HX.out.1 HX.out.2.1 HX.out.2.2.1 HX.out.2.2.2.1 h6 HX.out.2.2.2.2.2.1 HX.out.2.2.2.2.2.2.1 HX.out.2.2.2.2.2.2.2)
      have v0 := H6.out.1.cell (i := 0) rfl
      have v1 := H6.out.1.cell (i := 1) rfl
      have is1 : (Tryz.prog.info? 63).map (·.size) = some (signedC (p1.z : Int) p1.root (p1.i : Int) p1.sig (.slice b6 3 d6)).length := by rw [signedC_len hr1]; exact info_signed_
      have HR6 := Lib.hid (And.intro H6.out.2.1.range0 is1)
      clear h6 HX H6 HS H5 HOF hW6 is1 hw6
      go_wp2_with first
        | ((with_reducible show wpList _ _ _ (⟨some 86, _, _, _, _, _⟩ :: _) _ _); refine wpList_load_mid rfl 63 _ rfl (w5.heap.size + 1) 0 rfl _ _ HR6.out.1 Tryz.underlying63 rfl HR6.out.2 ?_)
        | (go_at_call 23; refine HPT.out.mono ?_; rintro e w7 ⟨rfl, HL7⟩)
      go_roundw
      case rel => exact ⟨k + 1, by omega, by go_num, HL7⟩
      case measure => simp [intOf]; omega
    · obtain rfl : k = 3 := by omega
      have y1 : decide (((3 : Nat) : Int) < 3) = false := by decide
      obtain ⟨n, m, B, q1, HQ, HH, hB, hc⟩ := HR.out
      obtain ⟨hn, hm, hq8⟩ : n = 1 ∧ m = 1 ∧ q1 = PtM.of 8 2 := by
        rcases hc with ⟨h, _⟩ | ⟨_, h⟩
        · omega
        · exact h
      subst hn hm
      have HHO := Lib.hid HH
      have HQ8 := Lib.hid (And.intro HQ hq8)
      clear hc hB HH HR hq8 HQ
      go_wp2_with first
        | (go_at_call 28; refine (hold_files HHO.out).mono ?_; rintro e w13 ⟨g3, c13, rfl, hg3, h13⟩; have HO13 := Lib.hid h13; clear h13)
        | (go_at_call 28; refine (hold_files HO13.out).mono ?_; rintro e w14 ⟨g4, c14, rfl, hg4, h14⟩; have HO14 := Lib.hid h14; clear h14)
        | (go_at_call 29; refine (hold_is HO14.out HQ8.out.1 (by decide) 8 2 (by decide) (by decide)).mono ?_; rintro e w15 ⟨rfl, k15⟩)
      go_ret
      obtain ⟨a9, c9, b9, d9, h9⟩ := k15
      exact ⟨by rw [HQ8.out.2, PtM.same_self]; rfl, h9.old⟩
end Go.Proofs.YtlgeijbgkipliaaGreatDoor
