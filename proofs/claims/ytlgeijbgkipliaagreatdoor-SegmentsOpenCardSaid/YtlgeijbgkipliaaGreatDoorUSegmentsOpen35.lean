/- SegDrop FrG2 SegLoad -/
import Derived.Laws.EntriesVeiled
import Derived.OwnWalk
import Derived.Test.YtlgeijbgkipliaaGreatDoorUSegmentsOpen32
import Derived.Test.YtlgeijbgkipliaaGreatDoorUSegmentsOpen18
set_option linter.unusedVariables false
set_option linter.unusedSimpArgs false
namespace Go.Proofs.YtlgeijbgkipliaaGreatDoor
open Go.RowKit Go.Shelf
attribute [local go_sem] Oper.semAt_some
theorem wpListIn_append_run {F : Fence} {n : Nat} {P : Program} (w : World) {ops : Array Oper} {rest : List Oper} {o : Oper} {a : Act} {Q : Exit → Act → World → Prop} (hg : o.guard = none) (s x : Operand) (t tn : TypeId)
    (hop : o.op = .call { callee := .builtin .append, args := #[s, x], argTypes := #[t, tn] }) (vs vx : Value) (hs : a.eval s = vs) (hx : a.eval x = vx)
    (v' : Value) (w' : World) (hr : (Builtin.append_ #[t, tn] o.type #[vs, vx]).run P w = .ok v' w') (h : wpListIn F n P ops Q rest (a.put o.dst v') w') : wpListIn F n P ops Q (o :: rest) a w := by
  refine wpListIn_plain hg fun K hK' => ?_
  unfold Oper.wpIn
  refine ⟨by simp [Oper.about, hop, resolve, Target.leads, Sem.run_pure], ?_⟩
  rw [Oper.semAt_plain F _ _ (by rw [hop]; intro c hc'; cases hc')]
  simp [execOp, hop, resolve, invoke, builtin, hs, hx, hr, Result.andThen]
  exact hK' _ _ h
theorem info_step : (Tryz.prog.info? 159).map (fun i => (i.zero, i.size, i.bytes)) = some (some .nilFunc, 1, 8) := by kernel_rfl
theorem append_step {w2 : World} {x : Value} {vs : List Value} (hrow : Row w2 159 1 x vs) (f : Value) (hf : f.oneCell' = true) (hl : vs.length ≤ 900000000) :
    ∃ v' w', (Builtin.append_ #[112, 112] 112 #[x, .slice (some ⟨w2.heap.size, 0, none⟩) 1 1]).run Tryz.prog (w2.alloc (.cells #[f] 159)) = .ok v' w' ∧
      Hid (Row w' 159 1 v' (vs ++ [f]) ∧ Kept (fun k => x.ownBlock = some k) w2 w' ∧ ∀ k, v'.ownBlock = some k → x.ownBlock = some k ∨ w2.heap.size ≤ k) ∧ ∃ a m c, v' = .slice a m c := by
  obtain ⟨i0, hi, hz0, hz1, hz2⟩ := info_parts info_step
  have hb := Blk.new w2 [f] 159
  obtain ⟨v', w', hr, hrow2, hk, ho⟩ := (hrow.alloc (.cells #[f] 159)).append_cells (P := Tryz.prog) (t := 112) Tryz.underlying112 hi hz0 hz1 rfl (by omega) (by omega) ⟨w2.heap.size, 0, none⟩ 1 1 [f] rfl (fun j u hu => by rw [addr0_add]; exact hb.cell hu) (fun u hu => by simp at hu; subst hu; exact hf) (by omega) (by simp; omega) 112
  obtain ⟨a, m, c, hv, _⟩ := hrow2.form (by omega)
  refine ⟨v', w', hr, Lib.hid ⟨hrow2, ((Kept.refl _ _).alloc _).trans hk, fun k hk => ?_⟩, a, m, c, hv⟩
  rcases ho k hk with h | h
  · exact Or.inl h
  · right; rw [World.size_alloc] at h; omega
def IsCells (w : World) (k : Nat) : Prop := ∃ c t f, w.heap[k]? = some (.cells c t f)
theorem Blk.cells {w : World} {b : Nat} {c : List Value} {t : TypeId} (h : Blk w b c t) : IsCells w b := ⟨_, _, _, h⟩
theorem Row.ownCells {w : World} {e : TypeId} {size : Nat} {v : Value} {xs : List Value} (h : Row w e size v xs) {k : Nat} (hk : v.ownBlock = some k) : IsCells w k := by
  rcases h with ⟨rfl, _⟩ | ⟨g, n, cap, rest, rfl, _, hb, _⟩
  · simp [Value.ownBlock] at hk
  · simp [Value.ownBlock] at hk; subst hk; exact hb.cells
def CellsT (w : World) (k : Nat) (t : TypeId) : Prop := ∃ c f, w.heap[k]? = some (.cells c t f)
theorem Row.cellsT {w : World} {e : TypeId} {size : Nat} {v : Value} {xs : List Value} (h : Row w e size v xs) {k : Nat} (hk : v.ownBlock = some k) : CellsT w k e := by
  rcases h with ⟨rfl, _⟩ | ⟨g, n, cap, rest, rfl, _, hb, _⟩
  · simp [Value.ownBlock] at hk
  · simp [Value.ownBlock] at hk; subst hk; exact ⟨_, _, hb⟩
theorem CellsT.same {w : World} {k : Nat} {t t' : TypeId} (h : CellsT w k t) (h' : CellsT w k t') : t = t' := by
  obtain ⟨c, f, h⟩ := h
  obtain ⟨c', f', h'⟩ := h'
  rw [h] at h'
  simp at h'
  exact h'.2.1
theorem CellsT.keepsFrom {w w' : World} {Z : Nat → Prop} (hk : Kept Z w w') (hZ : ∀ k, k < w.heap.size → Z k → IsCells w k) (B : Nat) : KeepsFrom B w w' :=
  ⟨hk.size, fun k o _ h ho => (hk.block k (Array.getElem?_eq_some_iff.1 h).1 (fun z => by obtain ⟨c, t, f, q⟩ := hZ k (Array.getElem?_eq_some_iff.1 h).1 z; rw [h] at q; cases q; cases ho)).trans h⟩
def dropped (pre : List I64x) (from_ : Int) : List Chg := ((pre.map (·.1.2)).filter fun n => decide (from_ ≤ n)).map .del
theorem dropped_snoc_yes (pre : List I64x) (x : I64x) (from_ : Int) (h : from_ ≤ x.1.2) : dropped (pre ++ [x]) from_ = dropped pre from_ ++ [.del x.1.2] := by simp [dropped, h]
theorem dropped_snoc_no (pre : List I64x) (x : I64x) (from_ : Int) (h : ¬ from_ ≤ x.1.2) : dropped (pre ++ [x]) from_ = dropped pre from_ := by simp [dropped, h]
structure DropI (w : World) (d a f s : Nat) (from_ : Int) (pre : List I64x) (W : World) : Prop where
  ex : ∃ x m c vs, Blk W s [.slice x m c] 112 ∧ Row W 159 1 (.slice x m c) vs ∧ StepsOk W d (fun k => w.heap.size ≤ k ∧ IsCells W k ∧ k ≠ s ∧ (Value.slice x m c).ownBlock ≠ some k) vs (dropped pre from_) [] ∧ (∀ k, (Value.slice x m c).ownBlock = some k → w.heap.size ≤ k ∧ k ≠ s)
  da : Blk W a [.pointer (some ⟨d, 0, none⟩)] 29
  fr : Blk W f [.int .i64 from_] 3
  kept : Kept (fun _ => False) w W
  ge : w.heap.size ≤ a ∧ w.heap.size ≤ f ∧ w.heap.size ≤ s
theorem IsCells.kept {Z : Nat → Prop} {w w' : World} {k : Nat} (h : IsCells w k) (hk : Kept Z w w') (hZ : ¬ Z k) : IsCells w' k := by
  obtain ⟨c, t, f, hc⟩ := h
  exact ⟨c, t, f, by rw [hk.block k (Array.getElem?_eq_some_iff.1 hc).1 hZ]; exact hc⟩
theorem DropI.turn {w W W' : World} {d a f s : Nat} {from_ : Int} {pre : List I64x} {Z : Nat → Prop} (h : DropI w d a f s from_ pre W) (hk : Kept Z W W') (hZ : ∀ k, k < W.heap.size → Z k → w.heap.size ≤ k ∧ ¬ IsCells W k) : DropI w d a f s from_ pre W' := by
  obtain ⟨⟨x, m, c, vs, h1, h2, h3, h4⟩, h5, h6, h7, h8⟩ := h
  have nc : ∀ k, IsCells W k → ¬ Z k := fun k q z => (hZ k (by obtain ⟨_, _, _, q⟩ := q; exact (Array.getElem?_eq_some_iff.1 q).1) z).2 q
  refine ⟨⟨x, m, c, vs, h1.kept hk (nc _ h1.cells), h2.kept hk (fun k q => nc k (h2.ownCells q)), ?_, h4⟩, h5.kept hk (nc _ h5.cells), h6.kept hk (nc _ h6.cells), h7.then_ hk (fun i hi z => ?_), h8⟩
  · refine (h3.kept (fun k q => hk.block k ?_ (nc k q.2.1))).mono (fun k q => ⟨q.1, q.2.1.kept hk (nc k q.2.1), q.2.2⟩)
    obtain ⟨_, _, _, q⟩ := q.2.1
    exact (Array.getElem?_eq_some_iff.1 q).1
  · have := (hZ i (Nat.lt_of_lt_of_le hi h7.size) z).1
    omega
theorem grown_kept {X Y : World} {row : Option Nat} (hg : X.grownBy Y row) : Kept (fun k => row = some k) X Y := (Kept.refl _ _).grown hg (fun _ e _ => e)
theorem nonCells {X : World} {k : Nat} {o : Obj} (h : X.heap[k]? = some o) (ho : o.isCells = false) : ¬ IsCells X k := by
  rintro ⟨c, t, f, q⟩
  rw [h] at q
  cases q
  cases ho
theorem dropI_own {w : World} {d a f s : Nat} {from_ : Int} {B : Nat} (hB : w.heap.size ≤ B) : OwnFrom B (DropI w d a f s from_) := fun pre X Y row h hg hr =>
  h.turn (grown_kept hg) (fun k _ e => by obtain ⟨h1, o, ho, hc⟩ := hr k e; exact ⟨by omega, nonCells ho hc⟩)
theorem drop_start {w W1 : World} {d : Nat} {from_ : Int} (hk : Kept (fun _ => False) (((w.alloc (.cells #[.pointer (some ⟨d, 0, none⟩)] 29)).alloc (.cells #[.int .i64 from_] 3)).alloc (.cells #[.slice none 0 0] 112)) W1) :
    DropI w d w.heap.size (w.heap.size + 1) (w.heap.size + 1 + 1) from_ [] W1 := by
  have b1 := ((Blk.new w [.pointer (some ⟨d, 0, none⟩)] 29).alloc (.cells #[.int .i64 from_] 3)).alloc (.cells #[.slice none 0 0] 112)
  have b2 := (Blk.new (w.alloc (.cells #[.pointer (some ⟨d, 0, none⟩)] 29)) [.int .i64 from_] 3).alloc (.cells #[.slice none 0 0] 112)
  have b3 := Blk.new ((w.alloc (.cells #[.pointer (some ⟨d, 0, none⟩)] 29)).alloc (.cells #[.int .i64 from_] 3)) [.slice none 0 0] 112
  simp only [World.size_alloc] at b2 b3
  refine ⟨⟨none, 0, 0, [], b3.kept hk id, Row.nil _ _ _, rfl, fun k q => by simp [Value.ownBlock] at q⟩, b1.kept hk id, b2.kept hk id, ((((Kept.refl _ _).alloc _).alloc _).alloc _).trans hk, by omega⟩
theorem DropI.more {w W : World} {d a f s b : Nat} {from_ : Int} {pre : List I64x} {X : I64x} (h : DropI w d a f s from_ pre W) (hb : Blk W b [.int .i64 X.1.2] 3) (hbl : w.heap.size ≤ b) (hle : from_ ≤ X.1.2)
    {x : Option Addr} {m c : Nat} (hs : W.cell? ⟨s, 0, none⟩ = some (.slice x m c)) (hlen : pre.length ≤ 400000000) :
    ∃ v' w1, (Builtin.append_ #[112, 112] 112 #[.slice x m c, .slice (some ⟨W.heap.size, 0, none⟩) 1 1]).run Tryz.prog (W.alloc (.cells #[.func (.func 94) #[] #[.pointer (some ⟨a, 0, none⟩), .pointer (some ⟨b, 0, none⟩)]] 159)) = .ok v' w1 ∧
      ∃ x' m' c', v' = .slice x' m' c' ∧ w1.cell? ⟨s, 0, none⟩ = some (.slice x m c) ∧ w1.frozen? ⟨s, 0, none⟩ = false ∧ Hid (DropI w d a f s from_ (pre ++ [X]) (w1.setCell ⟨s, 0, none⟩ v') ∧ ∃ Z : Nat → Prop, Kept Z W (w1.setCell ⟨s, 0, none⟩ v') ∧ ∀ k, k < W.heap.size → Z k → CellsT W k 112 ∨ CellsT W k 159) := by
  obtain ⟨⟨x0, m0, c0, vs, h1, h2, h3, h4⟩, h5, h6, h7, h8⟩ := h
  have := h1.cell (i := 0) rfl
  rw [hs] at this
  cases this
  have hvl : vs.length ≤ 900000000 := by
    have := h3.len
    have : (dropped pre from_).length ≤ pre.length := by unfold dropped; rw [List.length_map]; exact Nat.le_trans (List.length_filter_le _ _) (by simp)
    omega
  obtain ⟨v', w1, hr, HH, x', m', c', rfl⟩ := append_step h2 (.func (.func 94) #[] #[.pointer (some ⟨a, 0, none⟩), .pointer (some ⟨b, 0, none⟩)]) rfl hvl
  obtain ⟨g1, g2, g3⟩ := HH.out
  have hne : ∀ k, (Value.slice x m c).ownBlock = some k → k ≠ s := fun k q => (h4 k q).2
  have s1 := h1.kept g2 (fun q => (hne s q) rfl)
  have hne' : (Value.slice x' m' c').ownBlock ≠ some s := fun e => by
    rcases g3 s e with q | q
    · exact (hne s q) rfl
    · have := h1.lt; omega
  have hst := step_del h5 hb (n := X.1.2) ⟨X.2.2.1, X.2.2.2⟩
  have ha1 : a ≠ s := by rintro rfl; unfold Blk at h1 h5; rw [h1] at h5; simp at h5
  have hb1 : b ≠ s := by rintro rfl; unfold Blk at h1 hb; rw [h1] at hb; simp at hb
  have hS := h3.append (B'' := fun k => w.heap.size ≤ k ∧ IsCells W k ∧ k ≠ s ∧ (Value.slice x m c).ownBlock ≠ some k) (StepsOk.one (B := fun k => k = a ∨ k = b) hst (fun _ => id)) (fun _ => id) (fun k q => ⟨by
    rcases q with rfl | rfl
    · exact ⟨h8.1, h5.cells, ha1, fun e => h2.ne_blk e h5 (by decide) rfl⟩
    · exact ⟨hbl, hb.cells, hb1, fun e => h2.ne_blk e hb (by decide) rfl⟩, by simp⟩)
  have k2 : Kept (fun k => k = s) w1 (w1.setCell ⟨s, 0, none⟩ (.slice x' m' c')) := kept_cell w1 s 0 _
  have kz : Kept (fun k => k = s ∨ (Value.slice x m c).ownBlock = some k) W (w1.setCell ⟨s, 0, none⟩ (.slice x' m' c')) := (g2.mono (fun _ _ => Or.inr)).then_ k2 (fun _ _ => Or.inl)
  have lt : ∀ k, IsCells W k → k < W.heap.size := fun k q => by obtain ⟨_, _, _, q⟩ := q; exact (Array.getElem?_eq_some_iff.1 q).1
  refine ⟨.slice x' m' c', w1, hr, x', m', c', rfl, s1.cell (i := 0) rfl, s1.free 0, Lib.hid ⟨⟨⟨x', m', c', _, s1.set 0 _, g1.other hne' _, ?_, fun k q => ?_⟩, ?_, ?_, ?_, h8⟩, _, kz, fun k _ q => ?_⟩⟩
  · rw [dropped_snoc_yes pre X from_ hle]
    refine (hS.kept (fun k q => kz.block k (lt k q.2.1) (fun z => z.elim q.2.2.1 q.2.2.2))).mono (fun k q => ⟨q.1, q.2.1.kept kz (fun z => z.elim q.2.2.1 q.2.2.2), q.2.2.1, fun e => ?_⟩)
    rcases g3 k e with z | z
    · exact q.2.2.2 z
    · have := lt k q.2.1; omega
  · rcases g3 k q with z | z
    · exact h4 k z
    · have := h7.size; have := h1.lt; omega
  · exact h5.kept kz (fun z => z.elim ha1 (fun e => h2.ne_blk e h5 (by decide) rfl))
  · exact h6.kept kz (fun z => z.elim (by rintro rfl; unfold Blk at h1 h6; rw [h1] at h6; simp at h6) (fun e => h2.ne_blk e h6 (by decide) rfl))
  · refine h7.then_ kz (fun i hi z => ?_)
    rcases z with rfl | z
    · omega
    · have := (h4 i z).1; omega
  · rcases q with rfl | q
    · exact Or.inl ⟨_, _, h1⟩
    · exact Or.inr (h2.cellsT q)
theorem DropI.slot {w W : World} {d a f s : Nat} {from_ : Int} {pre : List I64x} (h : DropI w d a f s from_ pre W) : ∃ x m c, W.cell? ⟨s, 0, none⟩ = some (.slice x m c) := by
  obtain ⟨⟨x, m, c, vs, h1, _⟩, _⟩ := h
  exact ⟨x, m, c, h1.cell (i := 0) rfl⟩
theorem DropI.slotFree {w W : World} {d a f s : Nat} {from_ : Int} {pre : List I64x} (h : DropI w d a f s from_ pre W) : W.frozen? ⟨s, 0, none⟩ = false := by
  obtain ⟨⟨x, m, c, vs, h1, _⟩, _⟩ := h
  exact h1.free 0
theorem DropI.skip {w W : World} {d a f s : Nat} {from_ : Int} {pre : List I64x} {X : I64x} (h : DropI w d a f s from_ pre W) (hn : ¬ from_ ≤ X.1.2) : DropI w d a f s from_ (pre ++ [X]) W := by
  obtain ⟨h1, h5, h6, h7, h8⟩ := h
  exact ⟨by rw [dropped_snoc_no pre X from_ hn]; exact h1, h5, h6, h7, h8⟩
theorem kept_again {w : World} {b : Nat} {v : Value} {t : TypeId} (h : Blk w b [v] t) : Kept (fun _ => False) w (w.setCell ⟨b, 0, none⟩ v) := by
  have hk := kept_cell w b 0 v
  refine ⟨hk.os, hk.tape, hk.output, hk.size, fun k hl _ => ?_⟩
  by_cases e : k = b
  · subst e
    have h2 := h.set 0 v
    unfold Blk at h h2
    rw [h2, h]
    rfl
  · exact hk.block k hl e
theorem DropI.againKept {w W : World} {d a f s : Nat} {from_ : Int} {pre : List I64x} (h : DropI w d a f s from_ pre W) {x : Option Addr} {m c : Nat} (hs : W.cell? ⟨s, 0, none⟩ = some (.slice x m c)) : Kept (fun _ => False) W (W.setCell ⟨s, 0, none⟩ (.slice x m c)) := by
  obtain ⟨⟨x0, m0, c0, vs, h1, _⟩, _⟩ := h
  have := h1.cell (i := 0) rfl
  rw [hs] at this
  cases this
  exact kept_again h1
theorem DropI.again {w W : World} {d a f s : Nat} {from_ : Int} {pre : List I64x} (h : DropI w d a f s from_ pre W) {x : Option Addr} {m c : Nat} (hs : W.cell? ⟨s, 0, none⟩ = some (.slice x m c)) : DropI w d a f s from_ pre (W.setCell ⟨s, 0, none⟩ (.slice x m c)) := h.turn (h.againKept hs) (fun _ _ => False.elim)
def DropPost (w : World) (d : Nat) (M : DiskM) (from_ : Int) (e : Ending) (w' : World) : Prop :=
  ∃ x m c vs, e = .returned (.slice x m c) ∧ Row w' 159 1 (.slice x m c) vs ∧ StepsOk w' d (fun k => w.heap.size ≤ k ∧ k < w'.heap.size ∧ (Value.slice x m c).ownBlock ≠ some k) vs (dropC M from_) [] ∧ (∀ k, (Value.slice x m c).ownBlock = some k → w.heap.size ≤ k) ∧ Kept (fun _ => False) w w'
theorem dropped_all {ys : List I64x} {M : DiskM} (h : ys.map (·.1) = backsI (M.files.map (·.1))) (from_ : Int) : dropped ys from_ = dropC M from_ := by
  have e : ys.map (·.1.2) = (M.files.map (·.1)).reverse := by
    rw [← backsI_map, ← h, List.map_map]
    rfl
  unfold dropped dropC
  rw [e]
theorem DropI.done {w W : World} {d a f s : Nat} {M : DiskM} {from_ : Int} {ys : List I64x} (h : DropI w d a f s from_ ys W) (hy : ys.map (·.1) = backsI (M.files.map (·.1))) {x : Option Addr} {m c : Nat} (hs : W.cell? ⟨s, 0, none⟩ = some (.slice x m c)) : DropPost w d M from_ (.returned (.slice x m c)) W := by
  obtain ⟨⟨x0, m0, c0, vs, h1, h2, h3, h4⟩, h5, h6, h7, h8⟩ := h
  have := h1.cell (i := 0) rfl
  rw [hs] at this
  cases this
  rw [dropped_all hy] at h3
  exact ⟨x, m, c, vs, rfl, h2, h3.mono (fun k q => ⟨q.1, (by obtain ⟨_, _, _, q⟩ := q.2.1; exact (Array.getElem?_eq_some_iff.1 q).1), q.2.2.2⟩), fun k q => (h4 k q).1, h7⟩
theorem Apart.files {B : Nat → Prop} {d : Nat} {M : DiskM} {w : World} (h : Apart B d M w) : Calls Tryz.prog 28 #[.pointer (some ⟨d, 0, none⟩)] w (FilesTo w M) := by
  obtain ⟨_, _, fp, h1, _⟩ := h
  exact files_any w h1
theorem Apart.keys {B : Nat → Prop} {d : Nat} {M : DiskM} {w : World} (h : Apart B d M w) : ∀ x ∈ M.files.map (·.1), -9223372036854775808 ≤ x ∧ x ≤ 9223372036854775807 := by
  intro x hx
  obtain ⟨p, hp, rfl⟩ := List.mem_map.1 hx
  have := h.ok.keys p hp
  omega
theorem icells_intsV (l : List Int) : icells l = intsV l := rfl
set_option maxRecDepth 100000 in
set_option maxHeartbeats 4000000 in
theorem segDrop_any {w : World} {d : Nat} {B : Nat → Prop} {M : DiskM} (h : Apart B d M w) (from_ : Int) :
    Calls Tryz.prog 53 #[.pointer (some ⟨d, 0, none⟩), .int .i64 from_] w (DropPost w d M from_) := by
  have hlen : (M.files.map (·.1)).length ≤ 400000000 := by rw [List.length_map]; have := h.ok.count; omega
  have hkeys := h.keys
  refine (callsIn_wide (n := 6)).1 ?_
  obtain ⟨W1, hW1⟩ : ∃ W1, W1 = ((w.alloc (.cells #[.pointer (some ⟨d, 0, none⟩)] 29)).alloc (.cells #[.int .i64 from_] 3)).alloc (.cells #[.slice none 0 0] 112) := ⟨_, rfl⟩
  have k1 : Kept (fun _ => False) w W1 := by rw [hW1]; exact (((Kept.refl _ _).alloc _).alloc _).alloc _
  have hst := fun W2 (k2 : Kept (fun _ => False) W1 W2) => drop_start (w := w) (W1 := W2) (d := d) (from_ := from_) (by rw [← hW1]; exact k2)
  have c2 : W1.cell? ⟨w.heap.size, 0, none⟩ = some (.pointer (some ⟨d, 0, none⟩)) := (hst W1 (Kept.refl _ _)).da.cell (i := 0) rfl
  have HF := Lib.hid (callsIn_wide (n := 5) |>.2 ((h.same k1).files))
  have HBK := Lib.hid (fun a m c w' => callsIn_wide (n := 5) |>.2 (backward_any a m c w'))
  have HST := Lib.hid hst
  have hfF : Fence.wide.fn 28 := trivial
  have hfB : Fence.wide.fn 79 := trivial
  clear hst
  refine callsIn_of_wp_marks Tryz.func53 rfl trivial ?_ rfl
  simp only [Tryz.ntmps53, List.size_toArray, List.length_cons, List.length_nil, Nat.reduceAdd, Nat.reduceSub, Array.replicate_succ, Array.replicate_zero, List.push_toArray, List.append_toArray, List.nil_append, List.cons_append]
  gi_wp2_with (first | (gi_at_call 28; rw [← hW1]; refine HF.out.mono ?_; rintro e w2 ⟨v, rfl, hrow, hk, hown⟩; rw [icells_intsV] at hrow; obtain ⟨xa, xm, xc, rfl, _⟩ := hrow.form (by omega)) | (gi_at_call 79; refine (HBK.out _ _ _ _).mono ?_; rintro e w' ⟨rfl, rfl⟩))
  have hD0 := HST.out _ (hk.alloc (.cells #[.slice xa xm xc] 83))
  have hrow0 := hrow.alloc (.cells #[.slice xa xm xc] 83)
  have hBs := Blk.new w2 [.slice xa xm xc] 83
  have hz : w2.heap.size < (w2.alloc (.cells #[.slice xa xm xc] 83)).heap.size := by rw [World.size_alloc]; omega
  have hle : w.heap.size ≤ w2.heap.size := Nat.le_trans k1.size hk.size
  have hBs' : Blk (w2.alloc (.cells #[.slice xa xm xc] 83)) w2.heap.size [.slice xa xm xc] 83 := hBs
  obtain ⟨W0, hW0⟩ : ∃ W0, w2.alloc (.cells #[.slice xa xm xc] 83) = W0 := ⟨_, rfl⟩
  rw [hW0] at hD0 hrow0 hBs' hz ⊢
  have hIown : OwnFrom W0.heap.size (fun (pre : List I64x) W => DropI w d w.heap.size (w.heap.size + 1) (w.heap.size + 1 + 1) from_ pre W ∧ Blk W w2.heap.size [.slice xa xm xc] 83 ∧ Row W 3 1 (.slice xa xm xc) (intsV (M.files.map (·.1))) ∧ pre.length ≤ 400000000 ∧ W0.heap.size ≤ W.heap.size) := fun pre X Y row h hg hr =>
    ⟨dropI_own (B := W0.heap.size) (by omega) pre X Y row h.1 hg hr, h.2.1.kept (grown_kept hg) (fun e => by obtain ⟨_, o, ho, hc⟩ := hr _ e; exact nonCells ho hc h.2.1.cells), h.2.2.1.kept (grown_kept hg) (fun k q e => by obtain ⟨_, o, ho, hc⟩ := hr _ e; exact nonCells ho hc (h.2.2.1.ownCells q)), h.2.2.2.1, Nat.le_trans h.2.2.2.2 hg.size⟩
  refine wpIn_rangeFunc_ownH rfl (by omega) (gf := 119) (lb := #[.pointer (some ⟨w2.heap.size, 0, none⟩)]) rfl trivial (enters_of Tryz.func119 (by kernel_rfl) rfl)
    (back_stops Fence.wide _ trivial rfl (by omega) w2.heap.size W0.heap.size (fun k => ¬ (k = w2.heap.size ∨ (Value.slice xa xm xc).ownBlock = some k)) (.slice xa xm xc) (M.files.map (·.1)) hkeys (by omega) W0 (hBs'.cell (i := 0) rfl) hz ⟨hz, fun q => q (Or.inl rfl)⟩ hrow0 (fun k q => ⟨hrow0.lt q, fun n => n (Or.inr q)⟩))
    (fun h1 h2 => h1.trans h2) (fun W l o o' hl _ _ _ => KeptB.putObj _ W l o' hl) (Below.refl _ _) (fun _ => rfl)
    (fun pre W => DropI w d w.heap.size (w.heap.size + 1) (w.heap.size + 1 + 1) from_ pre W ∧ Blk W w2.heap.size [.slice xa xm xc] 83 ∧ Row W 3 1 (.slice xa xm xc) (intsV (M.files.map (·.1))) ∧ pre.length ≤ 400000000 ∧ W0.heap.size ≤ W.heap.size)
    (fun _ _ _ => False) hIown (fun _ _ _ _ _ hs _ _ => hs) ⟨hD0, hBs', hrow0, by simp, Nat.le_refl _⟩
    (fun x a' W => ∃ b, Blk W b [.int .i64 x.1.2] 3 ∧ w.heap.size ≤ b ∧ a' = { tmps := #[.pointer (some ⟨d, 0, none⟩), .int .i64 from_, .pointer (some ⟨w.heap.size, 0, none⟩), .pointer (some ⟨w.heap.size + 1, 0, none⟩), .pointer (some ⟨w.heap.size + 1 + 1, 0, none⟩), undef, .pointer (some ⟨b, 0, none⟩), .pointer (some ⟨d, 0, none⟩), .slice xa xm xc, .func (.func 119) #[] #[.pointer (some ⟨w2.heap.size, 0, none⟩)], .int .i64 (x.1.1 : Int), .int .i64 x.1.2, undef, undef, undef, undef, undef, undef, undef, undef], defers := [] })
    ?hAx ?assign ?body ?done ?stop
  case hAx =>
    rintro x a' u X Y row ⟨b, hb, hb2, e⟩ hg hr
    exact ⟨b, hb.kept (grown_kept hg) (fun e => by obtain ⟨_, o, ho, hc⟩ := hr _ e; exact nonCells ho hc hb.cells), hb2, e⟩
  case assign =>
    intro l pre x W K hi hK
    gi_wp2
    have hk9 : Kept (fun _ => False) W (W.alloc (.cells #[.int .i64 x.1.2] 3)) := (Kept.refl _ _).alloc _
    refine hK _ _ ((KeepsOthers.alloc _ _).from _) (hk9.keptB hi.2.2.2.2 (fun _ _ => False.elim)) ⟨hi.1.turn hk9 (fun _ _ => False.elim), hi.2.1.alloc _, hi.2.2.1.alloc _, hi.2.2.2.1, Nat.le_trans hi.2.2.2.2 hk9.size⟩ ⟨W.heap.size, Blk.new W [.int .i64 x.1.2] 3, hi.1.kept.size, rfl⟩
  case body =>
    rintro l pre x a' W hl ⟨r, hr⟩ ⟨hI, hB, hR, hN, hW⟩ ⟨b, hb, hbl, rfl⟩ hlt
    have cb := hb.cell (i := 0) rfl
    have cf := hI.fr.cell (i := 0) rfl
    obtain ⟨sx, sm, sc, cs⟩ := hI.slot
    have hmf : ∀ (fn : Fn) (first cap : Array Value) (w : World), (Instr.makeFunc fn first cap).run Tryz.prog w = .ok (.func fn first cap) w := fun _ _ _ _ => rfl
    by_cases hge : from_ ≤ x.1.2
    · obtain ⟨v', w1, hr1, x', m', c', rfl, cs1, fs1, HH⟩ := hI.more hb hbl hge cs (by omega)
      have HB := Lib.hid hB
      have HR := Lib.hid hR
      have y1 : decide (from_ ≤ x.1.2) = true := decide_eq_true hge
      clear hI hB hR hb hr
      gi_wp2_with (refine wpListIn_append_run _ rfl _ _ 112 112 rfl _ _ rfl rfl _ _ hr1 ?_)
      obtain ⟨hI2, Z, hkz, hZ⟩ := HH.out
      have nZ : ∀ k t, CellsT W k t → t ≠ 112 → t ≠ 159 → ¬ Z k := fun k t q n1 n2 z => by
        have hl : k < W.heap.size := by obtain ⟨_, _, q⟩ := q; exact (Array.getElem?_eq_some_iff.1 q).1
        rcases hZ k hl z with q2 | q2
        · exact n1 (q.same q2)
        · exact n2 (q.same q2)
      have nB : ¬ Z w2.heap.size := nZ _ _ ⟨_, _, HB.out⟩ (by decide) (by decide)
      have nR : ∀ k, (Value.slice xa xm xc).ownBlock = some k → ¬ Z k := fun k q => nZ k _ (HR.out.cellsT q) (by decide) (by decide)
      refine ⟨CellsT.keepsFrom hkz (fun k hl z => ?_) _, hkz.keptB hW (fun k _ z q => q.elim (fun e => nB (by rw [← e]; exact z)) (fun q => nR k q z)), hI2, HB.out.kept hkz nB, HR.out.kept hkz nR, by simp; omega, Nat.le_trans hW hkz.size⟩
      rcases hZ k hl z with ⟨c, f, q⟩ | ⟨c, f, q⟩
      · exact ⟨c, _, f, q⟩
      · exact ⟨c, _, f, q⟩
    · have y1 : decide (from_ ≤ x.1.2) = false := decide_eq_false hge
      have HI := Lib.hid (And.intro hI (And.intro hB hR))
      have HG := Lib.hid hge
      clear hI hB hR hb hr hge
      gi_wp2
      refine ⟨KeepsFrom.refl _ _, KeptB.refl _ _ _, HI.out.1.skip (by have := HG.out; omega), HI.out.2.1, HI.out.2.2, by simp; omega, hW⟩
  case done =>
    rintro D ys W hD hy ⟨hI, hB, hR, hN, hW⟩ hK
    obtain ⟨sx, sm, sc, cs⟩ := hI.slot
    have fs := hI.slotFree
    have hI2 := hI.again cs
    have ks := hI.againKept cs
    have hK' : (W.setCell ⟨w.heap.size + 1 + 1, 0, none⟩ (.slice sx sm sc)).heap[D]? = some (.deferred (some [])) := by
      rw [ks.block D (Array.getElem?_eq_some_iff.1 hK).1 id]; exact hK
    have cs2 : (W.setCell ⟨w.heap.size + 1 + 1, 0, none⟩ (.slice sx sm sc)).cell? ⟨w.heap.size + 1 + 1, 0, none⟩ = some (.slice sx sm sc) := ks.cell cs id
    have HY := Lib.hid hy
    have HI := Lib.hid hI2
    have HK := Lib.hid ks
    clear hy hI hI2 ks hB hR
    gi_wp2
    refine ⟨by simp, .inl ⟨_, _, rfl, run_takeDeferred hK', ?_⟩⟩
    have hc5 := cell_kept cs2 (grownBy_putObj' _ D (.deferred none)) (fun r e => by cases e; exact ⟨_, hK', rfl⟩)
    have hI3 := HI.out.turn (grown_kept (grownBy_putObj' _ D (.deferred none))) (fun k _ e => by cases e; exact ⟨by omega, nonCells hK' rfl⟩)
    refine ⟨.slice sx sm sc, ?_, hI3.done HY.out hc5⟩
    simp [results, Tryz.f53, go_sem, hc5]
  case stop =>
    rintro D c pre W _ _ h _
    exact h.elim
end Go.Proofs.YtlgeijbgkipliaaGreatDoor

namespace Go.Proofs.YtlgeijbgkipliaaGreatDoor
open Go.RowKit
section
variable {w0 w : World} {d : Nat} {M : DiskM} {Os : List Og}
end
end Go.Proofs.YtlgeijbgkipliaaGreatDoor

namespace Go.Proofs.YtlgeijbgkipliaaGreatDoor
open Go.RowKit
def GetPost (w : World) (s : ByteArray) (pos : Nat) (e : Ending) (w' : World) : Prop :=
  (match cutF (s.data.toList.drop pos) with
    | none => e = .returned (.tuple #[.string ⟨#[]⟩, .int .i64 0, .bool false])
    | some x => e = .returned (.tuple #[.string ⟨x.1.toArray⟩, .int .i64 ((s.size - x.2.length : Nat) : Int), .bool true])) ∧ Kept (fun _ => False) w w'
set_option maxRecDepth 100000 in
set_option maxHeartbeats 1000000 in
theorem frameGet_any (w : World) (s : ByteArray) (pos : Nat) (hp : pos ≤ s.size) (hs : s.size ≤ 2000000) (ht : Tab w) :
    Calls Tryz.prog 91 #[.string s, .int .i64 (pos : Int)] w (GetPost w s pos) := by
  have hxd := extract_data s pos
  have hxz : (s.extract pos s.size).size = s.size - pos := by rw [ByteArray.size_extract]; omega
  obtain ⟨v0, w1, hr0, hv0, hu0, hk0, a0, n0, c0, rfl, hn0⟩ := bytes_view w (s.extract pos s.size) (by omega)
  have hcut := cut_any w1 _ _ hv0 (ht.same hk0)
  rw [hxd] at hcut
  have hlen : (s.data.toList.drop pos).length = s.size - pos := by rw [List.length_drop]; simp
  unfold CutPost at hcut
  unfold GetPost
  have y1 : decide ((pos : Int) < 0) = false := by simp
  have y2 : decide (s.size < pos) = false := decide_eq_false (by omega)
  match hc : cutF (s.data.toList.drop pos) with
  | none =>
    dsimp only
    rw [hc] at hcut
    have HC := Lib.hid hcut
    clear hcut hc hxd hxz hn0 hlen hv0
    go_enter Tryz.func91, Tryz.ntmps91
    go_wp2_with (go_at_call 131; refine HC.out.mono ?_; rintro e w2 ⟨v1, v2, ok, rfl, hci, hk2⟩; obtain rfl : ok = false := hci)
    go_ret3
    exact ⟨rfl, hk0.trans hk2⟩
  | some x =>
    dsimp only
    rw [hc] at hcut
    have hcl := cutF_len hc
    rw [hlen] at hcl
    have hcut2 : Calls Tryz.prog 131 #[.slice a0 n0 c0] w1 fun e w2 => ∃ v1 a m c, e = .returned (.tuple #[v1, .slice a m c, .bool true]) ∧ (convert 100 9 v1).run Tryz.prog w2 = .ok (.string ⟨x.1.toArray⟩) w2 ∧ m = x.2.length ∧ Hid (Kept (fun _ => False) w1 w2) := by
      refine hcut.mono ?_
      rintro e w2 ⟨v1, v2, ok, rfl, ⟨rfl, h1, h2, _⟩, hk2⟩
      have ht1 := h1.text
      obtain ⟨a, m, c, rfl, hm, _⟩ := h2
      rw [bytes8_len, Nat.mul_one] at hm
      exact ⟨v1, a, m, c, rfl, ht1, hm, Lib.hid hk2⟩
    have HC := Lib.hid hcut2
    obtain ⟨q, hq⟩ : ∃ q, x.2.length = q := ⟨_, rfl⟩
    rw [hq] at hcl HC ⊢
    have a1 : wrap64 ((s.size : Int) - (q : Int)) = ((s.size - q : Nat) : Int) := by rw [IntWalk.wrap64_in _ (by omega)]; omega
    have A1 := Lib.hid a1
    clear hcut hcut2 hc hxd hxz hn0 hlen hcl hv0 hq a1
    go_enter Tryz.func91, Tryz.ntmps91
    go_wp2_with (go_at_call 131; refine HC.out.mono ?_; rintro e w2 ⟨v1, a, m, c, rfl, ht1, rfl, hk2⟩)
    go_ret3
    exact ⟨by rw [← A1.out]; rfl, hk0.trans hk2.out⟩
theorem info_int1 : (Tryz.prog.info? 3).map (fun i => (i.zero, i.size, i.bytes)) = some (some (.int .i64 0), 1, 8) := by kernel_rfl
theorem append_int1 {w2 : World} {x : Value} {xs : List Value} (hrow : Row w2 3 1 x xs) (n : Int) (hl : xs.length ≤ 100000000) :
    ∃ v' w', (Builtin.append_ #[83, 83] 83 #[x, .slice (some ⟨w2.heap.size, 0, none⟩) 1 1]).run Tryz.prog (w2.alloc (.cells #[.int .i64 n] 3)) = .ok v' w' ∧
      Row w' 3 1 v' (xs ++ [.int .i64 n]) ∧ Kept (fun k => x.ownBlock = some k) w2 w' ∧ ∀ k, v'.ownBlock = some k → x.ownBlock = some k ∨ w2.heap.size ≤ k := by
  obtain ⟨i0, hi, hz0, hz1, hz2⟩ := info_parts info_int1
  have hb := Blk.new w2 [.int .i64 n] 3
  obtain ⟨v', w', hr, hrow2, hk, ho⟩ := (hrow.alloc (.cells #[.int .i64 n] 3)).append_cells (P := Tryz.prog) (t := 83) Tryz.underlying83 hi hz0 hz1 rfl (by omega) (by omega) ⟨w2.heap.size, 0, none⟩ 1 1 [.int .i64 n] rfl (fun j u hu => by rw [addr0_add]; exact hb.cell hu) (fun u hu => by simp at hu; subst hu; rfl) (by omega) (by simp; omega) 83
  refine ⟨v', w', hr, hrow2, ((Kept.refl _ _).alloc _).trans hk, fun k hk => ?_⟩
  rcases ho k hk with h | h
  · exact Or.inl h
  · right; rw [World.size_alloc] at h; omega
def natsV (l : List Nat) : List Value := l.map fun (n : Nat) => .int .i64 (n : Int)
theorem natsV_len (l : List Nat) : (natsV l).length = l.length := by simp [natsV]
theorem natsV_snoc (l : List Nat) (n : Nat) : natsV (l ++ [n]) = natsV l ++ [.int .i64 (n : Int)] := by simp [natsV]
theorem endsE_snoc (ps : List By) (p : By) (h : ps.length < 64) : endsE (ps ++ [p]) = endsE ps ++ [(framesF ps).length + 12 + p.length] := by
  unfold endsE
  rw [endsG_append, Nat.zero_add, endG_file 0 0 ps (by omega)]
  simp only [endsG]
  congr 2
  cases ps with
  | nil => simp [framesF]
  | cons q r =>
    rw [if_neg (by simp at h ⊢; omega)]
    simp
theorem framesF_len_snoc (ps : List By) (p : By) : (framesF (ps ++ [p])).length = (framesF ps).length + 12 + p.length := by rw [framesF_snoc, List.length_append, frameF_len]; omega
structure LoadTo (b : By) (ps : List By) (pos : Nat) : Prop where
  all : fileE b = ps ++ loadGo (64 - ps.length) (b.drop pos)
  pos_ : pos = (framesF ps).length
  le : pos ≤ b.length
  few : ps.length ≤ 64
theorem LoadTo.start (b : By) : LoadTo b [] 0 := ⟨by simp [fileE], by simp [framesF], Nat.zero_le _, by simp⟩
theorem LoadTo.full {b : By} {ps : List By} {pos : Nat} (h : LoadTo b ps pos) (hf : ¬ ps.length < 64) : fileE b = ps := by
  have := h.all
  have h2 := h.few
  rw [show 64 - ps.length = 0 by omega] at this
  simpa [loadGo] using this
theorem LoadTo.none {b : By} {ps : List By} {pos : Nat} (h : LoadTo b ps pos) (hc : cutF (b.drop pos) = none) : fileE b = ps := by
  rw [h.all, loadGo_none hc, List.append_nil]
theorem LoadTo.long {b : By} {ps : List By} {pos : Nat} (h : LoadTo b ps pos) {x : By × By} (hc : cutF (b.drop pos) = some x) (hl : ¬ x.1.length ≤ 200) : fileE b = ps := by
  rw [h.all, loadGo_long hc hl, List.append_nil]
theorem LoadTo.more {b : By} {ps : List By} {pos : Nat} (h : LoadTo b ps pos) {x : By × By} (hc : cutF (b.drop pos) = some x) (hl : x.1.length ≤ 200) (hf : ps.length < 64) : LoadTo b (ps ++ [x.1]) (b.length - x.2.length) ∧ b.length - x.2.length = (framesF ps).length + 12 + x.1.length := by
  obtain ⟨he, _⟩ := cutF_eq (p := x.1) (r := x.2) hc
  have hl2 := congrArg List.length he
  rw [List.length_drop, List.length_append, frameF_len] at hl2
  have h1 := h.le
  have h2 := h.pos_
  have hp : b.length - x.2.length = pos + (12 + x.1.length) := by omega
  refine ⟨⟨?_, by rw [framesF_len_snoc]; omega, by omega, by simp; omega⟩, by omega⟩
  rw [h.all, show 64 - ps.length = (64 - (ps ++ [x.1]).length) + 1 by simp; omega, loadGo_some hc hl, List.append_assoc]
  congr 2
  have hd : b.drop (b.length - x.2.length) = x.2 := by
    rw [hp, ← List.drop_drop, he, show 12 + x.1.length = (frameF x.1).length by rw [frameF_len], List.drop_left]
  rw [hd]
  rfl
def LoadPost (w : World) (b : By) (e : Ending) (w' : World) : Prop :=
  ∃ x m c y k g, e = .returned (.tuple #[.slice x m c, .slice y k g, .int .i64 (b.length : Int), .bool true]) ∧ Row w' 9 1 (.slice x m c) (strV (fileE b)) ∧ Row w' 3 1 (.slice y k g) (natsV (endsE (fileE b))) ∧
    (∀ i, (Value.slice x m c).ownBlock = some i → w.heap.size ≤ i) ∧ (∀ i, (Value.slice y k g).ownBlock = some i → w.heap.size ≤ i) ∧ Kept (fun _ => False) w w'
def LoadL (w : World) (b : By) (x y : Value) (pos : Nat) (ps : List By) (wr : World) : Prop :=
  Row wr 9 1 x (strV ps) ∧ Row wr 3 1 y (natsV (endsE ps)) ∧ LoadTo b ps pos ∧ (∀ i, x.ownBlock = some i → w.heap.size ≤ i) ∧ (∀ i, y.ownBlock = some i → w.heap.size ≤ i) ∧ Kept (fun _ => False) w wr
theorem LoadL.end_ {w wr w2 : World} {b : By} {x y : Value} {pos : Nat} {ps : List By} (h : LoadL w b x y pos ps wr) (hk : Kept (fun _ => False) wr w2) (hf : fileE b = ps) : LoadPost w b (.returned (.tuple #[x, y, .int .i64 (b.length : Int), .bool true])) w2 := by
  obtain ⟨h1, h2, h3, h4, h5, h6⟩ := h
  obtain ⟨a, m, c, rfl, _⟩ := h1.form (by omega)
  obtain ⟨a', m', c', rfl, _⟩ := h2.form (by omega)
  exact ⟨a, m, c, a', m', c', rfl, by rw [hf]; exact h1.kept hk (fun _ _ => id), by rw [hf]; exact h2.kept hk (fun _ _ => id), h4, h5, h6.trans hk⟩
theorem LoadL.more {w wr w2 : World} {b : By} {x y : Value} {pos : Nat} {ps : List By} {q : By × By} (h : LoadL w b x y pos ps wr) (hk : Kept (fun _ => False) wr w2) (hc : cutF (b.drop pos) = some q) (hl : q.1.length ≤ 200) (hf : ps.length < 64) :
    ∃ v1 w3 v2 w4, (Builtin.append_ #[23, 23] 23 #[x, .slice (some ⟨w2.heap.size, 0, none⟩) 1 1]).run Tryz.prog (w2.alloc (.cells #[.string ⟨q.1.toArray⟩] 9)) = .ok v1 w3 ∧
      (Builtin.append_ #[83, 83] 83 #[y, .slice (some ⟨w3.heap.size, 0, none⟩) 1 1]).run Tryz.prog (w3.alloc (.cells #[.int .i64 ((b.length - q.2.length : Nat) : Int)] 3)) = .ok v2 w4 ∧
      Hid (LoadL w b v1 v2 (b.length - q.2.length) (ps ++ [q.1]) w4) ∧ (∃ a m c, v1 = .slice a m c) ∧ ∃ a m c, v2 = .slice a m c := by
  obtain ⟨h1, h2, h3, h4, h5, h6⟩ := h
  have g1 := h1.kept hk (fun _ _ => id)
  have g2 := h2.kept hk (fun _ _ => id)
  obtain ⟨hto, hpos⟩ := h3.more hc hl hf
  obtain ⟨v1, w3, r1, q1, q2, q3⟩ := append_str1 g1 q.1 (by omega)
  have g3 := g2.kept q2 (fun i hi e => by have := (g2.cellsT hi).same (g1.cellsT e); exact absurd this (by decide))
  obtain ⟨v2, w4, r2, p1, p2, p3⟩ := append_int1 g3 ((b.length - q.2.length : Nat) : Int) (by rw [natsV_len, endsE_len]; omega)
  obtain ⟨a, m, c, hv1, _⟩ := q1.form (by omega)
  obtain ⟨a', m', c', hv2, _⟩ := p1.form (by omega)
  have hle : w.heap.size ≤ w2.heap.size := Nat.le_trans h6.size hk.size
  refine ⟨v1, w3, v2, w4, r1, r2, Lib.hid ⟨q1.kept p2 (fun i hi e => ?_), ?_, hto, fun i hi => ?_, fun i hi => ?_, ?_⟩, ⟨a, m, c, hv1⟩, a', m', c', hv2⟩
  · exact absurd ((q1.cellsT hi).same (g3.cellsT e)) (by decide)
  · rw [endsE_snoc ps q.1 hf, ← hpos, natsV_snoc]
    exact p1
  · rcases q3 i hi with z | z
    · exact h4 i z
    · omega
  · rcases p3 i hi with z | z
    · exact h5 i z
    · have := q2.size; omega
  · exact ((h6.trans hk).then_ q2 (fun i hi e => by have := h4 i e; omega)).then_ p2 (fun i hi e => by have := h5 i e; omega)
section
variable {w : World} {d : Nat} {B : Nat → Prop} {M : DiskM}
theorem load_none (h : Apart B d M w) (n : Int) (n0 : -9223372036854775808 ≤ n ∧ n ≤ 9223372036854775807) (hdn : M.down = false) (hf : AM.get M.files n = none) :
    Calls Tryz.prog 50 #[.pointer (some ⟨d, 0, none⟩), .int .i64 n] w fun e w' => e = .returned (.tuple #[.slice none 0 0, .slice none 0 0, .int .i64 0, .bool false]) ∧ w = w' := by
  have hz : M.sizeR n = (0, 4) := by simp [DiskM.sizeR, DiskM.has, hdn, hf]
  have hsize := size_ap h n n0 hz
  clear hz hdn hf
  go_enter Tryz.func50, Tryz.ntmps50
  go_wp2_with (go_at_call 48; refine hsize.mono ?_; rintro e w' ⟨rfl, rfl⟩)
  exact bodyPost_ret (v := .tuple #[.slice none 0 0, .slice none 0 0, .int .i64 0, .bool false]) (by simp [results, Tryz.results50, go_sem]) rfl ⟨rfl, rfl⟩
set_option maxRecDepth 100000 in
set_option maxHeartbeats 4000000 in
theorem load_some (h : Apart B d M w) (n : Int) (n0 : -9223372036854775808 ≤ n ∧ n ≤ 9223372036854775807) (hdn : M.down = false) {b : By} (hf : AM.get M.files n = some b) (ht : Tab w) :
    Calls Tryz.prog 50 #[.pointer (some ⟨d, 0, none⟩), .int .i64 n] w (LoadPost w b) := by
  have hbl : b.length ≤ 1048576 := by
    have h1 := DiskM.len_le_total h.ok hf
    have h2 := h.ok.room
    have h3 := h.ok.cap1
    omega
  have hz : M.sizeR n = ((b.length : Int), 0) := by simp [DiskM.sizeR, DiskM.has, hdn, hf]
  have hsize := size_ap h n n0 hz
  have hread := read_ap h n n0 0 b.length b hdn hf (by omega)
  rw [List.drop_zero, List.take_of_length_le (Nat.le_refl _)] at hread
  have hread : Calls Tryz.prog 63 #[.pointer (some ⟨d, 0, none⟩), .int .i64 n, .int .i64 0, .int .i64 (b.length : Int)] w fun e w' => e = .returned (.tuple #[.string ⟨b.toArray⟩, .int .i64 0]) ∧ w = w' := hread
  have HG := Lib.hid (fun w' pos (hp : pos ≤ b.length) ht' => frameGet_any w' ⟨b.toArray⟩ pos hp (by show b.toArray.size ≤ _; rw [List.size_toArray]; omega) ht')
  have HL : LoadL w b (.slice none 0 0) (.slice none 0 0) 0 [] w := ⟨Row.nil _ _ _, Row.nil _ _ _, LoadTo.start b, fun i q => by simp [Value.ownBlock] at q, fun i q => by simp [Value.ownBlock] at q, Kept.refl _ _⟩
  have HBL := Lib.hid hbl
  clear hz hdn hf h hbl
  go_enter Tryz.func50, Tryz.ntmps50
  go_wp2_with (first | (go_at_call 48; refine hsize.mono ?_; rintro e w' ⟨rfl, rfl⟩) | (go_at_call 63; refine hread.mono ?_; rintro e w' ⟨rfl, rfl⟩))
  go_loopw [4, 5, 11] (fun x y p wr => ∃ (pos : Nat) (ps : List By), p = .int .i64 (pos : Int) ∧ LoadL w b x y pos ps wr) (fun x _ _ _ => 64 - sliceLen x)
  case atStart => exact ⟨0, [], rfl, HL⟩
  case round =>
    obtain ⟨pos, ps, rfl, hL⟩ := hrel
    obtain ⟨xa, xm, xc, rfl, hxm, _⟩ := hL.1.form (by omega)
    obtain ⟨ya, ym, yc, rfl, hym, _⟩ := hL.2.1.form (by omega)
    rw [strV_len, Nat.mul_one] at hxm
    subst hxm
    have hple := hL.2.2.1.le
    have hg := HG.out wr pos hple (ht.same hL.2.2.2.2.2)
    unfold GetPost at hg
    have e1 : (⟨b.toArray⟩ : ByteArray).data.toList = b := rfl
    have e2 : (⟨b.toArray⟩ : ByteArray).size = b.length := by show b.toArray.size = _; simp
    rw [e1, e2] at hg
    by_cases hlt : ps.length < 64
    · have y1 : decide ((ps.length : Int) < 64) = true := decide_eq_true (by omega)
      match hc : cutF (b.drop pos) with
      | none =>
        rw [hc] at hg
        dsimp only at hg
        have HE := Lib.hid (fun w2 hk => hL.end_ (w2 := w2) hk (hL.2.2.1.none hc))
        clear hc hL hple hlt e1 e2
        go_wp2_with (go_at_call 91; refine hg.mono ?_; rintro e w2 ⟨rfl, hk2⟩)
        exact bodyPost_ret (v := .tuple #[.slice xa ps.length xc, .slice ya ym yc, .int .i64 (b.length : Int), .bool true]) (by simp [results, Tryz.results50, go_sem]) rfl (HE.out _ hk2)
      | some q =>
        rw [hc] at hg
        dsimp only at hg
        by_cases hlong : q.1.length ≤ 200
        · have HM := Lib.hid (fun w2 hk => hL.more (w2 := w2) hk hc hlong hlt)
          have y2 : decide ((200 : Int) < (q.1.length : Int)) = false := decide_eq_false (by omega)
          have HLT := Lib.hid hlt
          clear hc hL hple hlt e1 e2 hlong
          go_wp2_with (first | (go_at_call 91; refine hg.mono ?_; rintro e w2 ⟨rfl, hk2⟩; obtain ⟨v1, w3, v2, w4, r1, r2, HN, ⟨na, nm, nc, rfl⟩, ⟨ma, mm, mc, rfl⟩⟩ := HM.out _ hk2) | ((with_reducible show wpList _ _ _ (⟨some 50, _, _, _, _, _⟩ :: _) _ _); refine Lib.wpList_append_run _ rfl _ _ 23 23 rfl _ _ rfl rfl _ _ r1 ?_) | ((with_reducible show wpList _ _ _ (⟨some 54, _, _, _, _, _⟩ :: _) _ _); refine Lib.wpList_append_run _ rfl _ _ 83 83 rfl _ _ rfl rfl _ _ r2 ?_))
          refine ⟨⟨_, _, rfl, HN.out⟩, ?_⟩
          obtain ⟨a', m', c', hv, hm', _⟩ := HN.out.1.form (by omega)
          cases hv
          rw [strV_len, Nat.mul_one] at hm'
          have := HLT.out
          simp only [List.length_append, List.length_singleton] at hm'
          show 64 - nm < 64 - ps.length
          omega
        · have y2 : decide ((200 : Int) < (q.1.length : Int)) = true := decide_eq_true (by omega)
          have HE := Lib.hid (fun w2 hk => hL.end_ (w2 := w2) hk (hL.2.2.1.long hc hlong))
          clear hc hL hple hlt e1 e2 hlong
          go_wp2_with (go_at_call 91; refine hg.mono ?_; rintro e w2 ⟨rfl, hk2⟩)
          exact bodyPost_ret (v := .tuple #[.slice xa ps.length xc, .slice ya ym yc, .int .i64 (b.length : Int), .bool true]) (by simp [results, Tryz.results50, go_sem]) rfl (HE.out _ hk2)
    · have y1 : decide ((ps.length : Int) < 64) = false := decide_eq_false (by omega)
      have HE := Lib.hid (hL.end_ (Kept.refl _ _) (hL.2.2.1.full hlt))
      clear hL hple hlt e1 e2 hg
      go_wp2_with fail
      exact bodyPost_ret (v := .tuple #[.slice xa ps.length xc, .slice ya ym yc, .int .i64 (b.length : Int), .bool true]) (by simp [results, Tryz.results50, go_sem]) rfl HE.out
end
end Go.Proofs.YtlgeijbgkipliaaGreatDoor
