/- Scr4 -/
import Derived.Sort.CutIn
import Derived.Test.YtpmdlkogccojmaaGreatDoorUScrubNone42
import Derived.Test.YtpmdlkogccojmaaGreatDoorUScrubNone32
import Derived.Test.YtpmdlkogccojmaaGreatDoorUScrubNone36
set_option linter.unusedVariables false
set_option linter.unusedSimpArgs false
set_option maxRecDepth 100000
set_option maxHeartbeats 16000000
namespace Go.Proofs.YtpmdlkogccojmaaGreatDoor
open Go.RowKit Go.Shelf
attribute [local go_sem] Oper.semAt_some
theorem wpListIn_store_mid {F : Fence} {n : Nat} {P : Program} {w : World} {ops : Array Oper} {rest : List Oper} {o : Oper} {a : Act} {Q : Exit → Act → World → Prop} (hg : o.guard = none) (ty : TypeId) (x y : Operand)
  (hop : o.op = .store ty x y) (b off : Nat) (cells : Array Value) (hx : a.eval x = .pointer (some ⟨b, off, none⟩)) (hy : a.eval y = .agg cells)
  (ht : w.there b off cells.size) (hi : (P.info? ty).map (·.size) = some cells.size) (h1 : cells.all (·.oneCell') = true) (h : wpListIn F n P ops Q rest (a.put o.dst undef) (w.setCells b off cells.toList)) : wpListIn F n P ops Q (o::rest) a w:=by
 have hr:=run_storeAt_mid (P:=P) w b off ty cells ht hi h1
 refine wpListIn_plain hg fun K hK'=>?_
 unfold Oper.wpIn
 refine ⟨by simp [Oper.about, hop], ?_⟩
 rw [Oper.semAt_plain F _ _ (by rw [hop]; intro c hc'; cases hc')]
 simp [execOp, hop, hx, hy, hr, Result.andThen]
 exact hK' _ _ h
abbrev BkX (ns : List Int):={x : Nat × Int // x ∈ backsI ns}
theorem backsI_mem {ns : List Int} {x : Nat × Int} (h : x ∈ backsI ns) : x.2 ∈ ns:=by
 have : x.2 ∈ (backsI ns).map (·.2):=List.mem_map_of_mem h
 rw [backsI_map] at this
 exact List.mem_reverse.1 this
abbrev encB {ns : List Int} (x : BkX ns) : Array Value:=#[.int .i64 (x.1.1 : Int), .int .i64 x.1.2]
theorem backB_in (F : Fence) (n : Nat) (hF : F.fn 104) (hro : F.round = none) (hn : 1 ≤ n) (l Bs n₀ : Nat) (S : Nat → Prop) (v : Value) (ns : List Int) (hns : ∀ x ∈ ns, -9223372036854775808 ≤ x∧x ≤ 9223372036854775807) (hlen : ns.length ≤ 1000000000) (J Jx : List (BkX ns) → World → Prop)
  (hY : ∀ pre x W, J pre W → pre.length < ns.length → YieldAt F (n - 1) Tryz.prog l (encB x) W fun e W' =>
   (e = .returned (.bool true)∧J (pre ++ [x]) W'∧KeptB S n₀ W W') ∨ (e = .returned (.bool false)∧Jx (pre ++ [x]) W'))
  (W : World) (hBs : W.cell? ⟨Bs, 0, none⟩ = some v) (hB0 : Bs < n₀∧¬ S Bs) (hrow : Row W 3 1 v (intsV ns)) (hown : ∀ k, v.ownBlock = some k → k < n₀∧¬ S k) (h0 : J [] W) :
  CallsIn F n Tryz.prog 104 #[.func (.yield l) #[] #[], .pointer (some ⟨Bs, 0, none⟩)] W fun e W'=>(∃ v, e = .returned v) ∧
   ((∃ ys : List (BkX ns), ys.map (·.1) = backsI ns∧J ys W') ∨ (∃ pre : List (BkX ns), pre.map (·.1) <+: backsI ns∧Jx pre W')):=by
 obtain ⟨a, m, c, rfl, hm, hml, hcl⟩:=hrow.form (by omega)
 rw [intsV_len, Nat.mul_one] at hm
 subst hm
 unfold maxLen at hml
 refine callsIn_of_wp Tryz.func104 rfl hF ?_ hro
 simp only [Tryz.ntmps104, List.size_toArray, List.length_cons, List.length_nil, Nat.reduceAdd, Nat.reduceSub, Array.replicate_succ, Array.replicate_zero, List.push_toArray, List.append_toArray, List.nil_append, List.cons_append]
 gi_wp2
 gi_loopw [3] (fun i wr=>∃ (k : Nat) (pre : List (BkX ns)), k ≤ ns.length∧i = .int .i64 ((ns.length : Int) - 1 - (k : Int))∧pre.length = k∧pre.map (·.1) = (backsI ns).take k∧J pre wr∧KeptB S n₀ W wr) (fun i _=>(intOf i + 1).toNat)
 case atStart=>exact ⟨0, [], Nat.zero_le _, by simp, rfl, by simp, h0, KeptB.refl _ _ _⟩
 case round =>
  obtain ⟨k, pre, hk, rfl, hpl, hpre, hJ, hkb⟩:=hrel
  have hcs:=(hkb.cell (p:=⟨Bs, 0, none⟩) hB0.1 hB0.2).trans hBs
  by_cases hlt : k < ns.length
  ·obtain ⟨g, rfl, hg, hcl2⟩:=hcl (by omega)
   have hx : (ns[ns.length - 1 - k]?) = some ((ns[ns.length - 1 - k]?).getD 0):=by rw [List.getElem?_eq_getElem (by omega)]; rfl
   have hb:=hns _ (List.mem_of_getElem? hx)
   have hat:=backsI_at ns k hlt
   have hc1:=hcl2 (ns.length - 1 - k) (.int .i64 ((ns[ns.length - 1 - k]?).getD 0)) (by unfold intsV; rw [List.getElem?_map, hx]; rfl)
   have hc2:=(hkb.cell (p:=⟨g, ns.length - 1 - k, none⟩) (hown g hg).1 (hown g hg).2).trans hc1
   generalize (ns[ns.length - 1 - k]?).getD 0 = z at *
   obtain ⟨q, hq⟩ : ∃ q, ns.length - 1 - k = q:=⟨_, rfl⟩
   have hqi : (ns.length : Int) - 1 - (k : Int) = (q : Int):=by omega
   rw [hq] at hc2 hat
   rw [hqi]
   have hq2 : q < ns.length:=by omega
   obtain ⟨X, hX⟩ : ∃ X : BkX ns, X.1 = (q, z):=⟨⟨(q, z), List.mem_of_getElem? hat⟩, rfl⟩
   obtain ⟨fn, tmps, assign, body, hy, hR⟩:=hY pre X wr hJ (by omega)
   dsimp only [encB] at hy
   rw [hX] at hy
   have HX:=Lib.hid hX
   have HQ:=Lib.hid hqi
   have HK:=Lib.hid hq
   have HAT:=Lib.hid hat
   have HP:=Lib.hid hpre
   have HPL:=Lib.hid hpl
   clear hqi hq hat hpre hx hpl hX
   gi_wp2
   refine hR.mono ?_
   rintro e W3 (⟨rfl, hJ3, hk3⟩ | ⟨rfl, hJx3⟩)
   ·gi_wp2
    go_roundw
    case rel =>
     have h1:=HQ.out
     have h2:=HPL.out
     refine ⟨k + 1, pre ++ [X], by omega, ?_, by simp [h2], ?_, hJ3, hkb.trans hk3⟩
     ·simp only [Value.int.injEq, true_and]; omega
     ·rw [List.map_append, HP.out, List.take_add_one, HAT.out, List.map_singleton, HX.out]
      rfl
    case measure=>simp [intOf]
   ·gi_wp2
    refine bodyPost_ret (results_none rfl _ _ _) rfl ?_
    refine ⟨⟨_, rfl⟩, .inr ⟨_, ?_, hJx3⟩⟩
    rw [List.map_append, HP.out, List.map_singleton, HX.out]
    have : (backsI ns).take (k + 1) = (backsI ns).take k ++ [(q, z)]:=by rw [List.take_add_one, HAT.out]; rfl
    rw [← this]
    exact List.take_prefix _ _
  ·obtain rfl : k = ns.length:=by omega
   have hz : (ns.length : Int) - 1 - (ns.length : Int) = -1:=by omega
   rw [hz]
   have HP:=Lib.hid hpre
   clear hpre hz hpl
   gi_wp2
   go_end0
   refine ⟨⟨_, rfl⟩, .inl ⟨pre, ?_, hJ⟩⟩
   rw [HP.out, List.take_of_length_le (by rw [backsI_len]; omega)]
theorem backB_stops (F : Fence) (n : Nat) (hF : F.fn 104) (hro : F.round = none) (hn : 1 ≤ n) (Bs n₀ : Nat) (S : Nat → Prop) (v : Value) (ns : List Int) (hns : ∀ x ∈ ns, -9223372036854775808 ≤ x∧x ≤ 9223372036854775807) (hlen : ns.length ≤ 1000000000) (w : World)
  (hBs : w.cell? ⟨Bs, 0, none⟩ = some v) (hB1 : Bs < w.heap.size) (hB0 : Bs < n₀∧¬ S Bs) (hrow : Row w 3 1 v (intsV ns)) (hown : ∀ k, v.ownBlock = some k → k < n₀∧¬ S k) :
  SeqStopsK F n Tryz.prog 104 #[.pointer (some ⟨Bs, 0, none⟩)] (encB (ns:=ns)) (KeptB S n₀) (fun ys=>ys.map (·.1) = backsI ns) (fun pre=>pre.map (·.1) <+: backsI ns) ns.length w:=fun l J Jx W hW _ _ hY h0 =>
 backB_in F n hF hro hn l Bs n₀ S v ns hns hlen J Jx hY W ((hW.cell (p:=⟨Bs, 0, none⟩) hB1).trans hBs) hB0 (hrow.kept (S:=fun _=>False) (Kept.of_below hW) (fun _ _=>id)) hown h0
theorem ScanAt.turn {w0 W W' : World} {d s : Nat} {l : List Fd} {Z : Nat → Prop} (h : ScanAt w0 W d s l) (hk : Kept Z W W') (hZ : ∀ k, k < W.heap.size → Z k → w0.heap.size ≤ k∧¬ CellsT W k 90∧¬ CellsT W k 29) : ScanAt w0 W' d s l:=by
 obtain ⟨⟨a, n, c, h1, h2, h3⟩, h4, h5⟩:=h
 exact ⟨⟨a, n, c, h1.kept hk (fun z=>(hZ s h1.lt z).2.1 ⟨_, _, h1⟩), h2.kept hk (fun k q z=>(hZ k (h2.lt q) z).2.2 (h2.cellsT q)), h3⟩, h4.then_ hk (fun i hi z=>by have:=(hZ i (Nat.lt_of_lt_of_le hi h4.size) z).1; omega), h5⟩
abbrev rng0 : List Value:=[.int .i64 0, .slice none 0 0]
structure PtsI (w0 w : World) (d s : Nat) (l : List Fd) (W : World) : Prop where
 scan : ScanAt w0 W d s l
 b1 : Blk W w.heap.size [.pointer (some ⟨s, 0, none⟩)] 88
 b2 : Blk W (w.heap.size + 1) rng0 92
 b3 : Blk W (w.heap.size + 1 + 1) signed0C 51
 b4 : Blk W (w.heap.size + 1 + 1 + 1) [.bool false] 4
 b5 : Blk W (w.heap.size + 1 + 1 + 1 + 1) [.int .i64 (-1)] 3
 low : w0.heap.size ≤ w.heap.size∧w.heap.size ≤ W.heap.size
theorem CellsT.cells {w : World} {k : Nat} {t : TypeId} (h : CellsT w k t) : IsCells w k:=by obtain ⟨c, f, h⟩:=h; exact ⟨c, t, f, h⟩
theorem PtsI.turn {w0 w W W' : World} {d s : Nat} {l : List Fd} {Z : Nat → Prop} (h : PtsI w0 w d s l W) (hk : Kept Z W W') (hZ : ∀ k, k < W.heap.size → Z k → w0.heap.size ≤ k∧¬ IsCells W k) : PtsI w0 w d s l W':=by
 have nc : ∀ k, IsCells W k → ¬ Z k:=fun k q z=>(hZ k (by obtain ⟨_, _, _, q⟩:=q; exact (Array.getElem?_eq_some_iff.1 q).1) z).2 q
 exact ⟨h.scan.turn hk (fun k hl z=>⟨(hZ k hl z).1, fun q=>(hZ k hl z).2 q.cells, fun q=>(hZ k hl z).2 q.cells⟩), h.b1.kept hk (nc _ h.b1.cells), h.b2.kept hk (nc _ h.b2.cells), h.b3.kept hk (nc _ h.b3.cells), h.b4.kept hk (nc _ h.b4.cells), h.b5.kept hk (nc _ h.b5.cells), ⟨h.low.1, Nat.le_trans h.low.2 hk.size⟩⟩
abbrev ptsW (w : World) (s : Nat) : World:=((((w.alloc (.cells #[.pointer (some ⟨s, 0, none⟩)] 88)).alloc (.cells rng0.toArray 92)).alloc (.cells signed0C.toArray 51)).alloc (.cells #[.bool false] 4)).alloc (.cells #[.int .i64 (-1)] 3)
theorem pts_start {w0 w : World} {d s : Nat} {l : List Fd} (h : ScanAt w0 w d s l) {W1 W2 : World} (hW : W1 = ptsW w s) (hk : Kept (fun _=>False) W1 W2) : PtsI w0 w d s l W2∧Kept (fun _=>False) w W2:=by
 have k1 : Kept (fun _=>False) w W1:=by rw [hW]; exact (((((Kept.refl _ _).alloc _).alloc _).alloc _).alloc _).alloc _
 have b1:=((((Blk.new w [.pointer (some ⟨s, 0, none⟩)] 88).alloc (.cells rng0.toArray 92)).alloc (.cells signed0C.toArray 51)).alloc (.cells #[.bool false] 4)).alloc (.cells #[.int .i64 (-1)] 3)
 have b2:=(((Blk.new (w.alloc (.cells #[.pointer (some ⟨s, 0, none⟩)] 88)) rng0 92).alloc (.cells signed0C.toArray 51)).alloc (.cells #[.bool false] 4)).alloc (.cells #[.int .i64 (-1)] 3)
 have b3:=((Blk.new ((w.alloc (.cells #[.pointer (some ⟨s, 0, none⟩)] 88)).alloc (.cells rng0.toArray 92)) signed0C 51).alloc (.cells #[.bool false] 4)).alloc (.cells #[.int .i64 (-1)] 3)
 have b4:=(Blk.new (((w.alloc (.cells #[.pointer (some ⟨s, 0, none⟩)] 88)).alloc (.cells rng0.toArray 92)).alloc (.cells signed0C.toArray 51)) [.bool false] 4).alloc (.cells #[.int .i64 (-1)] 3)
 have b5:=Blk.new ((((w.alloc (.cells #[.pointer (some ⟨s, 0, none⟩)] 88)).alloc (.cells rng0.toArray 92)).alloc (.cells signed0C.toArray 51)).alloc (.cells #[.bool false] 4)) [.int .i64 (-1)] 3
 simp only [World.size_alloc] at b2 b3 b4 b5
 have q : ∀ {b : Nat} {c : List Value} {t : TypeId}, Blk (ptsW w s) b c t → Blk W2 b c t:=fun {b c t} hb=>by
  have : Blk W1 b c t:=by rw [hW]; exact hb
  exact this.kept hk id
 exact ⟨⟨h.same (k1.trans hk), q b1, q b2, q b3, q b4, q b5, h.kept.size, (k1.trans hk).size⟩, k1.trans hk⟩
def oddsF (ns : List Int) : List Fd:=if ns = [5] then [(2, 5, 0)] else []
def PtsTo (w0 : World) (d s : Nat) (l : List Fd) (e : Ending) (w' : World) : Prop:=e = .returned (.tuple #[.agg rng0.toArray, .agg signed0C.toArray, .bool false])∧ScanAt w0 w' d s l
theorem pts_again {w0 w W : World} {d s : Nat} {l : List Fd} (h : PtsI w0 w d s l W) {W2 : World} (hW : W2 = (W.setCells (w.heap.size + 1) 0 rng0).setCells (w.heap.size + 1 + 1) 0 signed0C) :
  W.there (w.heap.size + 1) 0 rng0.toArray.size∧(W.setCells (w.heap.size + 1) 0 rng0).there (w.heap.size + 1 + 1) 0 signed0C.toArray.size∧PtsI w0 w d s l W2∧Kept (fun k=>k = w.heap.size + 1 ∨ k = w.heap.size + 1 + 1) W W2:=by
 have k1:=kept_setCells W (w.heap.size + 1) 0 rng0
 have k2:=kept_setCells (W.setCells (w.heap.size + 1) 0 rng0) (w.heap.size + 1 + 1) 0 signed0C
 have k3 : Kept (fun k=>k = w.heap.size + 1 ∨ k = w.heap.size + 1 + 1) W W2:=by
  rw [hW]
  exact (k1.mono (fun _ _=>Or.inl)).trans (k2.mono (fun _ _=>Or.inr))
 have s1:=h.b2.setCells 0 rng0 (Nat.le_refl _)
 rw [splice_whole rfl] at s1
 have b3:=h.b3.kept k1 (by omega)
 have s2:=b3.setCells 0 signed0C (Nat.le_refl _)
 rw [splice_whole rfl] at s2
 have hz:=h.low
 refine ⟨h.b2.there 0 _ (Nat.le_refl _), b3.there 0 _ (by rw [List.size_toArray]; omega), ⟨h.scan.turn k3 (fun k hk q=>?_), h.b1.kept k3 (by omega), ?_, ?_, h.b4.kept k3 (by omega), h.b5.kept k3 (by omega), hz.1, Nat.le_trans hz.2 k3.size⟩, k3⟩
 ·have q2 : CellsT W (w.heap.size + 1) 92:=⟨_, _, h.b2⟩
  have q3 : CellsT W (w.heap.size + 1 + 1) 51:=⟨_, _, h.b3⟩
  rcases q with rfl | rfl
  ·exact ⟨by omega, fun e=>absurd (q2.same e) (by decide), fun e=>absurd (q2.same e) (by decide)⟩
  ·exact ⟨by omega, fun e=>absurd (q3.same e) (by decide), fun e=>absurd (q3.same e) (by decide)⟩
 ·rw [hW]; exact s1.kept k2 (by omega)
 ·rw [hW]; exact s2
theorem results3_cells {P : Program} {w : World} {fn : Func} {p q u : Tmp} {ty1 ty2 ty3 : TypeId} {tmps : Array Value} {b1 b2 : Nat} {c1 c2 : List Value} {t1 t2 : TypeId} {d1 d2 : TypeDesc} {v : Value} (h1 : Blk w b1 c1 t1) (h2 : Blk w b2 c2 t2) (hf : fn.results = #[.cell p ty1, .cell q ty2, .cell u ty3])
  (hp : tmps.getD p undef = .pointer (some ⟨b1, 0, none⟩)) (hq : tmps.getD q undef = .pointer (some ⟨b2, 0, none⟩)) (hu1 : P.underlying ty1 = some d1) (hd1 : (match d1 with | .struct _ | .array _ _=>true | _=>false) = true) (hi1 : (P.info? ty1).map (·.size) = some c1.length)
  (hu2 : P.underlying ty2 = some d2) (hd2 : (match d2 with | .struct _ | .array _ _=>true | _=>false) = true) (hi2 : (P.info? ty2).map (·.size) = some c2.length) {b3 : Nat} (hr : tmps.getD u undef = .pointer (some ⟨b3, 0, none⟩)) (h3 : (loadVar ty3 ⟨b3, 0, none⟩).run P w = .ok v w) :
  (results fn tmps).run P w = .ok (.tuple #[.agg c1.toArray, .agg c2.toArray, v]) w:=by
 have hp' : tmps[p]?.getD undef = .pointer (some ⟨b1, 0, none⟩):=by simpa using hp
 have hq' : tmps[q]?.getD undef = .pointer (some ⟨b2, 0, none⟩):=by simpa using hq
 have hr' : tmps[u]?.getD undef = .pointer (some ⟨b3, 0, none⟩):=by simpa using hr
 simp [results, hf, hp', hq', hr', h3, asAddr, run_loadVar_row w b1 t1 ty1 c1.toArray (0, 0) d1 h1 hu1 hd1 (by rw [hi1, List.size_toArray]), run_loadVar_row w b2 t2 ty2 c2.toArray (0, 0) d2 h2 hu2 hd2 (by rw [hi2, List.size_toArray])]
def oddsTo (ns : List Int) {α : Type} (pre : List α) : List Fd:=match pre with
 | []=>[]
 | _=>oddsF ns
def PtsJ (w0 w w2 : World) (d s : Nat) (l : List Fd) (ns : List Int) (v : Value) (z : Nat) {α : Type} (pre : List α) (W : World) : Prop :=
 PtsI w0 w d s (l ++ oddsTo ns pre) W∧Blk W w2.heap.size [v] 127∧Row W 3 1 v (intsV ns)∧z ≤ W.heap.size
theorem Row.keptS {w w' : World} (h : KeptS w w') {e : TypeId} {size : Nat} {v : Value} {xs : List Value} (hr : Row w e size v xs) (h1 : e ≠ 90) (h2 : e ≠ 29) : Row w' e size v xs:=by
 obtain ⟨Z, k1, k2⟩:=h
 refine hr.kept k1 (fun k q z=>?_)
 rcases k2 k (hr.lt q) z with e | e
 ·exact h1 ((hr.cellsT q).same e)
 ·exact h2 ((hr.cellsT q).same e)
theorem ptsJ_turn {w0 w w2 W W' : World} {d s : Nat} {l : List Fd} {ns : List Int} {v : Value} {z : Nat} {α : Type} {pre : List α} {Z : Nat → Prop} (h : PtsJ w0 w w2 d s l ns v z pre W) (hk : Kept Z W W') (hZ : ∀ k, k < W.heap.size → Z k → w0.heap.size ≤ k∧¬ IsCells W k) : PtsJ w0 w w2 d s l ns v z pre W':=by
 have nc : ∀ k, IsCells W k → ¬ Z k:=fun k q z=>(hZ k (by obtain ⟨_, _, _, q⟩:=q; exact (Array.getElem?_eq_some_iff.1 q).1) z).2 q
 exact ⟨h.1.turn hk hZ, h.2.1.kept hk (nc _ h.2.1.cells), h.2.2.1.kept hk (fun k q=>nc k (h.2.2.1.ownCells q)), Nat.le_trans h.2.2.2 hk.size⟩
theorem ptsJ_more {w0 w w2 W W' : World} {d s : Nat} {l : List Fd} {v : Value} {z : Nat} {α : Type} {x : α} (h : PtsJ w0 w w2 d s l [5] v z ([] : List α) W) (hS : ScanAt w0 W' d s (l ++ [(2, 5, 0)])) (hk : KeptS W W') : PtsJ w0 w w2 d s l [5] v z [x] W':=by
 have hz:=hk.size
 refine ⟨⟨hS, hk.blk h.1.b1 (by decide) (by decide), hk.blk h.1.b2 (by decide) (by decide), hk.blk h.1.b3 (by decide) (by decide), hk.blk h.1.b4 (by decide) (by decide), hk.blk h.1.b5 (by decide) (by decide), h.1.low.1, Nat.le_trans h.1.low.2 hz⟩, hk.blk h.2.1 (by decide) (by decide), h.2.2.1.keptS hk (by decide) (by decide), Nat.le_trans h.2.2.2 hz⟩
theorem scrPoints {wz w0 w : World} {d s : Nat} {M : DiskM} {Os : List Ob} {l : List Fd} (h : Ows wz w0 d M Os) (hS : ScanAt w0 w d s l) (hl : l.length ≤ 1000) (hdn : M.down = false) (hall : (∀ x ∈ M.files, 1000 ≤ x.1) ∨ M.files = [(5, [])]) :
  Calls Tryz.prog 35 #[.pointer (some ⟨s, 0, none⟩)] w (PtsTo w0 d s (l ++ oddsF (M.files.map (·.1)))):=by
 have hw : Ows wz w d M Os:=h.same hS.kept
 have hlen : (M.files.map (·.1)).length ≤ 400000000:=by rw [List.length_map]; have:=h.ok.count; omega
 have hkeys : ∀ x ∈ M.files.map (·.1), -9223372036854775808 ≤ x∧x ≤ 9223372036854775807:=by obtain ⟨B, h⟩:=h; exact h.ap.keys
 refine (callsIn_wide (n:=6)).1 ?_
 obtain ⟨W1, hW1⟩ : ∃ W1, W1 = ptsW w s:=⟨_, rfl⟩
 obtain ⟨i1, k1⟩:=pts_start hS hW1 (Kept.refl _ _)
 have c1:=i1.b1.cell (i:=0) rfl
 have c2:=i1.scan.disk
 have HF:=Lib.hid (callsIn_wide (n:=5) |>.2 (scrFiles (hw.same k1)))
 have HBK:=Lib.hid (fun a m c w'=>callsIn_wide (n:=5) |>.2 (backward_any a m c w'))
 have HST:=Lib.hid (fun W2 (k2 : Kept (fun _=>False) W1 W2)=>pts_start hS hW1 k2)
 have hfF : Fence.wide.fn 70:=trivial
 have hfB : Fence.wide.fn 69:=trivial
 have hlow:=hS.kept.size
 refine callsIn_of_wp_marks Tryz.func35 rfl trivial ?_ rfl
 simp only [Tryz.ntmps35, List.size_toArray, List.length_cons, List.length_nil, Nat.reduceAdd, Nat.reduceSub, Array.replicate_succ, Array.replicate_zero, List.push_toArray, List.append_toArray, List.nil_append, List.cons_append]
 gi_upto_region 2 with (fail)
 generalize hWx : World.alloc _ _ = Wx
 obtain rfl : W1 = Wx:=by rw [hW1, ← hWx]; rfl
 clear hW1 hWx
 gi_wp2_with (first | (gi_at_call 70; refine HF.out.mono ?_; rintro e w2 ⟨xa, xc, rfl, hrow, hk, hown⟩; rw [icells_intsV] at hrow; generalize M.files.length = xm at *) | (gi_at_call 69; refine (HBK.out _ _ _ _).mono ?_; rintro e w' ⟨rfl, rfl⟩))
 have hrow0:=hrow.alloc (.cells #[.slice xa xm xc] 127)
 have hD0:=(HST.out _ (hk.alloc (.cells #[.slice xa xm xc] 127))).1
 have hBs:=Blk.new w2 [.slice xa xm xc] 127
 have hz : w2.heap.size < (w2.alloc (.cells #[.slice xa xm xc] 127)).heap.size:=by rw [World.size_alloc]; omega
 have hle : w0.heap.size ≤ w2.heap.size:=Nat.le_trans (Nat.le_trans hlow (HST.out _ (Kept.refl _ _)).2.size) hk.size
 have hBs' : Blk (w2.alloc (.cells #[.slice xa xm xc] 127)) w2.heap.size [.slice xa xm xc] 127:=hBs
 obtain ⟨W0, hW0⟩ : ∃ W0, w2.alloc (.cells #[.slice xa xm xc] 127) = W0:=⟨_, rfl⟩
 rw [hW0] at hD0 hrow0 hBs' hz ⊢
 have HLN:=Lib.hid hlen
 obtain ⟨ns, hns⟩ : ∃ ns, M.files.map (·.1) = ns:=⟨_, rfl⟩
 rw [hns] at hrow0 hkeys hlen
 have hJ0 : PtsJ w0 w w2 d s l ns (.slice xa xm xc) W0.heap.size ([] : List (BkX ns)) W0:=⟨by rw [show l ++ oddsTo ns ([] : List (BkX ns)) = l from List.append_nil l]; exact hD0, hBs', hrow0, Nat.le_refl _⟩
 have hIown : OwnFrom W0.heap.size (fun (pre : List (BkX ns)) W=>PtsJ w0 w w2 d s l ns (.slice xa xm xc) W0.heap.size pre W):=fun pre X Y row h hg hr =>
  ptsJ_turn h (grown_kept hg) (fun k _ e=>by obtain ⟨h1, o, ho, hc⟩:=hr k e; exact ⟨by omega, nonCells ho hc⟩)
 have hdk : ∀ W, ScanAt w0 W d s l → Ows wz W d M Os:=fun W q=>h.same q.kept
 have HX:=Lib.hid (And.intro hdk (And.intro hdn (And.intro hall hl)))
 clear hdk hrow hk hown hD0 hBs hw i1 k1 c1 c2 hlow h hdn hall hl HF HBK HST
 refine wpIn_rangeFunc_ownH rfl (by omega) (gf:=104) (lb:=#[.pointer (some ⟨w2.heap.size, 0, none⟩)]) rfl trivial (enters_of Tryz.func104 (by kernel_rfl) rfl)
  (backB_stops Fence.wide _ trivial rfl (by omega) w2.heap.size W0.heap.size (fun k=>¬ (k = w2.heap.size ∨ (Value.slice xa xm xc).ownBlock = some k)) (.slice xa xm xc) ns hkeys (by omega) W0 (hBs'.cell (i:=0) rfl) hz ⟨hz, fun q=>q (Or.inl rfl)⟩ hrow0 (fun k q=>⟨hrow0.lt q, fun n=>n (Or.inr q)⟩))
  (fun h1 h2=>h1.trans h2) (fun W l o o' hl _ _ _=>KeptB.putObj _ W l o' hl) (Below.refl _ _) (fun _=>rfl)
  (fun pre W=>PtsJ w0 w w2 d s l ns (.slice xa xm xc) W0.heap.size pre W)
  (fun _ _ _=>False) hIown (fun _ _ _ _ _ hs _ _=>hs) hJ0
  (fun x a' W=>a' = { tmps:=#[.pointer (some ⟨s, 0, none⟩), .pointer (some ⟨w.heap.size, 0, none⟩), .pointer (some ⟨w.heap.size + 1, 0, none⟩), .pointer (some ⟨w.heap.size + 1 + 1, 0, none⟩), .pointer (some ⟨w.heap.size + 1 + 1 + 1, 0, none⟩), .pointer (some ⟨w.heap.size + 1 + 1 + 1 + 1, 0, none⟩), undef, .int .i64 x.1.2, undef, undef, undef, undef, undef, undef, undef, .pointer (some ⟨s, 0, none⟩), .pointer (some ⟨s, 0, none⟩), .pointer (some ⟨s, 0, none⟩), .pointer (some ⟨d, 0, none⟩), .slice xa xm xc, .func (.func 104) #[] #[.pointer (some ⟨w2.heap.size, 0, none⟩)], .int .i64 (x.1.1 : Int), .int .i64 x.1.2, undef, undef, undef, undef, undef, undef, undef, undef, undef, undef, undef, undef, undef, undef, undef, undef, undef, undef, undef, undef, undef, undef, undef, undef, undef, undef, undef, undef, undef, undef, undef, undef, undef, undef, undef, undef, undef, undef, undef, undef, undef, undef, undef, undef, undef, undef, undef, undef, undef, undef, undef, undef, undef, undef, undef, undef, undef, undef], defers:=[] })
  ?hAx ?assign ?body ?done ?stop
 case hAx =>
  rintro x a' u X Y row e hg hr
  exact e
 case assign =>
  intro l pre x W K hi hK
  gi_wp2
  exact hK _ _ (KeepsFrom.refl _ _) (KeptB.refl _ _ _) hi rfl
 case body =>
  rintro g pre x a' W hl ⟨r, hr⟩ hJ rfl hlt
  have cb:=hJ.1.b1.cell (i:=0) rfl
  have c5:=hJ.1.b5.cell (i:=0) rfl
  have hx2:=backsI_mem x.2
  rcases HX.out.2.2.1 with hA | hB
  ·have hge : 1000 ≤ x.1.2:=by
    obtain ⟨p, hp, e⟩:=List.mem_map.1 (show x.1.2 ∈ M.files.map (·.1) from by rw [hns]; exact hx2)
    have:=hA p hp
    omega
   have hne : oddsF ns = []:=if_neg (fun e=>by
    obtain ⟨p, hp, e2⟩:=List.mem_map.1 (show (5 : Int) ∈ M.files.map (·.1) from by rw [hns, e]; simp)
    have:=hA p hp
    omega)
   have y1 : decide (1000 ≤ x.1.2) = true:=decide_eq_true hge
   have HJ:=Lib.hid (show PtsJ w0 w w2 d s l ns (.slice xa xm xc) W0.heap.size (pre ++ [x]) W from by
    have e1 : oddsTo ns pre = []:=by cases pre; rfl; exact hne
    have e2 : oddsTo ns (pre ++ [x]) = []:=by cases pre; exact hne; exact hne
    unfold PtsJ at hJ ⊢
    rw [e1] at hJ
    rw [e2]
    exact hJ)
   clear hge hne hx2 hA hJ hr
   gi_wp2
   exact ⟨KeepsFrom.refl _ _, KeptB.refl _ _ _, HJ.out⟩
  ·have hn5 : ns = [5]:=by rw [← hns, hB]; rfl
   subst hn5
   obtain rfl : pre = []:=by simpa using hlt
   obtain ⟨⟨xi, xn⟩, hxm⟩:=x
   obtain rfl : xn = 5:=by simpa using hx2
   have HJ:=Lib.hid hJ
   have hS : ScanAt w0 W d s l:=by have:=hJ.1.scan; rwa [show l ++ oddsTo [5] ([] : List (BkX [5])) = l from List.append_nil l] at this
   have hO:=HX.out.1 W hS
   have HT:=Lib.hid (((callsIn_wide (n:=4 - 1)).2 (scrubText hO hS.disk 5 ⟨by decide, by decide⟩ HX.out.2.1 (b:=[]) (by rw [hB]; rfl))).inRound g)
   have HWH:=Lib.hid (((callsIn_wide (n:=4 - 1)).2 (whole_any W ⟨#[]⟩ (by decide) hO.tab)).inRound g)
   have HFI:=Lib.hid (fun w3 (hk : Kept (fun _=>False) W w3)=>((callsIn_wide (n:=4 - 1)).2 (find_any hS hk 2 5 0 (by have:=HX.out.2.2.2; omega))).inRound g)
   have hfT : Fence.wide.fn 72:=trivial
   have hfW : Fence.wide.fn 71:=trivial
   have hfI : Fence.wide.fn 38:=trivial
   clear hJ hr hB hx2 hS hO
   gi_wp2_with (first
    | (gi_at_call 72; refine HT.out.mono ?_; rintro e w' ⟨rfl, rfl⟩)
    | (gi_at_call 71; refine HWH.out.mono ?_; rintro e w3 ⟨v, rfl, hv1, hv2, hk3⟩; obtain ⟨va, vn, vc, rfl, hvn, _⟩:=hv1.form (by omega); obtain rfl : vn = 0:=(by rw [wholeF_none (by rfl)] at hvn; simpa [strV] using hvn); have cb3:=hk3.cell cb id; have c53:=hk3.cell c5 id; clear hv1 hv2 hvn)
    | (gi_at_call 38; refine (HFI.out _ hk3).mono ?_; rintro e w4 ⟨rfl, hS4, hk4, ks4⟩))
   have ks:=(KeptS.of hk3).trans ks4
   have hJ2:=ptsJ_more (x:=(⟨(xi, 5), hxm⟩ : BkX [5])) HJ.out hS4 ks
   obtain ⟨Z, kz, hZ⟩:=ks
   refine ⟨CellsT.keepsFrom kz (fun k hl z=>(hZ k hl z).elim CellsT.cells CellsT.cells) _, kz.keptB HJ.out.2.2.2 (fun k hk z q=>?_), hJ2⟩
   have hkl : k < W.heap.size:=Nat.lt_of_lt_of_le hk HJ.out.2.2.2
   rcases q with rfl | q
   ·have qt : CellsT W w2.heap.size 127:=⟨_, _, HJ.out.2.1⟩
    rcases hZ _ hkl z with e | e
    ·exact absurd (qt.same e) (by decide)
    ·exact absurd (qt.same e) (by decide)
   ·have qt:=HJ.out.2.2.1.cellsT q
    rcases hZ _ hkl z with e | e
    ·exact absurd (qt.same e) (by decide)
    ·exact absurd (qt.same e) (by decide)
 case done =>
  rintro D ys W hD hy hJ hK
  have hodd : oddsTo ns ys = oddsF ns:=by
   cases ys with
   | nil =>
    have e : backsI ns = []:=by rw [← hy]; rfl
    have e2 : ns.length = 0:=by rw [← backsI_len, e]; rfl
    have e3 : ns = []:=List.eq_nil_of_length_eq_zero e2
    rw [e3]
    rfl
   | cons _ _=>rfl
  have hI:=hJ.1
  rw [hodd] at hI
  have c4:=hI.b4.cell (i:=0) rfl
  have HI:=Lib.hid hI
  clear hy hJ hI
  gi_upto_region 21 with (fail)
  obtain ⟨W2, hW2⟩ : ∃ W2, W2 = (W.setCells (w.heap.size + 1) 0 rng0).setCells (w.heap.size + 1 + 1) 0 signed0C:=⟨_, rfl⟩
  have HG:=Lib.hid (pts_again HI.out hW2)
  iterate 7 gi_step
  refine wpListIn_store_mid rfl 92 _ _ rfl (w.heap.size + 1) 0 rng0.toArray rfl rfl HG.out.1 (by kernel_rfl) (by kernel_rfl) ?_
  refine wpListIn_store_mid rfl 51 _ _ rfl (w.heap.size + 1 + 1) 0 signed0C.toArray rfl rfl HG.out.2.1 (by kernel_rfl) signed0_one ?_
  generalize hWx : World.setCells _ (w.heap.size + 1 + 1) 0 _ = Wx
  obtain rfl : W2 = Wx:=by rw [hW2, ← hWx]
  have hI2:=HG.out.2.2.1
  have hk2:=HG.out.2.2.2
  have hK2 : W2.heap[D]? = some (.deferred (some [])):=by
   rw [hk2.block D (Array.getElem?_eq_some_iff.1 hK).1 (fun e=>by
    have q2 : IsCells W (w.heap.size + 1):=HI.out.b2.cells
    have q3 : IsCells W (w.heap.size + 1 + 1):=HI.out.b3.cells
    rcases e with rfl | rfl
    ·exact nonCells hK rfl q2
    ·exact nonCells hK rfl q3)]
   exact hK
  have c4':=hI2.b4.cell (i:=0) rfl
  have f4':=hI2.b4.free 0
  clear hW2 hWx HG
  gi_wp2
  have k4:=kept_again hI2.b4 (v:=.bool false)
  have hI4:=hI2.turn k4 (fun _ _=>False.elim)
  have hK4 : (W2.setCell ⟨w.heap.size + 1 + 1 + 1, 0, none⟩ (.bool false)).heap[D]? = some (.deferred (some [])):=by
   rw [k4.block D (Array.getElem?_eq_some_iff.1 hK2).1 id]; exact hK2
  generalize W2.setCell ⟨w.heap.size + 1 + 1 + 1, 0, none⟩ (.bool false) = W4 at *
  refine ⟨by simp, .inl ⟨_, _, rfl, run_takeDeferred hK4, ?_⟩⟩
  have hI5:=hI4.turn (grown_kept (grownBy_putObj' _ D (.deferred none))) (fun k _ e=>by cases e; exact ⟨by omega, nonCells hK4 rfl⟩)
  have c5:=hI5.b4.cell (i:=0) rfl
  refine ⟨.tuple #[.agg rng0.toArray, .agg signed0C.toArray, .bool false], results3_cells (p:=2) (q:=3) (u:=4) hI5.b2 hI5.b3 rfl rfl rfl Tryz.underlying92 rfl (by kernel_rfl) Tryz.underlying51 rfl (by kernel_rfl) rfl ?_, rfl, ?_⟩
  rotate_left
  ·rw [hns]; exact hI5.scan
  trace_state
  simp [go_sem, c5]
 case stop =>
  rintro D c pre W _ _ h _
  exact h.elim
end Go.Proofs.YtpmdlkogccojmaaGreatDoor
