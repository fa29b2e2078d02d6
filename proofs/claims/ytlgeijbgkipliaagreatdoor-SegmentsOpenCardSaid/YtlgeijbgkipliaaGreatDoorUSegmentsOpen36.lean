/- SegOpen SegOpen2 SegOpen3 SegReg SegOpen4 SegOpen5 -/
import Derived.Deep.RegionHeld3
import Derived.Test.YtlgeijbgkipliaaGreatDoorUSegmentsOpen35
import Derived.Test.YtlgeijbgkipliaaGreatDoorUSegmentsOpen11
import Derived.Test.YtlgeijbgkipliaaGreatDoorUSegmentsOpen31
import Derived.Test.YtlgeijbgkipliaaGreatDoorUSegmentsOpen01
import Derived.Test.YtlgeijbgkipliaaGreatDoorUSegmentsOpen05
import Derived.Test.YtlgeijbgkipliaaGreatDoorUSegmentsOpen16
set_option linter.unusedVariables false
set_option linter.unusedSimpArgs false
namespace Go.Proofs.YtlgeijbgkipliaaGreatDoor
open Go.RowKit
abbrev segC (d : Nat) (x y : Value) (st : Int) (dead : Bool) : List Value := [.pointer (some ⟨d, 0, none⟩), x, y, .int .i64 st, .bool dead]
theorem one_str (l : List By) : ∀ u ∈ strV l, u.oneCell' = true := by
  intro u hu
  obtain ⟨p, _, rfl⟩ := List.mem_map.1 hu
  rfl
theorem one_nat (l : List Nat) : ∀ u ∈ natsV l, u.oneCell' = true := by
  intro u hu
  obtain ⟨p, _, rfl⟩ := List.mem_map.1 hu
  rfl
theorem strV_append (l m : List By) : strV (l ++ m) = strV l ++ strV m := by simp [strV]
theorem natsV_append (l m : List Nat) : natsV (l ++ m) = natsV l ++ natsV m := by simp [natsV]
theorem Row.ne_row {w : World} {e e' : TypeId} {size size' : Nat} {v v' : Value} {xs ys : List Value} (h : Row w e size v xs) (h' : Row w e' size' v' ys) (hne : e ≠ e') {k : Nat} (hk : v.ownBlock = some k) : v'.ownBlock ≠ some k := fun e => hne ((h.cellsT hk).same (h'.cellsT e))
theorem rows_more {w : World} {sb d : Nat} {x y u v : Value} {st : Int} {dead : Bool} {E l : List By} {N m : List Nat} (hb : Blk w sb (segC d x y st dead) 111) (hx : Row w 9 1 x (strV E)) (hy : Row w 3 1 y (natsV N)) (hu : View w 1 u (strV l)) (hv : View w 1 v (natsV m)) (hle : E.length + l.length ≤ 100000000) (hle2 : N.length + m.length ≤ 100000000)
    (hkv : ∀ g c t f, w.heap[g]? = some (.cells c t f) → v.ownBlock = some g → t = 3) :
    ∃ a1 n1 c1 w1 a2 n2 c2 w2, (Builtin.append_ #[23, 23] 23 #[x, u]).run Tryz.prog w = .ok (.slice a1 n1 c1) w1 ∧ (Builtin.append_ #[83, 83] 83 #[y, v]).run Tryz.prog w1 = .ok (.slice a2 n2 c2) w2 ∧
      (w1.cell? ⟨sb, 1, none⟩ = some x ∧ w1.cell? ⟨sb, 2, none⟩ = some y) ∧ (w2.cell? ⟨sb, 1, none⟩ = some x ∧ w2.cell? ⟨sb, 2, none⟩ = some y ∧ w2.frozen? ⟨sb, 1, none⟩ = false ∧ w2.frozen? ⟨sb, 2, none⟩ = false) ∧
      Hid (∀ F, F = (w2.setCell ⟨sb, 1, none⟩ (.slice a1 n1 c1)).setCell ⟨sb, 2, none⟩ (.slice a2 n2 c2) → Blk F sb (segC d (.slice a1 n1 c1) (.slice a2 n2 c2) st dead) 111 ∧ Row F 9 1 (.slice a1 n1 c1) (strV (E ++ l)) ∧ Row F 3 1 (.slice a2 n2 c2) (natsV (N ++ m)) ∧
        Kept (fun k => k = sb ∨ x.ownBlock = some k ∨ y.ownBlock = some k) w F ∧ (∀ k, (Value.slice a1 n1 c1).ownBlock = some k → x.ownBlock = some k ∨ w.heap.size ≤ k) ∧ (∀ k, (Value.slice a2 n2 c2).ownBlock = some k → y.ownBlock = some k ∨ w.heap.size ≤ k)) := by
  obtain ⟨i0, hi, hz0, hz1, hz2⟩ := info_parts info_str
  obtain ⟨j0, hj, hj0, hj1, hj2⟩ := info_parts info_int1
  have hxs : ∀ k, x.ownBlock = some k → k ≠ sb := fun k q e => hx.ne_blk q hb (by decide) e
  have hys : ∀ k, y.ownBlock = some k → k ≠ sb := fun k q e => hy.ne_blk q hb (by decide) e
  obtain ⟨v1, w1, r1, row1, k1, f1⟩ := hx.append_view (P := Tryz.prog) (t := 23) hu Tryz.underlying23 hi hz0 hz1 rfl (by omega) (by rw [hz2]; decide) (one_str l) (by rw [strV_len, strV_len]; omega) 23
  have b1 := hb.kept k1 (fun q => hxs sb q rfl)
  have y1 := hy.kept k1 (fun k q e => hx.ne_row hy (by decide) e q)
  have v1' := hv.kept k1 (fun g c t f hg q e => by
    have h1 := hkv g c t f hg q
    obtain ⟨c', f', h2⟩ := hx.cellsT e
    rw [hg] at h2
    cases h2
    exact absurd h1 (by decide)) (by omega)
  obtain ⟨v2, w2, r2, row2, k2, f2⟩ := y1.append_view (P := Tryz.prog) (t := 83) v1' Tryz.underlying83 hj hj0 hj1 rfl (by omega) (by rw [hj2]; decide) (one_nat m) (by rw [natsV_len, natsV_len]; omega) 83
  have b2 := b1.kept k2 (fun q => hys sb q rfl)
  have row1' := row1.kept k2 (fun k q e => row1.ne_row y1 (by decide) q e)
  obtain ⟨a1, n1, c1, rfl, _⟩ := row1.shape
  obtain ⟨a2, n2, c2, rfl, _⟩ := row2.shape
  have n1s : ∀ k, (Value.slice a1 n1 c1).ownBlock = some k → k ≠ sb := fun k q e => row1'.ne_blk q b2 (by decide) e
  have n2s : ∀ k, (Value.slice a2 n2 c2).ownBlock = some k → k ≠ sb := fun k q e => row2.ne_blk q b2 (by decide) e
  refine ⟨a1, n1, c1, w1, a2, n2, c2, w2, r1, r2, ⟨b1.cell (i := 1) rfl, b1.cell (i := 2) rfl⟩, ⟨b2.cell (i := 1) rfl, b2.cell (i := 2) rfl, b2.free 1, b2.free 2⟩, Lib.hid (fun F hF => ?_)⟩
  subst hF
  have kk : Kept (· = sb) w2 ((w2.setCell ⟨sb, 1, none⟩ (.slice a1 n1 c1)).setCell ⟨sb, 2, none⟩ (.slice a2 n2 c2)) := (kept_cell w2 sb 1 _).trans (kept_cell _ sb 2 _)
  refine ⟨(b2.set 1 _).set 2 _, ?_, ?_, ?_, f1, fun k q => ?_⟩
  · rw [strV_append]; exact row1'.kept kk (fun k q e => n1s k q e)
  · rw [natsV_append]; exact row2.kept kk (fun k q e => n2s k q e)
  · exact ((k1.mono (fun _ _ q => Or.inr (Or.inl q))).then_ k2 (fun _ _ q => Or.inr (Or.inr q))).then_ kk (fun _ _ q => Or.inl q)
  · rcases f2 k q with z | z
    · exact Or.inl z
    · exact Or.inr (Nat.le_trans k1.size z)
structure OpenS (w : World) (d ab sb : Nat) (st : Int) (tv : Value) (E : List By) (C : List Chg) (W : World) : Prop where
  ex : ∃ x y vs, Blk W sb (segC d x y st false) 111 ∧ Row W 9 1 x (strV E) ∧ Row W 3 1 y (natsV (endsE E)) ∧ Row W 159 1 tv vs ∧
    StepsOk W d (fun k => w.heap.size ≤ k ∧ k < W.heap.size ∧ k ≠ sb ∧ x.ownBlock ≠ some k ∧ y.ownBlock ≠ some k ∧ tv.ownBlock ≠ some k) vs C [] ∧ (∀ k, x.ownBlock = some k → w.heap.size ≤ k) ∧ (∀ k, y.ownBlock = some k → w.heap.size ≤ k) ∧ ∀ k, tv.ownBlock = some k → w.heap.size ≤ k
  da : Blk W ab [.pointer (some ⟨d, 0, none⟩)] 29
  kept : Kept (fun _ => False) w W
  ge : w.heap.size ≤ ab ∧ w.heap.size ≤ sb
structure OpenP (M : DiskM) (L : List By) (more : Bool) : Prop where
  files : segFiles M 64 0 = L ++ (if more = true then segFiles M (64 - L.length) L.length else [])
  full : more = true → (segE L).length = 64 * L.length
  few : L.length ≤ 64
theorem OpenS.same {w W W' : World} {d ab sb : Nat} {st : Int} {tv : Value} {E : List By} {C : List Chg} (h : OpenS w d ab sb st tv E C W) (hk : Kept (fun _ => False) W W') : OpenS w d ab sb st tv E C W' := by
  obtain ⟨⟨x, y, vs, h1, h2, h3, h4, h5, h6⟩, h7, h8, h9⟩ := h
  exact ⟨⟨x, y, vs, h1.kept hk id, h2.kept hk (fun _ _ => id), h3.kept hk (fun _ _ => id), h4.kept hk (fun _ _ => id), (h5.kept (fun k q => hk.block k q.2.1 id)).mono (fun k q => ⟨q.1, Nat.lt_of_lt_of_le q.2.1 hk.size, q.2.2⟩), h6⟩, h7.kept hk id, h8.trans hk, h9⟩
theorem OpenS.torn {w W : World} {d ab sb nb eb : Nat} {st n s : Int} {tv : Value} {E : List By} {C : List Chg} (h : OpenS w d ab sb st tv E C W) (hn : Blk W nb [.int .i64 n] 3) (he : Blk W eb [.int .i64 s] 3) (hl : w.heap.size ≤ nb ∧ w.heap.size ≤ eb) (n0 : -9223372036854775808 ≤ n ∧ n ≤ 9223372036854775807)
    (hc : C.length ≤ 1000) (hny : ∀ x y : Value, W.cell? ⟨sb, 1, none⟩ = some x → W.cell? ⟨sb, 2, none⟩ = some y → y.ownBlock ≠ some nb ∧ y.ownBlock ≠ some eb) :
    ∃ a m c W3, (Builtin.append_ #[112, 112] 112 #[tv, .slice (some ⟨W.heap.size, 0, none⟩) 1 1]).run Tryz.prog (W.alloc (.cells #[.func (.func 51) #[] #[.pointer (some ⟨ab, 0, none⟩), .pointer (some ⟨nb, 0, none⟩), .pointer (some ⟨eb, 0, none⟩)]] 159)) = .ok (.slice a m c) W3 ∧
      Hid (OpenS w d ab sb st (.slice a m c) E (C ++ [.cut n s]) W3 ∧ Kept (fun k => tv.ownBlock = some k) W W3) := by
  obtain ⟨⟨x, y, vs, h1, h2, h3, h4, h5, h6, h6b, h6c⟩, h7, h8, h9⟩ := h
  have hvl := h5.len
  obtain ⟨v', W3, hr, HH, a, m, c, rfl⟩ := append_step h4 (.func (.func 51) #[] #[.pointer (some ⟨ab, 0, none⟩), .pointer (some ⟨nb, 0, none⟩), .pointer (some ⟨eb, 0, none⟩)]) rfl (by omega)
  obtain ⟨g1, g2, g3⟩ := HH.out
  have hyy := hny x y (h1.cell (i := 1) rfl) (h1.cell (i := 2) rfl)
  have nt : ∀ b c t, Blk W b c t → 159 ≠ t → tv.ownBlock ≠ some b := fun b c t q ht e => h4.ne_blk e q ht rfl
  have hst := step_torn h7 hn he (n := n) (s := s) n0
  have hS := h5.append (B'' := fun k => w.heap.size ≤ k ∧ k < W.heap.size ∧ k ≠ sb ∧ x.ownBlock ≠ some k ∧ y.ownBlock ≠ some k ∧ tv.ownBlock ≠ some k) (StepsOk.one (B := fun k => k = ab ∨ k = nb ∨ k = eb) hst (fun _ => id)) (fun _ => id) (fun k q => ⟨by
    rcases q with rfl | rfl | rfl
    · exact ⟨h9.1, h7.lt, (by rintro rfl; unfold Blk at h1 h7; rw [h1] at h7; simp at h7), fun e => h2.ne_blk e h7 (by decide) rfl, fun e => h3.ne_blk e h7 (by decide) rfl, nt _ _ _ h7 (by decide)⟩
    · exact ⟨hl.1, hn.lt, (by rintro rfl; unfold Blk at h1 hn; rw [h1] at hn; simp at hn), fun e => h2.ne_blk e hn (by decide) rfl, hyy.1, nt _ _ _ hn (by decide)⟩
    · exact ⟨hl.2, he.lt, (by rintro rfl; unfold Blk at h1 he; rw [h1] at he; simp at he), fun e => h2.ne_blk e he (by decide) rfl, hyy.2, nt _ _ _ he (by decide)⟩, by simp⟩)
  refine ⟨a, m, c, W3, hr, Lib.hid ⟨⟨⟨x, y, _, h1.kept g2 (nt _ _ _ h1 (by decide)), h2.kept g2 (fun k q => h2.ne_row h4 (by decide) q), h3.kept g2 (fun k q => h3.ne_row h4 (by decide) q), g1, ?_, h6, h6b, fun k q => ?_⟩, h7.kept g2 (nt _ _ _ h7 (by decide)), h8.then_ g2 (fun i hi e => by have := h6c i e; omega), h9⟩, g2⟩⟩
  · refine (hS.kept (fun k q => g2.block k q.2.1 q.2.2.2.2.2)).mono (fun k q => ⟨q.1, Nat.lt_of_lt_of_le q.2.1 g2.size, q.2.2.1, q.2.2.2.1, q.2.2.2.2.1, fun e => ?_⟩)
    rcases g3 k e with z | z
    · exact q.2.2.2.2.2 z
    · have := q.2.1; omega
  · rcases g3 k q with z | z
    · exact h6c k z
    · have := h8.size; omega
theorem OpenS.rows {w W : World} {d ab sb : Nat} {st : Int} {tv u v : Value} {E l : List By} {C : List Chg} (h : OpenS w d ab sb st tv E C W) (hu : View W 1 u (strV l)) (hv : View W 1 v (natsV (endsE l))) (hle : E.length + l.length ≤ 10000) (h64 : E.length % 64 = 0)
    (hkv : ∀ g c t f, W.heap[g]? = some (.cells c t f) → v.ownBlock = some g → t = 3) :
    ∃ x y a1 n1 c1 w1 a2 n2 c2 w2, (Builtin.append_ #[23, 23] 23 #[x, u]).run Tryz.prog W = .ok (.slice a1 n1 c1) w1 ∧ (Builtin.append_ #[83, 83] 83 #[y, v]).run Tryz.prog w1 = .ok (.slice a2 n2 c2) w2 ∧ (W.cell? ⟨sb, 1, none⟩ = some x ∧ W.cell? ⟨sb, 2, none⟩ = some y) ∧
      (w1.cell? ⟨sb, 1, none⟩ = some x ∧ w1.cell? ⟨sb, 2, none⟩ = some y) ∧ (w2.cell? ⟨sb, 1, none⟩ = some x ∧ w2.cell? ⟨sb, 2, none⟩ = some y ∧ w2.frozen? ⟨sb, 1, none⟩ = false ∧ w2.frozen? ⟨sb, 2, none⟩ = false) ∧
      Hid (OpenS w d ab sb st tv (E ++ l) C ((w2.setCell ⟨sb, 1, none⟩ (.slice a1 n1 c1)).setCell ⟨sb, 2, none⟩ (.slice a2 n2 c2))) := by
  obtain ⟨⟨x, y, vs, h1, h2, h3, h4, h5, h6, h6b, h6c⟩, h7, h8, h9⟩ := h
  obtain ⟨a1, n1, c1, w1, a2, n2, c2, w2, r1, r2, q1, q2, HF⟩ := rows_more h1 h2 h3 hu hv (by omega) (by rw [endsE_len, endsE_len]; omega) hkv
  obtain ⟨g1, g2, g3, g4, g5, g6⟩ := HF.out _ rfl
  rw [← endsE_file E l h64] at g3
  refine ⟨x, y, a1, n1, c1, w1, a2, n2, c2, w2, r1, r2, ⟨h1.cell (i := 1) rfl, h1.cell (i := 2) rfl⟩, q1, q2, Lib.hid ⟨⟨_, _, vs, g1, g2, g3, h4.kept g4 (fun k q z => ?_), ?_, fun k q => ?_, fun k q => ?_, h6c⟩, h7.kept g4 (fun z => ?_), h8.then_ g4 (fun i hi z => ?_), h9⟩⟩
  · rcases z with rfl | z | z
    · exact h4.ne_blk q h1 (by decide) rfl
    · exact h4.ne_row h2 (by decide) q z
    · exact h4.ne_row h3 (by decide) q z
  · refine (h5.kept (fun k q => g4.block k q.2.1 (fun z => ?_))).mono (fun k q => ⟨q.1, Nat.lt_of_lt_of_le q.2.1 g4.size, q.2.2.1, fun e => ?_, fun e => ?_, q.2.2.2.2.2⟩)
    · rcases z with z | z | z
      · exact q.2.2.1 z
      · exact q.2.2.2.1 z
      · exact q.2.2.2.2.1 z
    · rcases g5 k e with z | z
      · exact q.2.2.2.1 z
      · have := q.2.1; omega
    · rcases g6 k e with z | z
      · exact q.2.2.2.2.1 z
      · have := q.2.1; omega
  · rcases g5 k q with z | z
    · exact h6 k z
    · have := h8.size; omega
  · rcases g6 k q with z | z
    · exact h6b k z
    · have := h8.size; omega
  · rcases z with z | z | z
    · subst z; unfold Blk at h1 h7; rw [h1] at h7; simp at h7
    · exact h2.ne_blk z h7 (by decide) rfl
    · exact h3.ne_blk z h7 (by decide) rfl
  · rcases z with z | z | z
    · omega
    · have := h6 i z; omega
    · have := h6b i z; omega
theorem segE_snoc (L : List By) (b : By) : segE (L ++ [b]) = segE L ++ fileE b := by simp [segE]
theorem tornC_snoc (L : List By) (b : By) : tornC 0 (L ++ [b]) = tornC 0 L ++ (if (framesF (fileE b)).length < b.length then [.cut (1000 + (L.length : Int)) ((framesF (fileE b)).length : Nat)] else []) := by
  rw [tornC_append, Nat.zero_add]
  simp [tornC]
theorem endsE_end (ps : List By) (h : ps.length ≤ 64) (h0 : ps ≠ []) : (endsE ps)[ps.length - 1]? = some (framesF ps).length := by
  have hl : 0 < ps.length := List.length_pos_iff.2 h0
  unfold endsE
  rw [endsG_last 0 0 ps (ps.length - 1) (by omega), endG_file 0 0 ps (by omega)]
  simp
theorem segE_len (L : List By) : (segE L).length ≤ 64 * L.length := by
  induction L with
  | nil => simp [segE]
  | cons b r ih =>
    have hb := fileE_len b
    have e : segE (b :: r) = fileE b ++ segE r := by simp [segE]
    rw [e, List.length_append, List.length_cons]
    omega
section
variable {M : DiskM} {L : List By}
theorem segFiles_some {f i : Nat} {b : By} (hg : AM.get M.files (1000 + (i : Int)) = some b) : segFiles M (f + 1) i = b :: if (fileE b).length = 64 then segFiles M f (i + 1) else [] := by
  show (match AM.get M.files (1000 + (i : Int)) with
    | none => []
    | some b => b :: if (fileE b).length = 64 then segFiles M f (i + 1) else []) = _
  rw [hg]
theorem segFiles_none {f i : Nat} (hg : AM.get M.files (1000 + (i : Int)) = none) : segFiles M (f + 1) i = [] := by
  show (match AM.get M.files (1000 + (i : Int)) with
    | none => []
    | some b => b :: if (fileE b).length = 64 then segFiles M f (i + 1) else []) = _
  rw [hg]
theorem OpenP.start (M : DiskM) : OpenP M [] true := ⟨by simp, fun _ => rfl, by simp⟩
theorem OpenP.step {b : By} (h : OpenP M L true) (hlt : (segE L).length < 4096) (hg : AM.get M.files (1000 + (L.length : Int)) = some b) : OpenP M (L ++ [b]) (decide ((fileE b).length = 64)) := by
  have h1 := h.full rfl
  have h2 := h.files
  rw [if_pos rfl, show 64 - L.length = (64 - (L.length + 1)) + 1 by omega, segFiles_some hg] at h2
  refine ⟨?_, fun hm => ?_, by simp; omega⟩
  · rw [h2, List.append_assoc, List.singleton_append, List.length_append, List.length_singleton]
    by_cases h64 : (fileE b).length = 64
    · rw [if_pos h64, if_pos (by simpa using h64)]
    · rw [if_neg h64, if_neg (by simpa using h64)]
  · have h64 : (fileE b).length = 64 := by simpa using hm
    rw [segE_snoc, List.length_append, List.length_append, List.length_singleton]
    omega
theorem OpenP.done {more : Bool} (h : OpenP M L more) (hd : more = false ∨ (more = true ∧ ¬ (segE L).length < 4096) ∨ (more = true ∧ (segE L).length < 4096 ∧ AM.get M.files (1000 + (L.length : Int)) = none)) : segFiles M 64 0 = L := by
  rcases hd with rfl | ⟨rfl, hn⟩ | ⟨rfl, hn, hg⟩
  · have h2 := h.files
    rw [if_neg (by simp), List.append_nil] at h2
    exact h2
  · have h1 := h.full rfl
    have h2 := h.files
    have h3 := h.few
    rw [if_pos rfl, show 64 - L.length = 0 by omega] at h2
    rw [h2]
    exact List.append_nil L
  · have h1 := h.full rfl
    have h2 := h.files
    rw [if_pos rfl, show 64 - L.length = (64 - (L.length + 1)) + 1 by omega] at h2
    rw [h2, segFiles_none hg]
    exact List.append_nil L
end
end Go.Proofs.YtlgeijbgkipliaaGreatDoor

namespace Go.Proofs.YtlgeijbgkipliaaGreatDoor
open Go.RowKit
structure IsSeg (w : World) (s d : Nat) (G : SegM) (S : Nat → Prop) : Prop where
  ex : ∃ x y, Blk w s (segC d x y G.starts G.dead) 111 ∧ Row w 9 1 x (strV G.entries) ∧ Row w 3 1 y (natsV (endsE G.entries)) ∧ (∀ k, x.ownBlock = some k → S k) ∧ ∀ k, y.ownBlock = some k → S k
  own : S s
  few : G.entries.length ≤ 4096
  short : ∀ p ∈ G.entries, p.length ≤ 200
def SegOpen (B : Nat → Prop) (d : Nat) (w : World) (st : Int) (r : Int × List By × DiskM) (e : Ending) (w' : World) : Prop :=
  (r.1 ≠ 0 ∧ e = .returned (.tuple #[.pointer none, .int .i64 r.1]) ∧ Apart B d r.2.2 w' ∧ Kept (fun k => ¬ B k) w w') ∨
  (r.1 = 0 ∧ ∃ s S, e = .returned (.tuple #[.pointer (some ⟨s, 0, none⟩), .int .i64 0]) ∧ IsSeg w' s d ⟨r.2.1, st, false⟩ S ∧ (∀ k, S k → w.heap.size ≤ k) ∧ Apart (fun k => B k ∨ S k) d r.2.2 w' ∧ Kept (fun k => ¬ B k) w w')
structure OpenT (w : World) (d ab sb : Nat) (st : Int) (v : Value) (E : List By) (C : List Chg) (W : World) : Prop where
  row : ∃ vs, Row W 159 1 v vs ∧ StepsOk W d (fun k => w.heap.size ≤ k ∧ k < W.heap.size ∧ v.ownBlock ≠ some k) vs C []
  own : ∀ k, v.ownBlock = some k → w.heap.size ≤ k
  seg : ∃ x y, Blk W sb (segC d x y st false) 111 ∧ Row W 9 1 x (strV E) ∧ Row W 3 1 y (natsV (endsE E)) ∧ (∀ k, x.ownBlock = some k → w.heap.size ≤ k) ∧ ∀ k, y.ownBlock = some k → w.heap.size ≤ k
  ge : w.heap.size ≤ sb
  kept : Kept (fun _ => False) w W
theorem one_step {w : World} {d : Nat} {vs : List Value} {cs : List Chg} {zs : List Nat} : ∀ {B : Nat → Prop}, StepsOk w d B vs cs zs → ∀ u ∈ vs, u.oneCell' = true := by
  induction vs generalizing cs zs with
  | nil => intro B _ u hu; cases hu
  | cons v vs ih => intro B h u hu; cases cs with
    | nil => exact h.elim
    | cons c cs =>
      obtain ⟨z, zr, R, _, ⟨f, first, caps, rfl, _⟩, _, h4⟩ := h
      rcases List.mem_cons.1 hu with rfl | hu
      · rfl
      · exact ih h4 u hu
theorem steps_cat {W : World} {d n : Nat} {x y : Value} {vs us : List Value} {cs bs : List Chg} (hx : Row W 159 1 x vs) (hy : Row W 159 1 y us) (hxy : ∀ k, x.ownBlock = some k → y.ownBlock ≠ some k) (hs : StepsOk W d (fun k => n ≤ k ∧ k < W.heap.size ∧ x.ownBlock ≠ some k) vs cs []) (ht : StepsOk W d (fun k => n ≤ k ∧ k < W.heap.size ∧ x.ownBlock ≠ some k) us bs [])
    (hl : vs.length + us.length ≤ 900000000) (hn : ∀ k, x.ownBlock = some k → n ≤ k) (hnw : n ≤ W.heap.size) :
    ∃ a m c W', (Builtin.append_ #[112, 112] 112 #[x, y]).run Tryz.prog W = .ok (.slice a m c) W' ∧ Row W' 159 1 (.slice a m c) (vs ++ us) ∧ StepsOk W' d (fun k => n ≤ k ∧ k < W'.heap.size ∧ (Value.slice a m c).ownBlock ≠ some k) (vs ++ us) (cs ++ bs) [] ∧ (∀ k, (Value.slice a m c).ownBlock = some k → n ≤ k) ∧ Kept (fun k => x.ownBlock = some k) W W' := by
  obtain ⟨i0, hi, hz0, hz1, hz2⟩ := info_parts info_step
  obtain ⟨v', W', hr, hrow, hk, ho⟩ := hx.append_view (P := Tryz.prog) (t := 112) hy.view Tryz.underlying112 hi hz0 hz1 rfl (by omega) (by rw [hz2]; decide) (one_step ht) (by omega) 112
  obtain ⟨a, m, c, rfl, _⟩ := hrow.shape
  refine ⟨a, m, c, W', hr, hrow, ?_, fun k q => ?_, hk⟩
  · have h2 := (hs.append ht (B'' := fun k => n ≤ k ∧ k < W.heap.size ∧ x.ownBlock ≠ some k) (fun _ => id) (fun k q => ⟨q, by simp⟩))
    refine (h2.kept (fun k q => hk.block k q.2.1 q.2.2)).mono (fun k q => ⟨q.1, Nat.lt_of_lt_of_le q.2.1 hk.size, fun e => ?_⟩)
    rcases ho k e with z | z
    · exact q.2.2 z
    · have := q.2.1; omega
  · rcases ho k q with z | z
    · exact hn k z
    · omega
theorem open_tail {w W W5 : World} {d ab sb : Nat} {st : Int} {tv : Value} {E : List By} {C : List Chg} {M : DiskM} {fr : Int} {e : Ending} (h : OpenS w d ab sb st tv E C W ∧ C.length ≤ 1000 ∧ M.files.length ≤ 400000000) (hp : DropPost W d M fr e W5) :
    ∃ dx dm dc, e = .returned (.slice dx dm dc) ∧ ∃ a1 m1 c1 W6 a2 m2 c2 W7, (Builtin.append_ #[112, 112] 112 #[.slice dx dm dc, tv]).run Tryz.prog W5 = .ok (.slice a1 m1 c1) W6 ∧ W6.cell? ⟨ab, 0, none⟩ = some (.pointer (some ⟨d, 0, none⟩)) ∧
      (Builtin.append_ #[112, 112] 112 #[.slice a1 m1 c1, .slice (some ⟨W6.heap.size, 0, none⟩) 1 1]).run Tryz.prog (W6.alloc (.cells #[.func (.func 55) #[.pointer (some ⟨d, 0, none⟩)] #[]] 159)) = .ok (.slice a2 m2 c2) W7 ∧ Hid (OpenT w d ab sb st (.slice a2 m2 c2) E (dropC M fr ++ C ++ [.sync]) W7) := by
  obtain ⟨h, hC, hF⟩ := h
  obtain ⟨dx, dm, dc, vs, rfl, p1, p2, p3, p4⟩ := hp
  have h5 := h.same p4
  have hw : w.heap.size ≤ W.heap.size := h.kept.size
  have hW5 := p4.size
  obtain ⟨g5, hlt⟩ : (∃ us, Row W5 159 1 tv us ∧ StepsOk W5 d (fun k => w.heap.size ≤ k ∧ k < W.heap.size) us C []) ∧ ∀ k, tv.ownBlock = some k → k < W.heap.size := by
    obtain ⟨⟨x, y, us, h1, h2, h3, h4, g5, g6, g6b, g6c⟩, h7, h8, h9⟩ := h
    exact ⟨⟨us, h4.kept p4 (fun _ _ => id), (g5.kept (fun k q => p4.block k q.2.1 id)).mono (fun k q => ⟨q.1, q.2.1⟩)⟩, fun k q => h4.lt q⟩
  obtain ⟨us, h4, g5⟩ := g5
  obtain ⟨⟨x, y, _, h1, h2, h3, _, _, g6, g6b, _⟩, h7, h8, h9⟩ := h5
  have hlc : (dropC M fr).length ≤ 400000000 := by
    unfold dropC
    rw [List.length_map]
    refine Nat.le_trans (List.length_filter_le _ _) ?_
    rw [List.length_reverse, List.length_map]
    exact hF
  have hl1 := p2.len
  have hl2 := g5.len
  have od : ∀ k, (Value.slice dx dm dc).ownBlock = some k → W.heap.size ≤ k := p3
  obtain ⟨a1, m1, c1, W6, r1, q1, q2, q3, q4⟩ := steps_cat (n := w.heap.size) p1 h4 (fun k q e => by have := od k q; have := hlt k e; omega) (p2.mono (fun k q => ⟨by omega, q.2.1, q.2.2⟩)) (g5.mono (fun k q => ⟨q.1, by omega, fun e => by have := od k e; omega⟩)) (by omega) (fun k q => Nat.le_trans hw (od k q)) (by omega)
  have nq : ∀ b c t, Blk W5 b c t → 159 ≠ t → (Value.slice dx dm dc).ownBlock ≠ some b := fun b c t q ht e => p1.ne_blk e q ht rfl
  have b6 := h1.kept q4 (nq _ _ _ h1 (by decide))
  have x6 := h2.kept q4 (fun k q => h2.ne_row p1 (by decide) q)
  have y6 := h3.kept q4 (fun k q => h3.ne_row p1 (by decide) q)
  have a6 := h7.kept q4 (nq _ _ _ h7 (by decide))
  have k6 : Kept (fun _ => False) w W6 := h8.then_ q4 (fun i hi e => by have := od i e; omega)
  obtain ⟨v7, W7, r2, HH, a2, m2, c2, rfl⟩ := append_step q1 (.func (.func 55) #[.pointer (some ⟨d, 0, none⟩)] #[]) rfl (by rw [List.length_append]; omega)
  obtain ⟨t1, t2, t3⟩ := HH.out
  have nq2 : ∀ b c t, Blk W6 b c t → 159 ≠ t → (Value.slice a1 m1 c1).ownBlock ≠ some b := fun b c t q ht e => q1.ne_blk e q ht rfl
  have hS := q2.append (B'' := fun k => w.heap.size ≤ k ∧ k < W6.heap.size ∧ (Value.slice a1 m1 c1).ownBlock ≠ some k) (StepsOk.one (B := fun _ => False) (step_sync W6 d) (fun _ => id)) (fun _ => id) (fun k q => q.elim)
  refine ⟨dx, dm, dc, rfl, a1, m1, c1, W6, a2, m2, c2, W7, r1, a6.cell (i := 0) rfl, r2, Lib.hid ⟨⟨_, t1, (hS.kept (fun k q => t2.block k q.2.1 q.2.2)).mono (fun k q => ⟨q.1, Nat.lt_of_lt_of_le q.2.1 t2.size, fun e => ?_⟩)⟩, fun k q => ?_, ⟨x, y, b6.kept t2 (nq2 _ _ _ b6 (by decide)), x6.kept t2 (fun k q => x6.ne_row q1 (by decide) q), y6.kept t2 (fun k q => y6.ne_row q1 (by decide) q), g6, g6b⟩, h9.2, k6.then_ t2 (fun i hi e => by have := q3 i e; omega)⟩⟩
  · rcases t3 k e with z | z
    · exact q.2.2 z
    · have := q.2.1; omega
  · rcases t3 k q with z | z
    · exact q3 k z
    · have := k6.size; omega
theorem open_all {w W : World} {d ab sb : Nat} {st : Int} {v : Value} {E : List By} {C : List Chg} {B : Nat → Prop} {M : DiskM} (h : Apart B d M w ∧ M.files.length + M.loose.length + C.length < 300000000) (hT : OpenT w d ab sb st v E C W) :
    Calls Tryz.prog 54 #[v] W (AllPost (fun k => B k ∨ (w.heap.size ≤ k ∧ k < W.heap.size)) d W [] (runAll C M)) := by
  obtain ⟨⟨vs, h1, h2⟩, h3, h4, h5, h6⟩ := hT
  exact all_any (h.1.grow h6 (fun _ _ => False.elim) (fun _ => id)) h1 (h2.mono (fun k q => Or.inr ⟨q.1, q.2.1⟩)) (fun k q => ⟨Or.inr ⟨h3 k q, h1.lt q⟩, by simp⟩) h.2
theorem open_end {w W W8 : World} {d ab sb : Nat} {st r : Int} {v : Value} {E : List By} {C : List Chg} {B : Nat → Prop} {M : DiskM} {e : Ending} (ho : M.openS = ((runAll C M).1, if (runAll C M).1 = 0 then E else [], (runAll C M).2) ∧ E.length ≤ 4096 ∧ (∀ p ∈ E, p.length ≤ 200) ∧ (runAll C M).1 = r) (h : Apart B d M w ∧ M.files.length + M.loose.length + C.length < 300000000) (hT : OpenT w d ab sb st v E C W)
    (ha : Apart (fun k => B k ∨ (w.heap.size ≤ k ∧ k < W.heap.size)) d (runAll C M).2 W8) (hk : Kept (fun k => ¬ (B k ∨ (w.heap.size ≤ k ∧ k < W.heap.size)) ∨ k ∈ []) W W8)
    (he : (r ≠ 0 ∧ e = .returned (.tuple #[.pointer none, .int .i64 r])) ∨ (r = 0 ∧ e = .returned (.tuple #[.pointer (some ⟨sb, 0, none⟩), .int .i64 0]))) : SegOpen B d w st M.openS e W8 := by
  obtain ⟨hT1, hT2, ⟨x, y, h1, h2, h3, h4, h5⟩, h6, h7⟩ := hT
  obtain ⟨e1, e2, e3, rfl⟩ := ho
  have hk2 : Kept (fun k => ¬ B k) w W8 := (h7.mono (fun _ _ => False.elim)).then_ hk (fun i hi q => by
    rcases q with q | q
    · exact fun hb => q (Or.inl hb)
    · cases q)
  have nn : ∀ k, w.heap.size ≤ k → k < W.heap.size → ¬ (¬ (B k ∨ (w.heap.size ≤ k ∧ k < W.heap.size)) ∨ k ∈ []) := fun k q1 q2 q => by
    rcases q with q | q
    · exact q (Or.inr ⟨q1, q2⟩)
    · cases q
  rw [e1]
  rcases he with ⟨h0, rfl⟩ | ⟨h0, rfl⟩
  · exact Or.inl ⟨h0, rfl, ha.fewer (fun k => Or.inl), hk2⟩
  · refine Or.inr ⟨h0, sb, fun k => k = sb ∨ x.ownBlock = some k ∨ y.ownBlock = some k, rfl, ?_, ?_, ha.fewer (fun k q => ?_), hk2⟩
    · simp only [if_pos h0]
      exact ⟨⟨x, y, h1.kept hk (nn sb h6 h1.lt), h2.kept hk (fun k q => nn k (h4 k q) (h2.lt q)), h3.kept hk (fun k q => nn k (h5 k q) (h3.lt q)), fun k q => Or.inr (Or.inl q), fun k q => Or.inr (Or.inr q)⟩, Or.inl rfl, e2, e3⟩
    · rintro k (rfl | q | q)
      · exact h6
      · exact h4 k q
      · exact h5 k q
    · rcases q with q | rfl | q | q
      · exact Or.inl q
      · exact Or.inr ⟨h6, h1.lt⟩
      · exact Or.inr ⟨h4 k q, h2.lt q⟩
      · exact Or.inr ⟨h5 k q, h3.lt q⟩
end Go.Proofs.YtlgeijbgkipliaaGreatDoor

namespace Go.Proofs.YtlgeijbgkipliaaGreatDoor
open Go.RowKit
theorem step_append_run2 {P : Program} {w : World} {ops : Array Oper} {o : Oper} {a : Act} {K : Act → World → Prop} {Q : Exit → Act → World → Prop} {E : Prop} (hgd : o.guard = none) (s x : Operand) (t tn : TypeId)
    (ho : o.op = .call { callee := .builtin .append, args := #[s, x], argTypes := #[t, tn] }) (vs vx : Value) (hs : a.eval s = vs) (hx : a.eval x = vx)
    (v' : Value) (w' : World) (hr : (Builtin.append_ #[t, tn] o.type #[vs, vx]).run P w = .ok v' w') (h : K (a.put o.dst v') w') :
    if Region.wanted o (yielded ops a.tmps) = true then Oper.wp P o a w K Q else E := by
  have hw : Region.wanted o (yielded ops a.tmps) = true := by simp [Region.wanted, hgd]
  rw [if_pos hw]
  exact Lib.wp_append_run w s x t tn ho vs vx hs hx v' w' hr h
section
variable {w wr W1 : World} {d ab sb : Nat} {st : Int} {tv u v : Value} {E l : List By} {C : List Chg}
structure Loaded (wr W1 : World) (u v : Value) (l : List By) : Prop where
  kept : Kept (fun _ => False) wr W1
  row1 : Row W1 9 1 u (strV l)
  row2 : Row W1 3 1 v (natsV (endsE l))
theorem Loaded.more {W2 : World} (h : Loaded wr W1 u v l) (hk : Kept (fun _ => False) W1 W2) : Loaded wr W2 u v l := ⟨h.kept.trans hk, h.row1.kept hk (fun _ _ => id), h.row2.kept hk (fun _ _ => id)⟩
theorem Row.viewT {w : World} {e : TypeId} {v : Value} {xs : List Value} (h : Row w e 1 v xs) : ∀ g c t f, w.heap[g]? = some (.cells c t f) → v.ownBlock = some g → t = e := fun g c t f hg q => by
  obtain ⟨c', f', h2⟩ := h.cellsT q
  rw [hg] at h2
  cases h2
  rfl
def RowsAt (w : World) (d ab sb : Nat) (st : Int) (tv u v : Value) (E : List By) (C : List Chg) (W : World) : Prop :=
  ∃ x y a1 n1 c1 w1 a2 n2 c2 w2, (Builtin.append_ #[23, 23] 23 #[x, u]).run Tryz.prog W = .ok (.slice a1 n1 c1) w1 ∧ (Builtin.append_ #[83, 83] 83 #[y, v]).run Tryz.prog w1 = .ok (.slice a2 n2 c2) w2 ∧ (W.cell? ⟨sb, 1, none⟩ = some x ∧ W.cell? ⟨sb, 2, none⟩ = some y) ∧
    (w1.cell? ⟨sb, 1, none⟩ = some x ∧ w1.cell? ⟨sb, 2, none⟩ = some y) ∧ (w2.cell? ⟨sb, 1, none⟩ = some x ∧ w2.cell? ⟨sb, 2, none⟩ = some y ∧ w2.frozen? ⟨sb, 1, none⟩ = false ∧ w2.frozen? ⟨sb, 2, none⟩ = false) ∧
    Hid (OpenS w d ab sb st tv E C ((w2.setCell ⟨sb, 1, none⟩ (.slice a1 n1 c1)).setCell ⟨sb, 2, none⟩ (.slice a2 n2 c2)))
structure EndAt (W1 Wx : World) (s : Int) : Prop where
  kept : Kept (fun _ => False) W1 Wx
  blk : Blk Wx W1.heap.size [.int .i64 s] 3
  size : Wx.heap.size = W1.heap.size + 1
theorem EndAt.new (W1 : World) (s : Int) : EndAt W1 (W1.alloc (.cells #[.int .i64 s] 3)) s := ⟨(Kept.refl _ _).alloc _, Blk.new W1 _ _, by simp⟩
theorem open_plain {Wx : World} {s n : Int} (hS : OpenS w d ab sb st tv E C wr) (hL : Loaded wr W1 u v l) (hx : EndAt W1 Wx s) (hle : E.length + l.length ≤ 10000) (h64 : E.length % 64 = 0) :
    RowsAt w d ab sb st tv u v (E ++ l) C (Wx.alloc (.cells #[.int .i64 n] 3)).drew := by
  have hk : Kept (fun _ => False) W1 (Wx.alloc (.cells #[.int .i64 n] 3)).drew := (hx.kept.alloc _).drew
  have h2 := hL.more hk
  exact (hS.same h2.kept).rows h2.row1.view h2.row2.view hle h64 h2.row2.viewT
theorem open_torn {Wx : World} {s n : Int} (hS : OpenS w d ab sb st tv E C wr) (hL : Loaded wr W1 u v l) (hx : EndAt W1 Wx s) (hle : E.length + l.length ≤ 10000) (h64 : E.length % 64 = 0) (n0 : -9223372036854775808 ≤ n ∧ n ≤ 9223372036854775807) (hc : C.length ≤ 1000) :
    ∃ a m c W3, (Builtin.append_ #[112, 112] 112 #[tv, .slice (some ⟨W1.heap.size + 1 + 1, 0, none⟩) 1 1]).run Tryz.prog ((Wx.alloc (.cells #[.int .i64 n] 3)).alloc (.cells #[.func (.func 51) #[] #[.pointer (some ⟨ab, 0, none⟩), .pointer (some ⟨W1.heap.size + 1, 0, none⟩), .pointer (some ⟨W1.heap.size, 0, none⟩)]] 159)) = .ok (.slice a m c) W3 ∧
      RowsAt w d ab sb st (.slice a m c) u v (E ++ l) (C ++ [.cut n s]) W3.drew := by
  obtain ⟨W2, hW2⟩ : ∃ W2, W2 = Wx.alloc (.cells #[.int .i64 n] 3) := ⟨_, rfl⟩
  have hk : Kept (fun _ => False) W1 W2 := by rw [hW2]; exact hx.kept.alloc _
  have h2 := hL.more hk
  have hS2 := hS.same h2.kept
  have hz : W2.heap.size = W1.heap.size + 1 + 1 := by rw [hW2]; simp [hx.size]
  have be : Blk W2 W1.heap.size [.int .i64 s] 3 := by rw [hW2]; exact hx.blk.alloc _
  have bn : Blk W2 (W1.heap.size + 1) [.int .i64 n] 3 := by
    have := Blk.new Wx [.int .i64 n] 3
    rw [hx.size] at this
    rw [hW2]
    exact this
  have hge : w.heap.size ≤ W1.heap.size := Nat.le_trans hS.kept.size hL.kept.size
  have hy : ∀ x y : Value, W2.cell? ⟨sb, 1, none⟩ = some x → W2.cell? ⟨sb, 2, none⟩ = some y → y.ownBlock ≠ some (W1.heap.size + 1) ∧ y.ownBlock ≠ some W1.heap.size := by
    intro x y _ c2
    obtain ⟨⟨x0, y0, vs, h1, h2', h3, _⟩, _⟩ := hS
    have := (h1.kept h2.kept id).cell (i := 2) rfl
    rw [c2] at this
    cases this
    have hl := hL.kept.size
    exact ⟨fun e => by have := h3.lt e; omega, fun e => by have := h3.lt e; omega⟩
  obtain ⟨a, m, c, W3, hr, HH⟩ := hS2.torn bn be (n := n) (s := s) ⟨by omega, hge⟩ n0 hc hy
  obtain ⟨g1, g2⟩ := HH.out
  rw [hz] at hr
  rw [← hW2]
  have tvs : ∃ vs, Row W2 159 1 tv vs := by obtain ⟨⟨_, _, vs, _, _, _, h4, _⟩, _⟩ := hS2; exact ⟨vs, h4⟩
  obtain ⟨vs, htv⟩ := tvs
  have r1 := h2.row1.kept g2 (fun k q => h2.row1.ne_row htv (by decide) q)
  have r2 := h2.row2.kept g2 (fun k q => h2.row2.ne_row htv (by decide) q)
  exact ⟨a, m, c, W3, hr, (g1.same (Kept.refl _ _).drew).rows r1.drew.view r2.drew.view hle h64 r2.drew.viewT⟩
theorem OpenS.cells {W : World} (h : OpenS w d ab sb st tv E C W) : W.cell? ⟨ab, 0, none⟩ = some (.pointer (some ⟨d, 0, none⟩)) ∧ ∃ x y, W.cell? ⟨sb, 1, none⟩ = some x ∧ W.cell? ⟨sb, 2, none⟩ = some y ∧ (∃ a m c, x = .slice a m c ∧ m = E.length) ∧ ∃ a m c, y = .slice a m c := by
  obtain ⟨⟨x, y, vs, h1, h2, h3, _⟩, h7, _⟩ := h
  obtain ⟨a, m, c, hx, hm, _⟩ := h2.shape
  obtain ⟨a', m', c', hy, _⟩ := h3.shape
  rw [strV_len, Nat.mul_one] at hm
  exact ⟨h7.cell (i := 0) rfl, x, y, h1.cell (i := 1) rfl, h1.cell (i := 2) rfl, ⟨a, m, c, hx, hm⟩, a', m', c', hy⟩
theorem open_start (w : World) (d : Nat) (st : Int) : OpenS w d w.heap.size (w.heap.size + 1) st (.slice none 0 0) [] [] ((w.alloc (.cells #[.pointer (some ⟨d, 0, none⟩)] 29)).alloc (.cells #[.pointer (some ⟨d, 0, none⟩), .slice none 0 0, .slice none 0 0, .int .i64 st, .bool false] 111)).drew := by
  have b1 := ((Blk.new w [.pointer (some ⟨d, 0, none⟩)] 29).alloc (.cells #[.pointer (some ⟨d, 0, none⟩), .slice none 0 0, .slice none 0 0, .int .i64 st, .bool false] 111)).drew
  have b2 := (Blk.new (w.alloc (.cells #[.pointer (some ⟨d, 0, none⟩)] 29)) (segC d (.slice none 0 0) (.slice none 0 0) st false) 111).drew
  rw [World.size_alloc] at b2
  refine ⟨⟨.slice none 0 0, .slice none 0 0, [], b2, Row.nil _ _ _, Row.nil _ _ _, Row.nil _ _ _, rfl, ?_, ?_, ?_⟩, b1, (((Kept.refl _ _).alloc _).alloc _).drew, by omega⟩
  all_goals
    intro k q
    simp [Value.ownBlock] at q
end
end Go.Proofs.YtlgeijbgkipliaaGreatDoor

namespace Go.Proofs.YtlgeijbgkipliaaGreatDoor
open Go.RowKit
def segOps17 : Array Oper := #[
  ⟨some 68, .move (.tmp 6), 40, "segments.go:89", #[], none⟩,
  ⟨some 69, .move (.tmp 6), 40, "segments.go:89", #[⟨16, .gcOnly .lateStores⟩], none⟩,
  ⟨some 70, .move (.tmp 6), 40, "segments.go:89", #[], none⟩,
  ⟨some 71, .nilCheck (.tmp 70), 0, "segments.go:89", #[⟨2, .data⟩], none⟩,
  ⟨some 72, .fieldAddr 111 (.tmp 71) 1, 0, "segments.go:89", #[⟨3, .data⟩], none⟩,
  ⟨some 73, .load 23 (.tmp 72), 23, "segments.go:89", #[⟨4, .data⟩], none⟩,
  ⟨some 74, .move (.tmp 10), 23, "segments.go:89", #[], none⟩,
  ⟨some 75, .call { callee := .builtin .append, args := #[.tmp 73, .tmp 74], argTypes := #[23, 23] }, 23, "segments.go:89", #[⟨5, .data⟩, ⟨6, .data⟩], none⟩,
  ⟨some 76, .move (.tmp 6), 40, "segments.go:89", #[], none⟩,
  ⟨some 77, .nilCheck (.tmp 76), 0, "segments.go:89", #[⟨8, .data⟩], none⟩,
  ⟨some 78, .fieldAddr 111 (.tmp 77) 2, 0, "segments.go:89", #[⟨9, .data⟩], none⟩,
  ⟨some 79, .load 83 (.tmp 78), 83, "segments.go:89", #[⟨10, .data⟩], none⟩,
  ⟨some 80, .move (.tmp 11), 83, "segments.go:89", #[], none⟩,
  ⟨some 81, .call { callee := .builtin .append, args := #[.tmp 79, .tmp 80], argTypes := #[83, 83] }, 83, "segments.go:89", #[⟨11, .data⟩, ⟨12, .data⟩, ⟨7, .chain⟩], none⟩,
  ⟨some 82, .nilCheck (.tmp 68), 0, "segments.go:89", #[⟨0, .data⟩, ⟨0, .phase⟩, ⟨1, .textOnly .lateStores⟩, ⟨2, .phase⟩, ⟨3, .phase⟩, ⟨4, .phase⟩, ⟨5, .phase⟩, ⟨6, .phase⟩, ⟨7, .phase⟩, ⟨8, .textOnly .lateStores⟩, ⟨9, .textOnly .lateStoresUnsure⟩, ⟨10, .textOnly .lateStoresUnsure⟩, ⟨11, .phase⟩, ⟨12, .textOnly .lateStores⟩, ⟨13, .phase⟩], none⟩,
  ⟨some 83, .fieldAddr 111 (.tmp 82) 1, 0, "segments.go:89", #[⟨14, .data⟩, ⟨0, .phase⟩, ⟨1, .textOnly .lateStores⟩, ⟨2, .phase⟩, ⟨3, .phase⟩, ⟨4, .phase⟩, ⟨5, .phase⟩, ⟨6, .phase⟩, ⟨7, .phase⟩, ⟨8, .textOnly .lateStores⟩, ⟨9, .textOnly .lateStoresUnsure⟩, ⟨10, .textOnly .lateStoresUnsure⟩, ⟨11, .phase⟩, ⟨12, .textOnly .lateStores⟩, ⟨13, .phase⟩], none⟩,
  ⟨none, .store 23 (.tmp 83) (.tmp 75), 0, "segments.go:89", #[⟨15, .data⟩, ⟨7, .data⟩, ⟨13, .chain⟩, ⟨0, .phase⟩, ⟨1, .textOnly .lateStores⟩, ⟨2, .phase⟩, ⟨3, .phase⟩, ⟨4, .phase⟩, ⟨5, .phase⟩, ⟨6, .phase⟩, ⟨7, .phase⟩, ⟨8, .textOnly .lateStores⟩, ⟨9, .textOnly .lateStoresUnsure⟩, ⟨10, .textOnly .lateStoresUnsure⟩, ⟨11, .phase⟩, ⟨12, .textOnly .lateStores⟩, ⟨13, .phase⟩], none⟩,
  ⟨some 84, .nilCheck (.tmp 69), 0, "segments.go:89", #[⟨1, .data⟩, ⟨0, .phase⟩, ⟨1, .phase⟩, ⟨2, .phase⟩, ⟨3, .phase⟩, ⟨4, .phase⟩, ⟨5, .phase⟩, ⟨6, .phase⟩, ⟨7, .phase⟩, ⟨8, .phase⟩, ⟨9, .phase⟩, ⟨10, .phase⟩, ⟨11, .phase⟩, ⟨12, .phase⟩, ⟨13, .phase⟩, ⟨14, .phase⟩, ⟨15, .phase⟩, ⟨16, .phase⟩], none⟩,
  ⟨some 85, .fieldAddr 111 (.tmp 84) 2, 0, "segments.go:89", #[⟨17, .data⟩, ⟨0, .phase⟩, ⟨1, .phase⟩, ⟨2, .phase⟩, ⟨3, .phase⟩, ⟨4, .phase⟩, ⟨5, .phase⟩, ⟨6, .phase⟩, ⟨7, .phase⟩, ⟨8, .phase⟩, ⟨9, .phase⟩, ⟨10, .phase⟩, ⟨11, .phase⟩, ⟨12, .phase⟩, ⟨13, .phase⟩, ⟨14, .phase⟩, ⟨15, .phase⟩, ⟨16, .phase⟩], none⟩,
  ⟨none, .store 83 (.tmp 85) (.tmp 81), 0, "segments.go:89", #[⟨18, .data⟩, ⟨13, .data⟩, ⟨16, .chain⟩, ⟨0, .phase⟩, ⟨1, .phase⟩, ⟨2, .phase⟩, ⟨3, .phase⟩, ⟨4, .phase⟩, ⟨5, .phase⟩, ⟨6, .phase⟩, ⟨7, .phase⟩, ⟨8, .phase⟩, ⟨9, .phase⟩, ⟨10, .phase⟩, ⟨11, .phase⟩, ⟨12, .phase⟩, ⟨13, .phase⟩, ⟨14, .phase⟩, ⟨15, .phase⟩, ⟨16, .phase⟩], none⟩]
set_option maxRecDepth 100000 in
set_option maxHeartbeats 4000000 in
theorem seg_reg17 {sb : Nat} {u v px py : Value} {a1 a2 : Option Addr} {n1 c1 n2 c2 : Nat} {W w1 w2 : World} {Q : Exit → Act → World → Prop} {u0 u1 u2 u3 u4 u5 u7 u8 u9 u12 u13 u14 u15 u16 u17 u18 u19 u20 u21 u22 u23 u24 u25 u26 u27 u28 u29 u30 u31 u32 u33 u34 u35 u36 u37 u38 u39 u40 u41 u42 u43 u44 u45 u46 u47 u48 u49 u50 u51 u52 u53 u54 u55 u56 u57 u58 u59 u60 u61 u62 u63 u64 u65 u66 u67 u68 u69 u70 u71 u72 u73 u74 u75 u76 u77 u78 u79 u80 u81 u82 u83 u84 u85 u86 u87 u88 u89 u90 u91 u92 u93 u94 u95 u96 u97 u98 u99 u100 u101 u102 u103 u104 u105 : Value}
    (r1 : (Builtin.append_ #[23, 23] 23 #[px, u]).run Tryz.prog W.drew = .ok (.slice a1 n1 c1) w1) (r2 : (Builtin.append_ #[83, 83] 83 #[py, v]).run Tryz.prog w1 = .ok (.slice a2 n2 c2) w2)
    (q0a : W.drew.cell? ⟨sb, 1, none⟩ = some px) (q0b : W.drew.cell? ⟨sb, 2, none⟩ = some py) (q2a : w1.cell? ⟨sb, 1, none⟩ = some px) (q2b : w1.cell? ⟨sb, 2, none⟩ = some py)
    (q3a : w2.cell? ⟨sb, 1, none⟩ = some px) (q3b : w2.cell? ⟨sb, 2, none⟩ = some py) (q3c : w2.frozen? ⟨sb, 1, none⟩ = false) (q3d : w2.frozen? ⟨sb, 2, none⟩ = false)
    (HP : ∀ c a (k : Nat) v w, Q (.panic c) (Act.put a (some k) v) w → Q (.panic c) a w) (HQ : ∀ (v68 v69 v70 v71 v72 v73 v74 v75 v76 v77 v78 v79 v80 v81 v82 v83 v84 v85 : Value), Q .normal ⟨List.toArray (u0 :: u1 :: u2 :: u3 :: u4 :: u5 :: (.pointer (some ⟨sb, 0, none⟩)) :: u7 :: u8 :: u9 :: (u) :: (v) :: u12 :: u13 :: u14 :: u15 :: u16 :: u17 :: u18 :: u19 :: u20 :: u21 :: u22 :: u23 :: u24 :: u25 :: u26 :: u27 :: u28 :: u29 :: u30 :: u31 :: u32 :: u33 :: u34 :: u35 :: u36 :: u37 :: u38 :: u39 :: u40 :: u41 :: u42 :: u43 :: u44 :: u45 :: u46 :: u47 :: u48 :: u49 :: u50 :: u51 :: u52 :: u53 :: u54 :: u55 :: u56 :: u57 :: u58 :: u59 :: u60 :: u61 :: u62 :: u63 :: u64 :: u65 :: u66 :: u67 :: v68 :: v69 :: v70 :: v71 :: v72 :: v73 :: v74 :: v75 :: v76 :: v77 :: v78 :: v79 :: v80 :: v81 :: v82 :: v83 :: v84 :: v85 :: u86 :: u87 :: u88 :: u89 :: u90 :: u91 :: u92 :: u93 :: u94 :: u95 :: u96 :: u97 :: u98 :: u99 :: u100 :: u101 :: u102 :: u103 :: u104 :: u105 :: []), []⟩ ((w2.setCell ⟨sb, 1, none⟩ (.slice a1 n1 c1)).setCell ⟨sb, 2, none⟩ (.slice a2 n2 c2))) :
    Code.wp Tryz.prog (Code.region 17 segOps17 true) Q ⟨List.toArray (u0 :: u1 :: u2 :: u3 :: u4 :: u5 :: (.pointer (some ⟨sb, 0, none⟩)) :: u7 :: u8 :: u9 :: (u) :: (v) :: u12 :: u13 :: u14 :: u15 :: u16 :: u17 :: u18 :: u19 :: u20 :: u21 :: u22 :: u23 :: u24 :: u25 :: u26 :: u27 :: u28 :: u29 :: u30 :: u31 :: u32 :: u33 :: u34 :: u35 :: u36 :: u37 :: u38 :: u39 :: u40 :: u41 :: u42 :: u43 :: u44 :: u45 :: u46 :: u47 :: u48 :: u49 :: u50 :: u51 :: u52 :: u53 :: u54 :: u55 :: u56 :: u57 :: u58 :: u59 :: u60 :: u61 :: u62 :: u63 :: u64 :: u65 :: u66 :: u67 :: u68 :: u69 :: u70 :: u71 :: u72 :: u73 :: u74 :: u75 :: u76 :: u77 :: u78 :: u79 :: u80 :: u81 :: u82 :: u83 :: u84 :: u85 :: u86 :: u87 :: u88 :: u89 :: u90 :: u91 :: u92 :: u93 :: u94 :: u95 :: u96 :: u97 :: u98 :: u99 :: u100 :: u101 :: u102 :: u103 :: u104 :: u105 :: []), []⟩ W := by
  have HQ := Lib.hid HQ
  unfold segOps17
  refine wp_region_held_drew (S := (fun _ => True)) (by kernel_rfl) trivial (fun hH0 => ?_)
  refine tk 0 rfl (HP · · _ _ ·) hH0 ?_
  refine tk 1 rfl (HP · · _ _ ·) hH0 ?_
  refine tk 2 rfl (HP · · _ _ ·) hH0 ?_
  refine tk 3 rfl (HP · · _ _ ·) hH0 ?_
  refine tk 4 rfl (HP · · _ _ ·) hH0 ?_
  refine tk 6 rfl (HP · · _ _ ·) hH0 ?_
  refine tk 8 rfl (HP · · _ _ ·) hH0 ?_
  refine tk 9 rfl (HP · · _ _ ·) hH0 ?_
  refine tk 10 rfl (HP · · _ _ ·) hH0 ?_
  refine tk 12 rfl (HP · · _ _ ·) hH0 ?_
  refine wpAnyH_ready (rs := [5, 11]) (by kernel_rfl) (by simp) ?_
  refine AllReadyH.cons (o := ⟨some 73, .load 23 (.tmp 72), 23, "segments.go:89", #[⟨4, .data⟩], none⟩) rfl (fun K hK => ?_) ?_
  · go_simp
    refine hK.out _ _ (trivial) (fun hH1 => ?_)
    clear hK K
    try simp only [lyA, lyB, lyC, lyD]
    refine wpAnyH_ready (rs := [7, 11]) (by kernel_rfl) (by simp) ?_
    refine AllReadyH.cons (o := ⟨some 75, .call { callee := .builtin .append, args := #[.tmp 73, .tmp 74], argTypes := #[23, 23] }, 23, "segments.go:89", #[⟨5, .data⟩, ⟨6, .data⟩], none⟩) rfl (fun K hK => ?_) ?_
    · (with_reducible refine step_append_run2 ?_ ?_ ?_ 23 23 ?_ _ _ ?_ ?_ _ _ r1 ?_)
      exact rfl
      rotate_left 2
      exact rfl
      exact rfl
      exact rfl
      try simp only [lyA, lyB, lyC, lyD]
      refine hK.out _ _ (trivial) (fun hH2 => ?_)
      clear hK K
      try simp only [lyA, lyB, lyC, lyD]
      refine rd1 11 (fun K hK => ?_)
      go_simp
      refine hK.out _ _ (trivial) (fun hH3 => ?_)
      clear hK K
      try simp only [lyA, lyB, lyC, lyD]
      refine rd1 13 (fun K hK => ?_)
      (with_reducible refine step_append_run2 ?_ ?_ ?_ 83 83 ?_ _ _ ?_ ?_ _ _ r2 ?_)
      exact rfl
      rotate_left 2
      exact rfl
      exact rfl
      exact rfl
      try simp only [lyA, lyB, lyC, lyD]
      refine hK.out _ _ (trivial) (fun hH4 => ?_)
      clear hK K
      try simp only [lyA, lyB, lyC, lyD]
      refine tk 14 rfl (HP · · _ _ ·) hH4 ?_
      refine tk 15 rfl (HP · · _ _ ·) hH4 ?_
      refine rd1 16 (fun K hK => ?_)
      go_simp
      refine hK.out _ _ (trivial) (fun hH5 => ?_)
      clear hK K
      try simp only [lyA, lyB, lyC, lyD]
      refine tk 17 rfl (HP · · _ _ ·) hH5 ?_
      refine tk 18 rfl (HP · · _ _ ·) hH5 ?_
      refine rd1 19 (fun K hK => ?_)
      go_simp
      refine hK.out _ _ (trivial) (fun hH6 => ?_)
      clear hK K
      try simp only [lyA, lyB, lyC, lyD]
      refine wpAnyH_done (by kernel_rfl) ?_ _
      exact HQ.out _ _ _ _ _ _ _ _ _ _ _ _ _ _ _ _ _ _
    refine AllReadyH.cons (o := ⟨some 79, .load 83 (.tmp 78), 83, "segments.go:89", #[⟨10, .data⟩], none⟩) rfl (fun K hK => ?_) AllReadyH.nil
    go_simp
    refine hK.out _ _ (trivial) (fun hH2 => ?_)
    clear hK K
    try simp only [lyA, lyB, lyC, lyD]
    refine rd1 7 (fun K hK => ?_)
    (with_reducible refine step_append_run2 ?_ ?_ ?_ 23 23 ?_ _ _ ?_ ?_ _ _ r1 ?_)
    exact rfl
    rotate_left 2
    exact rfl
    exact rfl
    exact rfl
    try simp only [lyA, lyB, lyC, lyD]
    refine hK.out _ _ (trivial) (fun hH3 => ?_)
    clear hK K
    try simp only [lyA, lyB, lyC, lyD]
    refine rd1 13 (fun K hK => ?_)
    (with_reducible refine step_append_run2 ?_ ?_ ?_ 83 83 ?_ _ _ ?_ ?_ _ _ r2 ?_)
    exact rfl
    rotate_left 2
    exact rfl
    exact rfl
    exact rfl
    try simp only [lyA, lyB, lyC, lyD]
    refine hK.out _ _ (trivial) (fun hH4 => ?_)
    clear hK K
    try simp only [lyA, lyB, lyC, lyD]
    refine tk 14 rfl (HP · · _ _ ·) hH4 ?_
    refine tk 15 rfl (HP · · _ _ ·) hH4 ?_
    refine rd1 16 (fun K hK => ?_)
    go_simp
    refine hK.out _ _ (trivial) (fun hH5 => ?_)
    clear hK K
    try simp only [lyA, lyB, lyC, lyD]
    refine tk 17 rfl (HP · · _ _ ·) hH5 ?_
    refine tk 18 rfl (HP · · _ _ ·) hH5 ?_
    refine rd1 19 (fun K hK => ?_)
    go_simp
    refine hK.out _ _ (trivial) (fun hH6 => ?_)
    clear hK K
    try simp only [lyA, lyB, lyC, lyD]
    refine wpAnyH_done (by kernel_rfl) ?_ _
    exact HQ.out _ _ _ _ _ _ _ _ _ _ _ _ _ _ _ _ _ _
  refine AllReadyH.cons (o := ⟨some 79, .load 83 (.tmp 78), 83, "segments.go:89", #[⟨10, .data⟩], none⟩) rfl (fun K hK => ?_) AllReadyH.nil
  go_simp
  refine hK.out _ _ (trivial) (fun hH1 => ?_)
  clear hK K
  try simp only [lyA, lyB, lyC, lyD]
  refine rd1 5 (fun K hK => ?_)
  go_simp
  refine hK.out _ _ (trivial) (fun hH2 => ?_)
  clear hK K
  try simp only [lyA, lyB, lyC, lyD]
  refine rd1 7 (fun K hK => ?_)
  (with_reducible refine step_append_run2 ?_ ?_ ?_ 23 23 ?_ _ _ ?_ ?_ _ _ r1 ?_)
  exact rfl
  rotate_left 2
  exact rfl
  exact rfl
  exact rfl
  try simp only [lyA, lyB, lyC, lyD]
  refine hK.out _ _ (trivial) (fun hH3 => ?_)
  clear hK K
  try simp only [lyA, lyB, lyC, lyD]
  refine rd1 13 (fun K hK => ?_)
  (with_reducible refine step_append_run2 ?_ ?_ ?_ 83 83 ?_ _ _ ?_ ?_ _ _ r2 ?_)
  exact rfl
  rotate_left 2
  exact rfl
  exact rfl
  exact rfl
  try simp only [lyA, lyB, lyC, lyD]
  refine hK.out _ _ (trivial) (fun hH4 => ?_)
  clear hK K
  try simp only [lyA, lyB, lyC, lyD]
  refine tk 14 rfl (HP · · _ _ ·) hH4 ?_
  refine tk 15 rfl (HP · · _ _ ·) hH4 ?_
  refine rd1 16 (fun K hK => ?_)
  go_simp
  refine hK.out _ _ (trivial) (fun hH5 => ?_)
  clear hK K
  try simp only [lyA, lyB, lyC, lyD]
  refine tk 17 rfl (HP · · _ _ ·) hH5 ?_
  refine tk 18 rfl (HP · · _ _ ·) hH5 ?_
  refine rd1 19 (fun K hK => ?_)
  go_simp
  refine hK.out _ _ (trivial) (fun hH6 => ?_)
  clear hK K
  try simp only [lyA, lyB, lyC, lyD]
  refine wpAnyH_done (by kernel_rfl) ?_ _
  exact HQ.out _ _ _ _ _ _ _ _ _ _ _ _ _ _ _ _ _ _
end Go.Proofs.YtlgeijbgkipliaaGreatDoor

namespace Go.Proofs.YtlgeijbgkipliaaGreatDoor
open Go.RowKit
theorem tornC_len (i : Nat) (L : List By) : (tornC i L).length ≤ L.length := by
  induction L generalizing i with
  | nil => simp [tornC]
  | cons b r ih =>
    unfold tornC
    rw [List.length_append, List.length_cons]
    have := ih (i + 1)
    split
    · simp; omega
    · simp; omega
theorem segFiles_len (M : DiskM) (f i : Nat) : (segFiles M f i).length ≤ f := by
  induction f generalizing i with
  | zero => simp [segFiles]
  | succ f ih =>
    unfold segFiles
    split
    · simp
    · split
      · have := ih (i + 1); simp; omega
      · simp
theorem dropC_len (M : DiskM) (fr : Int) : (dropC M fr).length ≤ M.files.length := by
  unfold dropC
  rw [List.length_map]
  refine Nat.le_trans (List.length_filter_le _ _) ?_
  rw [List.length_reverse, List.length_map]
  exact Nat.le_refl _
theorem openC_len (M : DiskM) : M.openC.length ≤ M.files.length + 65 := by
  unfold DiskM.openC
  rw [List.length_append, List.length_append]
  have h1 := dropC_len M (1000 + ((segFiles M 64 0).length : Nat))
  have h2 := tornC_len 0 (segFiles M 64 0)
  have h3 := segFiles_len M 64 0
  simp only [List.length_singleton]
  omega
theorem num_zero (r : Int) : r = 0 ∨ (r ≠ 0 ∧ (r == 0) = false ∧ decide (r = 0) = false) := by
  rcases Classical.em (r = 0) with h | h
  · exact Or.inl h
  · exact Or.inr ⟨h, by simpa using h, decide_eq_false h⟩
theorem segE_short (L : List By) : ∀ p ∈ segE L, p.length ≤ 200 := by
  intro p hp
  obtain ⟨b, _, hb⟩ := List.mem_flatMap.1 hp
  exact fileE_short b p hb
theorem load_lens {W : World} {ua va : Option Addr} {um uc vm vc : Nat} {l : List By} (hu : Row W 9 1 (.slice ua um uc) (strV l)) (hv : Row W 3 1 (.slice va vm vc) (natsV (endsE l))) : um = l.length ∧ vm = l.length := by
  obtain ⟨_, _, _, e, h1, _⟩ := hu.shape
  cases e
  obtain ⟨_, _, _, e, h2, _⟩ := hv.shape
  cases e
  rw [strV_len] at h1
  rw [natsV_len, endsE_len] at h2
  omega
theorem load_end {W : World} {va : Option Addr} {vc : Nat} {l : List By} (hv : Row W 3 1 (.slice va l.length vc) (natsV (endsE l))) (hl : l.length ≤ 64) (h0 : l ≠ []) :
    ∃ g, va = some ⟨g, 0, none⟩ ∧ (W.alloc (.cells #[.int .i64 0] 3)).cell? ⟨g, l.length - 1, none⟩ = some (.int .i64 ((framesF l).length : Nat)) := by
  obtain ⟨_, _, _, e, _, _, hc⟩ := hv.form (by omega)
  cases e
  obtain ⟨g, rfl, _, hc⟩ := hc (List.length_pos_iff.2 h0)
  refine ⟨g, rfl, Lib.cell?_alloc_some _ (hc _ _ ?_)⟩
  unfold natsV
  rw [List.getElem?_map, endsE_end l hl h0]
  rfl
theorem round_open {w W : World} {d ab sb : Nat} {st : Int} {a : Option Addr} {m c : Nat} {L : List By} {b : By} {C : List Chg} {M : DiskM} (hS : OpenS w d ab sb st (.slice a m c) (segE L ++ fileE b) C W) (e : tornC 0 (L ++ [b]) = C) (hP : OpenP M (L ++ [b]) (decide ((fileE b).length = 64))) (hl : L.length ≤ 64) :
    (∃ (L1 : List By) (more : Bool) (a' : Option Addr) (m' c' : Nat), Value.int .i64 (1000 + (L.length : Int) + 1) = .int .i64 (1000 + (L1.length : Int)) ∧ Value.slice a m c = .slice a' m' c' ∧ Value.bool (((fileE b).length : Int) == 64) = .bool more ∧ OpenS w d ab sb st (.slice a' m' c') (segE L1) (tornC 0 L1) W ∧ OpenP M L1 more) ∧
      (2000 - intOf (Value.int .i64 (1000 + (L.length : Int) + 1))).toNat < (2000 - intOf (Value.int .i64 (1000 + (L.length : Int)))).toNat := by
  refine ⟨⟨L ++ [b], decide ((fileE b).length = 64), a, m, c, ?_, rfl, ?_, ?_, hP⟩, ?_⟩
  · rw [List.length_append, List.length_singleton]
    rw [show 1000 + (L.length : Int) + 1 = 1000 + ((L.length + 1 : Nat) : Int) by omega]
  · congr 1
    rw [Bool.eq_iff_iff, beq_iff_eq, decide_eq_true_eq]
    omega
  · rw [segE_snoc, e]; exact hS
  · simp only [intOf]; omega
section
variable {w : World} {d : Nat} {B : Nat → Prop} {M : DiskM}
set_option maxRecDepth 100000 in
set_option maxHeartbeats 16000000 in
theorem segOpen_up (h : Apart B d M w) (hdn : M.down = false) (hc : M.files.length + M.loose.length < 100000000) (ht : Tab w) :
    Calls Tryz.prog 15 #[.pointer (some ⟨d, 0, none⟩)] w (SegOpen B d w M.starts M.openS) := by
  obtain ⟨W1, hW1⟩ : ∃ W1, W1 = w.alloc (.cells #[.pointer (some ⟨d, 0, none⟩)] 29) := ⟨_, rfl⟩
  have k1 : Kept (fun _ => False) w W1 := by rw [hW1]; exact (Kept.refl _ _).alloc _
  have hup := up_ap (h.same k1) (b := true) (by rw [hdn]; rfl)
  have hst := starts_ap (h.same k1.drew) (r := M.starts) rfl
  have c1 : W1.drew.cell? ⟨w.heap.size, 0, none⟩ = some (.pointer (some ⟨d, 0, none⟩)) := by rw [hW1]; exact ((Blk.new w [.pointer (some ⟨d, 0, none⟩)] 29).drew).cell (i := 0) rfl
  obtain ⟨r, hr⟩ : ∃ r, (runAll M.openC M).1 = r := ⟨_, rfl⟩
  have hle := openC_len M
  have HOE := Lib.hid (show M.openS = ((runAll M.openC M).1, if (runAll M.openC M).1 = 0 then segE (segFiles M 64 0) else [], (runAll M.openC M).2) ∧ (segE (segFiles M 64 0)).length ≤ 4096 ∧ (∀ p ∈ segE (segFiles M 64 0), p.length ≤ 200) ∧ (runAll M.openC M).1 = r from
    ⟨by unfold DiskM.openS; rw [if_neg (by rw [hdn]; simp)], by have := segE_len (segFiles M 64 0); have := segFiles_len M 64 0; omega, segE_short _, hr⟩)
  have HL := Lib.hid (show Apart B d M w ∧ M.files.length + M.loose.length + M.openC.length < 300000000 from ⟨h, by omega⟩)
  have HF := Lib.hid (show M.files.length ≤ 400000000 by omega)
  have HDR := Lib.hid (fun W fr (hk : Kept (fun _ => False) w W) => segDrop_any (h.same hk) fr)
  have HLN := Lib.hid (fun W n n0 hg (hk : Kept (fun _ => False) w W) => load_none (h.same hk) n n0 hdn hg)
  have HLS := Lib.hid (fun W n n0 b hg (hk : Kept (fun _ => False) w W) => load_some (h.same hk) n n0 hdn (b := b) hg (ht.same hk))
  have hS0 := open_start w d M.starts
  have HR := Lib.hid hr
  clear hr hle hc ht hdn h
  subst hW1
  go_enter Tryz.func15, Tryz.ntmps15
  go_wp2_with (go_at_call 32; refine hup.mono ?_; rintro e w' ⟨rfl, rfl⟩)
  refine wp_region_tail 4 (by kernel_rfl) (by kernel_rfl) ?_
  simp only [List.take_succ_cons, List.take_zero, List.drop_succ_cons, List.drop_zero]
  refine StH.out ?_
  repeat (refine StH.step (fun K hK => ?_); go_simp; refine hK.out _ ?_; clear hK K)
  (refine StH.step (fun K hK => ?_); go_simp; refine ⟨_, (calls_pure hst), hK.out _ ?_⟩; clear hK K)
  repeat (refine StH.step (fun K hK => ?_); go_simp; refine hK.out _ ?_; clear hK K)
  refine StH.nil ?_
  go_wp2_with fail
  go_loopw [7, 8, 9] (fun x y z wr => ∃ (L : List By) (more : Bool) (a : Option Addr) (m c : Nat), x = .int .i64 (1000 + (L.length : Int)) ∧ y = .slice a m c ∧ z = .bool more ∧ OpenS w d w.heap.size (w.heap.size + 1) M.starts (.slice a m c) (segE L) (tornC 0 L) wr ∧ OpenP M L more) (fun x _ _ _ => (2000 - intOf x).toNat)
  case atStart => exact ⟨[], true, none, 0, 0, rfl, rfl, rfl, hS0, OpenP.start M⟩
  case round =>
    obtain ⟨L, more, ta, tm, tc, rfl, rfl, rfl, hS, hP⟩ := hrel
    have hfew := hP.few
    obtain ⟨cd, _, _, cx, cy, ⟨xa, xm, xc, rfl, hxm⟩, ya, ym, yc, rfl⟩ := hS.cells
    have hTL := Lib.hid (Nat.le_trans (tornC_len 0 L) hfew)
    by_cases hgo : more = true ∧ (segE L).length < 4096
    · obtain ⟨rfl, hlt⟩ := hgo
      have y1 : decide ((xm : Int) < 4096) = true := decide_eq_true (by omega)
      have y1' : decide (xm < 4096) = true := decide_eq_true (by omega)
      cases hg : AM.get M.files (1000 + (L.length : Int)) with
      | none =>
        have hLr := hP.done (Or.inr (Or.inr ⟨rfl, hlt, hg⟩))
        have hld := HLN.out wr _ (by omega) hg hS.kept
        subst hLr
        clear hg hP hlt hxm
        go_wp2_with (go_at_call 50; refine hld.mono ?_; rintro e w' ⟨rfl, rfl⟩)
        refine (HDR.out _ _ hS.kept).mono ?_
        intro e W5 hpost
        obtain ⟨dx, dm, dc, rfl, a1, m1, c1, W6, a2, m2, c2, W7, r1, cb6, r2, HT⟩ := open_tail ⟨hS, (by have := hTL.out; omega), HF.out⟩ hpost
        have HALL := Lib.hid (open_all HL.out HT.out)
        go_wp2_with (first
          | ((with_reducible show wpList _ _ _ (⟨some 95, _, _, _, _, _⟩ :: _) _ _); refine Lib.wpList_append_run _ rfl _ _ 112 112 rfl _ _ rfl rfl _ _ r1 ?_)
          | ((with_reducible show wpList _ _ _ (⟨some 100, _, _, _, _, _⟩ :: _) _ _); refine Lib.wpList_append_run _ rfl _ _ 112 112 rfl _ _ rfl rfl _ _ r2 ?_)
          | (go_at_call 54; refine HALL.out.mono ?_; rintro e W8 ⟨he, ha8, hk8⟩; obtain rfl : e = .returned (.int .i64 r) := he.trans (congrArg (fun x => Ending.returned (.int .i64 x)) HR.out); clear he; rcases num_zero r with rfl | ⟨hr0, z1, z2⟩))
        all_goals go_ret2
        all_goals exact open_end HOE.out HL.out HT.out ha8 hk8 (by first | exact Or.inl ⟨by assumption, rfl⟩ | exact Or.inr ⟨rfl, rfl⟩)
      | some b =>
        have hld := HLS.out wr (1000 + (L.length : Int)) (by omega) b hg hS.kept
        have hPs := hP.step hlt hg
        have hfull := hP.full rfl
        have hbl := fileE_len b
        have e1 := segE_snoc L b
        have e2 := tornC_snoc L b
        have htl := hTL.out
        by_cases h0 : fileE b = []
        · have y2 : decide ((0 : Int) < ((fileE b).length : Int)) = false := decide_eq_false (by rw [h0]; simp)
          have y2' : decide (0 < (fileE b).length) = false := decide_eq_false (by rw [h0]; simp)
          have y2n : ¬ 0 < (fileE b).length := by rw [h0]; simp
          have hz : (framesF (fileE b)).length = 0 := by rw [h0]; rfl
          rw [hz, Int.natCast_zero] at e2
          by_cases htn : 0 < b.length
          · have y3 : decide ((0 : Int) < (b.length : Int)) = true := decide_eq_true (by omega)
            have y3' : decide (0 < b.length) = true := decide_eq_true htn
            have y3n : 0 < b.length := htn
            rw [if_pos htn] at e2
            have HN := Lib.hid (And.intro hPs e2)
            have HX := Lib.hid (fun W1 u v (hL : Loaded wr W1 u v (fileE b)) Wx (hx : EndAt W1 Wx 0) => open_torn (n := 1000 + (L.length : Int)) hS hL hx (by omega) (by omega) (by omega) (by omega))
            have HB := Lib.hid (And.intro hbl h0)
            clear hg hP hfull h0 htn hPs e1 e2 hbl htl
            go_wp2_with (first
              | (go_at_call 50; refine hld.mono ?_; rintro e W1 ⟨ua, um, uc, va, vm, vc, rfl, hu, hv, _, _, hkl⟩; obtain ⟨rfl, rfl⟩ := load_lens hu hv; obtain ⟨ta2, tm2, tc2, W3, r0, px, py, a1, n1, c1, w1, a2, n2, c2, w2, r1, r2, q1, q2, q3, HR2⟩ := HX.out W1 _ _ ⟨hkl, hu, hv⟩ _ (EndAt.new W1 _))
              | ((with_reducible show wpList _ _ _ (⟨some 67, _, _, _, _, _⟩ :: _) _ _); refine Lib.wpList_append_run _ rfl _ _ 112 112 rfl _ _ rfl rfl _ _ r0 ?_))
            refine seg_reg17 r1 r2 q1.1 q1.2 q2.1 q2.2 q3.1 q3.2.1 q3.2.2.1 q3.2.2.2 (fun _ _ _ _ _ h => h) ?_
            intros
            all_goals go_wp2_with fail
            all_goals exact round_open HR2.out HN.out.2 HN.out.1 hfew
          · have y3 : decide ((0 : Int) < (b.length : Int)) = false := decide_eq_false (by omega)
            have y3' : decide (0 < b.length) = false := decide_eq_false htn
            have y3n : ¬ 0 < b.length := htn
            rw [if_neg htn, List.append_nil] at e2
            have HN := Lib.hid (And.intro hPs e2)
            have HX := Lib.hid (fun W1 u v (hL : Loaded wr W1 u v (fileE b)) Wx (hx : EndAt W1 Wx 0) => open_plain (n := 1000 + (L.length : Int)) hS hL hx (by omega) (by omega))
            have HB := Lib.hid (And.intro hbl h0)
            clear hg hP hfull h0 htn hPs e1 e2 hbl htl
            go_wp2_with (first | (go_at_call 50; refine hld.mono ?_; rintro e W1 ⟨ua, um, uc, va, vm, vc, rfl, hu, hv, _, _, hkl⟩; obtain ⟨rfl, rfl⟩ := load_lens hu hv; obtain ⟨px, py, a1, n1, c1, w1, a2, n2, c2, w2, r1, r2, q1, q2, q3, HR2⟩ := HX.out W1 _ _ ⟨hkl, hu, hv⟩ _ (EndAt.new W1 _)))
            refine seg_reg17 r1 r2 q1.1 q1.2 q2.1 q2.2 q3.1 q3.2.1 q3.2.2.1 q3.2.2.2 (fun _ _ _ _ _ h => h) ?_
            intros
            all_goals go_wp2_with fail
            all_goals exact round_open HR2.out HN.out.2 HN.out.1 hfew
        · have hl0 : 0 < (fileE b).length := List.length_pos_iff.2 h0
          have y2 : decide ((0 : Int) < ((fileE b).length : Int)) = true := decide_eq_true (by omega)
          have hw : wrap64 (((fileE b).length : Int) - 1) = (((fileE b).length - 1 : Nat) : Int) := by rw [IntWalk.wrap64_in _ (by omega)]; omega
          have hw1 : (((fileE b).length - 1 : Nat) : Int) < ((fileE b).length : Int) := by omega
          have hw2 : (fileE b).length - 1 < (fileE b).length := by omega
          by_cases htn : (framesF (fileE b)).length < b.length
          · have y3 : decide ((framesF (fileE b)).length < b.length) = true := decide_eq_true htn
            have y3' : decide (((framesF (fileE b)).length : Int) < (b.length : Int)) = true := decide_eq_true (by omega)
            rw [if_pos htn] at e2
            have HN := Lib.hid (And.intro hPs e2)
            have HX := Lib.hid (fun W1 u v (hL : Loaded wr W1 u v (fileE b)) Wx (hx : EndAt W1 Wx ((framesF (fileE b)).length : Nat)) => open_torn (n := 1000 + (L.length : Int)) hS hL hx (by omega) (by omega) (by omega) (by omega))
            have HB := Lib.hid (And.intro hbl h0)
            clear hg hP hfull h0 htn hPs e1 e2 hbl htl
            go_wp2_with (first
              | (go_at_call 50; refine hld.mono ?_; rintro e W1 ⟨ua, um, uc, va, vm, vc, rfl, hu, hv, _, _, hkl⟩; obtain ⟨rfl, rfl⟩ := load_lens hu hv; obtain ⟨g, rfl, hgc⟩ := load_end hv HB.out.1 HB.out.2; obtain ⟨ta2, tm2, tc2, W3, r0, px, py, a1, n1, c1, w1, a2, n2, c2, w2, r1, r2, q1, q2, q3, HR2⟩ := HX.out W1 _ _ ⟨hkl, hu, hv⟩ _ (EndAt.new W1 _))
              | ((with_reducible show wpList _ _ _ (⟨some 67, _, _, _, _, _⟩ :: _) _ _); refine Lib.wpList_append_run _ rfl _ _ 112 112 rfl _ _ rfl rfl _ _ r0 ?_))
            refine seg_reg17 r1 r2 q1.1 q1.2 q2.1 q2.2 q3.1 q3.2.1 q3.2.2.1 q3.2.2.2 (fun _ _ _ _ _ h => h) ?_
            intros
            all_goals go_wp2_with fail
            all_goals exact round_open HR2.out HN.out.2 HN.out.1 hfew
          · have y3 : decide ((framesF (fileE b)).length < b.length) = false := decide_eq_false htn
            have y3' : decide (((framesF (fileE b)).length : Int) < (b.length : Int)) = false := decide_eq_false (by omega)
            rw [if_neg htn, List.append_nil] at e2
            have HN := Lib.hid (And.intro hPs e2)
            have HX := Lib.hid (fun W1 u v (hL : Loaded wr W1 u v (fileE b)) Wx (hx : EndAt W1 Wx ((framesF (fileE b)).length : Nat)) => open_plain (n := 1000 + (L.length : Int)) hS hL hx (by omega) (by omega))
            have HB := Lib.hid (And.intro hbl h0)
            clear hg hP hfull h0 htn hPs e1 e2 hbl htl
            go_wp2_with (first | (go_at_call 50; refine hld.mono ?_; rintro e W1 ⟨ua, um, uc, va, vm, vc, rfl, hu, hv, _, _, hkl⟩; obtain ⟨rfl, rfl⟩ := load_lens hu hv; obtain ⟨g, rfl, hgc⟩ := load_end hv HB.out.1 HB.out.2; obtain ⟨px, py, a1, n1, c1, w1, a2, n2, c2, w2, r1, r2, q1, q2, q3, HR2⟩ := HX.out W1 _ _ ⟨hkl, hu, hv⟩ _ (EndAt.new W1 _)))
            refine seg_reg17 r1 r2 q1.1 q1.2 q2.1 q2.2 q3.1 q3.2.1 q3.2.2.1 q3.2.2.2 (fun _ _ _ _ _ h => h) ?_
            intros
            all_goals go_wp2_with fail
            all_goals exact round_open HR2.out HN.out.2 HN.out.1 hfew
    · cases more with
      | false =>
        have hLr := hP.done (Or.inl rfl)
        subst hLr
        clear hP hgo hxm
        go_wp2_with fail
        refine (HDR.out _ _ hS.kept).mono ?_
        intro e W5 hpost
        obtain ⟨dx, dm, dc, rfl, a1, m1, c1, W6, a2, m2, c2, W7, r1, cb6, r2, HT⟩ := open_tail ⟨hS, (by have := hTL.out; omega), HF.out⟩ hpost
        have HALL := Lib.hid (open_all HL.out HT.out)
        go_wp2_with (first
          | ((with_reducible show wpList _ _ _ (⟨some 95, _, _, _, _, _⟩ :: _) _ _); refine Lib.wpList_append_run _ rfl _ _ 112 112 rfl _ _ rfl rfl _ _ r1 ?_)
          | ((with_reducible show wpList _ _ _ (⟨some 100, _, _, _, _, _⟩ :: _) _ _); refine Lib.wpList_append_run _ rfl _ _ 112 112 rfl _ _ rfl rfl _ _ r2 ?_)
          | (go_at_call 54; refine HALL.out.mono ?_; rintro e W8 ⟨he, ha8, hk8⟩; obtain rfl : e = .returned (.int .i64 r) := he.trans (congrArg (fun x => Ending.returned (.int .i64 x)) HR.out); clear he; rcases num_zero r with rfl | ⟨hr0, z1, z2⟩))
        all_goals go_ret2
        all_goals exact open_end HOE.out HL.out HT.out ha8 hk8 (by first | exact Or.inl ⟨by assumption, rfl⟩ | exact Or.inr ⟨rfl, rfl⟩)
      | true =>
        have hlt : ¬ (segE L).length < 4096 := fun q => hgo ⟨rfl, q⟩
        have hLr := hP.done (Or.inr (Or.inl ⟨rfl, hlt⟩))
        have y1 : decide ((xm : Int) < 4096) = false := decide_eq_false (by omega)
        have y1' : decide (xm < 4096) = false := decide_eq_false (by omega)
        subst hLr
        clear hP hgo hlt hxm
        go_wp2_with fail
        refine (HDR.out _ _ hS.kept).mono ?_
        intro e W5 hpost
        obtain ⟨dx, dm, dc, rfl, a1, m1, c1, W6, a2, m2, c2, W7, r1, cb6, r2, HT⟩ := open_tail ⟨hS, (by have := hTL.out; omega), HF.out⟩ hpost
        have HALL := Lib.hid (open_all HL.out HT.out)
        go_wp2_with (first
          | ((with_reducible show wpList _ _ _ (⟨some 95, _, _, _, _, _⟩ :: _) _ _); refine Lib.wpList_append_run _ rfl _ _ 112 112 rfl _ _ rfl rfl _ _ r1 ?_)
          | ((with_reducible show wpList _ _ _ (⟨some 100, _, _, _, _, _⟩ :: _) _ _); refine Lib.wpList_append_run _ rfl _ _ 112 112 rfl _ _ rfl rfl _ _ r2 ?_)
          | (go_at_call 54; refine HALL.out.mono ?_; rintro e W8 ⟨he, ha8, hk8⟩; obtain rfl : e = .returned (.int .i64 r) := he.trans (congrArg (fun x => Ending.returned (.int .i64 x)) HR.out); clear he; rcases num_zero r with rfl | ⟨hr0, z1, z2⟩))
        all_goals go_ret2
        all_goals exact open_end HOE.out HL.out HT.out ha8 hk8 (by first | exact Or.inl ⟨by assumption, rfl⟩ | exact Or.inr ⟨rfl, rfl⟩)
end
end Go.Proofs.YtlgeijbgkipliaaGreatDoor

namespace Go.Proofs.YtlgeijbgkipliaaGreatDoor
open Go.RowKit
section
variable {w : World} {d : Nat} {B : Nat → Prop} {M : DiskM}
theorem segOpen_down (h : Apart B d M w) (hdn : M.down = true) : Calls Tryz.prog 15 #[.pointer (some ⟨d, 0, none⟩)] w (SegOpen B d w M.starts M.openS) := by
  obtain ⟨W1, hW1⟩ : ∃ W1, W1 = w.alloc (.cells #[.pointer (some ⟨d, 0, none⟩)] 29) := ⟨_, rfl⟩
  have k1 : Kept (fun _ => False) w W1 := by rw [hW1]; exact (Kept.refl _ _).alloc _
  have h1 := h.same k1
  have hup := up_ap h1 (b := false) (by rw [hdn]; rfl)
  have hz : M.sizeR 0 = (0, 61) := by simp [DiskM.sizeR, DiskM.has, hdn]
  have hsize := size_ap h1 0 (by omega) hz
  have ho : M.openS = (61, [], M) := by simp [DiskM.openS, hdn]
  have HK := Lib.hid (And.intro h1 k1)
  rw [ho]
  clear ho hz k1 h1 h
  subst hW1
  go_enter Tryz.func15, Tryz.ntmps15
  go_wp2_with (first | (go_at_call 32; refine hup.mono ?_; rintro e w' ⟨rfl, rfl⟩) | (go_at_call 48; refine hsize.mono ?_; rintro e w' ⟨rfl, rfl⟩))
  go_ret2
  exact Or.inl ⟨show ¬ (61 : Int) = 0 by decide, rfl, HK.out.1, HK.out.2.mono (fun _ _ => False.elim)⟩
theorem segOpen_any (h : Apart B d M w) (hc : M.files.length + M.loose.length < 100000000) (ht : Tab w) :
    Calls Tryz.prog 15 #[.pointer (some ⟨d, 0, none⟩)] w (SegOpen B d w M.starts M.openS) := by
  cases hdn : M.down
  · exact segOpen_up h hdn hc ht
  · exact segOpen_down h hdn
end
end Go.Proofs.YtlgeijbgkipliaaGreatDoor
