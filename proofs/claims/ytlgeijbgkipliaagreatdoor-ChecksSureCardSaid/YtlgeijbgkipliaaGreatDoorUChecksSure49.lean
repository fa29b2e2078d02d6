/- ChkO3 ChkO4 ChkO2 ChkQ1 ChkQ2 ChkQ3 ChkS1 -/
import Derived.Test.YtlgeijbgkipliaaGreatDoorUChecksSure48
import Derived.Test.YtlgeijbgkipliaaGreatDoorUChecksSure42
import Derived.Test.YtlgeijbgkipliaaGreatDoorUChecksSure41
import Derived.Test.YtlgeijbgkipliaaGreatDoorUChecksSure35
set_option linter.unusedVariables false
set_option linter.unusedSimpArgs false
namespace Go.Proofs.YtlgeijbgkipliaaGreatDoor
open Go.RowKit Go.Shelf
theorem row_text {w : World} {v : Value} {l : List By} {i : Nat} {p : By} (h : Row w 9 1 v (strV l)) (hp : l[i]? = some p) : ∃ g n c, v = .slice (some ⟨g, 0, none⟩) n c ∧ w.cell? ⟨g, i, none⟩ = some (.string (strB p)) := by
  have hi := (List.getElem?_eq_some_iff.1 hp).1
  rcases h with ⟨_, h⟩ | ⟨g, n, c, rest, rfl, _, hb, _⟩
  · have : (strV l).length = 0 := by rw [h]; rfl
    rw [strV_len] at this
    omega
  · refine ⟨g, n, c, rfl, hb.cell ?_⟩
    rw [List.getElem?_append_left (by rw [strV_len]; omega)]
    simp [strV, hp]
theorem read_may (w : World) (p : PtM) (hp : p.Ok) (hm : p.may = true) (ht : Tab w) : Calls Tryz.prog 81 #[.string (strB p.bytes)] w fun e w' => ∃ a c b d, e = .returned (.tuple #[.agg (p.cells (.slice a p.hs.length c) (.slice b 3 d)).toArray, .bool true]) ∧ Row w' 57 32 (.slice a p.hs.length c) (hcells p.hs) ∧ Row w' 57 32 (.slice b 3 d) (hcells p.path) ∧
    (∀ k, (Value.slice a p.hs.length c).ownBlock = some k → w.heap.size ≤ k) ∧ (∀ k, (Value.slice b 3 d).ownBlock = some k → w.heap.size ≤ k) ∧ (∀ k, (Value.slice a p.hs.length c).ownBlock = some k → ¬ (Value.slice b 3 d).ownBlock = some k) ∧ Kept (fun _ => False) w w' := by
  have h := read_pt w p hp ht
  unfold ReadTo at h
  rw [hm] at h
  exact h
theorem fresh_point (w1 : World) {y : List Value} (hy : y.length = 38) : (w1.alloc (.cells pointZ.toArray 72)).there w1.heap.size 0 y.toArray.size ∧ ∀ W2, (w1.alloc (.cells pointZ.toArray 72)).setCells w1.heap.size 0 y = W2 → Blk W2 w1.heap.size y 72 ∧ Kept (fun _ => False) w1 W2 := by
  have b1 := Blk.new w1 pointZ 72
  refine ⟨b1.there 0 _ (by rw [List.size_toArray, hy, pointZ_len]; omega), fun W2 hW => ?_⟩
  have k := kept_setCells (w1.alloc (.cells pointZ.toArray 72)) w1.heap.size 0 y
  have b2 := b1.setCells 0 y (by rw [hy, pointZ_len]; omega)
  rw [splice_whole (by rw [pointZ_len, hy]), hW] at b2
  rw [hW] at k
  exact ⟨b2, ((Kept.refl (fun _ => False) w1).alloc _).then_ k (fun i hi e => by omega)⟩
theorem info_point_of {y : List Value} (hy : y.length = 38) : (Tryz.prog.info? 72).map (·.size) = some y.toArray.size := by rw [List.size_toArray, hy]; exact info_point_
structure LoopP (W0 W : World) (d c : Nat) (B fp : Nat → Prop) (M : DiskM) (st : Int) (v3 : Value) (ps : List PtM) (k : Nat) : Prop where
  loop : LoopD W0 d B fp (fun k => k = c) M W
  row : Row W 9 1 v3 (strV (ps.map PtM.bytes))
  chk : ∃ P, P.length = 38 ∧ Blk W c (chkC d (-1) 0 P st false) 74 ∧ ∀ p, (ps.take k).getLast? = some p → ∃ u v, P = p.cells u v ∧ Row W 57 32 u (hcells p.hs) ∧ Row W 57 32 v (hcells p.path) ∧ (∀ k, u.ownBlock = some k → W0.heap.size ≤ k) ∧ (∀ k, v.ownBlock = some k → W0.heap.size ≤ k) ∧ ∀ k, u.ownBlock = some k → ¬ v.ownBlock = some k
section
variable {W0 W W5 W6 : World} {d c : Nat} {B fp : Nat → Prop} {M : DiskM} {st : Int} {v3 : Value} {ps : List PtM} {k : Nat}
theorem LoopP.turn (h : LoopP W0 W d c B fp M st v3 ps k) (hk : Kept (fun _ => False) W W5) : LoopP W0 W5 d c B fp M st v3 ps k := by
  obtain ⟨P, h1, h2, h3⟩ := h.chk
  refine ⟨h.loop.same hk, h.row.kept hk (fun _ _ => id), P, h1, h2.kept hk id, fun p hp => ?_⟩
  obtain ⟨u, v, q1, q2, q3, q4⟩ := h3 p hp
  exact ⟨u, v, q1, q2.kept hk (fun _ _ => id), q3.kept hk (fun _ _ => id), q4⟩
theorem LoopP.there (h : LoopP W0 W d c B fp M st v3 ps k) {y : List Value} (hy : y.length = 38) : W.there c 3 y.toArray.size := by
  obtain ⟨P, h1, h2, h3⟩ := h.chk
  exact h2.there 3 _ (by rw [List.size_toArray, hy]; simp [chkC, h1])
theorem LoopP.next (h : LoopP W0 W d c B fp M st v3 ps k) (hfp : ∀ k, fp k → k < W0.heap.size ∧ ¬ B k) (hB : B c) (hc : c < W0.heap.size) (ho3 : ∀ k, v3.ownBlock = some k → W0.heap.size ≤ k) {p : PtM} (hp : ps[k]? = some p) (hok : p.Ok) {u v : Value}
    (r1 : Row W 57 32 u (hcells p.hs)) (r2 : Row W 57 32 v (hcells p.path)) (o1 : ∀ k, u.ownBlock = some k → W0.heap.size ≤ k) (o2 : ∀ k, v.ownBlock = some k → W0.heap.size ≤ k) (o12 : ∀ k, u.ownBlock = some k → ¬ v.ownBlock = some k) (hW : W.setCells c 3 (p.cells u v) = W6) :
    LoopP W0 W6 d c B fp M st v3 ps (k + 1) := by
  obtain ⟨P, h1, h2, h3⟩ := h.chk
  have hl := PtM.cells_len hok u v
  have ks := kept_setCells W c 3 (p.cells u v)
  have b2 := h2.setCells 3 (p.cells u v) (by rw [hl]; simp [chkC, h1])
  rw [chkC_splice h1 hl, hW] at b2
  rw [hW] at ks
  refine ⟨⟨h.loop.1, h.loop.2.1.kept ks (fun k q e => (hfp k q).2 (by rw [e]; exact hB)), h.loop.2.2.trans (ks.mono (fun k _ e => Or.inr (Or.inr e)))⟩, h.row.kept ks (fun k q e => by have := ho3 k q; omega), p.cells u v, hl, b2, fun q hq => ?_⟩
  have e : (ps.take (k + 1)).getLast? = some p := by rw [List.take_add_one, hp]; simp
  rw [e] at hq
  cases hq
  exact ⟨u, v, rfl, r1.kept ks (fun k q e => by have := o1 k q; omega), r2.kept ks (fun k q e => by have := o2 k q; omega), o1, o2, o12⟩
end
end Go.Proofs.YtlgeijbgkipliaaGreatDoor

namespace Go.Proofs.YtlgeijbgkipliaaGreatDoor
open Go.RowKit Go.Shelf
theorem blk_apart {w : World} {b b' : Nat} {c c' : List Value} {t t' : TypeId} (h : Blk w b c t) (h' : Blk w b' c' t') (ht : t ≠ t') : b ≠ b' := by
  rintro rfl
  unfold Blk at h h'
  rw [h] at h'
  cases h'
  exact ht rfl
structure RegD (W0 : World) (c eb wb p6 : Nat) (B fp : Nat → Prop) (u v : Value) : Prop where
  n1 : c ≠ eb
  n2 : c ≠ wb
  n3 : eb ≠ wb
  n4 : p6 ≠ c
  n5 : p6 ≠ eb
  n6 : p6 ≠ wb
  b1 : B c ∧ c < W0.heap.size
  b2 : B eb ∧ eb < W0.heap.size
  b3 : B wb ∧ wb < W0.heap.size
  hfp : ∀ k, fp k → k < W0.heap.size ∧ ¬ B k
  o1 : ∀ k, u.ownBlock = some k → W0.heap.size ≤ k
  o2 : ∀ k, v.ownBlock = some k → W0.heap.size ≤ k
structure RegS (W0 W : World) (d c eb wb p6 : Nat) (B fp : Nat → Prop) (M : DiskM) (st : Int) (p : PtM) (u v : Value) (f m e : Int) (x : Bool) : Prop where
  loop : LoopD W0 d B fp (fun k => k = c ∨ k = eb ∨ k = wb) M W
  chk : Blk W c (chkC d f m (p.cells u v) st false) 74
  en : Blk W eb [.int .i64 e] 3
  wh : Blk W wb [.bool x] 4
  ptr : Blk W p6 [.pointer (some ⟨c, 0, none⟩)] 66
  r1 : Row W 57 32 u (hcells p.hs)
  r2 : Row W 57 32 v (hcells p.path)
section
variable {W0 W W' : World} {d c eb wb p6 : Nat} {B fp : Nat → Prop} {M : DiskM} {st : Int} {p : PtM} {u v : Value} {f m e : Int} {x : Bool}
theorem RegS.turn (h : RegS W0 W d c eb wb p6 B fp M st p u v f m e x) (hk : Kept (fun _ => False) W W') : RegS W0 W' d c eb wb p6 B fp M st p u v f m e x :=
  ⟨h.loop.same hk, h.chk.kept hk id, h.en.kept hk id, h.wh.kept hk id, h.ptr.kept hk id, h.r1.kept hk (fun _ _ => id), h.r2.kept hk (fun _ _ => id)⟩
theorem RegS.poke (h : RegS W0 W d c eb wb p6 B fp M st p u v f m e x) (hd : RegD W0 c eb wb p6 B fp u v) {b : Nat} (hb : b = c ∨ b = eb ∨ b = wb) (hk : Kept (· = b) W W') : LoopD W0 d B fp (fun k => k = c ∨ k = eb ∨ k = wb) M W' :=
  ⟨h.loop.1, h.loop.2.1.kept hk (fun k q e => (hd.hfp k q).2 (by rcases hb with hb | hb | hb <;> rw [e, hb] <;> first | exact hd.b1.1 | exact hd.b2.1 | exact hd.b3.1)), h.loop.2.2.trans (hk.mono (fun k _ e => Or.inr (Or.inr (by rw [e]; exact hb))))⟩
theorem RegS.file (h : RegS W0 W d c eb wb p6 B fp M st p u v f m e x) (hd : RegD W0 c eb wb p6 B fp u v) (n : Int) (hW : W.setCell ⟨c, 1, none⟩ (.int .i64 n) = W') : RegS W0 W' d c eb wb p6 B fp M st p u v n m e x := by
  have k := kept_cell W c 1 (.int .i64 n)
  have b := h.chk.set 1 (.int .i64 n)
  rw [hW] at k b
  exact ⟨h.poke hd (Or.inl rfl) k, b, h.en.kept k (fun q => hd.n1 q.symm), h.wh.kept k (fun q => hd.n2 q.symm), h.ptr.kept k hd.n4, h.r1.kept k (fun i q z => by have := hd.o1 i q; have := hd.b1.2; omega), h.r2.kept k (fun i q z => by have := hd.o2 i q; have := hd.b1.2; omega)⟩
theorem RegS.many (h : RegS W0 W d c eb wb p6 B fp M st p u v f m e x) (hd : RegD W0 c eb wb p6 B fp u v) (n : Int) (hW : W.setCell ⟨c, 2, none⟩ (.int .i64 n) = W') : RegS W0 W' d c eb wb p6 B fp M st p u v f n e x := by
  have k := kept_cell W c 2 (.int .i64 n)
  have b := h.chk.set 2 (.int .i64 n)
  rw [hW] at k b
  exact ⟨h.poke hd (Or.inl rfl) k, b, h.en.kept k (fun q => hd.n1 q.symm), h.wh.kept k (fun q => hd.n2 q.symm), h.ptr.kept k hd.n4, h.r1.kept k (fun i q z => by have := hd.o1 i q; have := hd.b1.2; omega), h.r2.kept k (fun i q z => by have := hd.o2 i q; have := hd.b1.2; omega)⟩
theorem RegS.end_ (h : RegS W0 W d c eb wb p6 B fp M st p u v f m e x) (hd : RegD W0 c eb wb p6 B fp u v) (n : Int) (hW : W.setCell ⟨eb, 0, none⟩ (.int .i64 n) = W') : RegS W0 W' d c eb wb p6 B fp M st p u v f m n x := by
  have k := kept_cell W eb 0 (.int .i64 n)
  have b := h.en.set 0 (.int .i64 n)
  rw [hW] at k b
  exact ⟨h.poke hd (Or.inr (Or.inl rfl)) k, h.chk.kept k hd.n1, b, h.wh.kept k (fun q => hd.n3 q.symm), h.ptr.kept k hd.n5, h.r1.kept k (fun i q z => by have := hd.o1 i q; have := hd.b2.2; omega), h.r2.kept k (fun i q z => by have := hd.o2 i q; have := hd.b2.2; omega)⟩
theorem RegS.whole (h : RegS W0 W d c eb wb p6 B fp M st p u v f m e x) (hd : RegD W0 c eb wb p6 B fp u v) (n : Bool) (hW : W.setCell ⟨wb, 0, none⟩ (.bool n) = W') : RegS W0 W' d c eb wb p6 B fp M st p u v f m e n := by
  have k := kept_cell W wb 0 (.bool n)
  have b := h.wh.set 0 (.bool n)
  rw [hW] at k b
  exact ⟨h.poke hd (Or.inr (Or.inr rfl)) k, h.chk.kept k hd.n2, h.en.kept k hd.n3, b, h.ptr.kept k hd.n6, h.r1.kept k (fun i q z => by have := hd.o1 i q; have := hd.b3.2; omega), h.r2.kept k (fun i q z => by have := hd.o2 i q; have := hd.b3.2; omega)⟩
end
end Go.Proofs.YtlgeijbgkipliaaGreatDoor

namespace Go.Proofs.YtlgeijbgkipliaaGreatDoor
open Go.RowKit Go.Shelf
attribute [local go_sem] Oper.semAt_some
def GoodF (M : DiskM) : Prop := ∀ n b, AM.get M.files n = some b → b.length ≤ 2000000 ∧ 0 ≤ n ∧ ∃ ps : List PtM, (∀ p ∈ ps, p.Ok ∧ p.may = true) ∧ (wholeF b).1 = ps.map PtM.bytes
def mendO (M : DiskM) : Int × DiskM := match lastF M with
  | some x => mendM M x.1 ((x.2.length - (wholeF x.2).2.length : Nat) : Int) (decide (x.2.length - (wholeF x.2).2.length = x.2.length))
  | none => mendM M (-1) 0 true
def OpenO (w0 w' : World) (d c : Nat) (M M' : DiskM) (Os : List Og) : Prop := match lastF M with
  | some x => ∃ p u v, (∃ ps : List PtM, (∀ p ∈ ps, p.Ok ∧ p.may = true) ∧ (wholeF x.2).1 = ps.map PtM.bytes ∧ ps.getLast? = some p) ∧ Owg w0 w' d M' (.blk c (chkC d x.1 ((wholeF x.2).1.length : Int) (p.cells u v) M.starts false) 74 :: .hrow u p.hs :: .hrow v p.path :: Os)
  | none => Owg w0 w' d M' (.blk c (chkZ d M.starts) 74 :: Os)
def OpenTo (w0 : World) (d : Nat) (M : DiskM) (Os : List Og) (y : Int) (M' : DiskM) (e : Ending) (w' : World) : Prop :=
  if y = 0 then ∃ c, e = .returned (.tuple #[.pointer (some ⟨c, 0, none⟩), .int .i64 0]) ∧ OpenO w0 w' d c M M' Os else e = .returned (.tuple #[.pointer none, .int .i64 y]) ∧ Owg w0 w' d M' Os
section
variable {w0 w w' : World} {d D : Nat} {M M' : DiskM} {Os : List Og} {y : Int}
set_option maxRecDepth 100000 in
set_option maxHeartbeats 8000000 in
theorem chk_open (h : Owg w0 w d M Os) (hup : M.down = false) (hgd : GoodF M) (he : mendO M = (y, M')) :
    Calls Tryz.prog 25 #[.pointer (some ⟨d, 0, none⟩)] w (OpenTo w0 d M Os y M') := by
  refine (callsIn_wide (n := 6)).1 ?_
  obtain ⟨W1, hW1⟩ : ∃ W1, W1 = ((w.alloc (.cells #[.pointer (some ⟨d, 0, none⟩)] 29)).alloc (.cells #[.pointer none] 66)).alloc (.cells #[.int .i64 0] 30) := ⟨_, rfl⟩
  have h1 : Owg w0 W1 d M (.blk w.heap.size [.pointer (some ⟨d, 0, none⟩)] 29 :: .blk (w.heap.size + 1) [.pointer none] 66 :: .blk (w.heap.size + 1 + 1) [.int .i64 0] 30 :: Os) := by
    have := ((h.new [.pointer (some ⟨d, 0, none⟩)] 29).new [.pointer none] 66).new [.int .i64 0] 30
    rw [World.size_alloc, World.size_alloc] at this
    rw [hW1]
    exact this.perm ((List.Perm.swap _ _ _).trans (((List.Perm.swap _ _ _).cons _).trans (List.Perm.swap _ _ _)))
  have c1 := Blk.cell (w := W1) (h1.has (x := .blk w.heap.size [.pointer (some ⟨d, 0, none⟩)] 29) (by simp)) (i := 0) rfl
  have HUP := Lib.hid (callsIn_wide (n := 5) |>.2 (h1.isup (b := true) (by rw [hup]; rfl)))
  have hfU : Fence.wide.fn 32 := trivial
  have hfF : Fence.wide.fn 28 := trivial
  have hfB : Fence.wide.fn 79 := trivial
  have hfM : Fence.wide.fn 82 := trivial
  have H1 := Lib.hid h1
  have HE := Lib.hid (And.intro he (And.intro hgd hup))
  have hlen : (M.files.map (·.1)).length ≤ 400000000 := by rw [List.length_map]; have := h.ok.count; omega
  have hkeys : ∀ x ∈ M.files.map (·.1), -9223372036854775808 ≤ x ∧ x ≤ 9223372036854775807 := by obtain ⟨B, h⟩ := h; exact h.ap.keys
  clear h h1 he hgd hup
  refine callsIn_of_wp_marks Tryz.func25 rfl trivial ?_ rfl
  simp only [Tryz.ntmps25, List.size_toArray, List.length_cons, List.length_nil, Nat.reduceAdd, Nat.reduceSub, Array.replicate_succ, Array.replicate_zero, List.push_toArray, List.append_toArray, List.nil_append, List.cons_append]
  gi_upto_region 1 with (fail)
  generalize hWx : World.alloc _ _ = Wx
  obtain rfl : W1 = Wx := by rw [hW1, ← hWx]
  clear hW1 hWx
  generalize w.heap.size = z at *
  gi_upto_region 4 with (gi_at_call 32; refine HUP.out.mono ?_; rintro e w' ⟨rfl, rfl⟩)
  refine wpIn_wide.2 ?_
  refine open_make (by kernel_rfl) H1.out ?hend
  intro p6 c v28 v29 v30 v31 v32 W2 h2
  clear c1 HUP hfU H1
  gi_upto_region 6 with fail
  have h3 : Owg w0 ((W2.alloc (.cells #[.int .i64 0] 3)).alloc (.cells #[.bool true] 4)) d M (.blk (W2.heap.size + 1) [.bool true] 4 :: .blk W2.heap.size [.int .i64 0] 3 :: .blk p6 [.pointer (some ⟨c, 0, none⟩)] 66 :: .blk c (chkZ d M.starts) 74 :: .blk z [.pointer (some ⟨d, 0, none⟩)] 29 :: .blk (z + 1) [.pointer none] 66 :: .blk (z + 1 + 1) [.int .i64 0] 30 :: Os) := by
    have := (h2.out.new [.int .i64 0] 3).new [.bool true] 4
    rw [World.size_alloc] at this
    exact this
  generalize World.alloc _ _ = W3 at *
  generalize W2.heap.size + 1 = wb at *
  generalize W2.heap.size = eb at *
  have cz := Blk.cell (w := W3) (h3.has (x := .blk z [.pointer (some ⟨d, 0, none⟩)] 29) (by simp)) (i := 0) rfl
  have HF := Lib.hid (callsIn_wide (n := 5) |>.2 h3.dfiles)
  have HBK := Lib.hid (fun a m c w' => callsIn_wide (n := 5) |>.2 (backward_any a m c w'))
  clear h2 h3
  gi_wp2_with (first | (gi_at_call 28; refine HF.out.mono ?_; rintro e w2 ⟨xa, xm, xc, rfl, rfl, h4⟩) | (gi_at_call 79; refine (HBK.out _ _ _ _).mono ?_; rintro e w' ⟨rfl, rfl⟩))
  have hBs := Blk.new w2 [.slice xa M.files.length xc] 83
  have hz : w2.heap.size < (w2.alloc (.cells #[.slice xa M.files.length xc] 83)).heap.size := by rw [World.size_alloc]; omega
  have h0 := h4.new [.slice xa M.files.length xc] 83
  have hBs' : Blk (w2.alloc (.cells #[.slice xa M.files.length xc] 83)) w2.heap.size [.slice xa M.files.length xc] 83 := hBs
  obtain ⟨W0, hW0⟩ : ∃ W0, w2.alloc (.cells #[.slice xa M.files.length xc] 83) = W0 := ⟨_, rfl⟩
  rw [hW0] at h0 hBs' hz ⊢
  have hrow0 : Row W0 3 1 (.slice xa M.files.length xc) (icells (M.files.map (·.1))) := by
    have q := h0.has (x := .irow (.slice xa M.files.length xc) (M.files.map (·.1))) (by simp)
    exact q
  rw [icells_intsV] at hrow0
  have h0 := h0.perm (show List.Perm _ (.blk c (chkZ d M.starts) 74 :: .blk eb [.int .i64 0] 3 :: .blk wb [.bool true] 4 :: .blk w2.heap.size [.slice xa M.files.length xc] 83 :: .irow (.slice xa M.files.length xc) (M.files.map (·.1)) :: .blk p6 [.pointer (some ⟨c, 0, none⟩)] 66 :: .blk z [.pointer (some ⟨d, 0, none⟩)] 29 :: .blk (z + 1) [.pointer none] 66 :: .blk (z + 1 + 1) [.int .i64 0] 30 :: Os) from (List.perm_middle (l₁ := [_, _, _, _, _])).trans (((List.perm_middle (l₁ := [_, _, _])).trans ((List.perm_middle (l₁ := [_, _])).cons _)).cons _))
  obtain ⟨B, hFr⟩ := h0
  obtain ⟨fp, hfp, hJ0⟩ := loopD_start hFr
  clear h4 hW0 hBs HBK HF hfF hfB cz
  obtain ⟨ns, hns⟩ : ∃ ns, M.files.map (·.1) = ns := ⟨_, rfl⟩
  rw [hns] at hrow0 hkeys hlen
  have HFR := Lib.hid (And.intro hFr (And.intro hfp hns))
  have hI : OwnFrom W0.heap.size (fun (pre : List (BkX ns)) W => LoopD W0 d B fp (fun _ => False) M W ∧ ∀ r, firstF M (pre.map (·.1.2) ++ r) = firstF M r) := fun pre X Y row h hg hr =>
    ⟨h.1.row hfp hg (fun k e => (hr k e).1), h.2⟩
  have hIx : ∀ cc : Code, OwnFrom W0.heap.size (fun (pre : List (BkX ns)) W => cc = .exit 0 ∧ ∃ (n : Int) (b : By) (p : PtM) (u v : Value), LoopD W0 d B fp (fun k => k = c ∨ k = eb ∨ k = wb) M W ∧ Found W0 W d c eb wb n b p M.starts u v ∧ (∀ r, firstF M (pre.map (·.1.2) ++ r) = some (n, b)) ∧ (∃ ps : List PtM, (∀ p ∈ ps, p.Ok ∧ p.may = true) ∧ (wholeF b).1 = ps.map PtM.bytes ∧ ps.getLast? = some p)) := fun cc pre X Y row h hg hr => by
    obtain ⟨e, n, b, p, u, v, h1, h2, h3⟩ := h
    exact ⟨e, n, b, p, u, v, h1.row hfp hg (fun k e => (hr k e).1), h2.grown hg hr, h3⟩
  clear hFr hns
  refine wpIn_rangeFunc_ownH rfl (by omega) (gf := 119) (lb := #[.pointer (some ⟨w2.heap.size, 0, none⟩)]) rfl trivial (enters_of Tryz.func119 (by kernel_rfl) rfl)
    (backB_stops Fence.wide _ trivial rfl (by omega) w2.heap.size W0.heap.size (fun k => ¬ (k = w2.heap.size ∨ (Value.slice xa M.files.length xc).ownBlock = some k)) (.slice xa M.files.length xc) ns hkeys (by omega) W0 (hBs'.cell (i := 0) rfl) hz ⟨hz, fun q => q (Or.inl rfl)⟩ hrow0 (fun k q => ⟨hrow0.lt q, fun n => n (Or.inr q)⟩))
    (fun h1 h2 => h1.trans h2) (fun W l o o' hl _ _ _ => KeptB.putObj _ W l o' hl) (Below.refl _ _) (fun _ => rfl)
    (fun pre W => LoopD W0 d B fp (fun _ => False) M W ∧ ∀ r, firstF M (pre.map (·.1.2) ++ r) = firstF M r)
    (fun cc pre W => cc = .exit 0 ∧ ∃ (n : Int) (b : By) (p : PtM) (u v : Value), LoopD W0 d B fp (fun k => k = c ∨ k = eb ∨ k = wb) M W ∧ Found W0 W d c eb wb n b p M.starts u v ∧ (∀ r, firstF M (pre.map (·.1.2) ++ r) = some (n, b)) ∧ (∃ ps : List PtM, (∀ p ∈ ps, p.Ok ∧ p.may = true) ∧ (wholeF b).1 = ps.map PtM.bytes ∧ ps.getLast? = some p)) hI hIx ⟨hJ0, fun _ => rfl⟩
    (fun x a' W => a' = { tmps := #[.pointer (some ⟨d, 0, none⟩), .pointer (some ⟨z, 0, none⟩), .pointer (some ⟨z + 1, 0, none⟩), .pointer (some ⟨z + 1 + 1, 0, none⟩), undef, undef, .pointer (some ⟨p6, 0, none⟩), .pointer (some ⟨eb, 0, none⟩), .pointer (some ⟨wb, 0, none⟩), undef, .int .i64 x.1.2, undef, undef, undef, undef, undef, undef, undef, undef, .pointer (some ⟨d, 0, none⟩), .bool true, .bool false, undef, undef, undef, undef, undef, undef, v28, v29, v30, v31, v32, .pointer (some ⟨d, 0, none⟩), .slice xa M.files.length xc, .func (.func 119) #[] #[.pointer (some ⟨w2.heap.size, 0, none⟩)], .int .i64 (x.1.1 : Int), .int .i64 x.1.2, undef, undef, undef, undef, undef, undef, undef, undef, undef, undef, undef, undef, undef, undef, undef, undef, undef, undef, undef, undef, undef, undef, undef, undef, undef, undef, undef, undef, undef, undef, undef, undef, undef, undef, undef, undef, undef, undef, undef, undef, undef, undef, undef, undef, undef, undef, undef, undef, undef, undef, undef], defers := [] })
    ?hAx ?assign ?body ?done ?stop
  case hAx =>
    rintro x a' u X Y row e hg hr
    exact e
  case assign =>
    intro l pre x W K hi hK
    gi_wp2
    exact hK _ _ (KeepsFrom.refl _ _) (KeptB.refl _ _ _) hi rfl
  case body =>
    rintro g pre x a' W hl ⟨r, hr⟩ ⟨hJ, hd⟩ rfl hlt
    have hO := hJ.frg hfp HFR.out.1
    have cb0 := Blk.cell (w := W) (hO.obs (.blk z [.pointer (some ⟨d, 0, none⟩)] 29) (by simp)).1 (i := 0) rfl
    have hbq : ∀ k, k = w2.heap.size ∨ (Value.slice xa M.files.length xc).ownBlock = some k → B k := fun k q => q.elim (fun e => ((hO.obs (.blk w2.heap.size [.slice xa M.files.length xc] 83) (by simp)).2 k e).1) (fun e => ((hO.obs (.irow (.slice xa M.files.length xc) (M.files.map (·.1))) (by simp)).2 k e).1)
    have hx2 := hkeys _ (backsI_mem x.2)
    have hrise := HFR.out.1.ap.ok.rise
    have hkey : ∀ m ∈ ns, ∃ b, AM.get M.files m = some b := by
      intro m hm
      rw [← HFR.out.2.2] at hm
      obtain ⟨q, hq, e⟩ := List.mem_map.1 hm
      rw [← e]
      exact ⟨q.2, (AM.get_some hrise).2 hq⟩
    obtain ⟨b, hb⟩ := hkey _ (backsI_mem x.2)
    have hmap : ∀ rest, (pre ++ [x]).map (·.1.2) ++ rest = pre.map (·.1.2) ++ x.1.2 :: rest := fun rest => by simp
    have HM := Lib.hid hmap
    have HBQ := Lib.hid hbq
    have HJ := Lib.hid hJ
    have HD0 := Lib.hid hd
    have HO2 : Hid (FrG w0 W d M B _) := Lib.hid hO
    clear hO hJ hd hr hmap hbq hkey hrise
    by_cases h1 : 1000 ≤ x.1.2
    · have y1 : decide (1000 ≤ x.1.2) = true := decide_eq_true h1
      have HN := Lib.hid (show ∀ rest, firstF M ((pre ++ [x]).map (·.1.2) ++ rest) = firstF M rest from fun rest => by rw [HM.out, HD0.out, firstF_big h1])
      clear h1 hb
      gi_wp2
      exact ⟨KeepsFrom.refl _ _, KeptB.refl _ _ _, HJ.out, HN.out⟩
    · have y1 : decide (1000 ≤ x.1.2) = false := decide_eq_false h1
      obtain ⟨hb2, hx0, ps, hps, hpw⟩ := HE.out.2.1 _ _ hb
      have HL := Lib.hid (((callsIn_wide (n := 4 - 1)).2 (chk_load_pts ⟨B, HO2.out⟩ x.1.2 hx2 HE.out.2.2 hb hb2 hpw)).inRound g)
      have hfL : Fence.wide.fn 80 := trivial
      by_cases hv : (wholeF b).1 = []
      · have HN := Lib.hid (show ∀ rest, firstF M ((pre ++ [x]).map (·.1.2) ++ rest) = firstF M rest from fun rest => by rw [HM.out, HD0.out, firstF_void h1 hb hv])
        have hv0 : ps.length = 0 := by have q := hv; rw [hpw] at q; simpa using q
        clear h1 hb hv hps hpw
        gi_wp2_with (gi_at_call 80; refine HL.out.mono ?_; rintro e w3 ⟨a3, c3, rfl, hr3, ho3, hk3⟩)
        exact ⟨keepsFrom_low hk3 (fun k q => q.elim), hk3.keptB HJ.out.2.2.size (fun k hk z => z.elim), HJ.out.same hk3, HN.out⟩
      · have hne : ps ≠ [] := by rintro rfl; exact hv (by rw [hpw]; rfl)
        have hpl : 0 < ps.length := List.length_pos_iff.2 hne
        have hpb : ps.length ≤ 2000000 := by have h := wholeF_len b; rw [hpw, List.length_map] at h; omega
        have y2 : ((ps.length : Int) == 0) = false := by rw [beq_eq_false_iff_ne]; omega
        have HN := Lib.hid (show ∀ rest, firstF M ((pre ++ [x]).map (·.1.2) ++ rest) = some (x.1.2, b) from fun rest => by rw [HM.out, HD0.out, firstF_hit h1 hb hv])
        have HPS := Lib.hid (And.intro hps (And.intro hpw hne))
        clear hv hps hpw hne hb
        gi_wp2_with (gi_at_call 80; refine HL.out.mono ?_; rintro e w3 ⟨a3, c3, rfl, hr3, ho3, hk3⟩)
        have hobc := HO2.out.obs (.blk c (chkZ d M.starts) 74) (by simp)
        have hBc := (hobc.2 c rfl).1
        have hcl : c < W0.heap.size := HFR.out.1.lt (x := .blk c (chkZ d M.starts) 74) (by simp) (k := c) rfl
        have ho30 : ∀ k, (Value.slice a3 ps.length c3).ownBlock = some k → W0.heap.size ≤ k := fun k q => by have := ho3 k q; have := HJ.out.2.2.size; omega
        have hJ3 := HJ.out.same hk3
        have L0 : LoopP W0 w3 d c B fp M M.starts (.slice a3 ps.length c3) ps 0 := ⟨⟨hJ3.1, hJ3.2.1, hJ3.2.2.mono (fun k _ q => q.imp id (fun q => q.imp id False.elim))⟩, hr3, pointZ, pointZ_len, hobc.1.kept hk3 id, fun p hp => by simp at hp⟩
        have b6 := (HFR.out.1.obs (.blk p6 [.pointer (some ⟨c, 0, none⟩)] 66) (by simp))
        have b6c : p6 ≠ c := fun e => by
          have h1 : Blk W0 p6 [.pointer (some ⟨c, 0, none⟩)] 66 := b6.1
          have h2 : Blk W0 c (chkZ d M.starts) 74 := (HFR.out.1.obs (.blk c (chkZ d M.starts) 74) (by simp)).1
          rw [e] at h1
          have h3 := h1.symm.trans h2
          simp at h3
        have hc6 : ∀ Wr k, LoopP W0 Wr d c B fp M M.starts (.slice a3 ps.length c3) ps k → Wr.cell? ⟨p6, 0, none⟩ = some (.pointer (some ⟨c, 0, none⟩)) := fun Wr k h => by
          have h1 : Blk W0 p6 [.pointer (some ⟨c, 0, none⟩)] 66 := b6.1
          exact (h1.kept h.loop.2.2 (fun q => by
            rcases q with q | q | q
            · exact q (b6.2 p6 rfl).1
            · have := h1.lt; omega
            · exact b6c q)).cell (i := 0) rfl
        have htb : ∀ Wr k, LoopP W0 Wr d c B fp M M.starts (.slice a3 ps.length c3) ps k → Tab Wr := fun Wr k h => HFR.out.1.tab0.same (HFR.out.1.kept.then_ h.loop.2.2 (fun i hi q => by
          rcases q with q | q | q
          · exact q (HFR.out.1.old i hi)
          · have := HFR.out.1.kept.size; omega
          · have := (hobc.2 c rfl).2; omega))
        have HX := Lib.hid (And.intro hBc (And.intro hcl (And.intro ho30 (And.intro hc6 htb))))
        have HK3 := Lib.hid (And.intro hk3 (And.intro hobc trivial))
        have hfR : Fence.wide.fn 81 := trivial
        clear hobc hBc hcl ho30 hJ3 b6 b6c hc6 htb hk3 ho3 hr3
        gi_loopw [52] (fun i wr => ∃ k : Nat, i = .int .i64 (k : Int) ∧ k ≤ ps.length ∧ Hid (LoopP W0 wr d c B fp M M.starts (.slice a3 ps.length c3) ps k) ∧ Hid (KeepsFrom W0.heap.size W wr)) (fun i _ => ps.length - (intOf i).toNat)
        case atStart => exact ⟨0, rfl, Nat.zero_le _, Lib.hid L0, Lib.hid (keepsFrom_low HK3.out.1 (fun k q => q.elim))⟩
        case round =>
          obtain ⟨k, rfl, hk, HLP, HKF⟩ := hrel
          by_cases hlt : k < ps.length
          · have z1 : decide ((k : Int) < (ps.length : Int)) = true := decide_eq_true (by omega)
            obtain ⟨p, hp⟩ : ∃ p, ps[k]? = some p := ⟨_, List.getElem?_eq_getElem hlt⟩
            have hpo := HPS.out.1 p (List.mem_of_getElem? hp)
            obtain ⟨g5, n5, c5, ev, hcell⟩ := row_text (p := p.bytes) HLP.out.row (by rw [List.getElem?_map, hp]; rfl)
            cases ev
            have HRD := Lib.hid (((callsIn_wide (n := 4 - 1)).2 (read_may wr p hpo.1 hpo.2 (HX.out.2.2.2.2 wr k HLP.out))).inRound g)
            have HPO := Lib.hid (And.intro hpo.1 hp)
            clear hp hpo
            gi_upto_region 15 with (first | (gi_at_call 81; refine HRD.out.mono ?_; rintro e w4 ⟨a4, c4, b4, d4, rfl, hr1, hr2, q1, q2, q12, hk4⟩; have HFP := Lib.hid (fresh_point w4 (PtM.cells_len HPO.out.1 (.slice a4 p.hs.length c4) (.slice b4 3 d4)))) | ((with_reducible show wpListIn _ _ _ _ _ (⟨none, .store _ (.tmp 16) _, _, _, _, _⟩ :: _) _ _); refine wpListIn_store_mid rfl 72 _ _ rfl w4.heap.size 0 (p.cells (.slice a4 p.hs.length c4) (.slice b4 3 d4)).toArray rfl rfl HFP.out.1 (info_point_of (PtM.cells_len HPO.out.1 _ _)) (all_oneCell_toArray (pointC_one _ _ _ _ _ _ _ rfl rfl)) ?_))
            generalize hW5 : World.setCells _ _ _ _ = W5
            have HP5 := Lib.hid (HFP.out.2 W5 hW5)
            have hl5 := HLP.out.turn (hk4.trans HP5.out.2)
            have c6 := HX.out.2.2.2.1 W5 k hl5
            have hzz : W0.heap.size ≤ wr.heap.size := HLP.out.loop.2.2.size
            have HR5 := Lib.hid (And.intro (hr1.kept HP5.out.2 (fun _ _ => id)) (And.intro (hr2.kept HP5.out.2 (fun _ _ => id)) (And.intro (fun k q => Nat.le_trans hzz (q1 k q)) (And.intro (fun k q => Nat.le_trans hzz (q2 k q)) q12))))
            have iP : (Tryz.prog.info? 72).map (·.size) = some (p.cells (.slice a4 p.hs.length c4) (.slice b4 3 d4)).length := by rw [PtM.cells_len HPO.out.1]; exact info_point_
            have HTH := Lib.hid (And.intro (hl5.there (PtM.cells_len HPO.out.1 (.slice a4 p.hs.length c4) (.slice b4 3 d4))) iP)
            have HL5 := Lib.hid hl5
            have HKG := Lib.hid ((HKF.out.trans (keepsFrom_low (hk4.trans HP5.out.2) (fun k q => q.elim))))
            clear hW5 hl5 hr1 hr2 q1 q2 q12 hk4 HFP iP hzz
            gi_upto_region 18 with (first | ((with_reducible show wpListIn _ _ _ _ _ (⟨some 64, _, _, _, _, _⟩ :: _) _ _); refine wpListIn_load_mid rfl 72 _ rfl w4.heap.size 0 rfl (p.cells (.slice a4 p.hs.length c4) (.slice b4 3 d4)) _ HP5.out.1.range0 Tryz.underlying72 rfl HTH.out.2 ?_) | ((with_reducible show wpListIn _ _ _ _ _ (⟨none, .store _ (.tmp 66) _, _, _, _, _⟩ :: _) _ _); refine wpListIn_store_mid rfl 72 _ _ rfl c 3 (p.cells (.slice a4 p.hs.length c4) (.slice b4 3 d4)).toArray rfl rfl HTH.out.1 (info_point_of (PtM.cells_len HPO.out.1 _ _)) (all_oneCell_toArray (pointC_one _ _ _ _ _ _ _ rfl rfl)) ?_))
            generalize hW6 : World.setCells _ _ _ _ = W6
            have HL6 := Lib.hid (HL5.out.next hfp HX.out.1 HX.out.2.1 HX.out.2.2.1 HPO.out.2 HPO.out.1 HR5.out.1 HR5.out.2.1 HR5.out.2.2.1 HR5.out.2.2.2.1 HR5.out.2.2.2.2 hW6)
            have HKH := Lib.hid (HKG.out.trans (keepsFrom_low (show Kept (· = c) W5 W6 from by rw [← hW6]; exact kept_setCells _ _ _ _) (fun k q => by have := HX.out.2.1; omega)))
            clear hW6 c6
            gi_wp2
            go_roundw
            case rel => exact ⟨k + 1, by go_num, hlt, HL6, HKH⟩
            case measure => simp [intOf]; omega
          · obtain rfl : k = ps.length := by omega
            have z1 : decide ((ps.length : Int) < (ps.length : Int)) = false := decide_eq_false (by omega)
            gi_upto_region 19 with fail
            obtain ⟨p, hpl2⟩ : ∃ p, ps.getLast? = some p := by
              cases h : ps.getLast? with
              | some p => exact ⟨p, rfl⟩
              | none => exact absurd (List.getLast?_eq_none_iff.1 h) HPS.out.2.2
            obtain ⟨P, hP1, hP2, hP3⟩ := HLP.out.chk
            rw [List.take_length] at hP3
            obtain ⟨u, v, rfl, r1, r2, o1, o2, o12⟩ := hP3 p hpl2
            have be0 := HFR.out.1.obs (.blk eb [.int .i64 0] 3) (by simp)
            have bw0 := HFR.out.1.obs (.blk wb [.bool true] 4) (by simp)
            have b60 := HFR.out.1.obs (.blk p6 [.pointer (some ⟨c, 0, none⟩)] 66) (by simp)
            have bc0 := HFR.out.1.obs (.blk c (chkZ d M.starts) 74) (by simp)
            have be1 : Blk W0 eb [.int .i64 0] 3 := be0.1
            have bw1 : Blk W0 wb [.bool true] 4 := bw0.1
            have b61 : Blk W0 p6 [.pointer (some ⟨c, 0, none⟩)] 66 := b60.1
            have bc1 : Blk W0 c (chkZ d M.starts) 74 := bc0.1
            have hD : RegD W0 c eb wb p6 B fp u v := ⟨blk_apart bc1 be1 (by decide), blk_apart bc1 bw1 (by decide), blk_apart be1 bw1 (by decide), blk_apart b61 bc1 (by decide), blk_apart b61 be1 (by decide), blk_apart b61 bw1 (by decide), ⟨(bc0.2 c rfl).1, bc1.lt⟩, ⟨(be0.2 eb rfl).1, be1.lt⟩, ⟨(bw0.2 wb rfl).1, bw1.lt⟩, hfp, o1, o2⟩
            have hlp := HLP.out.loop
            have nk : ∀ b, b < W0.heap.size → B b → b ≠ c → ¬ (¬ B b ∨ W0.heap.size ≤ b ∨ b = c) := fun b h1 h2 h3 q => by
              rcases q with q | q | q
              · exact q h2
              · omega
              · exact h3 q
            have hR0 : RegS W0 wr d c eb wb p6 B fp M M.starts p u v (-1) 0 0 true := ⟨⟨hlp.1, hlp.2.1, hlp.2.2.mono (fun k _ q => q.imp id (fun q => q.imp id Or.inl))⟩, hP2, be1.kept hlp.2.2 (nk eb hD.b2.2 hD.b2.1 hD.n1.symm), bw1.kept hlp.2.2 (nk wb hD.b3.2 hD.b3.1 hD.n2.symm), b61.kept hlp.2.2 (nk p6 b61.lt (b60.2 p6 rfl).1 hD.n4), r1, r2⟩
            have HD := Lib.hid hD
            have HU := Lib.hid (And.intro hpl2 (And.intro o12 (And.intro o1 o2)))
            have hR1 := hR0.turn ((Kept.refl _ _).drew)
            have HKD := Lib.hid (HKF.out.trans (keepsFrom_low ((Kept.refl (fun _ => False) wr).drew) (fun k q => q.elim)))
            clear hP1 hP2 hP3 r1 r2 o1 o2 o12 be0 bw0 b60 bc0 be1 bw1 b61 bc1 hD hlp nk hR0 hpl2
            refine wpIn_round_n (S := fun W => ∃ f m e x, RegS W0 W d c eb wb p6 B fp M M.starts p u v f m e x) (by kernel_rfl) (by kernel_rfl) ⟨_, _, _, _, hR1⟩ (fun hH0 => ?_)
            generalize World.drew wr = W4 at *
            have HR1 := Lib.hid hR1
            clear hR1
            refine tk (v := .pointer (some ⟨c, 0, none⟩)) 0 rfl (fun _ _ _ h => h) hH0 ?_ (hy := Or.inl ⟨by rfl, fun w hSw => by obtain ⟨f, m, e, x, q⟩ := hSw; have c6 := q.ptr.cell (i := 0) rfl; clear q; go_simp⟩)
            refine tk (v := .pointer (some ⟨c, 0, none⟩)) 1 rfl (fun _ _ _ h => h) hH0 ?_ (hy := Or.inl ⟨by rfl, fun w hSw => by obtain ⟨f, m, e, x, q⟩ := hSw; have c6 := q.ptr.cell (i := 0) rfl; clear q; go_simp⟩)
            refine tk 2 rfl (fun _ _ _ h => h) hH0 ?_
            refine tk 3 rfl (fun _ _ _ h => h) hH0 ?_
            refine tk 4 rfl (fun _ _ _ h => h) hH0 ?_
            refine tk 5 rfl (fun _ _ _ h => h) hH0 ?_
            refine tk 6 rfl (fun _ _ _ h => h) hH0 ?_
            refine tk 7 rfl (fun _ _ _ h => h) hH0 ?_
            refine tk 8 rfl (fun _ _ _ h => h) hH0 ?_
            refine tk 9 rfl (fun _ _ _ h => h) hH0 ?_
            refine tk 10 rfl (fun _ _ _ h => h) hH0 ?_
            try simp only [lyA, lyB, lyC, lyD]
            have g1 := HR1.out.chk.cell (i := 1) rfl
            have g2 := HR1.out.chk.free 1
            refine rd1 11 (fun K hK => ?_)
            go_simp
            generalize hWa : World.setCell W4 _ _ = W5
            have h5 := HR1.out.file HD.out x.1.2 hWa
            have h5K : Kept (fun k => k = c ∨ k = eb ∨ k = wb) W4 W5 := by rw [← hWa]; exact (kept_cell W4 _ _ _).mono (fun k _ e => by first | exact Or.inl e | exact Or.inr (Or.inl e) | exact Or.inr (Or.inr e))
            refine hK.out _ _ ⟨_, _, _, _, h5⟩ (fun hH1 => ?_)
            clear hK K hWa
            try simp only [lyA, lyB, lyC, lyD]
            clear g1 g2
            refine tk (v := .pointer (some ⟨c, 0, none⟩)) 12 rfl (fun _ _ _ h => h) hH1 ?_
            refine tk 13 rfl (fun _ _ _ h => h) hH1 ?_
            try simp only [lyA, lyB, lyC, lyD]
            have g1 := h5.chk.cell (i := 2) rfl
            have g2 := h5.chk.free 2
            refine rd1 14 (fun K hK => ?_)
            go_simp
            generalize hWa : World.setCell W5 _ _ = W6
            have h6 := h5.many HD.out (ps.length : Int) hWa
            have h6K : Kept (fun k => k = c ∨ k = eb ∨ k = wb) W5 W6 := by rw [← hWa]; exact (kept_cell W5 _ _ _).mono (fun k _ e => by first | exact Or.inl e | exact Or.inr (Or.inl e) | exact Or.inr (Or.inr e))
            refine hK.out _ _ ⟨_, _, _, _, h6⟩ (fun hH2 => ?_)
            clear hK K hWa
            try simp only [lyA, lyB, lyC, lyD]
            clear g1 g2
            have g1 := h6.en.cell (i := 0) rfl
            have g2 := h6.en.free 0
            refine rd1 15 (fun K hK => ?_)
            go_simp
            generalize hWa : World.setCell W6 _ _ = W7
            have h7 := h6.end_ HD.out ((b.length - (wholeF b).2.length : Nat) : Int) hWa
            have h7K : Kept (fun k => k = c ∨ k = eb ∨ k = wb) W6 W7 := by rw [← hWa]; exact (kept_cell W6 _ _ _).mono (fun k _ e => by first | exact Or.inl e | exact Or.inr (Or.inl e) | exact Or.inr (Or.inr e))
            refine hK.out _ _ ⟨_, _, _, _, h7⟩ (fun hH3 => ?_)
            clear hK K hWa
            try simp only [lyA, lyB, lyC, lyD]
            clear g1 g2
            have g1 := h7.wh.cell (i := 0) rfl
            have g2 := h7.wh.free 0
            refine rd1 16 (fun K hK => ?_)
            go_simp
            generalize hWa : World.setCell W7 _ _ = W8
            have h8 := h7.whole HD.out _ hWa
            have h8K : Kept (fun k => k = c ∨ k = eb ∨ k = wb) W7 W8 := by rw [← hWa]; exact (kept_cell W7 _ _ _).mono (fun k _ e => by first | exact Or.inl e | exact Or.inr (Or.inl e) | exact Or.inr (Or.inr e))
            refine hK.out _ _ ⟨_, _, _, _, h8⟩ (fun hH4 => ?_)
            clear hK K hWa
            try simp only [lyA, lyB, lyC, lyD]
            clear g1 g2
            refine wpAnyH_done (by kernel_rfl) ?_ _
            refine (id : _ → _) ?_
            unfold OnlyN
            have HF8 := Lib.hid (And.intro h8 (HKD.out.trans (keepsFrom_low (((h5K.trans h6K).trans h7K).trans h8K) (fun k q => by rcases q with q | q | q <;> rw [q] <;> first | exact HD.out.b1.2 | exact HD.out.b2.2 | exact HD.out.b3.2))))
            clear h5 h6 h7 h8 h5K h6K h7K h8K hH0 hH1 hH2 hH3 hH4 HLP HKF HKD
            gi_wp2
            have hle : (wholeF b).1.length = ps.length := by rw [HPS.out.2.1, List.length_map]
            have heq : ∀ (i j : Nat), (((i : Int) == (j : Int)) : Bool) = decide (i = j) := fun i j => by
              by_cases h : i = j
              · rw [h]; simp
              · rw [decide_eq_false h, beq_eq_false_iff_ne]; omega
            have hwh := HF8.out.1.wh
            rw [heq] at hwh
            exact ⟨HF8.out.2, rfl, x.1.2, b, p, u, v, HF8.out.1.loop, ⟨by rw [hle]; exact HF8.out.1.chk, HF8.out.1.en, hwh, HF8.out.1.r1, HF8.out.1.r2, HU.out.2.2.1, HU.out.2.2.2, HU.out.2.1⟩, HN.out, ps, HPS.out.1, HPS.out.2.1, HU.out.1⟩
  case stop =>
    rintro D cc pre W hD hp ⟨rfl, n, b, p, u, v, hJ, hFo, hfi, ps, hps, hpw, hpl⟩ hK
    have hl0 : lastF M = some (n, b) := by
      obtain ⟨t, ht⟩ := hp
      have q := congrArg (fun l => l.map (·.2)) ht
      simp only [List.map_append, List.map_map, backsI_map] at q
      have e : pre.map (·.1.2) ++ t.map (·.2) = ns.reverse := q
      unfold lastF
      rw [HFR.out.2.2, ← e]
      exact hfi _
    obtain ⟨en, hen⟩ : ∃ en : Int, en = ((b.length - (wholeF b).2.length : Nat) : Int) := ⟨_, rfl⟩
    obtain ⟨whole, hwhole⟩ : ∃ whole : Bool, whole = decide (b.length - (wholeF b).2.length = b.length) := ⟨_, rfl⟩
    have he := HE.out.1
    unfold mendO at he
    rw [hl0] at he
    simp only at he
    rw [← hen, ← hwhole] at he
    have hfile : -9223372036854775808 ≤ n ∧ n ≤ 9223372036854775807 := by
      have h1 := (firstF_mem hl0).1
      rw [HFR.out.2.2] at h1
      exact hkeys _ (List.mem_reverse.1 h1)
    have h5 : Owg w0 W d M (.blk c (chkC d n ((wholeF b).1.length : Int) (p.cells u v) M.starts false) 74 :: .obj D (.deferred (some [])) :: .blk eb [.int .i64 en] 3 :: .blk wb [.bool whole] 4 :: .blk p6 [.pointer (some ⟨c, 0, none⟩)] 66 :: .blk z [.pointer (some ⟨d, 0, none⟩)] 29 :: .blk (z + 1) [.pointer none] 66 :: .blk (z + 1 + 1) [.int .i64 0] 30 :: .hrow u p.hs :: .hrow v p.path :: .blk w2.heap.size [.slice xa M.files.length xc] 83 :: .irow (.slice xa M.files.length xc) (M.files.map (·.1)) :: Os) := by
      have bc1 : Blk W0 c (chkZ d M.starts) 74 := (HFR.out.1.obs (.blk c (chkZ d M.starts) 74) (by simp)).1
      have be1 : Blk W0 eb [.int .i64 0] 3 := (HFR.out.1.obs (.blk eb [.int .i64 0] 3) (by simp)).1
      have bw1 : Blk W0 wb [.bool true] 4 := (HFR.out.1.obs (.blk wb [.bool true] 4) (by simp)).1
      have n1 := blk_apart bc1 be1 (by decide)
      have n2 := blk_apart bc1 bw1 (by decide)
      have n3 := blk_apart be1 bw1 (by decide)
      have lc := bc1.lt
      have le := be1.lt
      have lw := bw1.lt
      have nu : ¬ u.ownBlock = some D := fun q => nonCells hK rfl (hFo.r1.ownCells q)
      have nv : ¬ v.ownBlock = some D := fun q => nonCells hK rfl (hFo.r2.ownCells q)
      have h1 := FrG.jump (Xs := [.blk c (chkZ d M.starts) 74, .blk eb [.int .i64 0] 3, .blk wb [.bool true] 4]) (Ys := [.blk c (chkC d n ((wholeF b).1.length : Int) (p.cells u v) M.starts false) 74, .obj D (.deferred (some [])), .blk eb [.int .i64 en] 3, .blk wb [.bool whole] 4, .hrow u p.hs, .hrow v p.path]) HFR.out.1 hJ hfp
        (fun k q => by
          rcases q with q | q | q
          · exact ⟨_, List.mem_cons_self .., q⟩
          · exact ⟨_, List.mem_cons_of_mem _ (List.mem_cons_self ..), q⟩
          · exact ⟨_, List.mem_cons_of_mem _ (List.mem_cons_of_mem _ (List.mem_cons_self ..)), q⟩)
        (fun y q => by
          simp only [List.mem_cons, List.not_mem_nil, or_false] at q
          rcases q with rfl | rfl | rfl | rfl | rfl | rfl
          · exact ⟨hFo.chk, fun k e => Or.inl ⟨_, List.mem_cons_self .., e⟩⟩
          · exact ⟨hK, fun k e => Or.inr (by have : k = D := e; omega)⟩
          · exact ⟨by rw [hen]; exact hFo.en, fun k e => Or.inl ⟨_, List.mem_cons_of_mem _ (List.mem_cons_self ..), e⟩⟩
          · exact ⟨by rw [hwhole]; exact hFo.wh, fun k e => Or.inl ⟨_, List.mem_cons_of_mem _ (List.mem_cons_of_mem _ (List.mem_cons_self ..)), e⟩⟩
          · exact ⟨hFo.r1, fun k e => Or.inr (hFo.o1 k e)⟩
          · exact ⟨hFo.r2, fun k e => Or.inr (hFo.o2 k e)⟩)
        (by
          refine List.pairwise_cons.2 ⟨fun y q k e z => ?_, List.pairwise_cons.2 ⟨fun y q k e z => ?_, List.pairwise_cons.2 ⟨fun y q k e z => ?_, List.pairwise_cons.2 ⟨fun y q k e z => ?_, List.pairwise_cons.2 ⟨fun y q k e z => ?_, List.pairwise_singleton _ _⟩⟩⟩⟩⟩
          all_goals simp only [List.mem_cons, List.not_mem_nil, or_false] at q
          · have e : k = c := e
            subst e
            rcases q with rfl | rfl | rfl | rfl | rfl
            · have : k = D := z; omega
            · exact n1 z
            · exact n2 z
            · have := hFo.o1 k z; omega
            · have := hFo.o2 k z; omega
          · have e : k = D := e
            subst e
            rcases q with rfl | rfl | rfl | rfl
            · have : k = eb := z; omega
            · have : k = wb := z; omega
            · exact nu z
            · exact nv z
          · have e : k = eb := e
            subst e
            rcases q with rfl | rfl | rfl
            · exact n3 z
            · have := hFo.o1 k z; omega
            · have := hFo.o2 k z; omega
          · have e : k = wb := e
            subst e
            rcases q with rfl | rfl
            · have := hFo.o1 k z; omega
            · have := hFo.o2 k z; omega
          · rcases q with rfl
            exact hFo.o12 k e z)
      exact ⟨_, h1.perm (((((List.perm_append_comm (l₁ := [_, _, _, _]) (l₂ := [_, _, _, _])).append_right Os).cons _).cons _).cons _ |>.cons _)⟩
    have hpost : ∀ w', Owg w0 w' d M' (.blk c (chkC d n ((wholeF b).1.length : Int) (p.cells u v) M.starts false) 74 :: .hrow u p.hs :: .hrow v p.path :: .blk w2.heap.size [.slice xa M.files.length xc] 83 :: .irow (.slice xa M.files.length xc) (M.files.map (·.1)) :: Os) → OpenO w0 w' d c M M' Os := by
      intro w' h
      unfold OpenO
      rw [hl0]
      exact ⟨p, u, v, ⟨ps, hps, hpw, hpl⟩, h.sub (((List.Sublist.cons_cons _ (List.Sublist.cons_cons _ (List.Sublist.cons_cons _ (((List.Sublist.refl _).cons _).cons _))))))⟩
    have hsub : Os.Sublist (.hrow u p.hs :: .hrow v p.path :: .blk w2.heap.size [.slice xa M.files.length xc] 83 :: .irow (.slice xa M.files.length xc) (M.files.map (·.1)) :: Os) := ((((List.Sublist.refl _).cons _).cons _).cons _).cons _
    clear hFo hfi hps hpw hpl hK hen hwhole hl0
    have c6 := Blk.cell (w := W) (h5.has (x := .blk p6 [.pointer (some ⟨c, 0, none⟩)] 66) (by simp)) (i := 0) rfl
    have ce := Blk.cell (w := W) (h5.has (x := .blk eb [.int .i64 en] 3) (by simp)) (i := 0) rfl
    have cw := Blk.cell (w := W) (h5.has (x := .blk wb [.bool whole] 4) (by simp)) (i := 0) rfl
    have HM := Lib.hid (callsIn_wide (n := 5) |>.2 (chk_mend h5 hfile en whole he))
    have HT := Lib.hid (And.intro hpost hsub)
    clear h5 he hpost hsub hJ
    by_cases hy0 : y = 0
    · subst hy0
      gi_wp2_with (gi_at_call 82; refine HM.out.mono ?_; rintro e w6 ⟨rfl, h6⟩; have c66 := Blk.cell (w := w6) (h6.has (x := .blk p6 [.pointer (some ⟨c, 0, none⟩)] 66) (by simp)) (i := 0) rfl; have b2 := h6.has (x := .blk (z + 1) [.pointer none] 66) (by simp); have b3 := h6.has (x := .blk (z + 1 + 1) [.int .i64 0] 30) (by simp); have e2 := Blk.cell (w := w6) b2 (i := 0) rfl; have e3 := Blk.cell (w := w6) b3 (i := 0) rfl; have z2 := Blk.free (w := w6) b2 0; have z3 := Blk.free (w := w6) b3 0; have H6 := Lib.hid h6; clear h6 b2 b3)
      have h8 := (op_set (x := .pointer (some ⟨c, 0, none⟩)) (H6.out.perm (List.perm_middle (l₁ := [_, _, _, _, _, _])))).2.2
      generalize hW7 : w6.setCell _ _ = W7 at h8 ⊢
      have h10 := (op_set (x := .int .i64 0) (h8.perm (List.perm_middle (l₁ := [_, _, _, _, _, _, _])))).2.2
      generalize hW8 : W7.setCell _ _ = W8 at h10 ⊢
      obtain ⟨hK8, h12⟩ := loop_end2 (h10.perm (List.perm_middle (l₁ := [_, _, _])))
      have r2 := Blk.cell (h12.has (x := .blk (z + 1) [.pointer (some ⟨c, 0, none⟩)] 66) (by simp)) (i := 0) rfl
      have r3 := Blk.cell (h12.has (x := .blk (z + 1 + 1) [.int .i64 0] 30) (by simp)) (i := 0) rfl
      refine ⟨by simp, .inl ⟨_, _, rfl, run_takeDeferred hK8, .tuple #[.pointer (some ⟨c, 0, none⟩), .int .i64 0], ?_, ?_⟩⟩
      · simp [results, Tryz.f25, go_sem, r2, r3]
      · unfold OpenTo
        rw [if_pos rfl]
        exact ⟨c, rfl, HT.out.1 _ (h12.drop.drop.sub (List.Sublist.cons_cons _ (((((List.Sublist.refl _).cons _).cons _).cons _).cons _)))⟩
    · have y3 : (y != 0) = true := by rw [bne_iff_ne]; exact hy0
      gi_wp2_with (gi_at_call 82; refine HM.out.mono ?_; rintro e w6 ⟨rfl, h6⟩; have c66 := Blk.cell (w := w6) (h6.has (x := .blk p6 [.pointer (some ⟨c, 0, none⟩)] 66) (by simp)) (i := 0) rfl; have b2 := h6.has (x := .blk (z + 1) [.pointer none] 66) (by simp); have b3 := h6.has (x := .blk (z + 1 + 1) [.int .i64 0] 30) (by simp); have e2 := Blk.cell (w := w6) b2 (i := 0) rfl; have e3 := Blk.cell (w := w6) b3 (i := 0) rfl; have z2 := Blk.free (w := w6) b2 0; have z3 := Blk.free (w := w6) b3 0; have H6 := Lib.hid h6; clear h6 b2 b3)
      have h8 := (op_set (x := .pointer none) (H6.out.perm (List.perm_middle (l₁ := [_, _, _, _, _, _])))).2.2
      generalize hW7 : w6.setCell _ _ = W7 at h8 ⊢
      have h10 := (op_set (x := .int .i64 y) (h8.perm (List.perm_middle (l₁ := [_, _, _, _, _, _, _])))).2.2
      generalize hW8 : W7.setCell _ _ = W8 at h10 ⊢
      obtain ⟨hK8, h12⟩ := loop_end2 (h10.perm (List.perm_middle (l₁ := [_, _, _])))
      have r2 := Blk.cell (h12.has (x := .blk (z + 1) [.pointer none] 66) (by simp)) (i := 0) rfl
      have r3 := Blk.cell (h12.has (x := .blk (z + 1 + 1) [.int .i64 y] 30) (by simp)) (i := 0) rfl
      refine ⟨by simp, .inl ⟨_, _, rfl, run_takeDeferred hK8, .tuple #[.pointer none, .int .i64 y], ?_, ?_⟩⟩
      · simp [results, Tryz.f25, go_sem, r2, r3]
      · unfold OpenTo
        rw [if_neg hy0]
        exact ⟨rfl, h12.sub (((((((HT.out.2.cons _).cons _).cons _).cons _).cons _).cons _).cons _)⟩
  case done =>
    rintro D ys W hD hy ⟨hJ, hd⟩ hK
    have hl0 : lastF M = none := by
      have h1 := hd []
      have e : ys.map (·.1.2) = ns.reverse := by rw [← backsI_map]; have q := congrArg (fun l => l.map (·.2)) hy; rw [← q, List.map_map]; rfl
      rw [List.append_nil, e] at h1
      unfold lastF
      rw [HFR.out.2.2, h1]
      rfl
    obtain ⟨en, hen⟩ : ∃ en : Int, en = 0 := ⟨_, rfl⟩
    obtain ⟨whole, hwhole⟩ : ∃ whole : Bool, whole = true := ⟨_, rfl⟩
    have he := HE.out.1
    unfold mendO at he
    rw [hl0] at he
    simp only at he
    rw [← hen, ← hwhole] at he
    have hfile : -9223372036854775808 ≤ (-1 : Int) ∧ (-1 : Int) ≤ 9223372036854775807 := by decide
    have h4 := hJ.frg2 hfp HFR.out.1 hD hK
    have h5 : Owg w0 W d M (.blk c (chkZ d M.starts) 74 :: .obj D (.deferred (some [])) :: .blk eb [.int .i64 en] 3 :: .blk wb [.bool whole] 4 :: .blk p6 [.pointer (some ⟨c, 0, none⟩)] 66 :: .blk z [.pointer (some ⟨d, 0, none⟩)] 29 :: .blk (z + 1) [.pointer none] 66 :: .blk (z + 1 + 1) [.int .i64 0] 30 :: .blk w2.heap.size [.slice xa M.files.length xc] 83 :: .irow (.slice xa M.files.length xc) (M.files.map (·.1)) :: Os) := by
      rw [hen, hwhole]
      exact h4.perm ((List.Perm.swap _ _ _).trans (((((List.perm_append_comm (l₁ := [_, _]) (l₂ := [_, _, _, _])).append_right Os).cons _).cons _).cons _ |>.cons _))
    have hpost : ∀ w', Owg w0 w' d M' (.blk c (chkZ d M.starts) 74 :: .blk w2.heap.size [.slice xa M.files.length xc] 83 :: .irow (.slice xa M.files.length xc) (M.files.map (·.1)) :: Os) → OpenO w0 w' d c M M' Os := by
      intro w' h
      unfold OpenO
      rw [hl0]
      exact h.sub (List.Sublist.cons_cons _ (((List.Sublist.refl _).cons _).cons _))
    have hsub : Os.Sublist (.blk w2.heap.size [.slice xa M.files.length xc] 83 :: .irow (.slice xa M.files.length xc) (M.files.map (·.1)) :: Os) := ((List.Sublist.refl _).cons _).cons _
    clear h4 hd hK hen hwhole hl0 hy
    have c6 := Blk.cell (w := W) (h5.has (x := .blk p6 [.pointer (some ⟨c, 0, none⟩)] 66) (by simp)) (i := 0) rfl
    have ce := Blk.cell (w := W) (h5.has (x := .blk eb [.int .i64 en] 3) (by simp)) (i := 0) rfl
    have cw := Blk.cell (w := W) (h5.has (x := .blk wb [.bool whole] 4) (by simp)) (i := 0) rfl
    have HM := Lib.hid (callsIn_wide (n := 5) |>.2 (chk_mend h5 hfile en whole he))
    have HT := Lib.hid (And.intro hpost hsub)
    clear h5 he hpost hsub hJ
    by_cases hy0 : y = 0
    · subst hy0
      gi_wp2_with (gi_at_call 82; refine HM.out.mono ?_; rintro e w6 ⟨rfl, h6⟩; have c66 := Blk.cell (w := w6) (h6.has (x := .blk p6 [.pointer (some ⟨c, 0, none⟩)] 66) (by simp)) (i := 0) rfl; have b2 := h6.has (x := .blk (z + 1) [.pointer none] 66) (by simp); have b3 := h6.has (x := .blk (z + 1 + 1) [.int .i64 0] 30) (by simp); have e2 := Blk.cell (w := w6) b2 (i := 0) rfl; have e3 := Blk.cell (w := w6) b3 (i := 0) rfl; have z2 := Blk.free (w := w6) b2 0; have z3 := Blk.free (w := w6) b3 0; have H6 := Lib.hid h6; clear h6 b2 b3)
      have h8 := (op_set (x := .pointer (some ⟨c, 0, none⟩)) (H6.out.perm (List.perm_middle (l₁ := [_, _, _, _, _, _])))).2.2
      generalize hW7 : w6.setCell _ _ = W7 at h8 ⊢
      have h10 := (op_set (x := .int .i64 0) (h8.perm (List.perm_middle (l₁ := [_, _, _, _, _, _, _])))).2.2
      generalize hW8 : W7.setCell _ _ = W8 at h10 ⊢
      obtain ⟨hK8, h12⟩ := loop_end2 (h10.perm (List.perm_middle (l₁ := [_, _, _])))
      have r2 := Blk.cell (h12.has (x := .blk (z + 1) [.pointer (some ⟨c, 0, none⟩)] 66) (by simp)) (i := 0) rfl
      have r3 := Blk.cell (h12.has (x := .blk (z + 1 + 1) [.int .i64 0] 30) (by simp)) (i := 0) rfl
      refine ⟨by simp, .inl ⟨_, _, rfl, run_takeDeferred hK8, .tuple #[.pointer (some ⟨c, 0, none⟩), .int .i64 0], ?_, ?_⟩⟩
      · simp [results, Tryz.f25, go_sem, r2, r3]
      · unfold OpenTo
        rw [if_pos rfl]
        exact ⟨c, rfl, HT.out.1 _ (h12.drop.drop.sub (List.Sublist.cons_cons _ (((((List.Sublist.refl _).cons _).cons _).cons _).cons _)))⟩
    · have y3 : (y != 0) = true := by rw [bne_iff_ne]; exact hy0
      gi_wp2_with (gi_at_call 82; refine HM.out.mono ?_; rintro e w6 ⟨rfl, h6⟩; have c66 := Blk.cell (w := w6) (h6.has (x := .blk p6 [.pointer (some ⟨c, 0, none⟩)] 66) (by simp)) (i := 0) rfl; have b2 := h6.has (x := .blk (z + 1) [.pointer none] 66) (by simp); have b3 := h6.has (x := .blk (z + 1 + 1) [.int .i64 0] 30) (by simp); have e2 := Blk.cell (w := w6) b2 (i := 0) rfl; have e3 := Blk.cell (w := w6) b3 (i := 0) rfl; have z2 := Blk.free (w := w6) b2 0; have z3 := Blk.free (w := w6) b3 0; have H6 := Lib.hid h6; clear h6 b2 b3)
      have h8 := (op_set (x := .pointer none) (H6.out.perm (List.perm_middle (l₁ := [_, _, _, _, _, _])))).2.2
      generalize hW7 : w6.setCell _ _ = W7 at h8 ⊢
      have h10 := (op_set (x := .int .i64 y) (h8.perm (List.perm_middle (l₁ := [_, _, _, _, _, _, _])))).2.2
      generalize hW8 : W7.setCell _ _ = W8 at h10 ⊢
      obtain ⟨hK8, h12⟩ := loop_end2 (h10.perm (List.perm_middle (l₁ := [_, _, _])))
      have r2 := Blk.cell (h12.has (x := .blk (z + 1) [.pointer none] 66) (by simp)) (i := 0) rfl
      have r3 := Blk.cell (h12.has (x := .blk (z + 1 + 1) [.int .i64 y] 30) (by simp)) (i := 0) rfl
      refine ⟨by simp, .inl ⟨_, _, rfl, run_takeDeferred hK8, .tuple #[.pointer none, .int .i64 y], ?_, ?_⟩⟩
      · simp [results, Tryz.f25, go_sem, r2, r3]
      · unfold OpenTo
        rw [if_neg hy0]
        exact ⟨rfl, h12.sub (((((((HT.out.2.cons _).cons _).cons _).cons _).cons _).cons _).cons _)⟩
end
end Go.Proofs.YtlgeijbgkipliaaGreatDoor

namespace Go.Proofs.YtlgeijbgkipliaaGreatDoor
def PB (b : By) : Prop := ∃ p : PtM, p.Ok ∧ p.may = true ∧ b = p.bytes
theorem PB.len {b : By} (h : PB b) : b.length ≤ 65536 := by
  obtain ⟨p, h1, _, rfl⟩ := h
  have := PtM.bytes_len h1
  omega
inductive Cls (K : Int) : List (Int × By) → List By → Prop
  | void : Cls K [] []
  | one (n : Int) (qs : List By) (t : By) : 0 ≤ n → n < K → cutF t = none → Cls K [(n, framesF qs ++ t)] qs
  | old (n : Int) (qs : List By) (t : By) : 0 ≤ n → n + 1 < K → cutF t = none → qs ≠ [] → Cls K [(n, framesF qs), (n + 1, t)] qs
  | new (n : Int) (os qs : List By) : 0 ≤ n → n + 1 < K → (∀ o ∈ os, PB o) → qs ≠ [] → Cls K [(n, framesF os), (n + 1, framesF qs)] qs
inductive Cln (K : Int) : List (Int × By) → List By → Prop
  | void : Cln K [] []
  | one (n : Int) (qs : List By) : 0 ≤ n → n < K → qs ≠ [] → Cln K [(n, framesF qs)] qs
theorem whole_frames {qs : List By} (h : ∀ q ∈ qs, q.length ≤ 65536) : wholeF (framesF qs) = (qs, []) := by
  have := wholeF_frames qs h [] cutF_nil
  rwa [List.append_nil] at this
section
variable {M : DiskM} {cap st K : Int} {fl : Bool} {qs : List By}
def MendTo (K : Int) (r : Int × DiskM) (Fz : List (Int × By)) (qs : List By) (cap st : Int) (fl : Bool) : Prop :=
  (r.1 = 0 ∧ UpF r.2 Fz cap st fl) ∨ (r.1 = 61 ∧ fl = true ∧ ∃ F', DnF r.2 F' cap st ∧ Cls K F' qs)
theorem Cln.cls {F : List (Int × By)} (h : Cln K F qs) : Cls K F qs := by
  cases h with
  | void => exact .void
  | one n _ h0 h1 h2 =>
    have := Cls.one n qs [] h0 h1 cutF_nil
    rwa [List.append_nil] at this
theorem sync_to {F : List (Int × By)} (h : UpF M F cap st fl) (hc : Cln K F qs) : MendTo K M.sync F qs cap st fl := by
  rcases h.sync with ⟨h1, h2⟩ | ⟨h1, h2, h3⟩
  · exact Or.inl ⟨h1, h2⟩
  · exact Or.inr ⟨h1, h2, F, h3, hc.cls⟩
theorem mend_void (h : UpF M [] cap st fl) : MendTo K (mendO M) [] [] cap st fl := by
  have e : lastF M = none := by unfold lastF; rw [h.files]; rfl
  unfold mendO
  rw [e]
  simp only
  rw [mendM_none h.files]
  exact sync_to h .void
theorem mend_one {n : Int} {t : By} (hK : K ≤ 1000) (n0 : 0 ≤ n) (n1 : n < K) (hq : ∀ q ∈ qs, q.length ≤ 65536) (ht : cutF t = none) (h : UpF M [(n, framesF qs ++ t)] cap st fl) : MendTo K (mendO M) (if qs = [] then [] else [(n, framesF qs)]) qs cap st fl ∧ lastF M = if qs = [] then none else some (n, framesF qs ++ t) := by
  have hw := wholeF_frames qs hq t ht
  have hg : AM.get M.files n = some (framesF qs ++ t) := by rw [h.files]; simp [AM.get]
  have hk : (M.files.map (·.1)).reverse = [n] := by rw [h.files]; rfl
  by_cases hq0 : qs = []
  · have e : lastF M = none := by
      unfold lastF
      rw [hk, firstF_void (by omega) hg (by rw [hw]; exact hq0)]
      rfl
    refine ⟨?_, by rw [e, if_pos hq0]⟩
    rw [if_pos hq0]
    unfold mendO
    rw [e]
    simp only
    unfold mendM
    rw [hk]
    have hnn : ¬ (n = -1 ∨ 1000 ≤ n) := by omega
    simp only [dropK, if_neg hnn]
    subst hq0
    rcases h.delete (n := n) (b := framesF [] ++ t) (by simp [AM.get]) with ⟨h1, h2⟩ | ⟨h1, h2, h3⟩
    · simp only [h1, if_true]
      have e2 : AM.del [(n, framesF [] ++ t)] n = [] := by simp [AM.del]
      rw [e2] at h2
      exact sync_to h2 .void
    · have h1' : ¬ (M.delete n).1 = 0 := by rw [h1]; decide
      simp only [if_neg h1']
      exact Or.inr ⟨h1, h2, _, h3, .one n [] t n0 n1 ht⟩
  · have e : lastF M = some (n, framesF qs ++ t) := by
      unfold lastF
      rw [hk, firstF_hit (by omega) hg (by rw [hw]; exact hq0)]
    refine ⟨?_, by rw [e, if_neg hq0]⟩
    rw [if_neg hq0]
    have hz : (framesF qs ++ t).length - t.length = (framesF qs).length := by rw [List.length_append]; omega
    unfold mendO
    rw [e]
    simp only [hw, hz]
    unfold mendM
    rw [hk]
    simp only [dropK, true_or, if_true]
    by_cases ht0 : t = []
    · subst ht0
      rw [if_pos (by rw [List.append_nil]; exact decide_eq_true rfl)]
      rw [List.append_nil] at h
      exact sync_to h (.one n qs n0 (by omega) hq0)
    · have hl : 0 < t.length := List.length_pos_iff.2 ht0
      rw [if_neg (by rw [List.length_append]; simp; omega)]
      rcases h.truncate (n := n) (b := framesF qs ++ t) (by simp [AM.get]) (framesF qs).length (by rw [List.length_append]; omega) with ⟨h1, h2⟩ | ⟨h1, h2, h3⟩
      · rw [if_pos h1]
        have e2 : AM.set [(n, framesF qs ++ t)] n ((framesF qs ++ t).take (framesF qs).length) = [(n, framesF qs)] := by simp [AM.set, AM.del, AM.ins]
        rw [e2] at h2
        exact sync_to h2 (.one n qs n0 (by omega) hq0)
      · rw [if_neg (by rw [h1]; decide)]
        exact Or.inr ⟨h1, h2, _, h3, .one n qs t n0 n1 ht⟩
theorem get_two {n : Int} {a b : By} : AM.get [(n, a), (n + 1, b)] n = some a ∧ AM.get [(n, a), (n + 1, b)] (n + 1) = some b := by
  have h : decide (n = n + 1) = false := decide_eq_false (by omega)
  constructor
  · simp [AM.get, List.find?]
  · simp only [AM.get, List.find?, h, decide_true, Option.map_some]
theorem del_two {n : Int} {a b : By} : AM.del [(n, a), (n + 1, b)] (n + 1) = [(n, a)] ∧ AM.del [(n, a), (n + 1, b)] n = [(n + 1, b)] := by
  have h : decide (n = n + 1) = false := decide_eq_false (by omega)
  have h2 : decide (n + 1 = n) = false := decide_eq_false (by omega)
  constructor
  · simp only [AM.del, List.filter, h, decide_true, Bool.not_false, Bool.not_true]
  · simp only [AM.del, List.filter, h2, decide_true, Bool.not_false, Bool.not_true]
theorem mend_old {n : Int} {t : By} (hK : K ≤ 1000) (n0 : 0 ≤ n) (n1 : n + 1 < K) (hq : ∀ q ∈ qs, q.length ≤ 65536) (hq0 : qs ≠ []) (ht : cutF t = none) (h : UpF M [(n, framesF qs), (n + 1, t)] cap st fl) : MendTo K (mendO M) [(n, framesF qs)] qs cap st fl ∧ lastF M = some (n, framesF qs) := by
  have hw := whole_frames hq
  have hg1 : AM.get M.files n = some (framesF qs) := by rw [h.files]; exact get_two.1
  have hg2 : AM.get M.files (n + 1) = some t := by rw [h.files]; exact get_two.2
  have hk : (M.files.map (·.1)).reverse = [n + 1, n] := by rw [h.files]; rfl
  have e : lastF M = some (n, framesF qs) := by
    unfold lastF
    rw [hk, firstF_void (by omega) hg2 (by rw [wholeF_none ht]), firstF_hit (by omega) hg1 (by rw [hw]; exact hq0)]
  refine ⟨?_, e⟩
  have hnn : ¬ (n + 1 = n ∨ 1000 ≤ n + 1) := by omega
  unfold mendO
  rw [e]
  simp only [hw, List.length_nil, Nat.sub_zero, decide_true]
  unfold mendM
  rw [hk]
  simp only [dropK, if_neg hnn, true_or, if_true]
  rcases h.delete get_two.2 with ⟨h1, h2⟩ | ⟨h1, h2, h3⟩
  · simp only [h1, if_true]
    rw [del_two.1] at h2
    exact sync_to h2 (.one n qs n0 (by omega) hq0)
  · have h1' : ¬ (M.delete (n + 1)).1 = 0 := by rw [h1]; decide
    simp only [if_neg h1']
    exact Or.inr ⟨h1, h2, _, h3, .old n qs t n0 n1 ht hq0⟩
theorem mend_new {n : Int} {os : List By} (hos : ∀ o ∈ os, PB o) (hK : K ≤ 1000) (n0 : 0 ≤ n) (n1 : n + 1 < K) (hq : ∀ q ∈ qs, q.length ≤ 65536) (hq0 : qs ≠ []) (h : UpF M [(n, framesF os), (n + 1, framesF qs)] cap st fl) : MendTo K (mendO M) [(n + 1, framesF qs)] qs cap st fl ∧ lastF M = some (n + 1, framesF qs) := by
  have hw := whole_frames hq
  have hg2 : AM.get M.files (n + 1) = some (framesF qs) := by rw [h.files]; exact get_two.2
  have hk : (M.files.map (·.1)).reverse = [n + 1, n] := by rw [h.files]; rfl
  have e : lastF M = some (n + 1, framesF qs) := by
    unfold lastF
    rw [hk, firstF_hit (by omega) hg2 (by rw [hw]; exact hq0)]
  refine ⟨?_, e⟩
  have hnn : ¬ (n = n + 1 ∨ 1000 ≤ n) := by omega
  unfold mendO
  rw [e]
  simp only [hw, List.length_nil, Nat.sub_zero, decide_true]
  unfold mendM
  rw [hk]
  simp only [dropK, if_neg hnn, true_or, if_true]
  rcases h.delete get_two.1 with ⟨h1, h2⟩ | ⟨h1, h2, h3⟩
  · simp only [h1, if_true]
    rw [del_two.2] at h2
    exact sync_to h2 (.one (n + 1) qs (by omega) (by omega) hq0)
  · have h1' : ¬ (M.delete n).1 = 0 := by rw [h1]; decide
    simp only [if_neg h1']
    exact Or.inr ⟨h1, h2, _, h3, .new n os qs n0 n1 hos hq0⟩
theorem Cls.mend {F : List (Int × By)} (hc : Cls K F qs) (hK : K ≤ 1000) (hq : ∀ q ∈ qs, q.length ≤ 65536) (h : UpF M F cap st fl) :
    (qs = [] ∧ lastF M = none ∧ MendTo K (mendO M) [] qs cap st fl) ∨ (qs ≠ [] ∧ ∃ n b, lastF M = some (n, b) ∧ (wholeF b).1 = qs ∧ 0 ≤ n ∧ n < K ∧ MendTo K (mendO M) [(n, framesF qs)] qs cap st fl) := by
  cases hc with
  | void => exact Or.inl ⟨rfl, by unfold lastF; rw [h.files]; rfl, mend_void h⟩
  | one n _ t h0 h1 ht =>
    obtain ⟨e1, e2⟩ := mend_one hK h0 h1 hq ht h
    by_cases hq0 : qs = []
    · rw [if_pos hq0] at e1 e2
      exact Or.inl ⟨hq0, e2, e1⟩
    · rw [if_neg hq0] at e1 e2
      exact Or.inr ⟨hq0, n, _, e2, by rw [wholeF_frames qs hq t ht], h0, h1, e1⟩
  | old n _ t h0 h1 ht hq0 =>
    obtain ⟨e1, e2⟩ := mend_old hK h0 h1 hq hq0 ht h
    exact Or.inr ⟨hq0, n, _, e2, by rw [whole_frames hq], h0, by omega, e1⟩
  | new n os _ h0 h1 hos hq0 =>
    obtain ⟨e1, e2⟩ := mend_new hos hK h0 h1 hq hq0 h
    exact Or.inr ⟨hq0, n + 1, _, e2, by rw [whole_frames hq], by omega, h1, e1⟩
theorem pb_list : ∀ {l : List By}, (∀ q ∈ l, PB q) → ∃ ps : List PtM, (∀ p ∈ ps, p.Ok ∧ p.may = true) ∧ l = ps.map PtM.bytes := by
  intro l
  induction l with
  | nil => intro _; exact ⟨[], by simp, rfl⟩
  | cons a r ih =>
    intro h
    obtain ⟨ps, h1, h2⟩ := ih (fun q hq => h q (by simp [hq]))
    obtain ⟨p, q1, q2, q3⟩ := h a (by simp)
    exact ⟨p :: ps, fun x hx => by rcases List.mem_cons.1 hx with rfl | hx; exact ⟨q1, q2⟩; exact h1 x hx, by rw [h2, q3]; rfl⟩
theorem Cls.good {F : List (Int × By)} (hc : Cls K F qs) (hq : ∀ q ∈ qs, PB q) (h : UpF M F cap st fl) : GoodF M := by
  have hw : ∀ p ∈ F, ∀ q ∈ (wholeF p.2).1, PB q := by
    have hq2 : ∀ q ∈ qs, q.length ≤ 65536 := fun q hm => (hq q hm).len
    cases hc with
    | void => intro p hp; cases hp
    | one n _ t h0 h1 ht =>
      intro p hp
      rw [List.mem_singleton] at hp
      subst hp
      rw [wholeF_frames qs hq2 t ht]
      exact hq
    | old n _ t h0 h1 ht hq0 =>
      intro p hp
      rcases List.mem_cons.1 hp with rfl | hp
      · rw [whole_frames hq2]; exact hq
      · rw [List.mem_singleton] at hp
        subst hp
        rw [wholeF_none ht]
        intro q hq'; cases hq'
    | new n os _ h0 h1 hos hq0 =>
      intro p hp
      rcases List.mem_cons.1 hp with rfl | hp
      · rw [whole_frames (fun o ho => (hos o ho).len)]; exact hos
      · rw [List.mem_singleton] at hp
        subst hp
        rw [whole_frames hq2]; exact hq
  intro n b hg
  have hm := (AM.get_some h.ok.rise).1 hg
  have hl := DiskM.len_le_total h.ok hg
  have hr := h.ok.room
  have hc1 := h.ok.cap1
  rw [h.files] at hm
  obtain ⟨ps, h1, h2⟩ := pb_list (hw _ hm)
  exact ⟨by omega, (h.ok.keys (n, b) (by rw [h.files]; exact hm)).1, ps, h1, h2⟩
end
end Go.Proofs.YtlgeijbgkipliaaGreatDoor

namespace Go.Proofs.YtlgeijbgkipliaaGreatDoor
structure UpL (M : DiskM) (F : List (Int × By)) (n : Int) (s : Nat) (cap st : Int) (fl : Bool) : Prop where
  ok : M.Ok
  live : M.Live
  up : M.down = false
  files : M.files = F
  loose : M.loose = [(n, s)]
  cap : M.cap = cap
  starts : M.starts = st
  fails : M.fails = fl
theorem crash_one (M : DiskM) (n : Int) (s : Nat) (keep : Int) (hl : M.loose = [(n, s)]) : (M.crash keep).files = AM.set M.files n (DiskM.cut M.files n (s - DiskM.stay keep s)) := by
  show DiskM.crashed M.files (DiskM.gone M.loose keep) = _
  rw [hl]
  have e : DiskM.gone [(n, s)] keep = [(n, s - DiskM.stay keep s)] := by
    unfold DiskM.gone
    simp [DiskM.gstep, AM.set, AM.del, AM.ins, AM.get]
  rw [e]
  rfl
section
variable {M : DiskM} {F : List (Int × By)} {n cap st : Int} {fl : Bool} {b f : By} {s : Nat}
theorem UpL.crash (h : UpL M (AM.set F n (b ++ f)) n f.length cap st fl) (hr : AM.Rise F) (keep : Int) : ∃ j, j ≤ f.length ∧ DnF (M.crash keep) (AM.set F n (b ++ f.take j)) cap st := by
  have hs := DiskM.stay_le keep f.length
  refine ⟨DiskM.stay keep f.length, hs, h.ok.crash _, rfl, ?_, rfl, h.cap, h.starts, rfl⟩
  rw [crash_one M n f.length keep h.loose, h.files]
  have hg : AM.get (AM.set F n (b ++ f)) n = some (b ++ f) := AM.get_set_same hr n _
  have e : DiskM.cut (AM.set F n (b ++ f)) n (f.length - DiskM.stay keep f.length) = b ++ f.take (DiskM.stay keep f.length) := by
    unfold DiskM.cut
    rw [hg, Option.getD_some, List.length_append, show b.length + f.length - (f.length - DiskM.stay keep f.length) = b.length + DiskM.stay keep f.length by omega, List.take_length_add_append]
  rw [e, AM.set_set hr]
theorem UpL.tick (h : UpL M F n s cap st fl) (hs : M.sinks = false) : UpL M.tick F n s cap st fl :=
  ⟨h.ok.tick h.live, DiskM.Live.tick h.live hs, by rw [DiskM.tick_down]; exact h.up, by rw [DiskM.tick_files]; exact h.files, by rw [DiskM.tick_loose]; exact h.loose, by rw [tick_cap]; exact h.cap, by rw [tick_starts]; exact h.starts, by rw [tick_fails]; exact h.fails⟩
theorem UpL.sunk (h : UpL M (AM.set F n (b ++ f)) n f.length cap st fl) (hr : AM.Rise F) : ∃ j, j ≤ f.length ∧ DnF M.sunk (AM.set F n (b ++ f.take j)) cap st := by
  have hs := DiskM.stay_le M.keep f.length
  have hf : M.sunk.files = (M.crash M.keep).files := by
    show DiskM.crashed M.tick.files (DiskM.gone M.tick.loose M.keep) = DiskM.crashed M.files (DiskM.gone M.loose M.keep)
    rw [DiskM.tick_files, DiskM.tick_loose]
  obtain ⟨j, hj, hd⟩ := h.crash hr M.keep
  exact ⟨j, hj, (h.ok.tick h.live).crash _, rfl, by rw [hf]; exact hd.files, rfl, by show M.tick.cap = cap; rw [tick_cap]; exact h.cap, by show M.tick.starts = st; rw [tick_starts]; exact h.starts, rfl⟩
def LayTo (r : Int × DiskM) (F : List (Int × By)) (n : Int) (b f : By) (cap st : Int) (fl : Bool) : Prop :=
  (r.1 = 0 ∧ UpF r.2 (AM.set F n (b ++ f)) cap st fl) ∨ (r.1 = 61 ∧ fl = true ∧ ∃ j, j ≤ f.length ∧ DnF r.2 (AM.set F n (b ++ f.take j)) cap st)
theorem UpF.lay (h : UpF M F cap st fl) (hb : AM.get F n = some b) (hc : ((AM.sum List.length F + f.length : Nat) : Int) ≤ cap) (hF : F.length ≤ 100) : LayTo (layM M n f) F n b f cap st fl := by
  have hr : AM.Rise F := by rw [← h.files]; exact h.ok.rise
  have hg : AM.get M.files n = some b := by rw [h.files]; exact hb
  have ht : (M.total : Int) = (AM.sum List.length F : Nat) := by unfold DiskM.total; rw [h.files]
  have hcap := h.cap
  have hA : UpL (M.appended n f) (AM.set F n (b ++ f)) n f.length cap st fl := ⟨h.ok.appended hg (by omega) (by rw [h.files, h.loose]; simp; omega), h.live, h.up, by show AM.set M.files n (((AM.get M.files n).getD []) ++ f) = _; rw [hg, h.files]; rfl, by show M.loose ++ _ = _; rw [h.loose]; rfl, h.cap, h.starts, h.fails⟩
  have hsk : (M.appended n f).sinks = M.sinks := rfl
  have h1 : ¬ M.has n ≠ 0 := by rw [h.has hb]; simp
  have h2 : ¬ M.cap - (M.total : Int) < (f.length : Int) := by omega
  by_cases hs : M.sinks = true
  · have hap : M.append n f = (61, (M.appended n f).sunk) := by unfold DiskM.append; rw [if_neg h1, if_neg h2, if_pos hs]
    unfold layM
    rw [hap, if_neg (by simp)]
    obtain ⟨j, hj, hd⟩ := hA.sunk hr
    exact Or.inr ⟨rfl, h.sinks_fails hs, j, hj, hd⟩
  · have hap : M.append n f = (0, (M.appended n f).tick) := by unfold DiskM.append; rw [if_neg h1, if_neg h2, if_neg hs]
    unfold layM
    rw [hap, if_pos rfl]
    have hT := hA.tick (by rw [hsk]; simpa using hs)
    generalize (M.appended n f).tick = M2 at *
    show LayTo M2.sync F n b f cap st fl
    unfold DiskM.sync
    rw [if_neg (by rw [hT.up]; simp)]
    by_cases hs2 : M2.sinks = true
    · rw [if_pos hs2]
      obtain ⟨j, hj, hd⟩ := hT.sunk hr
      have hfl : fl = true := by
        rw [← hT.fails]
        unfold DiskM.sinks at hs2
        simp at hs2
        exact hs2.1
      exact Or.inr ⟨rfl, hfl, j, hj, hd⟩
    · rw [if_neg hs2]
      have h3 := hT.tick (by simpa using hs2)
      exact Or.inl ⟨rfl, h3.ok.noLoose, h3.live, h3.up, h3.files, rfl, h3.cap, h3.starts, h3.fails⟩
theorem UpF.create (h : UpF M F cap st fl) (n0 : 0 ≤ n ∧ n ≤ 9223372036854775807) (hb : AM.get F n = none) (hF : F.length < 100) : StepTo (M.create n) F (AM.set F n []) cap st fl := by
  have hg : AM.get M.files n = none := by rw [h.files]; exact hb
  unfold DiskM.create
  rw [if_neg (by rw [h.up]; simp), if_neg (by omega), if_neg (by rw [hg]; simp), if_neg (by rw [h.files]; omega)]
  by_cases hs : M.sinks = true
  · rw [if_pos hs]
    exact Or.inr ⟨rfl, h.sinks_fails hs, h.sunk⟩
  · rw [if_neg hs]
    have ht := h.tick (by simpa using hs)
    have hg2 : AM.get M.tick.files n = none := by rw [DiskM.tick_files]; exact hg
    have hok := ht.ok.create n n0 hg2 (by rw [ht.files, ht.loose]; simp; omega)
    rw [DiskM.tick_files] at hok
    exact Or.inl ⟨rfl, hok, ht.live, ht.up, by show AM.set M.files n [] = _; rw [h.files], ht.loose, ht.cap, ht.starts, ht.fails⟩
end
end Go.Proofs.YtlgeijbgkipliaaGreatDoor

namespace Go.Proofs.YtlgeijbgkipliaaGreatDoor
section
variable {M : DiskM} {F : List (Int × By)} {n cap st K : Int} {fl : Bool} {p : By} {qs : List By}
theorem framesF_one (p : By) : framesF [p] = frameF p := by simp [framesF]
theorem cls_part (n0 : 0 ≤ n) (n1 : n < K) (hp : p.length ≤ 65536) {j : Nat} (hj : j ≤ (frameF p).length) : ∃ qs', (qs' = qs ∨ qs' = qs ++ [p]) ∧ Cls K [(n, framesF qs ++ (frameF p).take j)] qs' := by
  by_cases h : j < (frameF p).length
  · exact ⟨qs, Or.inl rfl, .one n qs _ n0 n1 (cutF_part p hp j h)⟩
  · refine ⟨qs ++ [p], Or.inr rfl, ?_⟩
    have e : framesF qs ++ (frameF p).take j = framesF (qs ++ [p]) ++ [] := by rw [framesF_snoc, List.take_of_length_le (by omega), List.append_nil]
    rw [e]
    exact .one n _ [] n0 n1 cutF_nil
def PutZ (K : Int) (r : Int × ChkM × DiskM) (qs : List By) (p : By) (cap st : Int) (fl : Bool) : Prop :=
  (r.1 = 0 ∧ ∃ n qs', (qs' = qs ++ [p] ∨ qs' = [p]) ∧ 0 ≤ n ∧ n < K ∧ qs'.length ≤ 3 ∧ r.2.1 = ⟨n, (qs'.length : Int), st, false⟩ ∧ UpF r.2.2 [(n, framesF qs')] cap st fl) ∨
  (r.1 = 61 ∧ fl = true ∧ ∃ F' qs', (qs' = qs ∨ qs' = qs ++ [p] ∨ qs' = [p]) ∧ qs'.length ≤ 3 ∧ DnF r.2.2 F' cap st ∧ Cls K F' qs')
theorem set_self {a b : By} : AM.set [(n, a)] n b = [(n, b)] := by simp [AM.set, AM.del, AM.ins]
theorem off_up (h : UpF M F cap st fl) : offB M st false = false := by
  unfold offB
  rw [h.up, h.starts]
  simp
theorem putz_same (h : UpF M [(n, framesF qs)] cap st fl) (n0 : 0 ≤ n) (n1 : n < K) (hq : qs.length < 3) (hp : p.length ≤ 65536) (hc : (((framesF qs).length + (frameF p).length : Nat) : Int) ≤ cap) : PutZ K (putM ⟨n, (qs.length : Int), st, false⟩ M true (frameF p)) qs p cap st fl := by
  have hg : AM.get [(n, framesF qs)] n = some (framesF qs) := by simp [AM.get]
  have hn : (⟨n, (qs.length : Int), st, false⟩ : ChkM).next = false := by
    unfold ChkM.next
    rw [decide_eq_false (by show ¬ n < 0; omega), decide_eq_false (by show ¬ (3 : Int) ≤ (qs.length : Int); omega)]
    rfl
  have ht : (M.total : Int) = ((framesF qs).length : Nat) := by unfold DiskM.total; rw [h.files]; simp [AM.sum]
  have hcap := h.cap
  have hfu : (⟨n, (qs.length : Int), st, false⟩ : ChkM).full M (frameF p) = false := by
    unfold ChkM.full
    rw [hn, decide_eq_false (by omega)]
    rfl
  rw [putM_lays (off_up h) hfu]
  have hl := h.lay (f := frameF p) hg (by simp [AM.sum]; omega) (by simp)
  have e : (⟨n, (qs.length : Int), st, false⟩ : ChkM).lays M (frameF p) = layM M n (frameF p) := by unfold ChkM.lays; rw [hn]; rfl
  rw [e]
  rcases hl with ⟨h1, h2⟩ | ⟨h1, h2, j, hj, hd⟩
  · rw [set_self, ← framesF_snoc] at h2
    refine Or.inl ⟨h1, n, qs ++ [p], Or.inl rfl, n0, n1, by simp; omega, ?_, h2⟩
    show ChkM.behind _ (layM M n (frameF p)).1 = _
    unfold ChkM.behind
    rw [h1, if_pos rfl, hn]
    simp
  · rw [set_self] at hd
    obtain ⟨qs', hqs, hcl⟩ := cls_part (qs := qs) n0 n1 hp hj
    exact Or.inr ⟨h1, h2, _, qs', by rcases hqs with q | q; exact Or.inl q; exact Or.inr (Or.inl q), by rcases hqs with q | q <;> subst q <;> (try rw [List.length_append, List.length_singleton]) <;> omega, hd, hcl⟩
theorem putz_first (h : UpF M [] cap st fl) (n1 : 0 < K) (hp : p.length ≤ 65536) (hc : ((frameF p).length : Int) ≤ cap) : PutZ K (putM ⟨-1, 0, st, false⟩ M true (frameF p)) [] p cap st fl := by
  have hn : (⟨-1, 0, st, false⟩ : ChkM).next = true := rfl
  have ht : (M.total : Int) = 0 := by unfold DiskM.total; rw [h.files]; rfl
  have hcap := h.cap
  have hfu : (⟨-1, 0, st, false⟩ : ChkM).full M (frameF p) = false := by
    unfold ChkM.full
    rw [hn, decide_eq_false (by omega), h.files]
    rfl
  rw [putM_lays (off_up h) hfu]
  have e : (⟨-1, 0, st, false⟩ : ChkM).lays M (frameF p) = freshM M (-1) (frameF p) := by unfold ChkM.lays; rw [hn]; rfl
  rw [e]
  have hcr := h.create (n := 0) (by omega) rfl (by simp)
  have e0 : AM.set ([] : List (Int × By)) 0 [] = [(0, [])] := rfl
  rw [e0] at hcr
  unfold freshM
  rw [show (-1 : Int) + 1 = 0 from rfl]
  rcases hcr with ⟨h1, h2⟩ | ⟨h1, h2, h3⟩
  · rw [if_pos h1]
    have hl := h2.lay (n := 0) (b := []) (f := frameF p) (by simp [AM.get]) (by simp [AM.sum]; omega) (by simp)
    rcases hl with ⟨g1, g2⟩ | ⟨g1, g2, j, hj, hd⟩
    · rw [if_pos g1, if_neg (by omega)]
      rw [set_self, List.nil_append] at g2
      refine Or.inl ⟨rfl, 0, [p], Or.inr rfl, by omega, n1, by simp, ?_, by rw [framesF_one]; exact g2⟩
      unfold ChkM.behind
      rw [if_pos rfl, hn]
      simp
    · rw [if_neg (by rw [g1]; decide)]
      rw [set_self, List.nil_append] at hd
      obtain ⟨qs', hqs, hcl⟩ := cls_part (n := 0) (K := K) (qs := []) (by omega) n1 hp hj
      exact Or.inr ⟨g1, g2, _, qs', by rcases hqs with q | q; exact Or.inl q; exact Or.inr (Or.inl q), by rcases hqs with q | q <;> subst q <;> simp, hd, hcl⟩
  · rw [if_neg (by rw [h1]; decide)]
    exact Or.inr ⟨h1, h2, _, [], Or.inl rfl, by simp, h3, .void⟩
theorem putz_next (h : UpF M [(n, framesF qs)] cap st fl) (hqb : ∀ q ∈ qs, PB q) (n0 : 0 ≤ n) (n1 : n + 1 < K) (hK : K ≤ 1000) (hq : qs.length = 3) (hp : p.length ≤ 65536) (hc : (((framesF qs).length + (frameF p).length : Nat) : Int) ≤ cap) : PutZ K (putM ⟨n, (qs.length : Int), st, false⟩ M true (frameF p)) qs p cap st fl := by
  have hn : (⟨n, (qs.length : Int), st, false⟩ : ChkM).next = true := by
    unfold ChkM.next
    rw [decide_eq_true (show (3 : Int) ≤ (qs.length : Int) by omega)]
    simp
  have ht : (M.total : Int) = ((framesF qs).length : Nat) := by unfold DiskM.total; rw [h.files]; simp [AM.sum]
  have hcap := h.cap
  have hq0 : qs ≠ [] := by rintro rfl; cases hq
  have hfu : (⟨n, (qs.length : Int), st, false⟩ : ChkM).full M (frameF p) = false := by
    unfold ChkM.full
    rw [hn, decide_eq_false (by omega), decide_eq_false (show ¬ (1000 : Int) ≤ n + 1 by omega), h.files]
    rfl
  rw [putM_lays (off_up h) hfu]
  have e : (⟨n, (qs.length : Int), st, false⟩ : ChkM).lays M (frameF p) = freshM M n (frameF p) := by unfold ChkM.lays; rw [hn]; rfl
  rw [e]
  have hb := h.ok.keys (n, framesF qs) (by rw [h.files]; simp)
  have e3 : decide (n = n + 1) = false := decide_eq_false (by omega)
  have e4 : decide (n + 1 < n) = false := decide_eq_false (by omega)
  have hcr := h.create (n := n + 1) (by simp only at hb; omega) (by simp [AM.get, e3]) (by simp)
  have e0 : AM.set [(n, framesF qs)] (n + 1) ([] : By) = [(n, framesF qs), (n + 1, [])] := by simp [AM.set, AM.del, AM.ins, show ¬ n = n + 1 by omega, show ¬ n + 1 < n by omega]
  rw [e0] at hcr
  unfold freshM
  rcases hcr with ⟨h1, h2⟩ | ⟨h1, h2, h3⟩
  · rw [if_pos h1]
    have hl := h2.lay (n := n + 1) (b := []) (f := frameF p) get_two.2 (by simp [AM.sum]; omega) (by simp)
    have e5 : ∀ x : By, AM.set [(n, framesF qs), (n + 1, [])] (n + 1) x = [(n, framesF qs), (n + 1, x)] := fun x => by simp [AM.set, AM.del, AM.ins, show ¬ n = n + 1 by omega, show ¬ n + 1 < n by omega]
    rcases hl with ⟨g1, g2⟩ | ⟨g1, g2, j, hj, hd⟩
    · rw [if_pos g1, if_pos n0]
      rw [e5, List.nil_append] at g2
      rcases g2.delete get_two.1 with ⟨k1, k2⟩ | ⟨k1, k2, k3⟩
      · rw [del_two.2] at k2
        refine Or.inl ⟨k1, n + 1, [p], Or.inr rfl, by omega, n1, by simp, ?_, by rw [framesF_one]; exact k2⟩
        show ChkM.behind _ _ = _
        unfold ChkM.behind
        rw [k1, if_pos rfl, hn]
        simp
      · exact Or.inr ⟨k1, k2, _, [p], Or.inr (Or.inr rfl), by simp, k3, by rw [← framesF_one]; exact .new n qs [p] n0 n1 hqb (by simp)⟩
    · rw [if_neg (by rw [g1]; decide)]
      rw [e5, List.nil_append] at hd
      by_cases hj2 : j < (frameF p).length
      · exact Or.inr ⟨g1, g2, _, qs, Or.inl rfl, by omega, hd, .old n qs _ n0 n1 (cutF_part p hp j hj2) hq0⟩
      · rw [List.take_of_length_le (by omega)] at hd
        exact Or.inr ⟨g1, g2, _, [p], Or.inr (Or.inr rfl), by simp, hd, by rw [← framesF_one]; exact .new n qs [p] n0 n1 hqb (by simp)⟩
  · rw [if_neg (by rw [h1]; decide)]
    exact Or.inr ⟨h1, h2, _, qs, Or.inl rfl, by omega, h3, (Cln.one n qs n0 (by omega) hq0).cls⟩
end
end Go.Proofs.YtlgeijbgkipliaaGreatDoor

namespace Go.Proofs.YtlgeijbgkipliaaGreatDoor
def GoodP (ps : List PtM) : Prop := ∀ p ∈ ps, p.Ok ∧ p.may = true
theorem GoodP.pb {ps : List PtM} (h : GoodP ps) : ∀ q ∈ ps.map PtM.bytes, PB q := by
  intro q hq
  obtain ⟨p, hp, rfl⟩ := List.mem_map.1 hq
  exact ⟨p, (h p hp).1, (h p hp).2, rfl⟩
theorem GoodP.snoc {ps : List PtM} {p : PtM} (h : GoodP ps) (h1 : p.Ok) (h2 : p.may = true) : GoodP (ps ++ [p]) := by
  intro q hq
  rcases List.mem_append.1 hq with hq | hq
  · exact h q hq
  · rw [List.mem_singleton] at hq; subst hq; exact ⟨h1, h2⟩
structure Up15 (M : DiskM) (C : ChkM) (ps : List PtM) (K st : Int) (fl : Bool) : Prop where
  good : GoodP ps
  few : ps.length ≤ 3
  is : (ps = [] ∧ UpF M [] 1048576 st fl ∧ C = ⟨-1, 0, st, false⟩) ∨ (ps ≠ [] ∧ ∃ n, 0 ≤ n ∧ n < K ∧ UpF M [(n, framesF (ps.map PtM.bytes))] 1048576 st fl ∧ C = ⟨n, (ps.length : Int), st, false⟩)
structure Dn15 (M : DiskM) (ps : List PtM) (K st : Int) : Prop where
  good : GoodP ps
  few : ps.length ≤ 3
  is : ∃ F, DnF M F 1048576 st ∧ Cls K F (ps.map PtM.bytes)
section
variable {M : DiskM} {C : ChkM} {ps : List PtM} {p : PtM} {K st : Int} {fl : Bool}
theorem frames_len15 (h : GoodP ps) : (framesF (ps.map PtM.bytes)).length ≤ ps.length * 30012 := by
  induction ps with
  | nil => simp [framesF]
  | cons a r ih =>
    have h1 := ih (fun q hq => h q (by simp [hq]))
    have h2 := PtM.bytes_len (h a (by simp)).1
    have e : framesF ((a :: r).map PtM.bytes) = frameF a.bytes ++ framesF (r.map PtM.bytes) := by simp [framesF]
    rw [e, List.length_append, frameF_len, List.length_cons]
    omega
theorem Up15.up (h : Up15 M C ps K st fl) : M.down = false ∧ M.starts = st := by
  rcases h.is with ⟨_, h, _⟩ | ⟨_, n, _, _, h, _⟩ <;> exact ⟨h.up, h.starts⟩
theorem Up15.crash (h : Up15 M C ps K st fl) (k : Int) : ∃ M', M.crashR k = (0, M') ∧ Dn15 M' ps K st := by
  have e : M.crashR k = (0, M.crash k) := by unfold DiskM.crashR; rw [if_neg (by rw [h.up.1]; simp)]
  refine ⟨_, e, h.good, h.few, ?_⟩
  rcases h.is with ⟨rfl, h1, _⟩ | ⟨h0, n, h2, h3, h1, _⟩
  · exact ⟨_, h1.crash k, .void⟩
  · exact ⟨_, h1.crash k, (Cln.one n _ h2 h3 (by simpa using h0)).cls⟩
theorem Dn15.start (h : Dn15 M ps K st) : ∃ M' F, M.startR = (0, M') ∧ UpF M' F 1048576 (st + 1) false ∧ Cls K F (ps.map PtM.bytes) := by
  obtain ⟨F, h1, h2⟩ := h.is
  exact ⟨_, F, by unfold DiskM.startR; rw [if_pos h1.down], h1.start, h2⟩
theorem Up15.put (h : Up15 M C ps K st fl) (h1 : p.Ok) (h2 : p.may = true) (hK0 : 0 ≤ K) (hK : K + 1 ≤ 1000) :
    (∃ C' M' ps', putM C M true p.frame = (0, C', M') ∧ Up15 M' C' ps' (K + 1) st fl ∧ ps'.getLast? = some p) ∨
    (∃ C' M' ps', putM C M true p.frame = (61, C', M') ∧ fl = true ∧ Dn15 M' ps' (K + 1) st ∧ (ps' = ps ∨ ps'.getLast? = some p)) := by
  have hpl := PtM.bytes_len h1
  have hfl : (frameF p.bytes).length = 12 + p.bytes.length := frameF_len _
  have hz : PutZ (K + 1) (putM C M true (frameF p.bytes)) (ps.map PtM.bytes) p.bytes 1048576 st fl := by
    rcases h.is with ⟨rfl, h3, rfl⟩ | ⟨h0, n, n0, n1, h3, rfl⟩
    · exact putz_first h3 (by omega) (by omega) (by omega)
    · have hl := frames_len15 h.good
      have hm := h.few
      have e : ((ps.map PtM.bytes).length : Int) = (ps.length : Int) := by rw [List.length_map]
      rw [← e]
      by_cases h4 : ps.length < 3
      · exact putz_same h3 n0 (by omega) (by rw [List.length_map]; exact h4) (by omega) (by omega)
      · exact putz_next h3 h.good.pb n0 (by omega) hK (by rw [List.length_map]; omega) (by omega) (by omega)
  have g1 := h.good.snoc h1 h2
  have g2 : GoodP [p] := fun q hq => by rw [List.mem_singleton] at hq; subst hq; exact ⟨h1, h2⟩
  show (∃ C' M' ps', putM C M true (frameF p.bytes) = _ ∧ _) ∨ (∃ C' M' ps', putM C M true (frameF p.bytes) = _ ∧ _)
  generalize putM C M true (frameF p.bytes) = r at *
  obtain ⟨y, C', M'⟩ := r
  rcases hz with ⟨rfl, n, qs', hq, n0, n1, h3, rfl, hu⟩ | ⟨rfl, hf, F', qs', hq, h3, hd, hc⟩
  · left
    rcases hq with rfl | rfl
    · refine ⟨_, M', ps ++ [p], rfl, ⟨g1, by simpa using h3, Or.inr ⟨by simp, n, n0, n1, by simpa using hu, by simp⟩⟩, by simp⟩
    · exact ⟨_, M', [p], rfl, ⟨g2, by simp, Or.inr ⟨by simp, n, n0, n1, hu, rfl⟩⟩, rfl⟩
  · right
    rcases hq with rfl | rfl | rfl
    · exact ⟨C', M', ps, rfl, hf, ⟨h.good, h.few, F', hd, hc⟩, Or.inl rfl⟩
    · exact ⟨C', M', ps ++ [p], rfl, hf, ⟨g1, by simpa using h3, F', hd, by simpa using hc⟩, Or.inr (by simp)⟩
    · exact ⟨C', M', [p], rfl, hf, ⟨g2, by simp, F', hd, hc⟩, Or.inr rfl⟩
theorem open15 {F : List (Int × By)} (h : UpF M F 1048576 st fl) (hc : Cls K F (ps.map PtM.bytes)) (hg : GoodP ps) (hf : ps.length ≤ 3) (hK : K ≤ 1000) : GoodF M ∧
    ((∃ M', mendO M = (0, M') ∧ ((ps = [] ∧ lastF M = none ∧ Up15 M' ⟨-1, 0, st, false⟩ ps K st fl) ∨ (ps ≠ [] ∧ ∃ n b, lastF M = some (n, b) ∧ (wholeF b).1 = ps.map PtM.bytes ∧ Up15 M' ⟨n, (ps.length : Int), st, false⟩ ps K st fl))) ∨
    (∃ M', mendO M = (61, M') ∧ fl = true ∧ Dn15 M' ps K st)) := by
  refine ⟨hc.good hg.pb h, ?_⟩
  rcases hc.mend hK (fun q hq => (hg.pb q hq).len) h with ⟨h0, h1, h2⟩ | ⟨h0, n, b, h1, h2, h3, h4, h5⟩
  · have hp : ps = [] := by simpa using h0
    generalize mendO M = r at *
    obtain ⟨y, M'⟩ := r
    rcases h2 with ⟨rfl, hu⟩ | ⟨rfl, hfl, F', hd, hcl⟩
    · exact Or.inl ⟨M', rfl, Or.inl ⟨hp, h1, hg, hf, Or.inl ⟨hp, hu, rfl⟩⟩⟩
    · exact Or.inr ⟨M', rfl, hfl, hg, hf, F', hd, hcl⟩
  · have hp : ps ≠ [] := by simpa using h0
    generalize mendO M = r at *
    obtain ⟨y, M'⟩ := r
    rcases h5 with ⟨rfl, hu⟩ | ⟨rfl, hfl, F', hd, hcl⟩
    · exact Or.inl ⟨M', rfl, Or.inr ⟨hp, n, b, h1, h2, hg, hf, Or.inr ⟨hp, n, h3, h4, hu, rfl⟩⟩⟩
    · exact Or.inr ⟨M', rfl, hfl, hg, hf, F', hd, hcl⟩
end
end Go.Proofs.YtlgeijbgkipliaaGreatDoor
