/- FrO Scr1 Scr2 Scr3 -/
import Derived.Test.YtpmdlkogccojmaaGreatDoorUScrubNone31
import Derived.Test.YtpmdlkogccojmaaGreatDoorUScrubNone41
import Derived.Test.YtpmdlkogccojmaaGreatDoorUScrubNone38
import Derived.Test.YtpmdlkogccojmaaGreatDoorUScrubNone36
set_option linter.unusedVariables false
set_option linter.unusedSimpArgs false
set_option maxRecDepth 100000
set_option maxHeartbeats 16000000
namespace Go.Proofs.YtpmdlkogccojmaaGreatDoor
open Go.RowKit
inductive Ob where
 | row (v : Value) (l : List By)
 | hrow (v : Value) (l : List By)
 | blk (b : Nat) (c : List Value) (t : TypeId)
 | ring (r : Nat) (R : RingM) (S : Nat → Prop)
 | seg (s : Nat) (G : SegM) (S : Nat → Prop)
def Ob.own : Ob → Nat → Prop
 | .row v _, k=>v.ownBlock = some k
 | .hrow v _, k=>v.ownBlock = some k
 | .blk b _ _, k=>k = b
 | .ring _ _ S, k=>S k
 | .seg _ _ S, k=>S k
def Ob.holds (w : World) (d : Nat) : Ob → Prop
 | .row v l=>Row w 9 1 v (strV l)
 | .hrow v l=>Row w 24 32 v (hcells l)
 | .blk b c t=>Blk w b c t
 | .ring r R S=>IsRing w r d R S∧∀ k, S k → k < w.heap.size
 | .seg s G S=>IsSeg w s d G S∧∀ k, S k → k < w.heap.size
theorem Ob.kept {x : Ob} {w w' : World} {d : Nat} {Z : Nat → Prop} (h : x.holds w d) (hk : Kept Z w w') (hZ : ∀ k, x.own k → ¬ Z k) : x.holds w' d:=by
 cases x with
 | row v l=>exact Row.kept h hk hZ
 | hrow v l=>exact Row.kept h hk hZ
 | blk b c t=>exact Blk.kept h hk (hZ b rfl)
 | ring r R S=>exact ⟨h.1.kept hk hZ, fun k q=>Nat.lt_of_lt_of_le (h.2 k q) hk.size⟩
 | seg s G S=>exact ⟨h.1.kept hk hZ, fun k q=>Nat.lt_of_lt_of_le (h.2 k q) hk.size⟩
structure FrO (w0 w : World) (d : Nat) (M : DiskM) (B : Nat → Prop) (Os : List Ob) : Prop where
 ap : Apart B d M w
 old : ∀ k, k < w0.heap.size → B k
 tab0 : Tab w0
 kept : Kept (fun _=>False) w0 w
 obs : ∀ x ∈ Os, x.holds w d∧∀ k, x.own k → B k∧w0.heap.size ≤ k
 apart : Os.Pairwise fun x y=>∀ k, x.own k → ¬ y.own k
def Ows (w0 w : World) (d : Nat) (M : DiskM) (Os : List Ob) : Prop:=∃ B, FrO w0 w d M B Os
section
variable {w0 w w' : World} {d r s b : Nat} {M M' : DiskM} {B B' S Z : Nat → Prop} {Os Os' : List Ob} {R R' : RingM} {G G' : SegM} {a x : Ob} {c c' : List Value} {t : TypeId} {v : Value} {l : List By} {y : Int}
theorem FrO.tab (h : FrO w0 w d M B Os) : Tab w:=h.tab0.same h.kept
theorem FrO.same (h : FrO w0 w d M B Os) (hk : Kept (fun _=>False) w w') : FrO w0 w' d M B Os :=
 ⟨h.ap.same hk, h.old, h.tab0, h.kept.trans hk, fun x q=>⟨Ob.kept (h.obs x q).1 hk (fun _ _=>id), (h.obs x q).2⟩, h.apart⟩
theorem FrO.to (h : FrO w0 w d M B Os) (hk : Kept (fun k=>¬ B k) w w') (ha : Apart B d M' w') : FrO w0 w' d M' B Os :=
 ⟨ha, h.old, h.tab0, h.kept.then_ hk (fun i hi z=>z (h.old i hi)), fun x q=>⟨Ob.kept (h.obs x q).1 hk (fun k e z=>z ((h.obs x q).2 k e).1), (h.obs x q).2⟩, h.apart⟩
theorem Ows.same (h : Ows w0 w d M Os) (hk : Kept (fun _=>False) w w') : Ows w0 w' d M Os:=by obtain ⟨B, h⟩:=h; exact ⟨_, h.same hk⟩
theorem Ows.old (h : Ows w0 w d M Os) : Kept (fun _=>False) w0 w:=by obtain ⟨B, h⟩:=h; exact h.kept
theorem Ows.tab (h : Ows w0 w d M Os) : Tab w:=by obtain ⟨B, h⟩:=h; exact h.tab
theorem Ows.ok (h : Ows w0 w d M Os) : M.Ok:=by obtain ⟨B, h⟩:=h; exact h.ap.ok
theorem Ows.made (hA : Apart (fun k=>k < w0.heap.size) d M w) (ht : Tab w0) (hk : Kept (fun _=>False) w0 w) : Ows w0 w d M []:=⟨_, hA, fun _=>id, ht, hk, fun x q=>(List.not_mem_nil q).elim, List.Pairwise.nil⟩
theorem Ows.crash (h : Ows w0 w d M Os) (k : Int) (k0 : -9223372036854775808 ≤ k∧k ≤ 9223372036854775807) (he : M.crashR k = (y, M')) :
  Calls Tryz.prog 9 #[.pointer (some ⟨d, 0, none⟩), .int .i64 k] w fun e w'=>e = .returned (.int .i64 y)∧Ows w0 w' d M' Os:=by
 obtain ⟨B, h⟩:=h
 exact (crash_ap h.ap k k0 he).mono fun e w' q=>⟨q.1, B, h.to q.2.2 q.2.1⟩
theorem Ows.isup (h : Ows w0 w d M Os) {b : Bool} (he : (!M.down) = b) :
  Calls Tryz.prog 24 #[.pointer (some ⟨d, 0, none⟩)] w fun e w'=>e = .returned (.bool b)∧w = w':=by
 obtain ⟨B, h⟩:=h
 exact up_ap h.ap he
end
abbrev Fd:=Int × Int × Int
abbrev fdC (x : Fd) : List Value:=[.int .i64 x.1, .int .i64 x.2.1, .int .i64 x.2.2]
def findV (l : List Fd) : List Value:=l.flatMap fdC
theorem findV_snoc (l : List Fd) (x : Fd) : findV (l ++ [x]) = findV l ++ fdC x:=by simp [findV]
theorem findV_len (l : List Fd) : (findV l).length = l.length * 3:=by
 induction l with
 | nil=>rfl
 | cons a r ih =>
  have e : findV (a::r) = fdC a ++ findV r:=by simp [findV]
  rw [e, List.length_append, ih]
  show 3 + r.length * 3 = (r.length + 1) * 3
  omega
theorem info_find : (Tryz.prog.info? 29).map (fun i=>(i.zero, i.size, i.bytes)) = some (some (.agg #[.int .i64 0, .int .i64 0, .int .i64 0]), 3, 24):=by kernel_rfl
theorem append_find {w2 : World} {x : Value} {l : List Fd} (hrow : Row w2 29 3 x (findV l)) (y : Fd) (hl : l.length ≤ 1000000) :
  ∃ v' w', (Builtin.append_ #[22, 22] 22 #[x, .slice (some ⟨w2.heap.size, 0, none⟩) 1 1]).run Tryz.prog (w2.alloc (.cells (fdC y).toArray 29)) = .ok v' w' ∧
   Row w' 29 3 v' (findV (l ++ [y]))∧Kept (fun k=>x.ownBlock = some k) w2 w'∧∀ k, v'.ownBlock = some k → x.ownBlock = some k ∨ w2.heap.size ≤ k:=by
 obtain ⟨i0, hi, hz0, hz1, hz2⟩:=info_parts info_find
 have hb:=Blk.new w2 (fdC y) 29
 obtain ⟨v', w', hr, hrow2, hk, ho⟩:=(hrow.alloc (.cells (fdC y).toArray 29)).append_cells (P:=Tryz.prog) (t:=22) Tryz.underlying22 hi hz0 hz1 (by rfl) (by omega) (by omega) ⟨w2.heap.size, 0, none⟩ 1 1 (fdC y) rfl (fun j u hu=>by rw [addr0_add]; exact hb.cell hu) (fun u hu=>by
  simp only [fdC, List.mem_cons, List.not_mem_nil, or_false] at hu
  rcases hu with rfl | rfl | rfl <;> rfl) (by omega) (by rw [findV_len]; simp; omega) 22
 refine ⟨v', w', hr, by rw [findV_snoc]; exact hrow2, ((Kept.refl _ _).alloc _).trans hk, fun k hk=>?_⟩
 rcases ho k hk with h | h
 ·exact Or.inl h
 ·right; rw [World.size_alloc] at h; omega
structure ScanAt (w0 w : World) (d s : Nat) (l : List Fd) : Prop where
 ex : ∃ a n c, Blk w s [.pointer (some ⟨d, 0, none⟩), .slice a n c] 90∧Row w 29 3 (.slice a n c) (findV l)∧∀ k, (Value.slice a n c).ownBlock = some k → w0.heap.size ≤ k∧k ≠ s
 kept : Kept (fun _=>False) w0 w
 new : w0.heap.size ≤ s
def KeptS (w w' : World) : Prop:=∃ Z : Nat → Prop, Kept Z w w'∧∀ k, k < w.heap.size → Z k → CellsT w k 90 ∨ CellsT w k 29
theorem KeptS.of {w w' : World} (h : Kept (fun _=>False) w w') : KeptS w w':=⟨_, h, fun _ _=>False.elim⟩
theorem KeptS.trans {w w' w'' : World} (h : KeptS w w') (k : KeptS w' w'') : KeptS w w'':=by
 obtain ⟨Z, h1, h2⟩:=h
 obtain ⟨Y, k1, k2⟩:=k
 refine ⟨fun i=>Z i ∨ (Y i∧¬ Z i), (h1.mono (fun _ _=>Or.inl)).then_ k1 (fun i hi q=>by
  by_cases z : Z i
  ·exact Or.inl z
  ·exact Or.inr ⟨q, z⟩), fun i hi q=>?_⟩
 rcases q with q | ⟨q, z⟩
 ·exact h2 i hi q
 ·have e:=h1.block i hi z
  exact (k2 i (Nat.lt_of_lt_of_le hi h1.size) q).imp (fun ⟨c, f, q⟩=>⟨c, f, by rw [← e]; exact q⟩) (fun ⟨c, f, q⟩=>⟨c, f, by rw [← e]; exact q⟩)
theorem KeptS.size {w w' : World} (h : KeptS w w') : w.heap.size ≤ w'.heap.size:=by obtain ⟨Z, h1, _⟩:=h; exact h1.size
theorem KeptS.blk {w w' : World} (h : KeptS w w') {b : Nat} {c : List Value} {t : TypeId} (hb : Blk w b c t) (h1 : t ≠ 90) (h2 : t ≠ 29) : Blk w' b c t:=by
 obtain ⟨Z, k1, k2⟩:=h
 refine hb.kept k1 (fun z=>?_)
 have q : CellsT w b t:=⟨_, _, hb⟩
 rcases k2 b hb.lt z with e | e
 ·exact h1 (q.same e)
 ·exact h2 (q.same e)
section
variable {w0 w w' : World} {d s : Nat} {l : List Fd}
theorem ScanAt.same (h : ScanAt w0 w d s l) (hk : Kept (fun _=>False) w w') : ScanAt w0 w' d s l:=by
 obtain ⟨⟨a, n, c, h1, h2, h3⟩, h4, h5⟩:=h
 exact ⟨⟨a, n, c, h1.kept hk id, h2.kept hk (fun _ _=>id), h3⟩, h4.trans hk, h5⟩
theorem ScanAt.disk (h : ScanAt w0 w d s l) : w.cell? ⟨s, 0, none⟩ = some (.pointer (some ⟨d, 0, none⟩)):=by
 obtain ⟨⟨a, n, c, h1, h2, h3⟩, h4, h5⟩:=h
 exact h1.cell (i:=0) rfl
theorem ScanAt.more {w1 : World} (hw : ScanAt w0 w1 d s l) (hk : Kept (fun _=>False) w1 w) (x : Fd) (hl : l.length ≤ 1000000) :
  ∃ a n c v' w2, w.cell? ⟨s, 1, none⟩ = some (.slice a n c)∧(Builtin.append_ #[22, 22] 22 #[.slice a n c, .slice (some ⟨w.heap.size, 0, none⟩) 1 1]).run Tryz.prog (w.alloc (.cells (fdC x).toArray 29)) = .ok v' w2 ∧
   (∃ a' n' c', v' = .slice a' n' c')∧(∃ u, w2.cell? ⟨s, 1, none⟩ = some u)∧w2.frozen? ⟨s, 1, none⟩ = false∧Hid (ScanAt w0 (w2.setCell ⟨s, 1, none⟩ v') d s (l ++ [x])∧Kept (fun k=>k < w1.heap.size) w (w2.setCell ⟨s, 1, none⟩ v')∧KeptS w (w2.setCell ⟨s, 1, none⟩ v')):=by
 have hb1 : s < w1.heap.size∧∀ a n c, w1.cell? ⟨s, 1, none⟩ = some (.slice a n c) → ∀ k, (Value.slice a n c).ownBlock = some k → k < w1.heap.size:=by
  obtain ⟨⟨a, n, c, h1, h2, h3⟩, h4, h5⟩:=hw
  refine ⟨h1.lt, fun a' n' c' e k q=>?_⟩
  rw [h1.cell (i:=1) rfl] at e
  cases e
  exact h2.lt q
 have hc1 : ∀ a n c, w.cell? ⟨s, 1, none⟩ = some (.slice a n c) → w1.cell? ⟨s, 1, none⟩ = some (.slice a n c):=by
  obtain ⟨⟨a, n, c, h1, h2, h3⟩, h4, h5⟩:=hw
  intro a' n' c' e
  have:=hk.cell (h1.cell (i:=1) rfl) id
  rw [e] at this
  rw [this]
  exact h1.cell (i:=1) rfl
 have h:=hw.same hk
 obtain ⟨⟨a, n, c, h1, h2, h3⟩, h4, h5⟩:=h
 have hlo:=hb1.2 a n c (hc1 a n c (h1.cell (i:=1) rfl))
 obtain ⟨v', w2, hr, r1, k1, o1⟩:=append_find h2 x hl
 have hlt:=h1.lt
 have s1:=h1.kept k1 (fun q=>(h3 s q).2 rfl)
 obtain ⟨a', n', c', rfl, _⟩:=r1.shape
 have hz:=h4.size
 have hown : ∀ k, (Value.slice a' n' c').ownBlock = some k → w0.heap.size ≤ k∧k ≠ s:=fun k q=>by
  rcases o1 k q with z | z
  ·exact h3 k z
  ·exact ⟨by omega, by omega⟩
 have k2 : Kept (fun k=>k = s) w2 (w2.setCell ⟨s, 1, none⟩ (.slice a' n' c')):=kept_cell w2 s 1 _
 refine ⟨a, n, c, _, w2, h1.cell (i:=1) rfl, hr, ⟨a', n', c', rfl⟩, ⟨_, s1.cell (i:=1) rfl⟩, s1.free 1, Lib.hid ⟨⟨⟨a', n', c', s1.set 1 _, r1.kept k2 (fun k q=>(hown k q).2), hown⟩, ?_, h5⟩, (k1.mono (fun k _ q=>hlo k q)).then_ k2 (fun k _ q=>by rw [q]; exact hb1.1), fun k=>(Value.slice a n c).ownBlock = some k ∨ k = s, (k1.mono (fun k _ q=>Or.inl q)).then_ k2 (fun k _ q=>Or.inr q), fun k _ q=>q.elim (fun q=>Or.inr (h2.cellsT q)) (fun q=>by subst q; exact Or.inl ⟨_, _, h1⟩)⟩⟩
 exact (h4.then_ k1 (fun i hi z=>by have:=(h3 i z).1; omega)).then_ k2 (fun i hi z=>by omega)
theorem find_any {w1 : World} (h : ScanAt w0 w1 d s l) (hk : Kept (fun _=>False) w1 w) (k f p : Int) (hl : l.length ≤ 1000000) :
  Calls Tryz.prog 38 #[.pointer (some ⟨s, 0, none⟩), .int .i64 k, .int .i64 f, .int .i64 p] w fun e w'=>e = .returned (.tuple #[])∧ScanAt w0 w' d s (l ++ [(k, f, p)])∧Kept (fun k=>k < w1.heap.size) w w'∧KeptS w w':=by
 obtain ⟨a, n, c, v', w2, h1, hr, ⟨a', n', c', rfl⟩, ⟨u, h2⟩, h3, H⟩:=h.more hk (k, f, p) hl
 clear h hk
 go_enter Tryz.func38, Tryz.ntmps38
 go_wp2_with (refine Lib.wpList_append_run _ rfl _ _ 22 22 rfl _ _ rfl rfl _ _ hr ?_)
 go_end0
 exact ⟨rfl, H.out.1, H.out.2.1, H.out.2.2⟩
end
section
variable {w0 w w' : World} {d s : Nat} {M : DiskM} {Os : List Ob} {l : List Fd}
theorem scrubText (h : Ows w0 w d M Os) (hs : w.cell? ⟨s, 0, none⟩ = some (.pointer (some ⟨d, 0, none⟩))) (n : Int) (n0 : -9223372036854775808 ≤ n∧n ≤ 9223372036854775807) (hdn : M.down = false) {b : By} (hf : AM.get M.files n = some b) :
  Calls Tryz.prog 72 #[.pointer (some ⟨s, 0, none⟩), .int .i64 n] w fun e w'=>e = .returned (.string ⟨b.toArray⟩)∧w = w':=by
 obtain ⟨B, h⟩:=h
 have hz : M.sizeR n = ((b.length : Int), 0):=by simp [DiskM.sizeR, DiskM.has, hdn, hf]
 have hsize:=size_ap h.ap n n0 hz
 have hread:=read_ap h.ap n n0 0 b.length b hdn hf (by omega)
 rw [List.drop_zero, List.take_of_length_le (Nat.le_refl _)] at hread
 have hread : Calls Tryz.prog 108 #[.pointer (some ⟨d, 0, none⟩), .int .i64 n, .int .i64 0, .int .i64 (b.length : Int)] w fun e w'=>e = .returned (.tuple #[.string ⟨b.toArray⟩, .int .i64 0])∧w = w':=hread
 clear hz h hf hdn
 go_enter Tryz.func72, Tryz.ntmps72
 go_wp2_with (first | (go_at_call 34; refine hsize.mono ?_; rintro e w' ⟨rfl, rfl⟩) | (go_at_call 108; refine hread.mono ?_; rintro e w' ⟨rfl, rfl⟩))
 go_ret
 exact ⟨rfl, rfl⟩
end
inductive Loads : By → Nat → List By → Prop
 | start (b : By) : Loads b 0 []
 | more {b : By} {pos : Nat} {ps : List By} {q : By × By} : Loads b pos ps → cutF (b.drop pos) = some q → q.1.length ≤ 200 → ps.length < 64 → Loads b (b.length - q.2.length) (ps ++ [q.1])
def LoadsTo (b : By) (pos : Nat) (ps : List By) : Prop:=Loads b pos ps∧(64 ≤ ps.length ∨ cutF (b.drop pos) = none ∨ ∃ q, cutF (b.drop pos) = some q∧200 < q.1.length)
theorem Loads.le {b : By} {pos : Nat} {ps : List By} (h : Loads b pos ps) : pos ≤ b.length:=by
 induction h with
 | start=>exact Nat.zero_le _
 | more _ _ _ _ _=>exact Nat.sub_le _ _
theorem Loads.len {b : By} {pos : Nat} {ps : List By} (h : Loads b pos ps) : ps.length ≤ 64:=by
 induction h with
 | start=>exact Nat.zero_le _
 | more _ _ _ h4 _=>rw [List.length_append, List.length_singleton]; omega
def LoadsPost (w : World) (b : By) (e : Ending) (w' : World) : Prop:=∃ pos ps a c, LoadsTo b pos ps∧e = .returned (.tuple #[.slice a ps.length c, .int .i64 (pos : Int)])∧Hid (Row w' 9 1 (.slice a ps.length c) (strV ps)∧Kept (fun _=>False) w w'∧∀ k, (Value.slice a ps.length c).ownBlock = some k → w.heap.size ≤ k)
theorem loads_more {w wr w2 : World} {a : Option Addr} {c : Nat} {ps : List By} (h : Row wr 9 1 (.slice a ps.length c) (strV ps)∧Kept (fun _=>False) w wr∧∀ k, (Value.slice a ps.length c).ownBlock = some k → w.heap.size ≤ k) (hk : Kept (fun _=>False) wr w2) (p : By) (hl : ps.length ≤ 1000) :
  ∃ (a' : Option Addr) (c' : Nat) (w3 : World), (Builtin.append_ #[54, 54] 54 #[.slice a ps.length c, .slice (some ⟨w2.heap.size, 0, none⟩) 1 1]).run Tryz.prog (w2.alloc (.cells #[.string ⟨p.toArray⟩] 9)) = .ok (.slice a' (ps.length + 1) c') w3 ∧
   Hid (Row w3 9 1 (.slice a' (ps ++ [p]).length c') (strV (ps ++ [p]))∧Kept (fun _=>False) w w3∧∀ k, (Value.slice a' (ps ++ [p]).length c').ownBlock = some k → w.heap.size ≤ k):=by
 obtain ⟨h1, h2, h3⟩:=h
 obtain ⟨v', w3, hr, r3, k3, o3⟩:=append_str1 (h1.kept hk (fun _ _=>id)) p (by omega)
 have hz:=(h2.trans hk).size
 obtain ⟨a', m', c', rfl, _⟩:=r3.shape
 obtain rfl : m' = (ps ++ [p]).length:=by
  obtain ⟨_, _, _, ev, hn, _⟩:=r3.view
  cases ev
  rw [strV_len] at hn
  omega
 refine ⟨a', c', w3, by rw [hr]; simp, Lib.hid ⟨r3, (h2.trans hk).then_ k3 (fun i hi z=>by have:=h3 i z; omega), fun k q=>?_⟩⟩
 rcases o3 k q with z | z
 ·exact h3 k z
 ·omega
theorem scrubLoad (w : World) (b : By) (hb : b.length ≤ 2000000) (ht : Tab w) :
  Calls Tryz.prog 74 #[.string ⟨b.toArray⟩] w (LoadsPost w b):=by
 have HG:=Lib.hid (fun w' pos (hp : pos ≤ b.length) ht'=>frameGet_any w' ⟨b.toArray⟩ pos hp (by show b.toArray.size ≤ _; rw [List.size_toArray]; omega) ht')
 have HT:=Lib.hid (And.intro ht hb)
 clear ht hb
 go_enter Tryz.func74, Tryz.ntmps74
 go_wp2_with fail
 go_loopw [2, 3] (fun x p wr=>∃ (pos : Nat) (ps : List By) (a : Option Addr) (c : Nat), x = .slice a ps.length c∧p = .int .i64 (pos : Int)∧Hid (Loads b pos ps∧Row wr 9 1 (.slice a ps.length c) (strV ps)∧Kept (fun _=>False) w wr∧∀ k, (Value.slice a ps.length c).ownBlock = some k → w.heap.size ≤ k)) (fun x _ _=>64 - sliceLen x)
 case atStart=>exact ⟨0, [], none, 0, rfl, rfl, Lib.hid ⟨Loads.start b, Row.nil _ _ _, Kept.refl _ _, fun k q=>by simp [Value.ownBlock] at q⟩⟩
 case round =>
  obtain ⟨pos, ps, a, c, rfl, rfl, HL⟩:=hrel
  have hg:=HG.out wr pos HL.out.1.le (HT.out.1.same HL.out.2.2.1)
  unfold GetPost at hg
  have e1 : (⟨b.toArray⟩ : ByteArray).data.toList = b:=rfl
  have e2 : (⟨b.toArray⟩ : ByteArray).size = b.length:=by show b.toArray.size = _; simp
  rw [e1, e2] at hg
  clear e1 e2
  by_cases hlt : ps.length < 64
  ·have y1 : decide ((ps.length : Int) < 64) = true:=decide_eq_true (by omega)
   match hc : cutF (b.drop pos) with
   | none =>
    rw [hc] at hg
    dsimp only at hg
    have HC:=Lib.hid hc
    clear hc hlt
    go_wp2_with (go_at_call 113; refine hg.mono ?_; rintro e w2 ⟨rfl, hk2⟩)
    exact bodyPost_ret (v:=.tuple #[.slice a ps.length c, .int .i64 (pos : Int)]) (by simp [results, Tryz.results74, go_sem]) rfl ⟨pos, ps, a, c, ⟨HL.out.1, Or.inr (Or.inl HC.out)⟩, rfl, Lib.hid ⟨HL.out.2.1.kept hk2 (fun _ _=>id), HL.out.2.2.1.trans hk2, HL.out.2.2.2⟩⟩
   | some q =>
    rw [hc] at hg
    dsimp only at hg
    have HC:=Lib.hid hc
    by_cases hlong : q.1.length ≤ 200
    ·have y2 : decide ((200 : Int) < (q.1.length : Int)) = false:=decide_eq_false (by omega)
     have HLT:=Lib.hid (And.intro hlt hlong)
     have HM:=Lib.hid (fun w2 hk=>loads_more (w2:=w2) HL.out.2 hk q.1 (by omega))
     clear hc hlt hlong
     go_wp2_with (first | (go_at_call 113; refine hg.mono ?_; rintro e w2 ⟨rfl, hk2⟩; obtain ⟨a', c', w3, r1, HN⟩:=HM.out _ hk2) | (refine Lib.wpList_append_run _ rfl _ _ 54 54 rfl _ _ rfl rfl _ _ r1 ?_))
     refine ⟨⟨_, ps ++ [q.1], a', c', by simp, rfl, Lib.hid ⟨HL.out.1.more HC.out HLT.out.2 HLT.out.1, HN.out⟩⟩, ?_⟩
     have:=HLT.out.1
     show 64 - (ps.length + 1) < 64 - ps.length
     omega
    ·have y2 : decide ((200 : Int) < (q.1.length : Int)) = true:=decide_eq_true (by omega)
     have HLO:=Lib.hid hlong
     clear hc hlt hlong
     go_wp2_with (go_at_call 113; refine hg.mono ?_; rintro e w2 ⟨rfl, hk2⟩)
     exact bodyPost_ret (v:=.tuple #[.slice a ps.length c, .int .i64 (pos : Int)]) (by simp [results, Tryz.results74, go_sem]) rfl ⟨pos, ps, a, c, ⟨HL.out.1, Or.inr (Or.inr ⟨q, HC.out, by have:=HLO.out; omega⟩)⟩, rfl, Lib.hid ⟨HL.out.2.1.kept hk2 (fun _ _=>id), HL.out.2.2.1.trans hk2, HL.out.2.2.2⟩⟩
  ·have y1 : decide ((ps.length : Int) < 64) = false:=decide_eq_false (by omega)
   have HLT:=Lib.hid hlt
   clear hlt hg
   go_wp2_with fail
   exact bodyPost_ret (v:=.tuple #[.slice a ps.length c, .int .i64 (pos : Int)]) (by simp [results, Tryz.results74, go_sem]) rfl ⟨pos, ps, a, c, ⟨HL.out.1, Or.inl (by have:=HLT.out; omega)⟩, rfl, Lib.hid HL.out.2⟩
section
variable {wz w0 w w' : World} {d s : Nat} {M : DiskM} {Os : List Ob} {l : List Fd}
theorem scrFiles (h : Ows wz w d M Os) : Calls Tryz.prog 70 #[.pointer (some ⟨d, 0, none⟩)] w fun e w'=>∃ a c, e = .returned (.slice a M.files.length c)∧Row w' 3 1 (.slice a M.files.length c) (icells (M.files.map (·.1)))∧Kept (fun _=>False) w w'∧∀ k, (Value.slice a M.files.length c).ownBlock = some k → w.heap.size ≤ k:=by
 obtain ⟨B, h⟩:=h
 refine h.ap.files.mono ?_
 rintro e w' ⟨v, rfl, h1, h2, h3⟩
 obtain ⟨a, m, c, rfl, hm, _⟩:=h1.form (by omega)
 have e1 : (icells (M.files.map (·.1))).length = M.files.length:=by simp [icells]
 obtain rfl : m = M.files.length:=by omega
 exact ⟨a, c, rfl, h1, h2, h3⟩
theorem View.num1 {a : Option Addr} {n c : Nat} {l : List Int} (h : View w 1 (.slice a n c) (icells l)) {i : Nat} {p : Int} (hp : l[i]? = some p) : ∃ g off, a = some ⟨g, off, none⟩∧w.cell? ⟨g, off + i, none⟩ = some (.int .i64 p):=by
 obtain ⟨_, _, _, ev, hn, _, _, _, hcv⟩:=h
 cases ev
 have hi:=(List.getElem?_eq_some_iff.1 hp).1
 have e1 : (icells l).length = l.length:=by simp [icells]
 obtain ⟨g, off, rfl, _, hc⟩:=hcv (by omega)
 exact ⟨g, off, rfl, hc i _ (by unfold icells; rw [List.getElem?_map, hp]; rfl)⟩
theorem scrEntries0 (h : Ows wz w d M Os) (hs : w.cell? ⟨s, 0, none⟩ = some (.pointer (some ⟨d, 0, none⟩))) (hall : ∀ x ∈ M.files, x.1 < 1000) :
  Calls Tryz.prog 36 #[.pointer (some ⟨s, 0, none⟩)] w fun e w'=>e = .returned (.slice none 0 0)∧Kept (fun _=>False) w w':=by
 have HF:=Lib.hid (scrFiles h)
 have HA:=Lib.hid hall
 have hn : M.files.length ≤ 9223372036854775807:=by have:=h.ok.count; omega
 clear h hall
 go_enter Tryz.func36, Tryz.ntmps36
 go_wp2_with (go_at_call 70; refine HF.out.mono ?_; rintro e w1 ⟨fa, fc, rfl, h1, h2, h3⟩; have HR:=Lib.hid (And.intro h1 h2); clear h1 h2 h3)
 go_loopw [2, 16] (fun y x wr=>∃ i : Nat, i ≤ M.files.length∧y = .slice none 0 0∧x = .int .i64 (i : Int)∧Hid (Kept (fun _=>False) w1 wr)) (fun _ x _=>M.files.length - (intOf x).toNat)
 case atStart=>exact ⟨0, Nat.zero_le _, rfl, rfl, Lib.hid (Kept.refl _ _)⟩
 case round =>
  obtain ⟨i, hi, rfl, rfl, HK⟩:=hrel
  by_cases hlt : i < M.files.length
  ·have y1 : decide ((i : Int) < (M.files.length : Int)) = true:=decide_eq_true (by omega)
   have y2 : decide (i < M.files.length) = true:=decide_eq_true hlt
   obtain ⟨x, hx⟩ : ∃ x, M.files[i]? = some x:=⟨_, List.getElem?_eq_getElem hlt⟩
   have hxl:=HA.out x (List.mem_of_getElem? hx)
   obtain ⟨g, off, rfl, hc⟩:=(HR.out.1.kept HK.out (fun _ _=>id)).view.num1 (i:=i) (p:=x.1) (by rw [List.getElem?_map, hx]; rfl)
   have y3 : decide (x.1 < 1000) = true:=decide_eq_true hxl
   clear hx hxl
   go_wp2_with fail
   go_roundw
   case rel=>exact ⟨i + 1, by omega, rfl, by go_num, HK⟩
   case measure=>simp [intOf]; omega
  ·obtain rfl : i = M.files.length:=by omega
   have y1 : decide ((M.files.length : Int) < (M.files.length : Int)) = false:=decide_eq_false (by omega)
   have y2 : decide (M.files.length < M.files.length) = false:=decide_eq_false (by omega)
   clear hi hlt
   go_wp2_with fail
   go_ret
   exact ⟨rfl, HR.out.2.trans HK.out⟩
theorem lt_dec {a b : Nat} (h : a < b) : decide ((a : Int) < (b : Int)) = true∧decide (a < b) = true:=⟨decide_eq_true (by omega), decide_eq_true h⟩
theorem ge_dec {a b : Nat} (h : ¬ a < b) : decide ((a : Int) < (b : Int)) = false∧decide (a < b) = false:=⟨decide_eq_false (by omega), decide_eq_false h⟩
def EntTo (w0 w : World) (d s : Nat) (l : List Fd) (b : By) (e : Ending) (w' : World) : Prop:=∃ pos ps a c, LoadsTo b pos ps∧e = .returned (.slice a ps.length c)∧Hid (ScanAt w0 w' d s (l ++ (if pos < b.length then [(1, 1000, (pos : Int))] else []))∧Row w' 9 1 (.slice a ps.length c) (strV ps)∧(∀ k, (Value.slice a ps.length c).ownBlock = some k → w0.heap.size ≤ k)∧KeptS w w')
theorem scr_copy {x : Value} {ps : List By} (h : Row w 9 1 x (strV ps)) (hl : ps.length ≤ 100000) :
  ∃ (a1 : Option Addr) (c1 : Nat) (w1 : World), (Builtin.append_ #[54, 54] 54 #[.slice none 0 0, x]).run Tryz.prog w = .ok (.slice a1 ps.length c1) w1∧Hid (Row w1 9 1 (.slice a1 ps.length c1) (strV ps)∧Kept (fun _=>False) w w1∧∀ k, (Value.slice a1 ps.length c1).ownBlock = some k → w.heap.size ≤ k):=by
 obtain ⟨i0, hi, hz0, hz1, hz3⟩:=info_parts info_str
 obtain ⟨x1, W1, r1, row1, k1, f1⟩:=(Row.nil w 9 1).append_view (P:=Tryz.prog) (t:=54) h.view Tryz.underlying54 hi hz0 hz1 rfl (by omega) (by rw [hz3]; decide) (one_str ps) (by rw [strV_len]; simp; omega) 54
 have k1' : Kept (fun _=>False) w W1:=k1.mono (fun k _ q=>by simp [Value.ownBlock] at q)
 have o1 : ∀ k, x1.ownBlock = some k → w.heap.size ≤ k:=fun k q=>by
  rcases f1 k q with z | z
  ·simp [Value.ownBlock] at z
  ·exact z
 rw [List.nil_append] at row1
 obtain ⟨a1, m1, c1, rfl, hm, _⟩:=row1.form (by omega)
 obtain rfl : m1 = ps.length:=by rw [strV_len] at hm; omega
 exact ⟨a1, c1, W1, r1, Lib.hid ⟨row1, k1', o1⟩⟩
theorem scrEntries1 (h : Ows wz w d M Os) (hS : ScanAt w0 w d s l) (hl : l.length ≤ 1000) {b : By} (hf : M.files = [(1000, b)]) (hdn : M.down = false) :
  Calls Tryz.prog 36 #[.pointer (some ⟨s, 0, none⟩)] w (EntTo w0 w d s l b):=by
 have hbl : b.length ≤ 1048576:=by
  have h1:=DiskM.len_le_total h.ok (n:=1000) (b:=b) (by rw [hf]; rfl)
  have h2:=h.ok.room
  have h3:=h.ok.cap1
  omega
 have hg : AM.get M.files 1000 = some b:=by rw [hf]; rfl
 have HF:=Lib.hid (show Calls Tryz.prog 70 #[.pointer (some ⟨d, 0, none⟩)] w fun e w'=>∃ a c, e = .returned (.slice a 1 c)∧Row w' 3 1 (.slice a 1 c) (icells [1000])∧Kept (fun _=>False) w w' from (scrFiles h).mono (fun e w' q=>by
  obtain ⟨a, c, he, h1, h2, _⟩:=q
  rw [hf] at he h1
  exact ⟨a, c, he, h1, h2⟩))
 have HO:=Lib.hid (show Ows wz w d M Os∧M.down = false∧AM.get M.files 1000 = some b∧b.length ≤ 1048576 from ⟨h, hdn, hg, hbl⟩)
 have HS:=Lib.hid (And.intro hS hl)
 have cs:=hS.disk
 have hb9 : b.length ≤ 9223372036854775807:=by omega
 clear h hS hl hf hdn hg hbl
 go_enter Tryz.func36, Tryz.ntmps36
 go_wp2_with (go_at_call 70; refine HF.out.mono ?_; rintro e w1 ⟨fa, fc, rfl, h1, h2⟩; have HR:=Lib.hid (And.intro h1 h2); clear h1 h2)
 go_loopw [2, 3, 4, 16] (fun x2 x3 x4 x16 wr=>(x2 = .slice none 0 0∧x3 = .int .i64 1000∧x4 = .bool true∧x16 = .int .i64 0∧w1 = wr) ∨ (∃ pos ps a c, LoadsTo b pos ps∧x2 = .slice a ps.length c∧x16 = .int .i64 1∧Hid (ScanAt w0 wr d s (l ++ (if pos < b.length then [(1, 1000, (pos : Int))] else []))∧Row wr 9 1 (.slice a ps.length c) (strV ps)∧(∀ k, (Value.slice a ps.length c).ownBlock = some k → w0.heap.size ≤ k)∧KeptS w wr))) (fun _ _ _ x16 _=>1 - (intOf x16).toNat)
 case atStart=>exact Or.inl ⟨rfl, rfl, rfl, rfl, rfl⟩
 case round =>
  rcases hrel with ⟨rfl, rfl, rfl, rfl, rfl⟩ | ⟨pos, ps, a, c, hL, rfl, rfl, HQ⟩
  ·obtain ⟨g, off, rfl, hc⟩:=HR.out.1.view.num1 (i:=0) (p:=1000) rfl
   rw [Nat.add_zero] at hc
   have HT:=Lib.hid (scrubText (HO.out.1.same HR.out.2) (HS.out.1.same HR.out.2).disk 1000 (by omega) HO.out.2.1 HO.out.2.2.1)
   have HLD:=Lib.hid (fun w' (hk : Kept (fun _=>False) w1 w')=>scrubLoad w' b (by have:=HO.out.2.2.2; omega) ((HO.out.1.same HR.out.2).same hk).tab)
   go_upto_region 11 with (first
    | (go_at_call 72; refine HT.out.mono ?_; rintro e w2 ⟨rfl, rfl⟩)
    | (go_at_call 74; refine (HLD.out _ (Kept.refl _ _)).mono ?_; rintro e w3 ⟨pos, ps, la, lc, hL, rfl, HROW⟩))
   have HL:=Lib.hid (And.intro hL hL.1.len)
   have hle:=hL.1.le
   have HS1:=Lib.hid (HS.out.1.same HR.out.2)
   have hpn : ps.length ≤ 9223372036854775807:=by have:=HL.out.2; omega
   clear hL HT HLD
   by_cases hlt : pos < b.length
   ·obtain ⟨y1, y2⟩:=lt_dec hlt
    have HFI:=Lib.hid (find_any HS1.out HROW.out.2.1 1 1000 (pos : Int) (by have:=HS.out.2; omega))
    have HCP:=Lib.hid (fun w4 (hk : Kept (fun k=>k < w1.heap.size) w3 w4)=>scr_copy (HROW.out.1.kept hk (fun k q z=>by have:=HROW.out.2.2 k q; omega)) (by have:=HL.out.2; omega))
    have HFD:=Lib.hid (show (if pos < b.length then [((1 : Int), (1000 : Int), (pos : Int))] else []) = [(1, 1000, (pos : Int))] from if_pos hlt)
    clear hlt hle
    go_wp2_with (first
     | (go_at_call 38; refine HFI.out.mono ?_; rintro e w4 ⟨rfl, h4, hk4, ks4⟩; have HS4:=Lib.hid (And.intro h4 ks4); clear h4 ks4; obtain ⟨ca, cc, w5, hr5, H5⟩:=HCP.out w4 hk4; clear hk4)
     | (refine Lib.wpList_append_run _ rfl _ _ 54 54 rfl _ _ rfl rfl _ _ hr5 ?_))
    all_goals exact ⟨Or.inr ⟨pos, ps, ca, cc, HL.out.1, rfl, rfl, Lib.hid ⟨by rw [HFD.out]; exact HS4.out.1.same H5.out.2.1, H5.out.1, fun k q=>(by have h1:=H5.out.2.2 k q; have h2:=HS4.out.1.kept.size; omega), (((KeptS.of HR.out.2).trans (KeptS.of HROW.out.2.1)).trans HS4.out.2).trans (KeptS.of H5.out.2.1)⟩⟩, by simp [intOf]⟩
   ·obtain ⟨y1, y2⟩:=ge_dec hlt
    have HCP:=Lib.hid (scr_copy HROW.out.1 (by have:=HL.out.2; omega))
    obtain ⟨ca, cc, w5, hr5, H5⟩:=HCP.out
    have HFD:=Lib.hid (show (if pos < b.length then [((1 : Int), (1000 : Int), (pos : Int))] else []) = [] from if_neg hlt)
    clear hlt hle HCP
    go_wp2_with (refine Lib.wpList_append_run _ rfl _ _ 54 54 rfl _ _ rfl rfl _ _ hr5 ?_)
    all_goals exact ⟨Or.inr ⟨pos, ps, ca, cc, HL.out.1, rfl, rfl, Lib.hid ⟨by rw [HFD.out, List.append_nil]; exact (HS1.out.same HROW.out.2.1).same H5.out.2.1, H5.out.1, fun k q=>(by have h1:=H5.out.2.2 k q; have h2:=HROW.out.2.1.size; have h3:=HS1.out.kept.size; omega), KeptS.of ((HR.out.2.trans HROW.out.2.1).trans H5.out.2.1)⟩⟩, by simp [intOf]⟩
  ·go_wp2_with fail
   go_ret
   exact ⟨pos, ps, a, c, hL, rfl, HQ⟩
end
end Go.Proofs.YtpmdlkogccojmaaGreatDoor
