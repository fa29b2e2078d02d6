/- What a law's walk holds: rows of texts of its own, the disk, the segments; the contracts in that form. Packages speculumlaw12, speculumlaw13: Texts, many, files. Segments on a disk that does not fail, as the laws of chapter 13 hold them. What a law's walk holds: a block comes; contracts in that form. The law SegmentsSure: its region that draws. Package speculumlaw13: laid, the chapter's disk. -/
import Derived.Deep.RegionHeld3
import Derived.Test.YtamdbaonmodnbaaGreatDoorUSegmentsSure32
import Derived.Test.YtamdbaonmodnbaaGreatDoorUSegmentsSure29
import Derived.Test.YtamdbaonmodnbaaGreatDoorUSegmentsSure22
set_option linter.unusedVariables false
set_option linter.unusedSimpArgs false
namespace Go.Proofs.YtamdbaonmodnbaaGreatDoor
open Go.RowKit

/-- What is one's own: a row of texts; a block. -/
inductive Tx where
  | row (v : Value) (l : List By)
  | blk (b : Nat) (c : List Value) (t : TypeId)
def Tx.own : Tx → Nat → Prop
  | .row v _, k => v.ownBlock = some k
  | .blk b _ _, k => b = k
def Tx.holds (w : World) : Tx → Prop
  | .row v l => Row w 9 1 v (strV l)
  | .blk b c t => Blk w b c t
theorem Tx.kept {x : Tx} {w w' : World} {Z : Nat → Prop} (h : x.holds w) (hk : Kept Z w w') (hZ : ∀ k, x.own k → ¬ Z k) : x.holds w' := by
  cases x with
  | row v l => exact Row.kept h hk hZ
  | blk b c t => exact Blk.kept h hk (hZ b rfl)
theorem Tx.lt {x : Tx} {w : World} (h : x.holds w) {k : Nat} (hk : x.own k) : k < w.heap.size := by
  cases x with
  | row v l => exact Row.lt h hk
  | blk b c t =>
    have : b = k := hk
    subst this
    exact Blk.lt h
/-- Since w0 nothing that was there has turned; the disk is made of other blocks than B, which holds all that was there, and one's own. -/
structure Fr (w0 w : World) (d : Nat) (M : DiskM) (B : Nat → Prop) (Rs : List Tx) : Prop where
  ap : Apart B d M w
  old : ∀ k, k < w0.heap.size → B k
  tab0 : Tab w0
  kept : Kept (fun _ => False) w0 w
  rows : ∀ x ∈ Rs, x.holds w ∧ ∀ k, x.own k → B k ∧ w0.heap.size ≤ k
/-- The segments' blocks are none of one's own. -/
structure Sg (w0 w : World) (d : Nat) (B : Nat → Prop) (Rs : List Tx) (s : Nat) (G : SegM) (S : Nat → Prop) : Prop where
  seg : IsSeg w s d G S
  sub : ∀ k, S k → B k
  off : ∀ k, S k → w0.heap.size ≤ k
  rows : ∀ x ∈ Rs, ∀ k, x.own k → ¬ S k
def Dn (w0 w : World) (d : Nat) (M : DiskM) (Rs : List Tx) : Prop := ∃ B, Fr w0 w d M B Rs
def Up (w0 w : World) (d s : Nat) (G : SegM) (M : DiskM) (Rs : List Tx) : Prop := ∃ B S, Fr w0 w d M B Rs ∧ Sg w0 w d B Rs s G S
section
variable {w0 w w' : World} {d s b : Nat} {M M' : DiskM} {B B' S Z : Nat → Prop} {Rs Rs' : List Tx} {G G' : SegM} {x : Int} {v : Value} {E : List By}
theorem Fr.tab (h : Fr w0 w d M B Rs) : Tab w := h.tab0.same h.kept
theorem Fr.step (h : Fr w0 w d M B Rs) (hk : Kept Z w w') (hZ : ∀ k, k < w.heap.size → Z k → B k → k < w0.heap.size ∨ (∃ x ∈ Rs, x.own k) → False) (ha : Apart B' d M' w') (hB : ∀ k, B k → B' k) : Fr w0 w' d M' B' Rs :=
  ⟨ha, fun k q => hB k (h.old k q), h.tab0, h.kept.then_ hk (fun i hi z => hZ i (Nat.lt_of_lt_of_le hi h.kept.size) z (h.old i hi) (Or.inl hi)), fun x q => ⟨Tx.kept (h.rows x q).1 hk (fun k e z => hZ k (Tx.lt (h.rows x q).1 e) z ((h.rows x q).2 k e).1 (Or.inr ⟨x, q, e⟩)), fun k e => ⟨hB _ ((h.rows x q).2 k e).1, ((h.rows x q).2 k e).2⟩⟩⟩
theorem Sg.step (h : Sg w0 w d B Rs s G S) (hk : Kept Z w w') (hZ : ∀ k, S k → ¬ Z k) (hB : ∀ k, B k → B' k) : Sg w0 w' d B' Rs s G S := ⟨h.seg.kept hk hZ, fun k q => hB k (h.sub k q), h.off, h.rows⟩
theorem Fr.same (h : Fr w0 w d M B Rs) (hk : Kept (fun _ => False) w w') : Fr w0 w' d M (fun k => B k ∨ (w.heap.size ≤ k ∧ k < w'.heap.size)) Rs :=
  h.step hk (fun _ _ z _ _ => z) (h.ap.grow hk (fun _ _ => False.elim) (fun _ q => q)) (fun _ => Or.inl)
theorem Fr.new (h : Fr w0 w d M B Rs) (hk : Kept (fun _ => False) w w') (hb : Row w' 9 1 v (strV E)) (hl : ∀ k, v.ownBlock = some k → w.heap.size ≤ k) : Fr w0 w' d M (fun k => B k ∨ (w.heap.size ≤ k ∧ k < w'.heap.size)) (.row v E :: Rs) := by
  have h2 := h.same hk
  refine ⟨h2.ap, h2.old, h2.tab0, h2.kept, fun x q => ?_⟩
  rcases List.mem_cons.1 q with rfl | q
  · exact ⟨hb, fun k e => ⟨Or.inr ⟨hl k e, hb.lt e⟩, Nat.le_trans h.kept.size (hl k e)⟩⟩
  · exact h2.rows x q
theorem Fr.fewer (h : Fr w0 w d M B Rs) (hL : ∀ x ∈ Rs', x ∈ Rs) : Fr w0 w d M B Rs' := ⟨h.ap, h.old, h.tab0, h.kept, fun x q => h.rows x (hL x q)⟩
theorem Fr.to (h : Fr w0 w d M B Rs) (hk : Kept (fun k => ¬ B k) w w') (ha : Apart B d M' w') : Fr w0 w' d M' B Rs := h.step hk (fun _ _ z q _ => z q) ha (fun _ => id)
theorem Up.dn (h : Up w0 w d s G M Rs) : Dn w0 w d M Rs := by obtain ⟨B, S, h, _⟩ := h; exact ⟨B, h⟩
theorem Dn.same (h : Dn w0 w d M Rs) (hk : Kept (fun _ => False) w w') : Dn w0 w' d M Rs := by obtain ⟨B, h⟩ := h; exact ⟨_, h.same hk⟩
theorem Dn.new (h : Dn w0 w d M Rs) (hk : Kept (fun _ => False) w w') (hb : Row w' 9 1 v (strV E)) (hl : ∀ k, v.ownBlock = some k → w.heap.size ≤ k) : Dn w0 w' d M (.row v E :: Rs) := by obtain ⟨B, h⟩ := h; exact ⟨_, h.new hk hb hl⟩
theorem Dn.fewer (h : Dn w0 w d M Rs) (hL : ∀ x ∈ Rs', x ∈ Rs) : Dn w0 w d M Rs' := by obtain ⟨B, h⟩ := h; exact ⟨_, h.fewer hL⟩
theorem Dn.row (h : Dn w0 w d M Rs) {v : Value} {l : List By} (hy : Tx.row v l ∈ Rs) : Row w 9 1 v (strV l) := by obtain ⟨B, h⟩ := h; exact (h.rows _ hy).1
theorem Dn.old (h : Dn w0 w d M Rs) : Kept (fun _ => False) w0 w := by obtain ⟨B, h⟩ := h; exact h.kept
theorem Dn.tab (h : Dn w0 w d M Rs) : Tab w := by obtain ⟨B, h⟩ := h; exact h.tab
theorem Up.same (h : Up w0 w d s G M Rs) (hk : Kept (fun _ => False) w w') : Up w0 w' d s G M Rs := by obtain ⟨B, S, h, g⟩ := h; exact ⟨_, S, h.same hk, g.step hk (fun _ _ => id) (fun _ => Or.inl)⟩
theorem Up.new (h : Up w0 w d s G M Rs) (hk : Kept (fun _ => False) w w') (hb : Row w' 9 1 v (strV E)) (hl : ∀ k, v.ownBlock = some k → w.heap.size ≤ k) : Up w0 w' d s G M (.row v E :: Rs) := by
  obtain ⟨B, S, h, g⟩ := h
  have g2 := g.step (B' := fun k => B k ∨ (w.heap.size ≤ k ∧ k < w'.heap.size)) hk (fun _ _ => id) (fun _ => Or.inl)
  refine ⟨_, S, h.new hk hb hl, ⟨g2.seg, g2.sub, g2.off, fun x q => ?_⟩⟩
  rcases List.mem_cons.1 q with rfl | q
  · exact fun k e z => by have := h.ap.lt (g.sub _ z); have := hl k e; omega
  · exact g.rows x q
theorem Up.fewer (h : Up w0 w d s G M Rs) (hL : ∀ x ∈ Rs', x ∈ Rs) : Up w0 w d s G M Rs' := by obtain ⟨B, S, h, g⟩ := h; exact ⟨_, S, h.fewer hL, ⟨g.seg, g.sub, g.off, fun x q => g.rows x (hL x q)⟩⟩
theorem Up.seg (h : Up w0 w d s G M Rs) : ∃ S, IsSeg w s d G S := by obtain ⟨B, S, h, g⟩ := h; exact ⟨S, g.seg⟩
theorem Up.count (h : Up w0 w d s G M Rs) : Calls Tryz.prog 16 #[.pointer (some ⟨s, 0, none⟩)] w fun e w' => e = .returned (.int .i64 (G.entries.length : Int)) ∧ w = w' := by obtain ⟨S, h⟩ := h.seg; exact seg_count h
theorem Fr.made (hA : Apart (fun k => k < w0.heap.size) d M w) (ht : Tab w0) (hk : Kept (fun _ => False) w0 w) : Dn w0 w d M [] := ⟨_, hA, fun _ => id, ht, hk, fun x q => by cases q⟩
theorem Dn.crash (h : Dn w0 w d M Rs) (k : Int) (k0 : -9223372036854775808 ≤ k ∧ k ≤ 9223372036854775807) (he : M.crashR k = (x, M')) :
    Calls Tryz.prog 19 #[.pointer (some ⟨d, 0, none⟩), .int .i64 k] w fun e w' => e = .returned (.int .i64 x) ∧ Dn w0 w' d M' Rs := by
  obtain ⟨B, h⟩ := h
  exact (crash_ap h.ap k k0 he).mono fun e w' q => ⟨q.1, B, h.to q.2.2 q.2.1⟩
theorem Up.crash (h : Up w0 w d s G M Rs) (k : Int) (k0 : -9223372036854775808 ≤ k ∧ k ≤ 9223372036854775807) (he : M.crashR k = (x, M')) :
    Calls Tryz.prog 19 #[.pointer (some ⟨d, 0, none⟩), .int .i64 k] w fun e w' => e = .returned (.int .i64 x) ∧ Up w0 w' d s G M' Rs := by
  obtain ⟨B, S, h, g⟩ := h
  exact (crash_ap h.ap k k0 he).mono fun e w' q => ⟨q.1, B, S, h.to q.2.2 q.2.1, g.step q.2.2 (fun k z n => n (g.sub k z)) (fun _ => id)⟩
theorem Dn.start (h : Dn w0 w d M Rs) (hs : 0 ≤ M.starts ∧ M.starts < 9223372036854775807) (he : M.startR = (x, M')) :
    Calls Tryz.prog 29 #[.pointer (some ⟨d, 0, none⟩)] w fun e w' => e = .returned (.int .i64 x) ∧ Dn w0 w' d M' Rs := by
  obtain ⟨B, h⟩ := h
  exact (start_ap h.ap hs he).mono fun e w' q => ⟨q.1, B, h.to q.2.2 q.2.1⟩
theorem Up.start (h : Up w0 w d s G M Rs) (hs : 0 ≤ M.starts ∧ M.starts < 9223372036854775807) (he : M.startR = (x, M')) :
    Calls Tryz.prog 29 #[.pointer (some ⟨d, 0, none⟩)] w fun e w' => e = .returned (.int .i64 x) ∧ Up w0 w' d s G M' Rs := by
  obtain ⟨B, S, h, g⟩ := h
  exact (start_ap h.ap hs he).mono fun e w' q => ⟨q.1, B, S, h.to q.2.2 q.2.1, g.step q.2.2 (fun k z n => n (g.sub k z)) (fun _ => id)⟩
theorem Dn.fail (h : Dn w0 w d M Rs) (n k : Int) (n0 : -9223372036854775808 ≤ n ∧ n ≤ 9223372036854775807) (k0 : -9223372036854775808 ≤ k ∧ k ≤ 9223372036854775807) (he : M.failR n k = (x, M')) :
    Calls Tryz.prog 32 #[.pointer (some ⟨d, 0, none⟩), .int .i64 n, .int .i64 k] w fun e w' => e = .returned (.int .i64 x) ∧ Dn w0 w' d M' Rs := by
  obtain ⟨B, h⟩ := h
  exact (fail_ap h.ap n k n0 k0 he).mono fun e w' q => ⟨q.1, B, h.to q.2.2 q.2.1⟩
theorem Up.fail (h : Up w0 w d s G M Rs) (n k : Int) (n0 : -9223372036854775808 ≤ n ∧ n ≤ 9223372036854775807) (k0 : -9223372036854775808 ≤ k ∧ k ≤ 9223372036854775807) (he : M.failR n k = (x, M')) :
    Calls Tryz.prog 32 #[.pointer (some ⟨d, 0, none⟩), .int .i64 n, .int .i64 k] w fun e w' => e = .returned (.int .i64 x) ∧ Up w0 w' d s G M' Rs := by
  obtain ⟨B, S, h, g⟩ := h
  exact (fail_ap h.ap n k n0 k0 he).mono fun e w' q => ⟨q.1, B, S, h.to q.2.2 q.2.1, g.step q.2.2 (fun k z n => n (g.sub k z)) (fun _ => id)⟩
theorem Dn.isup (h : Dn w0 w d M Rs) {b : Bool} (he : (!M.down) = b) :
    Calls Tryz.prog 33 #[.pointer (some ⟨d, 0, none⟩)] w fun e w' => e = .returned (.bool b) ∧ w = w' := by
  obtain ⟨B, h⟩ := h
  exact up_ap h.ap he
/-- What Open leaves. -/
def OpenSt (w0 : World) (d : Nat) (Rs : List Tx) (st : Int) (y : Int × List By × DiskM) (e : Ending) (w' : World) : Prop :=
  (y.1 ≠ 0 ∧ e = .returned (.tuple #[.pointer none, .int .i64 y.1]) ∧ Dn w0 w' d y.2.2 Rs) ∨ (y.1 = 0 ∧ ∃ s, e = .returned (.tuple #[.pointer (some ⟨s, 0, none⟩), .int .i64 0]) ∧ Up w0 w' d s ⟨y.2.1, st, false⟩ y.2.2 Rs)
theorem Dn.opens (h : Dn w0 w d M Rs) (hc : M.files.length + M.loose.length < 100000000) :
    Calls Tryz.prog 18 #[.pointer (some ⟨d, 0, none⟩)] w (OpenSt w0 d Rs M.starts M.openS) := by
  obtain ⟨B, h⟩ := h
  refine (segOpen_any h.ap hc h.tab).mono fun e w' q => ?_
  rcases q with ⟨h0, rfl, ha, hk⟩ | ⟨h0, sb, S, rfl, hr, hS, ha, hk⟩
  · exact Or.inl ⟨h0, rfl, B, h.to hk ha⟩
  · refine Or.inr ⟨h0, sb, rfl, fun k => B k ∨ S k, S, h.step hk (fun k _ z q _ => z q) ha (fun _ => Or.inl), ⟨hr, fun _ => Or.inr, fun k q => Nat.le_trans h.kept.size (hS k q), fun x q k e z => ?_⟩⟩
    have := hS _ z
    have := Tx.lt (h.rows x q).1 e
    omega
/-- What Append and Cut leave. -/
def DoSt (w0 : World) (d s : Nat) (Rs : List Tx) (y : Int × SegM × DiskM) (e : Ending) (w' : World) : Prop := e = .returned (.int .i64 y.1) ∧ Up w0 w' d s y.2.1 y.2.2 Rs
theorem up_do {y : Int × SegM × DiskM} {e : Ending} (h : Fr w0 w d M B Rs) (g : Sg w0 w d B Rs s G S) (hy : SegDo B S s d w y e w') : DoSt w0 d s Rs y e w' := by
  obtain ⟨he, S', h1, h2, h3, h4⟩ := hy
  refine ⟨he, fun k => B k ∨ S' k, S', h.step h4 (fun k hl z q o => ?_) h3 (fun _ => Or.inl), ⟨h1, fun _ => Or.inr, fun k q => ?_, fun x q k e z => ?_⟩⟩
  · rcases z with z | z
    · exact z q
    · rcases o with o | ⟨x, o, hx⟩
      · have := g.off k z; omega
      · exact g.rows x o k hx z
  · rcases h2 k q with z | z
    · exact g.off k z
    · exact Nat.le_trans h.kept.size z
  · rcases h2 k z with q2 | q2
    · exact g.rows x q k e q2
    · have := Tx.lt (h.rows x q).1 e; omega
theorem Up.append (h : Up w0 w d s G M Rs) (la : Option Addr) (lc : Nat) (l : List By) (hl : View w 1 (.slice la l.length lc) (strV l)) (ho : l ≠ [] → ∀ k, (Value.slice la l.length lc).ownBlock = some k → k < w0.heap.size ∨ ∃ x ∈ Rs, x.own k) (hc : M.files.length + M.loose.length < 80000000) {y : Int × SegM × DiskM} (he : G.append M l = y) :
    Calls Tryz.prog 14 #[.pointer (some ⟨s, 0, none⟩), .slice la l.length lc] w (DoSt w0 d s Rs y) := by
  subst he
  obtain ⟨B, S, h, g⟩ := h
  have ht := tab_low h.tab0
  have hs := g.off _ g.seg.own
  refine (seg_append g.seg h.ap g.sub la lc hl (fun h0 k q => ?_) (by omega) h.tab ⟨by omega, by omega⟩).mono fun e w' q => up_do h g q
  rcases ho h0 k q with z | ⟨x, hx, z⟩
  · exact ⟨h.old k z, fun z2 => by have := g.off k z2; omega⟩
  · exact ⟨((h.rows x hx).2 k z).1, g.rows x hx k z⟩
theorem Up.cut (h : Up w0 w d s G M Rs) (n : Int) (hc : M.files.length + M.loose.length < 80000000) {y : Int × SegM × DiskM} (he : G.cut M n = y) :
    Calls Tryz.prog 15 #[.pointer (some ⟨s, 0, none⟩), .int .i64 n] w (DoSt w0 d s Rs y) := by
  subst he
  obtain ⟨B, S, h, g⟩ := h
  exact (seg_cut g.seg h.ap g.sub n hc).mono fun e w' q => up_do h g q
theorem Up.get (h : Up w0 w d s G M Rs) (a b : Int) (ha : -9223372036854775808 ≤ a ∧ a ≤ 9223372036854775807) (hb : -9223372036854775808 ≤ b ∧ b ≤ 9223372036854775807) :
    Calls Tryz.prog 13 #[.pointer (some ⟨s, 0, none⟩), .int .i64 a, .int .i64 b] w (SegGet w G.entries a b) := by
  obtain ⟨S, h⟩ := h.seg
  exact seg_get h a b ha hb
theorem Dn.files (h : Dn w0 w d M Rs) : Calls Tryz.prog 31 #[.pointer (some ⟨d, 0, none⟩)] w (FilesTo w M) := by
  obtain ⟨B, h⟩ := h
  exact h.ap.files
/-- A row that was just made. -/
theorem Row.fresh {e : TypeId} {n : Nat} {xs : List Value} (h : Blk w b xs e) (hn : xs.length = n) (h0 : 0 < n) (hm : n ≤ 1000000) : Row w e 1 (.slice (some ⟨b, 0, none⟩) n n) xs :=
  Or.inr ⟨b, n, n, [], rfl, by omega, by rw [List.append_nil]; exact h, Nat.le_refl _, by simp; omega, by unfold maxLen; omega⟩
end
end Go.Proofs.YtamdbaonmodnbaaGreatDoor

namespace Go.Proofs.YtamdbaonmodnbaaGreatDoor
open Go.RowKit

section
variable {w w' : World}
/-- The cell of a text that is read. -/
theorem view_text {a : Option Addr} {n c : Nat} {l : List By} (h : View w 1 (.slice a n c) (strV l)) {i : Nat} {p : By} (hp : l[i]? = some p) : ∃ g off, a = some ⟨g, off, none⟩ ∧ w.cell? ⟨g, off + i, none⟩ = some (.string ⟨p.toArray⟩) := by
  obtain ⟨_, _, _, ev, hn, _, _, _, hcv⟩ := h
  cases ev
  have hi := (List.getElem?_eq_some_iff.1 hp).1
  rw [strV_len] at hn
  obtain ⟨g, off, rfl, _, hc⟩ := hcv (by omega)
  exact ⟨g, off, rfl, hc i _ (by unfold strV; rw [List.getElem?_map, hp]; rfl)⟩
theorem view_len {a : Option Addr} {n c : Nat} {l : List By} (h : View w 1 (.slice a n c) (strV l)) : n = l.length ∧ n ≤ maxLen := by
  obtain ⟨_, _, _, ev, hn, h2, h3, _⟩ := h
  cases ev
  rw [strV_len] at hn
  exact ⟨by omega, by omega⟩
set_option maxRecDepth 100000 in
set_option maxHeartbeats 2000000 in
theorem texts_any {a b : Option Addr} {n m c e : Nat} {k l : List By} (hk : View w 1 (.slice a n c) (strV k)) (hl : View w 1 (.slice b m e) (strV l)) :
    Calls Tryz.prog 30 #[.slice a n c, .slice b m e] w fun e w' => e = .returned (.bool (decide (k = l))) ∧ Kept (fun _ => False) w w' := by
  obtain ⟨rfl, hn⟩ := view_len hk
  obtain ⟨rfl, _⟩ := view_len hl
  unfold maxLen at hn
  by_cases hlen : k.length = l.length
  · have hn2 : l.length ≤ 9223372036854775807 := by omega
    have z1 : ((k.length : Int) == (k.length : Int)) = true := beq_self_eq_true _
    rw [← hlen]
    have HL := Lib.hid hlen
    have HV := Lib.hid (And.intro hk hl)
    clear hlen hk hl
    go_enter Tryz.func30, Tryz.ntmps30
    go_wp2_with fail
    go_loopw [5] (fun x wr => ∃ i : Nat, i ≤ k.length ∧ x = .int .i64 (i : Int) ∧ Hid (k.take i = l.take i ∧ Kept (fun _ => False) w wr)) (fun x _ => k.length - (intOf x).toNat)
    case atStart => exact ⟨0, Nat.zero_le _, rfl, Lib.hid ⟨by simp, Kept.refl _ _⟩⟩
    case round =>
      obtain ⟨i, hi, rfl, HS⟩ := hrel
      by_cases hlt : i < k.length
      · have y1 : decide ((i : Int) < (k.length : Int)) = true := decide_eq_true (by omega)
        have y2 : decide (i < k.length) = true := decide_eq_true hlt
        have hlm : i < l.length := by have := HL.out; omega
        obtain ⟨p, hp⟩ : ∃ p, k[i]? = some p := ⟨_, List.getElem?_eq_getElem hlt⟩
        obtain ⟨q, hq⟩ : ∃ q, l[i]? = some q := ⟨_, List.getElem?_eq_getElem hlm⟩
        obtain ⟨g1, o1, rfl, c1⟩ := view_text (HV.out.1.same HS.out.2 (by omega)) hp
        obtain ⟨g2, o2, rfl, c2⟩ := view_text (HV.out.2.same HS.out.2 (by omega)) hq
        have hlz : (i : Int) < (l.length : Int) := by omega
        have hlz2 : i < l.length := hlm
        by_cases hpq : p = q
        · subst hpq
          have HT : Hid (k.take (i + 1) = l.take (i + 1)) := Lib.hid (by rw [List.take_add_one, List.take_add_one, hp, hq, HS.out.1])
          clear hp hq
          go_wp2_with fail
          go_quiet (fail)
          go_wp2_with fail
          exact ⟨⟨i + 1, by omega, by go_num, Lib.hid ⟨HT.out, HS.out.2.trans ((Kept.refl _ _).drewN _)⟩⟩, by simp [intOf]; omega⟩
        · have z2 : (p == q) = false := by simpa using hpq
          have hne : decide (k = l) = false := decide_eq_false (by rintro rfl; rw [hp] at hq; cases hq; exact hpq rfl)
          clear hp hq
          go_wp2_with fail
          go_quiet (fail)
          go_wp2_with fail
          go_ret
          rw [hne]
          exact ⟨rfl, HS.out.2.trans ((Kept.refl _ _).drewN _)⟩
      · obtain rfl : i = k.length := by omega
        have y1 : decide ((k.length : Int) < (k.length : Int)) = false := decide_eq_false (by omega)
        have y2 : decide (k.length < k.length) = false := decide_eq_false (by omega)
        have hkl : decide (k = l) = true := decide_eq_true (by
          have := HS.out.1
          rwa [List.take_length, HL.out, List.take_length] at this)
        clear hi hlt
        go_wp2_with fail
        go_ret
        rw [hkl]
        exact ⟨rfl, HS.out.2⟩
  · have z1 : ((k.length : Int) == (l.length : Int)) = false := by simp; omega
    have z2 : decide ((k.length : Int) = (l.length : Int)) = false := decide_eq_false (by omega)
    have z3 : decide (k.length = l.length) = false := decide_eq_false hlen
    have hne : decide (k = l) = false := decide_eq_false (by rintro rfl; exact hlen rfl)
    rw [hne]
    clear hk hl hlen
    go_enter Tryz.func30, Tryz.ntmps30
    go_wp2_with fail
    go_ret
    exact ⟨rfl, Kept.refl _ _⟩
set_option maxRecDepth 100000 in
set_option maxHeartbeats 2000000 in
/-- So many entries, alike. -/
theorem many_any (w : World) (n : Nat) (hn : n ≤ 1000) (s : By) :
    Calls Tryz.prog 47 #[.int .i64 (n : Int), .string ⟨s.toArray⟩] w fun e w' => ∃ a c, e = .returned (.slice a n c) ∧ Row w' 9 1 (.slice a n c) (strV (List.replicate n s)) ∧ Kept (fun _ => False) w w' ∧ ∀ k, (Value.slice a n c).ownBlock = some k → w.heap.size ≤ k := by
  go_enter Tryz.func47, Tryz.ntmps47
  go_wp2_with fail
  go_loopw [5, 6] (fun x y wr => ∃ (i : Nat) (a : Option Addr) (c : Nat), i ≤ n ∧ x = .slice a i c ∧ y = .int .i64 (i : Int) ∧ Hid (Row wr 9 1 (.slice a i c) (strV (List.replicate i s)) ∧ Kept (fun _ => False) w wr ∧ ∀ k, (Value.slice a i c).ownBlock = some k → w.heap.size ≤ k)) (fun _ y _ => n - (intOf y).toNat)
  case atStart => exact ⟨0, none, 0, Nat.zero_le _, rfl, rfl, Lib.hid ⟨Row.nil _ _ _, Kept.refl _ _, fun k q => by simp [Value.ownBlock] at q⟩⟩
  case round =>
    obtain ⟨i, a, c, hi, rfl, rfl, HS⟩ := hrel
    by_cases hlt : i < n
    · have y1 : decide ((i : Int) < (n : Int)) = true := decide_eq_true (by omega)
      have y2 : decide (i < n) = true := decide_eq_true hlt
      obtain ⟨v', w', hr, h1, h2, h3⟩ := append_str1 HS.out.1 s (by rw [List.length_replicate]; omega)
      obtain ⟨a', m', c', rfl, _⟩ := h1.shape
      have hm : m' = i + 1 := by
        obtain ⟨_, _, _, e, hm, _⟩ := h1.form (by omega)
        cases e
        rw [strV_len, List.length_append, List.length_replicate] at hm
        simpa using hm
      subst hm
      have HN : Hid (Row w' 9 1 (.slice a' (i + 1) c') (strV (List.replicate (i + 1) s)) ∧ Kept (fun _ => False) w w' ∧ ∀ k, (Value.slice a' (i + 1) c').ownBlock = some k → w.heap.size ≤ k) := Lib.hid ⟨by rw [List.replicate_succ']; exact h1, HS.out.2.1.then_ h2 (fun k hk q => by have := HS.out.2.2 k q; omega), fun k q => by
        rcases h3 k q with z | z
        · exact HS.out.2.2 k z
        · exact Nat.le_trans HS.out.2.1.size z⟩
      clear h1 h2 h3
      go_wp2_with ((with_reducible show wpList _ _ _ (⟨some 15, _, _, _, _, _⟩ :: _) _ _); refine Lib.wpList_append_run _ rfl _ _ 22 22 rfl _ _ rfl rfl _ _ hr ?_)
      go_roundw
      case rel => exact ⟨i + 1, a', c', hlt, rfl, by go_num, HN⟩
      case measure => simp [intOf]; omega
    · obtain rfl : i = n := by omega
      have y1 : decide ((i : Int) < (i : Int)) = false := decide_eq_false (by omega)
      have y2 : decide (i < i) = false := decide_eq_false (by omega)
      clear hi hlt
      go_wp2_with fail
      go_ret
      exact ⟨a, c, rfl, HS.out⟩
theorem view_int {a : Option Addr} {n c : Nat} {l : List Int} (h : View w 1 (.slice a n c) (icells l)) {i : Nat} {p : Int} (hp : l[i]? = some p) : ∃ g off, a = some ⟨g, off, none⟩ ∧ w.cell? ⟨g, off + i, none⟩ = some (.int .i64 p) := by
  obtain ⟨_, _, _, ev, hn, _, _, _, hcv⟩ := h
  cases ev
  have hi := (List.getElem?_eq_some_iff.1 hp).1
  have e : (icells l).length = l.length := by simp [icells]
  rw [e] at hn
  obtain ⟨g, off, rfl, _, hc⟩ := hcv (by omega)
  exact ⟨g, off, rfl, hc i _ (by unfold icells; rw [List.getElem?_map, hp]; rfl)⟩
theorem view_ilen {a : Option Addr} {n c : Nat} {l : List Int} (h : View w 1 (.slice a n c) (icells l)) : n = l.length ∧ n ≤ maxLen := by
  obtain ⟨_, _, _, ev, hn, h2, h3, _⟩ := h
  cases ev
  have e : (icells l).length = l.length := by simp [icells]
  rw [e] at hn
  exact ⟨by omega, by omega⟩
set_option maxRecDepth 100000 in
set_option maxHeartbeats 2000000 in
theorem files_is {d : Nat} {B : Nat → Prop} {M : DiskM} (h : Apart B d M w) {b : Option Addr} {m e : Nat} {l : List Int} (hl : View w 1 (.slice b m e) (icells l)) :
    Calls Tryz.prog 48 #[.pointer (some ⟨d, 0, none⟩), .slice b m e] w fun e w' => e = .returned (.bool (decide (M.files.map (·.1) = l))) ∧ Kept (fun _ => False) w w' := by
  obtain ⟨rfl, hm⟩ := view_ilen hl
  unfold maxLen at hm
  have hfl := h.files
  obtain ⟨k, hk⟩ : ∃ k, k = M.files.map (·.1) := ⟨_, rfl⟩
  have hFL : Hid (Calls Tryz.prog 31 #[.pointer (some ⟨d, 0, none⟩)] w fun e w' => ∃ a c, e = .returned (.slice a k.length c) ∧ View w' 1 (.slice a k.length c) (icells k) ∧ Kept (fun _ => False) w w') := Lib.hid (hfl.mono (by
    rintro e w' ⟨v, rfl, hrow, hk1, _⟩
    rw [← hk] at hrow
    obtain ⟨a, n, c, rfl, _⟩ := hrow.shape
    have hv := hrow.view
    obtain ⟨rfl, _⟩ := view_ilen hv
    exact ⟨a, c, rfl, hv, hk1⟩))
  rw [← hk]
  clear hfl h hk
  by_cases hlen : k.length = l.length
  · have z1 : ((k.length : Int) == (k.length : Int)) = true := beq_self_eq_true _
    rw [← hlen]
    have hm2 : k.length ≤ 9223372036854775807 := by omega
    have HL := Lib.hid (And.intro hlen hl)
    clear hlen hl
    go_enter Tryz.func48, Tryz.ntmps48
    go_wp2_with (go_at_call 31; refine hFL.out.mono ?_; rintro e w1 ⟨a, c, rfl, hv1, hk1⟩; have HV := Lib.hid (And.intro hv1 hk1); clear hv1 hk1)
    go_loopw [6] (fun x wr => ∃ i : Nat, i ≤ k.length ∧ x = .int .i64 (i : Int) ∧ Hid (k.take i = l.take i ∧ Kept (fun _ => False) w1 wr)) (fun x _ => k.length - (intOf x).toNat)
    case atStart => exact ⟨0, Nat.zero_le _, rfl, Lib.hid ⟨by simp, Kept.refl _ _⟩⟩
    case round =>
      obtain ⟨i, hi, rfl, HS⟩ := hrel
      by_cases hlt : i < k.length
      · have y1 : decide ((i : Int) < (k.length : Int)) = true := decide_eq_true (by omega)
        have y2 : decide (i < k.length) = true := decide_eq_true hlt
        have hlm : i < l.length := by have := HL.out.1; omega
        obtain ⟨p, hp⟩ : ∃ p, k[i]? = some p := ⟨_, List.getElem?_eq_getElem hlt⟩
        obtain ⟨q, hq⟩ : ∃ q, l[i]? = some q := ⟨_, List.getElem?_eq_getElem hlm⟩
        obtain ⟨g1, o1, rfl, c1⟩ := view_int (HV.out.1.same HS.out.2 (by omega)) hp
        obtain ⟨g2, o2, rfl, c2⟩ := view_int (HL.out.2.same (HV.out.2.trans HS.out.2) (by omega)) hq
        by_cases hpq : p = q
        · subst hpq
          have HT : Hid (k.take (i + 1) = l.take (i + 1)) := Lib.hid (by rw [List.take_add_one, List.take_add_one, hp, hq, HS.out.1])
          clear hp hq
          go_wp2_with fail
          go_quiet (fail)
          go_wp2_with fail
          exact ⟨⟨i + 1, by omega, by go_num, Lib.hid ⟨HT.out, HS.out.2.trans ((Kept.refl _ _).drewN _)⟩⟩, by simp [intOf]; omega⟩
        · have z2 : (p == q) = false := by simpa using hpq
          have z3 : decide (p = q) = false := decide_eq_false hpq
          have hne : decide (k = l) = false := decide_eq_false (by rintro rfl; rw [hp] at hq; cases hq; exact hpq rfl)
          clear hp hq
          go_wp2_with fail
          go_quiet (fail)
          go_wp2_with fail
          go_ret
          rw [hne]
          exact ⟨rfl, (HV.out.2.trans HS.out.2).trans ((Kept.refl _ _).drewN _)⟩
      · obtain rfl : i = k.length := by omega
        have y1 : decide ((k.length : Int) < (k.length : Int)) = false := decide_eq_false (by omega)
        have y2 : decide (k.length < k.length) = false := decide_eq_false (by omega)
        have hkl : decide (k = l) = true := decide_eq_true (by
          have := HS.out.1
          rwa [List.take_length, HL.out.1, List.take_length] at this)
        clear hi hlt
        go_wp2_with fail
        go_ret
        rw [hkl]
        exact ⟨rfl, HV.out.2.trans HS.out.2⟩
  · have z1 : ((k.length : Int) == (l.length : Int)) = false := by simp; omega
    have z2 : decide ((k.length : Int) = (l.length : Int)) = false := decide_eq_false (by omega)
    have z3 : decide (k.length = l.length) = false := decide_eq_false hlen
    have hne : decide (k = l) = false := decide_eq_false (by rintro rfl; exact hlen rfl)
    rw [hne]
    clear hl hlen
    go_enter Tryz.func48, Tryz.ntmps48
    go_wp2_with (go_at_call 31; refine hFL.out.mono ?_; rintro e w1 ⟨a, c, rfl, hv1, hk1⟩; have HV := Lib.hid (And.intro hv1 hk1); clear hv1 hk1)
    go_ret
    exact ⟨rfl, HV.out.2⟩
end
end Go.Proofs.YtamdbaonmodnbaaGreatDoor

namespace Go.Proofs.YtamdbaonmodnbaaGreatDoor
open Go.RowKit

/-- The disk is up, and does not fail; it holds just these entries, in at most so many bytes. -/
def UpX (w0 w : World) (d s : Nat) (E : List By) (cap st : Int) (T : Nat) (Rs : List Tx) : Prop := ∃ M F, Up w0 w d s ⟨E, st, false⟩ M Rs ∧ UpF M F cap st false ∧ Exact F E ∧ AM.sum List.length F ≤ T
section
variable {w0 w w' : World} {d s : Nat} {E l : List By} {cap st : Int} {T n c : Nat} {Rs Rs' : List Tx} {a : Option Addr} {v : Value}
theorem UpX.same (h : UpX w0 w d s E cap st T Rs) (hk : Kept (fun _ => False) w w') : UpX w0 w' d s E cap st T Rs := by
  obtain ⟨M, F, h1, h2⟩ := h
  exact ⟨M, F, h1.same hk, h2⟩
theorem UpX.new (h : UpX w0 w d s E cap st T Rs) (hk : Kept (fun _ => False) w w') (hb : Row w' 9 1 v (strV l)) (hl : ∀ k, v.ownBlock = some k → w.heap.size ≤ k) : UpX w0 w' d s E cap st T (.row v l :: Rs) := by
  obtain ⟨M, F, h1, h2⟩ := h
  exact ⟨M, F, h1.new hk hb hl, h2⟩
theorem UpX.fewer (h : UpX w0 w d s E cap st T Rs) (hL : ∀ x ∈ Rs', x ∈ Rs) : UpX w0 w d s E cap st T Rs' := by
  obtain ⟨M, F, h1, h2⟩ := h
  exact ⟨M, F, h1.fewer hL, h2⟩
theorem UpX.row (h : UpX w0 w d s E cap st T Rs) {v : Value} {l : List By} (hy : Tx.row v l ∈ Rs) : Row w 9 1 v (strV l) := by
  obtain ⟨M, F, h1, _⟩ := h
  exact h1.dn.row hy
theorem UpX.old (h : UpX w0 w d s E cap st T Rs) : Kept (fun _ => False) w0 w := by
  obtain ⟨M, F, h1, _⟩ := h
  exact h1.dn.old
/-- A row of texts that is written out. -/
theorem UpX.lit (h : UpX w0 w d s E cap st T Rs) (l : List By) (hn : l.length = n) (h0 : 0 < n) (hm : n ≤ 1000) : UpX w0 (w.alloc (.cells (strV l).toArray 9)) d s E cap st T (.row (.slice (some ⟨w.heap.size, 0, none⟩) n n) l :: Rs) :=
  h.new ((Kept.refl _ _).alloc _) (Row.fresh (Blk.new w _ _) (by rw [strV_len, hn]) h0 (by omega)) (fun k q => by simp [Value.ownBlock] at q; omega)
theorem UpX.append (h : UpX w0 w d s E cap st T Rs) (hl : View w 1 (.slice a n c) (strV l)) (ho : l ≠ [] → ∀ k, (Value.slice a n c).ownBlock = some k → k < w0.heap.size ∨ ∃ x ∈ Rs, x.own k) (hp : ∀ p ∈ l, p.length ≤ 200) (hf : E.length + l.length ≤ 4096) {T2 : Nat} (hT : T2 = T + (framesF l).length) (hr : (T2 : Int) ≤ cap) :
    Calls Tryz.prog 14 #[.pointer (some ⟨s, 0, none⟩), .slice a n c] w fun e w' => e = .returned (.int .i64 0) ∧ UpX w0 w' d s (E ++ l) cap st T2 Rs := by
  subst hT
  obtain ⟨M, F, h1, h2, h3, h4⟩ := h
  obtain ⟨rfl, _⟩ := view_len hl
  obtain ⟨M', F', e, k1, k2, k3⟩ := h2.append_ok h3 hp hf (by omega)
  exact (h1.append a c l hl ho (h2.few h3.1) e).mono (fun e w' q => ⟨q.1, M', F', q.2, k3, k1, by omega⟩)
theorem UpX.append_row (h : UpX w0 w d s E cap st T Rs) (hx : Tx.row (.slice a n c) l ∈ Rs) (hp : ∀ p ∈ l, p.length ≤ 200) (hf : E.length + l.length ≤ 4096) {T2 : Nat} (hT : T2 = T + (framesF l).length) (hr : (T2 : Int) ≤ cap) :
    Calls Tryz.prog 14 #[.pointer (some ⟨s, 0, none⟩), .slice a n c] w fun e w' => e = .returned (.int .i64 0) ∧ UpX w0 w' d s (E ++ l) cap st T2 Rs :=
  h.append (h.row hx).view (fun _ k q => Or.inr ⟨_, hx, q⟩) hp hf hT hr
theorem UpX.long (h : UpX w0 w d s E cap st T Rs) (hx : Tx.row (.slice a n c) l ∈ Rs) {p : By} (hp : p ∈ l) (hl : 200 < p.length) :
    Calls Tryz.prog 14 #[.pointer (some ⟨s, 0, none⟩), .slice a n c] w fun e w' => e = .returned (.int .i64 3) ∧ UpX w0 w' d s E cap st T Rs := by
  have hv : View w 1 (.slice a n c) (strV l) := (h.row hx).view
  obtain ⟨M, F, h1, h2, h3, h4⟩ := h
  obtain ⟨rfl, _⟩ := view_len hv
  exact (h1.append a c l hv (fun _ k q => Or.inr ⟨_, hx, q⟩) (h2.few h3.1) (h2.append_long hp hl)).mono (fun e w' q => ⟨q.1, M, F, q.2, h2, h3, h4⟩)
theorem UpX.cut (h : UpX w0 w d s E cap st T Rs) (hn : n ≤ E.length) :
    Calls Tryz.prog 15 #[.pointer (some ⟨s, 0, none⟩), .int .i64 (n : Int)] w fun e w' => e = .returned (.int .i64 0) ∧ UpX w0 w' d s (E.take n) cap st T Rs := by
  obtain ⟨M, F, h1, h2, h3, h4⟩ := h
  obtain ⟨M', F', e, k1, k2, k3⟩ := h2.cut_ok h3.1 hn
  exact (h1.cut n (h2.few h3.1) e).mono (fun e w' q => ⟨q.1, M', F', q.2, k3, k1, by omega⟩)
theorem UpX.count (h : UpX w0 w d s E cap st T Rs) {k : Int} (hk : (E.length : Int) = k) : Calls Tryz.prog 16 #[.pointer (some ⟨s, 0, none⟩)] w fun e w' => e = .returned (.int .i64 k) ∧ w = w' := by
  subst hk
  obtain ⟨M, F, h1, _⟩ := h
  exact h1.count
theorem UpX.get (h : UpX w0 w d s E cap st T Rs) (i k : Nat) (hik : i + k ≤ E.length) (hE : E.length ≤ 4096) :
    Calls Tryz.prog 13 #[.pointer (some ⟨s, 0, none⟩), .int .i64 (i : Int), .int .i64 (k : Int)] w fun e w' => ∃ x m c, e = .returned (.tuple #[.slice x m c, .int .i64 0]) ∧ UpX w0 w' d s E cap st T (.row (.slice x m c) ((E.drop i).take k) :: Rs) := by
  obtain ⟨M, F, h1, h2⟩ := h
  refine (h1.get i k (by omega) (by omega)).mono ?_
  intro e w' hq
  rcases hq with ⟨hq, _⟩ | ⟨i', k', e1, e2, _, x, m, c, he, hrow, hk, ho⟩
  · exact absurd hq (by show ¬ ((i : Int) < 0 ∨ (k : Int) < 0 ∨ (E.length : Int) < (i : Int) ∨ (E.length : Int) - (i : Int) < (k : Int)); omega)
  · obtain rfl : i = i' := by omega
    obtain rfl : k = k' := by omega
    exact ⟨x, m, c, he, M, F, h1.new hk hrow ho, h2⟩
theorem UpX.range (h : UpX w0 w d s E cap st T Rs) (i k : Nat) (hik : E.length < i + k) (hE : E.length ≤ 4096) (hi : i ≤ 100000) (hk : k ≤ 100000) :
    Calls Tryz.prog 13 #[.pointer (some ⟨s, 0, none⟩), .int .i64 (i : Int), .int .i64 (k : Int)] w fun e w' => e = .returned (.tuple #[.slice none 0 0, .int .i64 82]) ∧ w = w' := by
  obtain ⟨M, F, h1, h2⟩ := h
  refine (h1.get i k (by omega) (by omega)).mono ?_
  intro e w' hq
  rcases hq with ⟨_, he, hw⟩ | ⟨i', k', e1, e2, hle, _⟩
  · exact ⟨he, hw⟩
  · have : i' + k' ≤ E.length := hle
    omega
theorem UpX.files (h : UpX w0 w d s E cap st T Rs) {b : Option Addr} {m e : Nat} {l : List Int} (hl : View w 1 (.slice b m e) (icells l)) (hE : n = (E.length + 63) / 64) (hn : l = (List.range n).map (fun i : Nat => 1000 + (i : Int))) :
    Calls Tryz.prog 48 #[.pointer (some ⟨d, 0, none⟩), .slice b m e] w fun e w' => e = .returned (.bool true) ∧ UpX w0 w' d s E cap st T Rs := by
  obtain ⟨M, F, h1, h2, h3, h4⟩ := h
  obtain ⟨B, S, hf, hg⟩ := id h1
  refine (files_is hf.ap hl).mono ?_
  rintro e w' ⟨rfl, hk⟩
  rw [h2.keys h3 hE, ← hn, decide_eq_true rfl]
  exact ⟨rfl, M, F, h1.same hk, h2, h3, h4⟩
/-- Open, of a disk that was just made. -/
theorem seg_start (ht : Tab w0) (hA : Apart (fun k => k < w0.heap.size) d (DiskM.new cap) w) (hk : Kept (fun _ => False) w0 w) :
    Calls Tryz.prog 18 #[.pointer (some ⟨d, 0, none⟩)] w fun e w' => ∃ s, e = .returned (.tuple #[.pointer (some ⟨s, 0, none⟩), .int .i64 0]) ∧ UpX w0 w' d s [] cap 0 0 [] := by
  have hu := UpF.new hA.ok
  have hD := Fr.made hA ht hk
  obtain ⟨e1, e2, e3⟩ := open_exact hu exact_nil
  refine (hD.opens (by show 0 + 0 < 100000000; omega)).mono ?_
  intro e w' hq
  rcases hq with ⟨h0, _⟩ | ⟨_, s, he, hU⟩
  · exact absurd e1 h0
  · rw [e2] at hU
    exact ⟨s, he, _, [], hU, e3, exact_nil, by simp [AM.sum]⟩
end
end Go.Proofs.YtamdbaonmodnbaaGreatDoor

namespace Go.Proofs.YtamdbaonmodnbaaGreatDoor
open Go.RowKit

section
variable {w0 w w' : World} {d s b : Nat} {M M' : DiskM} {B : Nat → Prop} {Rs Rs' : List Tx} {G : SegM} {x : Tx} {c : List Value} {t : TypeId}
theorem Fr.add (h : Fr w0 w d M B Rs) (hk : Kept (fun _ => False) w w') (hx : x.holds w') (hl : ∀ k, x.own k → w.heap.size ≤ k) : Fr w0 w' d M (fun k => B k ∨ (w.heap.size ≤ k ∧ k < w'.heap.size)) (x :: Rs) := by
  have h2 := h.same hk
  refine ⟨h2.ap, h2.old, h2.tab0, h2.kept, fun y q => ?_⟩
  rcases List.mem_cons.1 q with rfl | q
  · exact ⟨hx, fun k e => ⟨Or.inr ⟨hl k e, Tx.lt hx e⟩, Nat.le_trans h.kept.size (hl k e)⟩⟩
  · exact h2.rows y q
theorem Up.add (h : Up w0 w d s G M Rs) (hk : Kept (fun _ => False) w w') (hx : x.holds w') (hl : ∀ k, x.own k → w.heap.size ≤ k) : Up w0 w' d s G M (x :: Rs) := by
  obtain ⟨B, S, h, g⟩ := h
  have g2 := g.step (B' := fun k => B k ∨ (w.heap.size ≤ k ∧ k < w'.heap.size)) hk (fun _ _ => id) (fun _ => Or.inl)
  refine ⟨_, S, h.add hk hx hl, ⟨g2.seg, g2.sub, g2.off, fun y q => ?_⟩⟩
  rcases List.mem_cons.1 q with rfl | q
  · exact fun k e z => by have := h.ap.lt (g.sub _ z); have := hl k e; omega
  · exact g.rows y q
theorem Up.blk (h : Up w0 w d s G M Rs) (hb : Tx.blk b c t ∈ Rs) : Blk w b c t := by obtain ⟨B, S, h, g⟩ := h; exact (h.rows _ hb).1
theorem Dn.blk (h : Dn w0 w d M Rs) (hb : Tx.blk b c t ∈ Rs) : Blk w b c t := by obtain ⟨B, h⟩ := h; exact (h.rows _ hb).1
theorem Up.row (h : Up w0 w d s G M Rs) {v : Value} {l : List By} (hy : Tx.row v l ∈ Rs) : Row w 9 1 v (strV l) := h.dn.row hy
theorem Up.old (h : Up w0 w d s G M Rs) : Kept (fun _ => False) w0 w := h.dn.old
theorem Up.isup (h : Up w0 w d s G M Rs) {b : Bool} (he : (!M.down) = b) :
    Calls Tryz.prog 33 #[.pointer (some ⟨d, 0, none⟩)] w fun e w' => e = .returned (.bool b) ∧ w = w' := h.dn.isup he
/-- A struct of cells in a block of its own: the zero value is laid, and written over. -/
theorem store_fresh (w : World) (z X : List Value) (t : TypeId) (hl : X.length = z.length) : (w.alloc (.cells z.toArray t)).there w.heap.size 0 X.toArray.size ∧ Blk ((w.alloc (.cells z.toArray t)).setCells w.heap.size 0 X) w.heap.size X t ∧ Kept (fun _ => False) w ((w.alloc (.cells z.toArray t)).setCells w.heap.size 0 X) := by
  have hb := Blk.new w z t
  have h2 := hb.setCells 0 X (by omega)
  refine ⟨hb.there 0 _ (by rw [List.size_toArray]; omega), ?_, ((Kept.refl _ _).alloc _).then_ (kept_setCells _ w.heap.size 0 X) (fun i hi e => by omega)⟩
  have e : splice z 0 X = X := by
    unfold splice
    rw [List.take_zero, List.nil_append, Nat.zero_add, List.drop_eq_nil_of_le (by omega), List.append_nil]
  rwa [e] at h2
end
/-- Two appends, one behind the other. -/
theorem cat_str2 {w : World} {v1 v2 : Value} {A L : List By} (h1 : View w 1 v1 (strV A)) (h2 : View w 1 v2 (strV L)) {N : Nat} (hN : N = A.length + L.length) (hl : N ≤ 100000000) :
    ∃ (a1 : Option Addr) (m1 c1 : Nat) (W1 : World) (a2 : Option Addr) (c2 : Nat) (W2 : World), (Builtin.append_ #[22, 22] 22 #[.slice none 0 0, v1]).run Tryz.prog w = .ok (.slice a1 m1 c1) W1 ∧ (Builtin.append_ #[22, 22] 22 #[.slice a1 m1 c1, v2]).run Tryz.prog W1 = .ok (.slice a2 N c2) W2 ∧
      Kept (fun _ => False) w W1 ∧ Hid (Row W2 9 1 (.slice a2 N c2) (strV (A ++ L)) ∧ Kept (fun _ => False) w W2 ∧ ∀ k, (Value.slice a2 N c2).ownBlock = some k → w.heap.size ≤ k) := by
  obtain ⟨i0, hi, hz0, hz1, hz3⟩ := info_parts info_str
  obtain ⟨x1, W1, r1, row1, k1, f1⟩ := (Row.nil w 9 1).append_view (P := Tryz.prog) (t := 22) h1 Tryz.underlying22 hi hz0 hz1 rfl (by omega) (by rw [hz3]; decide) (one_str A) (by rw [strV_len]; simp; omega) 22
  have k1' : Kept (fun _ => False) w W1 := k1.mono (fun k _ q => by simp [Value.ownBlock] at q)
  obtain ⟨x2, W2, r2, row2, k2, f2⟩ := row1.append_view (P := Tryz.prog) (t := 22) (h2.same k1' (by omega)) Tryz.underlying22 hi hz0 hz1 rfl (by omega) (by rw [hz3]; decide) (one_str L) (by rw [List.nil_append, strV_len, strV_len]; omega) 22
  have hz := k1'.size
  have o1 : ∀ k, x1.ownBlock = some k → w.heap.size ≤ k := fun k q => by
    rcases f1 k q with z | z
    · simp [Value.ownBlock] at z
    · exact z
  rw [List.nil_append, ← strV_append] at row2
  obtain ⟨a1, m1, c1, rfl, _⟩ := row1.shape
  obtain ⟨a2, m2, c2, rfl, _⟩ := row2.shape
  obtain rfl : m2 = N := by
    have := (view_len row2.view).1
    rw [List.length_append] at this
    omega
  refine ⟨a1, m1, c1, W1, a2, c2, W2, r1, r2, k1', Lib.hid ⟨row2, k1'.then_ k2 (fun k hk q => by have := o1 k q; omega), fun k q => ?_⟩⟩
  rcases f2 k q with z | z
  · exact o1 k z
  · omega
end Go.Proofs.YtamdbaonmodnbaaGreatDoor

namespace Go.Proofs.YtamdbaonmodnbaaGreatDoor
open Go.RowKit

def sureOps21 : Array Oper := #[
  ⟨some 60, .move (.tmp 7), 22, "outright.go:30", #[], none⟩,
  ⟨some 61, .call { callee := .builtin .append, args := #[.const (.slice none 0 0), .tmp 60], argTypes := #[22, 22] }, 22, "outright.go:30", #[⟨0, .data⟩], none⟩,
  ⟨some 62, .fieldAddr 25 (.tmp 9) 1, 0, "outright.go:30", #[], none⟩,
  ⟨some 63, .load 22 (.tmp 62), 22, "outright.go:30", #[⟨2, .data⟩], none⟩,
  ⟨some 64, .call { callee := .builtin .append, args := #[.tmp 61, .tmp 63], argTypes := #[22, 22] }, 22, "outright.go:30", #[⟨1, .data⟩, ⟨3, .data⟩, ⟨1, .chain⟩], none⟩,
  ⟨some 10, .assign (.tmp 64), 22, "outright.go:30", #[⟨4, .data⟩, ⟨4, .chain⟩, ⟨0, .phase⟩, ⟨1, .phase⟩, ⟨2, .phase⟩, ⟨3, .phase⟩, ⟨4, .phase⟩], none⟩]
set_option maxRecDepth 100000 in
set_option maxHeartbeats 4000000 in
theorem sure_reg21 {xb : Nat} {sv lv : Value} {a1 a2 : Option Addr} {n1 c1 n2 c2 : Nat} {W w1 w2 : World} {Q : Exit → Act → World → Prop} {u0 u1 u2 u3 u4 u5 u6 u8 u10 u11 u12 u13 u14 u15 u16 u17 u18 u19 u20 u21 u22 u23 u24 u25 u26 u27 u28 u29 u30 u31 u32 u33 u34 u35 u36 u37 u38 u39 u40 u41 u42 u43 u44 u45 u46 u47 u48 u49 u50 u51 u52 u53 u54 u55 u56 u57 u58 u59 u60 u61 u62 u63 u64 u65 u66 u67 u68 u69 u70 u71 u72 u73 u74 u75 u76 u77 u78 u79 u80 u81 u82 u83 u84 u85 u86 u87 u88 u89 u90 u91 u92 u93 u94 u95 u96 u97 u98 u99 u100 u101 u102 u103 u104 u105 u106 u107 u108 u109 u110 u111 u112 u113 u114 u115 u116 u117 u118 u119 u120 u121 u122 u123 u124 u125 u126 u127 u128 u129 u130 u131 u132 u133 u134 u135 u136 u137 u138 u139 u140 u141 u142 u143 u144 u145 u146 u147 u148 u149 u150 u151 u152 u153 u154 u155 u156 u157 u158 u159 u160 u161 u162 u163 u164 u165 : Value}
    (r1 : (Builtin.append_ #[22, 22] 22 #[.slice none 0 0, sv]).run Tryz.prog W.drew = .ok (.slice a1 n1 c1) w1) (r2 : (Builtin.append_ #[22, 22] 22 #[.slice a1 n1 c1, lv]).run Tryz.prog w1 = .ok (.slice a2 n2 c2) w2)
    (e0 : W.drew.cell? ⟨xb, 1, none⟩ = some lv) (e1 : w1.cell? ⟨xb, 1, none⟩ = some lv) (e2 : w2.cell? ⟨xb, 1, none⟩ = some lv)
    (HP : ∀ c a (k : Nat) v w, Q (.panic c) (Act.put a (some k) v) w → Q (.panic c) a w) (HQ : ∀ (v60 v61 v62 v63 v64 : Value), Q .normal ⟨List.toArray (u0 :: u1 :: u2 :: u3 :: u4 :: u5 :: u6 :: (sv) :: u8 :: (.pointer (some ⟨xb, 0, none⟩)) :: (.slice a2 n2 c2) :: u11 :: u12 :: u13 :: u14 :: u15 :: u16 :: u17 :: u18 :: u19 :: u20 :: u21 :: u22 :: u23 :: u24 :: u25 :: u26 :: u27 :: u28 :: u29 :: u30 :: u31 :: u32 :: u33 :: u34 :: u35 :: u36 :: u37 :: u38 :: u39 :: u40 :: u41 :: u42 :: u43 :: u44 :: u45 :: u46 :: u47 :: u48 :: u49 :: u50 :: u51 :: u52 :: u53 :: u54 :: u55 :: u56 :: u57 :: u58 :: u59 :: v60 :: v61 :: v62 :: v63 :: v64 :: u65 :: u66 :: u67 :: u68 :: u69 :: u70 :: u71 :: u72 :: u73 :: u74 :: u75 :: u76 :: u77 :: u78 :: u79 :: u80 :: u81 :: u82 :: u83 :: u84 :: u85 :: u86 :: u87 :: u88 :: u89 :: u90 :: u91 :: u92 :: u93 :: u94 :: u95 :: u96 :: u97 :: u98 :: u99 :: u100 :: u101 :: u102 :: u103 :: u104 :: u105 :: u106 :: u107 :: u108 :: u109 :: u110 :: u111 :: u112 :: u113 :: u114 :: u115 :: u116 :: u117 :: u118 :: u119 :: u120 :: u121 :: u122 :: u123 :: u124 :: u125 :: u126 :: u127 :: u128 :: u129 :: u130 :: u131 :: u132 :: u133 :: u134 :: u135 :: u136 :: u137 :: u138 :: u139 :: u140 :: u141 :: u142 :: u143 :: u144 :: u145 :: u146 :: u147 :: u148 :: u149 :: u150 :: u151 :: u152 :: u153 :: u154 :: u155 :: u156 :: u157 :: u158 :: u159 :: u160 :: u161 :: u162 :: u163 :: u164 :: u165 :: []), []⟩ w2) :
    Code.wp Tryz.prog (Code.region 21 sureOps21 true) Q ⟨List.toArray (u0 :: u1 :: u2 :: u3 :: u4 :: u5 :: u6 :: (sv) :: u8 :: (.pointer (some ⟨xb, 0, none⟩)) :: u10 :: u11 :: u12 :: u13 :: u14 :: u15 :: u16 :: u17 :: u18 :: u19 :: u20 :: u21 :: u22 :: u23 :: u24 :: u25 :: u26 :: u27 :: u28 :: u29 :: u30 :: u31 :: u32 :: u33 :: u34 :: u35 :: u36 :: u37 :: u38 :: u39 :: u40 :: u41 :: u42 :: u43 :: u44 :: u45 :: u46 :: u47 :: u48 :: u49 :: u50 :: u51 :: u52 :: u53 :: u54 :: u55 :: u56 :: u57 :: u58 :: u59 :: u60 :: u61 :: u62 :: u63 :: u64 :: u65 :: u66 :: u67 :: u68 :: u69 :: u70 :: u71 :: u72 :: u73 :: u74 :: u75 :: u76 :: u77 :: u78 :: u79 :: u80 :: u81 :: u82 :: u83 :: u84 :: u85 :: u86 :: u87 :: u88 :: u89 :: u90 :: u91 :: u92 :: u93 :: u94 :: u95 :: u96 :: u97 :: u98 :: u99 :: u100 :: u101 :: u102 :: u103 :: u104 :: u105 :: u106 :: u107 :: u108 :: u109 :: u110 :: u111 :: u112 :: u113 :: u114 :: u115 :: u116 :: u117 :: u118 :: u119 :: u120 :: u121 :: u122 :: u123 :: u124 :: u125 :: u126 :: u127 :: u128 :: u129 :: u130 :: u131 :: u132 :: u133 :: u134 :: u135 :: u136 :: u137 :: u138 :: u139 :: u140 :: u141 :: u142 :: u143 :: u144 :: u145 :: u146 :: u147 :: u148 :: u149 :: u150 :: u151 :: u152 :: u153 :: u154 :: u155 :: u156 :: u157 :: u158 :: u159 :: u160 :: u161 :: u162 :: u163 :: u164 :: u165 :: []), []⟩ W := by
  have HQ := Lib.hid HQ
  unfold sureOps21
  refine wp_region_held_drew (S := (fun W => W.cell? ⟨xb, 1, none⟩ = some lv)) (by kernel_rfl) e0 (fun hH0 => ?_)
  refine wpAnyH_take (i := 0) (oi := ⟨some 60, .move (.tmp 7), 22, "outright.go:30", #[], none⟩) (v := ?_) rfl (by kernel_rfl) (by kernel_rfl) (by kernel_rfl) (fun _ _ _ h => HP _ _ _ _ _ h) (Or.inl ⟨by rfl, fun w hSw => ?_⟩) hH0 ?_
  rotate_left 1
  · (try dsimp only at hSw); go_simp; (try with_reducible rfl)
  try simp only [Act.put, List.setIfInBounds_toArray, List.set_cons_zero, List.set_cons_succ]
  refine wpAnyH_take (i := 2) (oi := ⟨some 62, .fieldAddr 25 (.tmp 9) 1, 0, "outright.go:30", #[], none⟩) (v := ?_) rfl (by kernel_rfl) (by kernel_rfl) (by kernel_rfl) (fun _ _ _ h => HP _ _ _ _ _ h) (Or.inl ⟨by rfl, fun w hSw => ?_⟩) hH0 ?_
  rotate_left 1
  · (try dsimp only at hSw); go_simp; (try with_reducible rfl)
  try simp only [Act.put, List.setIfInBounds_toArray, List.set_cons_zero, List.set_cons_succ]
  refine wpAnyH_take (i := 3) (oi := ⟨some 63, .load 22 (.tmp 62), 22, "outright.go:30", #[⟨2, .data⟩], none⟩) (v := ?_) rfl (by kernel_rfl) (by kernel_rfl) (by kernel_rfl) (fun _ _ _ h => HP _ _ _ _ _ h) (Or.inl ⟨by rfl, fun w hSw => ?_⟩) hH0 ?_
  rotate_left 1
  · (try dsimp only at hSw); go_simp; (try with_reducible rfl)
  try simp only [Act.put, List.setIfInBounds_toArray, List.set_cons_zero, List.set_cons_succ]
  refine wpAnyH_ready (rs := [1]) (by kernel_rfl) (by simp) ?_
  refine AllReadyH.cons (o := ⟨some 61, .call { callee := .builtin .append, args := #[.const (.slice none 0 0), .tmp 60], argTypes := #[22, 22] }, 22, "outright.go:30", #[⟨0, .data⟩], none⟩) rfl (fun K hK => ?_) AllReadyH.nil
  (with_reducible refine step_append_run2 ?_ ?_ ?_ 22 22 ?_ _ _ ?_ ?_ _ _ r1 ?_)
  exact rfl
  rotate_left 2
  exact rfl
  exact rfl
  exact rfl
  try simp only [Act.put, List.setIfInBounds_toArray, List.set_cons_zero, List.set_cons_succ]
  refine hK.out _ _ (e1) (fun hH1 => ?_)
  clear hK K
  try simp only [Act.put, List.setIfInBounds_toArray, List.set_cons_zero, List.set_cons_succ]
  refine wpAnyH_ready (rs := [4]) (by kernel_rfl) (by simp) ?_
  refine AllReadyH.cons (o := ⟨some 64, .call { callee := .builtin .append, args := #[.tmp 61, .tmp 63], argTypes := #[22, 22] }, 22, "outright.go:30", #[⟨1, .data⟩, ⟨3, .data⟩, ⟨1, .chain⟩], none⟩) rfl (fun K hK => ?_) AllReadyH.nil
  (with_reducible refine step_append_run2 ?_ ?_ ?_ 22 22 ?_ _ _ ?_ ?_ _ _ r2 ?_)
  exact rfl
  rotate_left 2
  exact rfl
  exact rfl
  exact rfl
  try simp only [Act.put, List.setIfInBounds_toArray, List.set_cons_zero, List.set_cons_succ]
  refine hK.out _ _ (e2) (fun hH2 => ?_)
  clear hK K
  try simp only [Act.put, List.setIfInBounds_toArray, List.set_cons_zero, List.set_cons_succ]
  refine wpAnyH_take (i := 5) (oi := ⟨some 10, .assign (.tmp 64), 22, "outright.go:30", #[⟨4, .data⟩, ⟨4, .chain⟩, ⟨0, .phase⟩, ⟨1, .phase⟩, ⟨2, .phase⟩, ⟨3, .phase⟩, ⟨4, .phase⟩], none⟩) (v := ?_) rfl (by kernel_rfl) (by kernel_rfl) (by kernel_rfl) (fun _ _ _ h => HP _ _ _ _ _ h) (Or.inl ⟨by rfl, fun w hSw => ?_⟩) hH2 ?_
  rotate_left 1
  · (try dsimp only at hSw); go_simp; (try with_reducible rfl)
  try simp only [Act.put, List.setIfInBounds_toArray, List.set_cons_zero, List.set_cons_succ]
  refine wpAnyH_done (by kernel_rfl) ?_ _
  exact HQ.out _ _ _ _ _
end Go.Proofs.YtamdbaonmodnbaaGreatDoor

namespace Go.Proofs.YtamdbaonmodnbaaGreatDoor
open Go.RowKit

section
variable {w0 w w' : World} {d s : Nat} {E l : List By} {cap st : Int} {T n c : Nat} {Rs Rs' : List Tx} {a : Option Addr} {v : Value}
theorem ints_new (w : World) (l : List Int) (hn : l.length = n) (h0 : 0 < n) (hm : n ≤ 1000) : View (w.alloc (.cells (icells l).toArray 3)) 1 (.slice (some ⟨w.heap.size, 0, none⟩) n n) (icells l) :=
  (Row.fresh (Blk.new w _ _) (by unfold icells; rw [List.length_map, hn]) h0 (by omega)).view
theorem UpX.filesLit (h : UpX w0 w d s E cap st T Rs) (l : List Int) (hn : l.length = n) (h0 : 0 < n) (hm : n ≤ 1000) (hE : n = (E.length + 63) / 64) (hl : l = (List.range n).map (fun i : Nat => 1000 + (i : Int))) :
    Calls Tryz.prog 48 #[.pointer (some ⟨d, 0, none⟩), .slice (some ⟨w.heap.size, 0, none⟩) n n] (w.alloc (.cells (icells l).toArray 3)) fun e w' => e = .returned (.bool true) ∧ UpX w0 w' d s E cap st T Rs :=
  (h.same ((Kept.refl _ _).alloc _)).files (ints_new w l hn h0 hm) hE hl
theorem zeros_bytes (n : Nat) : zeros n = bytes8 (List.replicate n 0) := by unfold zeros bytes8; rw [List.map_replicate]; rfl
theorem zeros_text (w : World) : ∃ (W : World) (Z : By), Z.length = 201 ∧ (Instr.makeSlice 61 (.int .i64 201) (.int .i64 201)).run Tryz.prog w = .ok (.slice (some ⟨w.heap.size, 0, none⟩) 201 201) W ∧ (convert 61 9 (.slice (some ⟨w.heap.size, 0, none⟩) 201 201)).run Tryz.prog W = .ok (.string ⟨Z.toArray⟩) W ∧ Kept (fun _ => False) w W := by
  have hm := make_bytes w 201 (by omega)
  have hr : Row (w.alloc (.cells (zeros 201).toArray 5)) 5 1 (.slice (some ⟨w.heap.size, 0, none⟩) 201 201) (bytes8 (List.replicate 201 0)) := Row.fresh (by
    have := Blk.new w (zeros 201) 5
    rw [zeros_bytes] at this
    rw [zeros_bytes]
    exact this) (by rw [bytes8_len, List.length_replicate]) (by omega) (by omega)
  exact ⟨_, List.replicate 201 0, List.length_replicate, hm, hr.view.text, (Kept.refl _ _).alloc _⟩
set_option maxRecDepth 100000 in
set_option maxHeartbeats 8000000 in
theorem laid_any (w : World) (ht : Tab w) : Calls Tryz.prog 12 #[] w fun e w' => e = .returned (.bool true) ∧ Kept (fun _ => False) w w' := by
  have HT := Lib.hid ht
  clear ht
  go_enter Tryz.func12, Tryz.ntmps12
  go_upto_region 3 with (first
    | (go_at_call 17; refine (new_ok _ 3000 (by omega) (by omega)).mono ?_; rintro e w1 hnew; obtain ⟨d, rfl, hA1, k1⟩ := Apart.made _ hnew; have HOP := Lib.hid (seg_start HT.out hA1 k1); clear hnew hA1 k1)
    | (go_at_call 18; refine HOP.out.mono ?_; rintro e w2 ⟨s, rfl, hu⟩; have HU := Lib.hid hu; clear hu))
  clear HOP
  have hap1 := (HU.out.lit [[97], [98]] (n := 2) rfl (by omega) (by omega)).append_row (a := some ⟨w2.heap.size, 0, none⟩) (n := 2) (c := 2) (l := [[97], [98]]) (by simp) (by simp) (by simp) (T2 := 26) (by simp [frames_len_cons, framesF_nil]) (by omega)
  go_upto_region 5 with (first
    | (go_at_call 14; refine hap1.mono ?_; clear hap1; rintro e w3 ⟨rfl, hu3⟩; have HU3 := Lib.hid hu3; clear hu3)
    | (go_at_call 47; refine (many_any _ 65 (by omega) [120]).mono ?_; rintro e w4 ⟨a4, c4, rfl, hr4, hk4, ho4⟩; have HU4 := Lib.hid (HU3.out.new hk4 hr4 ho4); have hap2 := HU4.out.append_row (a := a4) (n := 65) (c := c4) (l := List.replicate 65 [120]) (by simp) (by simp) (by simp) (T2 := 871) (by rw [frames_alike]; rfl) (by omega); clear hr4 hk4 ho4)
    | (go_at_call 14; refine hap2.mono ?_; clear hap2; rintro e w5 ⟨rfl, hu5⟩; have HU5 := Lib.hid hu5; clear hu5; have hcnt := HU5.out.count (k := 67) (by simp); have hfi := HU5.out.filesLit [1000, 1001] (n := 2) rfl (by omega) (by omega) (by simp) (by rfl))
    | (go_at_call 16; refine hcnt.mono ?_; rintro e w' ⟨rfl, rfl⟩)
    | (go_at_call 48; refine hfi.mono ?_; clear hfi; rintro e w6 ⟨rfl, hu6⟩; have HU6 := Lib.hid hu6; clear hu6 hcnt))
  clear HU HU3 HU4 HU5
  obtain ⟨E, hE⟩ : ∃ E : List By, E = [] ++ [[97], [98]] ++ List.replicate 65 [120] := ⟨_, rfl⟩
  have HE : Hid (E.length = 67 ∧ (E.drop 1).take 2 = [[98], [120]]) := Lib.hid (by rw [hE]; exact ⟨by simp, rfl⟩)
  rw [← hE] at HU6
  clear hE
  have hg1 := HU6.out.get 1 2 (by have := HE.out.1; omega) (by have := HE.out.1; omega)
  go_upto_region 7 with (first
    | (go_at_call 13; refine hg1.mono ?_; clear hg1; rintro e w7 ⟨x7, m7, c7, rfl, hu7⟩; rw [HE.out.2] at hu7; have HU7 := Lib.hid hu7; clear hu7; have hg2 := HU7.out.range 66 2 (by have := HE.out.1; omega) (by have := HE.out.1; omega) (by omega) (by omega))
    | (go_at_call 13; refine hg2.mono ?_; clear hg2; rintro e w' ⟨rfl, rfl⟩))
  clear HU6
  have HU8 := Lib.hid (HU7.out.lit [[98], [120]] (n := 2) rfl (by omega) (by omega))
  have htx := texts_any (k := [[98], [120]]) (l := [[98], [120]]) (HU8.out.row (v := .slice x7 m7 c7) (l := [[98], [120]]) (by simp)).view (HU8.out.row (v := .slice (some ⟨w7.heap.size, 0, none⟩) 2 2) (l := [[98], [120]]) (by simp)).view
  rw [decide_eq_true rfl] at htx
  go_wp2_with (first
    | (go_at_call 30; refine htx.mono ?_; clear htx; rintro e w9 ⟨rfl, hk9⟩; have HU9 := Lib.hid (HU8.out.same hk9); have hcut := HU9.out.cut (n := 64) (by have := HE.out.1; omega); clear hk9)
    | (go_at_call 15; refine hcut.mono ?_; clear hcut; rintro e w10 ⟨rfl, hu10⟩; have HU10 := Lib.hid hu10; clear hu10; have hfi := HU10.out.filesLit [1000] (n := 1) rfl (by omega) (by omega) (by rw [List.length_take]; have := HE.out.1; omega) (by rfl))
    | (go_at_call 48; refine hfi.mono ?_; clear hfi; rintro e w11 ⟨rfl, hu11⟩; have HU11 := Lib.hid hu11; clear hu11; have hcnt := HU11.out.count (k := 64) (by rw [List.length_take]; have := HE.out.1; omega); obtain ⟨W12, Z, hZ, hmk, hcv, hk12⟩ := zeros_text w11; have HU12 := Lib.hid (HU11.out.same hk12); have HZ := Lib.hid hZ; clear hZ hk12)
    | (go_at_call 16; refine hcnt.mono ?_; rintro e w' ⟨rfl, rfl⟩)
    | (go_at_call 47; refine (many_any W12 1 (by omega) Z).mono ?_; rintro e w13 ⟨a13, c13, rfl, hr13, hk13, ho13⟩; have HU13 := Lib.hid (HU12.out.new hk13 hr13 ho13); have hlo := HU13.out.long (a := a13) (n := 1) (c := c13) (l := List.replicate 1 Z) (p := Z) (by simp) (by simp) (by have := HZ.out; omega); clear hr13 hk13 ho13)
    | (go_at_call 14; refine hlo.mono ?_; clear hlo; rintro e w14 ⟨rfl, hu14⟩; have HU14 := Lib.hid hu14; clear hu14))
  go_ret
  exact ⟨rfl, HU14.out.old⟩
end
end Go.Proofs.YtamdbaonmodnbaaGreatDoor
