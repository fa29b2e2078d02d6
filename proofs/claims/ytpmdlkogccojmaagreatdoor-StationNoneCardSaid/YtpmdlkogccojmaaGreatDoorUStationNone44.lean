/- FrO -/
import Derived.Test.YtpmdlkogccojmaaGreatDoorUStationNone33
import Derived.Test.YtpmdlkogccojmaaGreatDoorUStationNone43
import Derived.Test.YtpmdlkogccojmaaGreatDoorUStationNone40
set_option linter.unusedVariables false
set_option linter.unusedSimpArgs false
namespace Go.Proofs.YtpmdlkogccojmaaGreatDoor
open Go.RowKit
inductive Ob where
  | row (v : Value) (l : List By)
  | hrow (v : Value) (l : List By)
  | blk (b : Nat) (c : List Value) (t : TypeId)
  | ring (r : Nat) (R : RingM) (S : Nat → Prop)
  | seg (s : Nat) (G : SegM) (S : Nat → Prop)
def Ob.own : Ob → Nat → Prop
  | .row v _, k => v.ownBlock = some k
  | .hrow v _, k => v.ownBlock = some k
  | .blk b _ _, k => k = b
  | .ring _ _ S, k => S k
  | .seg _ _ S, k => S k
def Ob.holds (w : World) (d : Nat) : Ob → Prop
  | .row v l => Row w 9 1 v (strV l)
  | .hrow v l => Row w 24 32 v (hcells l)
  | .blk b c t => Blk w b c t
  | .ring r R S => IsRing w r d R S ∧ ∀ k, S k → k < w.heap.size
  | .seg s G S => IsSeg w s d G S ∧ ∀ k, S k → k < w.heap.size
theorem Ob.kept {x : Ob} {w w' : World} {d : Nat} {Z : Nat → Prop} (h : x.holds w d) (hk : Kept Z w w') (hZ : ∀ k, x.own k → ¬ Z k) : x.holds w' d := by
  cases x with
  | row v l => exact Row.kept h hk hZ
  | hrow v l => exact Row.kept h hk hZ
  | blk b c t => exact Blk.kept h hk (hZ b rfl)
  | ring r R S => exact ⟨h.1.kept hk hZ, fun k q => Nat.lt_of_lt_of_le (h.2 k q) hk.size⟩
  | seg s G S => exact ⟨h.1.kept hk hZ, fun k q => Nat.lt_of_lt_of_le (h.2 k q) hk.size⟩
theorem Ob.lt {x : Ob} {w : World} {d : Nat} (h : x.holds w d) {k : Nat} (hk : x.own k) : k < w.heap.size := by
  cases x with
  | row v l => exact Row.lt h hk
  | hrow v l => exact Row.lt h hk
  | blk b c t => have : k = b := hk; subst this; exact Blk.lt h
  | ring r R S => exact h.2 k hk
  | seg s G S => exact h.2 k hk
structure FrO (w0 w : World) (d : Nat) (M : DiskM) (B : Nat → Prop) (Os : List Ob) : Prop where
  ap : Apart B d M w
  old : ∀ k, k < w0.heap.size → B k
  tab0 : Tab w0
  kept : Kept (fun _ => False) w0 w
  obs : ∀ x ∈ Os, x.holds w d ∧ ∀ k, x.own k → B k ∧ w0.heap.size ≤ k
  apart : Os.Pairwise fun x y => ∀ k, x.own k → ¬ y.own k
def Ows (w0 w : World) (d : Nat) (M : DiskM) (Os : List Ob) : Prop := ∃ B, FrO w0 w d M B Os
section
variable {w0 w w' : World} {d r s b : Nat} {M M' : DiskM} {B B' S Z : Nat → Prop} {Os Os' : List Ob} {R R' : RingM} {G G' : SegM} {a x : Ob} {c c' : List Value} {t : TypeId} {v : Value} {l : List By} {y : Int}
theorem FrO.tab (h : FrO w0 w d M B Os) : Tab w := h.tab0.same h.kept
theorem FrO.lt (h : FrO w0 w d M B Os) (hx : x ∈ Os) {k : Nat} (hk : x.own k) : k < w.heap.size := Ob.lt (h.obs x hx).1 hk
theorem FrO.perm (h : FrO w0 w d M B Os) (hp : Os.Perm Os') : FrO w0 w d M B Os' :=
  ⟨h.ap, h.old, h.tab0, h.kept, fun x q => h.obs x (hp.mem_iff.2 q), h.apart.perm hp (fun h k q z => h k z q)⟩
theorem FrO.sub (h : FrO w0 w d M B Os) (hp : Os'.Sublist Os) : FrO w0 w d M B Os' :=
  ⟨h.ap, h.old, h.tab0, h.kept, fun x q => h.obs x (hp.subset q), h.apart.sublist hp⟩
theorem FrO.same (h : FrO w0 w d M B Os) (hk : Kept (fun _ => False) w w') : FrO w0 w' d M B Os :=
  ⟨h.ap.same hk, h.old, h.tab0, h.kept.trans hk, fun x q => ⟨Ob.kept (h.obs x q).1 hk (fun _ _ => id), (h.obs x q).2⟩, h.apart⟩
theorem FrO.swap (h : FrO w0 w d M B (a :: Os)) (hk : Kept (fun k => ¬ B k ∨ a.own k) w w') (ha : Apart (fun k => B k ∨ x.own k) d M' w') (hx : x.holds w' d) (ho : ∀ k, x.own k → a.own k ∨ w.heap.size ≤ k) : FrO w0 w' d M' (fun k => B k ∨ x.own k) (x :: Os) := by
  obtain ⟨p1, p2⟩ := List.pairwise_cons.1 h.apart
  have h0 := h.obs a (List.mem_cons_self ..)
  refine ⟨ha, fun k q => Or.inl (h.old k q), h.tab0, h.kept.then_ hk (fun i hi z => ?_), fun y q => ?_, List.pairwise_cons.2 ⟨fun y q k e z => ?_, p2⟩⟩
  · rcases z with z | z
    · exact z (h.old i hi)
    · have := (h0.2 i z).2; omega
  · rcases List.mem_cons.1 q with rfl | q
    · refine ⟨hx, fun k e => ⟨Or.inr e, ?_⟩⟩
      rcases ho k e with z | z
      · exact (h0.2 k z).2
      · exact Nat.le_trans h.kept.size z
    · have hy := h.obs y (List.mem_cons_of_mem _ q)
      exact ⟨Ob.kept hy.1 hk (fun k e z => z.elim (fun n => n (hy.2 k e).1) (fun z => p1 y q k z e)), fun k e => ⟨Or.inl (hy.2 k e).1, (hy.2 k e).2⟩⟩
  · rcases ho k e with n | n
    · exact p1 y q k n z
    · have := Ob.lt (h.obs y (List.mem_cons_of_mem _ q)).1 z
      omega
theorem FrO.to (h : FrO w0 w d M B Os) (hk : Kept (fun k => ¬ B k) w w') (ha : Apart B d M' w') : FrO w0 w' d M' B Os :=
  ⟨ha, h.old, h.tab0, h.kept.then_ hk (fun i hi z => z (h.old i hi)), fun x q => ⟨Ob.kept (h.obs x q).1 hk (fun k e z => z ((h.obs x q).2 k e).1), (h.obs x q).2⟩, h.apart⟩
theorem FrO.come (h : FrO w0 w d M B Os) (hk : Kept (fun k => ¬ B k) w w') (ha : Apart (fun k => B k ∨ x.own k) d M' w') (hx : x.holds w' d) (ho : ∀ k, x.own k → w.heap.size ≤ k) : FrO w0 w' d M' (fun k => B k ∨ x.own k) (x :: Os) := by
  refine ⟨ha, fun k q => Or.inl (h.old k q), h.tab0, h.kept.then_ hk (fun i hi z => z (h.old i hi)), fun y q => ?_, List.pairwise_cons.2 ⟨fun y q k e z => ?_, h.apart⟩⟩
  · rcases List.mem_cons.1 q with rfl | q
    · exact ⟨hx, fun k e => ⟨Or.inr e, Nat.le_trans h.kept.size (ho k e)⟩⟩
    · have hy := h.obs y q
      exact ⟨Ob.kept hy.1 hk (fun k e z => z (hy.2 k e).1), fun k e => ⟨Or.inl (hy.2 k e).1, (hy.2 k e).2⟩⟩
  · have := Ob.lt (h.obs y q).1 z
    have := ho k e
    omega
theorem FrO.add (h : FrO w0 w d M B Os) (hk : Kept (fun _ => False) w w') (hx : x.holds w' d) (ho : ∀ k, x.own k → w.heap.size ≤ k) : FrO w0 w' d M (fun k => B k ∨ x.own k) (x :: Os) :=
  h.come (hk.mono (fun _ _ => False.elim)) (h.ap.grow hk (fun _ _ => False.elim) (fun k q => q.imp id (fun q => ⟨ho k q, Ob.lt hx q⟩))) hx ho
theorem Ows.same (h : Ows w0 w d M Os) (hk : Kept (fun _ => False) w w') : Ows w0 w' d M Os := by obtain ⟨B, h⟩ := h; exact ⟨_, h.same hk⟩
theorem Ows.add (h : Ows w0 w d M Os) (hk : Kept (fun _ => False) w w') (hx : x.holds w' d) (ho : ∀ k, x.own k → w.heap.size ≤ k) : Ows w0 w' d M (x :: Os) := by obtain ⟨B, h⟩ := h; exact ⟨_, h.add hk hx ho⟩
theorem Ows.perm (h : Ows w0 w d M Os) (hp : Os.Perm Os') : Ows w0 w d M Os' := by obtain ⟨B, h⟩ := h; exact ⟨_, h.perm hp⟩
theorem Ows.sub (h : Ows w0 w d M Os) (hp : Os'.Sublist Os) : Ows w0 w d M Os' := by obtain ⟨B, h⟩ := h; exact ⟨_, h.sub hp⟩
theorem Ows.drop (h : Ows w0 w d M (x :: Os)) : Ows w0 w d M Os := h.sub (List.sublist_cons_self ..)
theorem Ows.has (h : Ows w0 w d M Os) (hx : x ∈ Os) : x.holds w d := by obtain ⟨B, h⟩ := h; exact (h.obs x hx).1
theorem Ows.ge (h : Ows w0 w d M Os) (hx : x ∈ Os) {k : Nat} (hk : x.own k) : w0.heap.size ≤ k := by obtain ⟨B, h⟩ := h; exact ((h.obs x hx).2 k hk).2
theorem Ows.old (h : Ows w0 w d M Os) : Kept (fun _ => False) w0 w := by obtain ⟨B, h⟩ := h; exact h.kept
theorem Ows.tab (h : Ows w0 w d M Os) : Tab w := by obtain ⟨B, h⟩ := h; exact h.tab
theorem Ows.ok (h : Ows w0 w d M Os) : M.Ok := by obtain ⟨B, h⟩ := h; exact h.ap.ok
theorem Ows.live (h : Ows w0 w d M Os) : M.Live := by obtain ⟨B, h⟩ := h; exact h.ap.live
theorem Ows.two (h : Ows w0 w d M (a :: x :: Os)) : Ows w0 w d M (x :: a :: Os) := h.perm (List.Perm.swap _ _ _)
theorem Ows.new (h : Ows w0 w d M Os) (c : List Value) (t : TypeId) : Ows w0 (w.alloc (.cells c.toArray t)) d M (.blk w.heap.size c t :: Os) :=
  h.add ((Kept.refl _ _).alloc _) (Blk.new w c t) (fun k q => by have : k = w.heap.size := q; omega)
theorem Ows.turn (h : Ows w0 w d M (.blk b c t :: Os)) (hk : Kept (· = b) w w') (hb : Blk w' b c' t) : Ows w0 w' d M (.blk b c' t :: Os) := by
  obtain ⟨B, h⟩ := h
  have h0 := (h.obs _ (List.mem_cons_self ..)).2 b rfl
  exact ⟨_, h.swap (x := .blk b c' t) (hk.mono (fun _ _ e => Or.inr e)) ((h.ap.turn hk (fun k e => by rw [e]; exact h0.1)).fewer (fun k q => q.elim id (fun e => by rw [show k = b from e]; exact h0.1))) hb (fun _ q => Or.inl q)⟩
theorem Ows.made (hA : Apart (fun k => k < w0.heap.size) d M w) (ht : Tab w0) (hk : Kept (fun _ => False) w0 w) : Ows w0 w d M [] := ⟨_, hA, fun _ => id, ht, hk, fun x q => (List.not_mem_nil q).elim, List.Pairwise.nil⟩
theorem Ows.crash (h : Ows w0 w d M Os) (k : Int) (k0 : -9223372036854775808 ≤ k ∧ k ≤ 9223372036854775807) (he : M.crashR k = (y, M')) :
    Calls Tryz.prog 9 #[.pointer (some ⟨d, 0, none⟩), .int .i64 k] w fun e w' => e = .returned (.int .i64 y) ∧ Ows w0 w' d M' Os := by
  obtain ⟨B, h⟩ := h
  exact (crash_ap h.ap k k0 he).mono fun e w' q => ⟨q.1, B, h.to q.2.2 q.2.1⟩
theorem Ows.start (h : Ows w0 w d M Os) (hs : 0 ≤ M.starts ∧ M.starts < 9223372036854775807) (he : M.startR = (y, M')) :
    Calls Tryz.prog 25 #[.pointer (some ⟨d, 0, none⟩)] w fun e w' => e = .returned (.int .i64 y) ∧ Ows w0 w' d M' Os := by
  obtain ⟨B, h⟩ := h
  exact (start_ap h.ap hs he).mono fun e w' q => ⟨q.1, B, h.to q.2.2 q.2.1⟩
theorem Ows.fail (h : Ows w0 w d M Os) (n k : Int) (n0 : -9223372036854775808 ≤ n ∧ n ≤ 9223372036854775807) (k0 : -9223372036854775808 ≤ k ∧ k ≤ 9223372036854775807) (he : M.failR n k = (y, M')) :
    Calls Tryz.prog 23 #[.pointer (some ⟨d, 0, none⟩), .int .i64 n, .int .i64 k] w fun e w' => e = .returned (.int .i64 y) ∧ Ows w0 w' d M' Os := by
  obtain ⟨B, h⟩ := h
  exact (fail_ap h.ap n k n0 k0 he).mono fun e w' q => ⟨q.1, B, h.to q.2.2 q.2.1⟩
def RingSt (w0 : World) (d : Nat) (Os : List Ob) (seed : ByteArray) (y : Int × List Hd × DiskM) (e : Ending) (w' : World) : Prop :=
  (y.1 ≠ 0 ∧ e = .returned (.tuple #[.pointer none, .int .i64 y.1]) ∧ Ows w0 w' d y.2.2 Os) ∨ (y.1 = 0 ∧ ∃ r S, e = .returned (.tuple #[.pointer (some ⟨r, 0, none⟩), .int .i64 0]) ∧ Ows w0 w' d y.2.2 (.ring r ⟨seed, y.2.1, y.2.2.starts, false⟩ S :: Os))
theorem FrO.keeps (h : FrO w0 w d M B Os) : Keeps B := ⟨h.old _ (tab_lt h.tab0).1, h.old _ (tab_lt h.tab0).2⟩
theorem Ows.ringOpen (h : Ows w0 w d M Os) (seed : ByteArray) (hs : seed.size ≤ 1000) (hc : M.files.length + M.loose.length < 300000000) :
    Calls Tryz.prog 52 #[.pointer (some ⟨d, 0, none⟩), .string seed] w (RingSt w0 d Os seed M.openR) := by
  obtain ⟨B, h⟩ := h
  refine (open_any h.ap seed hs hc h.keeps h.tab).mono fun e w' q => ?_
  rcases q with ⟨h0, rfl, ha, hk⟩ | ⟨h0, rb, S, rfl, hr, hS, ha, hk⟩
  · exact Or.inl ⟨h0, rfl, B, h.to hk ha⟩
  · exact Or.inr ⟨h0, rb, S, rfl, _, h.come (x := .ring rb _ S) hk ha ⟨hr, fun k q => ha.lt (Or.inr q)⟩ hS⟩
def SegSt (w0 : World) (d : Nat) (Os : List Ob) (st : Int) (y : Int × List By × DiskM) (e : Ending) (w' : World) : Prop :=
  (y.1 ≠ 0 ∧ e = .returned (.tuple #[.pointer none, .int .i64 y.1]) ∧ Ows w0 w' d y.2.2 Os) ∨ (y.1 = 0 ∧ ∃ s S, e = .returned (.tuple #[.pointer (some ⟨s, 0, none⟩), .int .i64 0]) ∧ Ows w0 w' d y.2.2 (.seg s ⟨y.2.1, st, false⟩ S :: Os))
theorem Ows.segOpen (h : Ows w0 w d M Os) (hc : M.files.length + M.loose.length < 100000000) :
    Calls Tryz.prog 53 #[.pointer (some ⟨d, 0, none⟩)] w (SegSt w0 d Os M.starts M.openS) := by
  obtain ⟨B, h⟩ := h
  refine (segOpen_any h.ap hc h.tab).mono fun e w' q => ?_
  rcases q with ⟨h0, rfl, ha, hk⟩ | ⟨h0, sb, S, rfl, hr, hS, ha, hk⟩
  · exact Or.inl ⟨h0, rfl, B, h.to hk ha⟩
  · exact Or.inr ⟨h0, sb, S, rfl, _, h.come (x := .seg sb _ S) hk ha ⟨hr, fun k q => ha.lt (Or.inr q)⟩ hS⟩
def SegTo (w0 : World) (d s : Nat) (Os : List Ob) (y : Int × SegM × DiskM) (e : Ending) (w' : World) : Prop := e = .returned (.int .i64 y.1) ∧ ∃ S, Ows w0 w' d y.2.2 (.seg s y.2.1 S :: Os)
theorem Ows.append (h : Ows w0 w d M (.seg s G S :: Os)) (la : Option Addr) (lc : Nat) (l : List By) (hl : View w 1 (.slice la l.length lc) (strV l)) (ho : l ≠ [] → ∀ k, (Value.slice la l.length lc).ownBlock = some k → k < w0.heap.size ∨ ∃ x ∈ Os, x.own k) (hc : M.files.length + M.loose.length < 80000000) {y : Int × SegM × DiskM} (he : G.append M l = y) :
    Calls Tryz.prog 49 #[.pointer (some ⟨s, 0, none⟩), .slice la l.length lc] w (SegTo w0 d s Os y) := by
  subst he
  obtain ⟨B, h⟩ := h
  obtain ⟨p1, p2⟩ := List.pairwise_cons.1 h.apart
  obtain ⟨⟨hg, hlt⟩, hS⟩ := h.obs _ (List.mem_cons_self ..)
  have ht := tab_low h.tab0
  have hs := (hS s hg.own).2
  refine (seg_append hg h.ap (fun k q => (hS k q).1) la lc hl (fun h0 k q => ?_) (by omega) h.tab ⟨by omega, by omega⟩).mono fun e w' q => ?_
  · rcases ho h0 k q with z | ⟨x, hx, z⟩
    · exact ⟨h.old k z, fun z2 => by have := (hS k z2).2; omega⟩
    · exact ⟨((h.obs x (List.mem_cons_of_mem _ hx)).2 k z).1, fun z2 => p1 x hx k z2 z⟩
  · obtain ⟨he, S', h1, h2, h3, h4⟩ := q
    exact ⟨he, S', _, h.swap (x := .seg s _ S') h4 h3 ⟨h1, fun k q => h3.lt (Or.inr q)⟩ h2⟩
theorem Ows.count (h : Ows w0 w d M Os) (hx : Ob.seg s G S ∈ Os) : Calls Tryz.prog 44 #[.pointer (some ⟨s, 0, none⟩)] w fun e w' => e = .returned (.int .i64 (G.entries.length : Int)) ∧ w = w' := seg_count (h.has hx).1
theorem Ows.get (h : Ows w0 w d M Os) (hx : Ob.seg s G S ∈ Os) (i k : Nat) (hik : i + k ≤ G.entries.length) :
    Calls Tryz.prog 47 #[.pointer (some ⟨s, 0, none⟩), .int .i64 (i : Int), .int .i64 (k : Int)] w fun e w' => ∃ x m c, e = .returned (.tuple #[.slice x m c, .int .i64 0]) ∧ Ows w0 w' d M (.row (.slice x m c) ((G.entries.drop i).take k) :: Os) := by
  have hg : IsSeg w s d G S := (h.has hx).1
  have hf := hg.few
  refine (seg_get hg i k (by omega) (by omega)).mono fun e w' hq => ?_
  rcases hq with ⟨hq, _⟩ | ⟨i', k', e1, e2, _, x, m, c, he, hrow, hk, ho⟩
  · omega
  · obtain rfl : i = i' := by omega
    obtain rfl : k = k' := by omega
    exact ⟨x, m, c, he, h.add hk hrow ho⟩
theorem Ows.used (h : Ows w0 w d M Os) (hx : Ob.ring r R S ∈ Os) : Calls Tryz.prog 51 #[.pointer (some ⟨r, 0, none⟩)] w fun e w' => e = .returned (.int .i64 (R.signed.length : Int)) ∧ w = w' := ring_used (h.has hx).1
theorem Ows.key (h : Ows w0 w d M Os) (hx : Ob.ring r R S ∈ Os) : Calls Tryz.prog 50 #[.pointer (some ⟨r, 0, none⟩)] w fun e w' => e = .returned (hashV (rootF (leavesF R.seed.data.toList))) ∧ Ows w0 w' d M Os := (ring_key (h.has hx).1 h.tab).mono fun e w' q => ⟨q.1, h.same q.2⟩
theorem Ows.last (h : Ows w0 w d M Os) (hx : Ob.ring r R S ∈ Os) (m : Nat) (a : Hd) (hm : R.signed[m]? = some a) (hl : R.signed.length = m + 1) :
    Calls Tryz.prog 54 #[.pointer (some ⟨r, 0, none⟩)] w fun e w' => e = .returned (.tuple #[headV (a.1 : Int) a.2, .bool true]) ∧ Ows w0 w' d M Os := (ring_last (h.has hx).1 m a hm hl).mono fun e w' q => ⟨q.1, h.same q.2⟩
theorem Ows.last0 (h : Ows w0 w d M Os) (hx : Ob.ring r R S ∈ Os) (hl : R.signed = []) :
    Calls Tryz.prog 54 #[.pointer (some ⟨r, 0, none⟩)] w fun e w' => e = .returned (.tuple #[.agg (headC 0 zeroRoot).toArray, .bool false]) ∧ Ows w0 w' d M Os := (ring_last0 (h.has hx).1 hl).mono fun e w' q => ⟨q.1, h.same q.2⟩
def SigSt (w0 : World) (d r : Nat) (Os : List Ob) (size : Nat) (root : By) (i : Nat) (R' : RingM) (M' : DiskM) (e : Ending) (w' : World) : Prop :=
  ∃ a c Y S', e = .returned (.tuple #[.agg Y.toArray, .int .i64 0]) ∧ Hid (Y = signedC (size : Int) root (i : Int) ⟨(signF R'.seed.data.toList i (digestF size root)).toArray⟩ (.slice a 3 c) ∧ Y.length = 36 ∧ (∀ v ∈ Y, v.oneCell' = true) ∧
    Ows w0 w' d M' (.hrow (.slice a 3 c) (pathF (leavesF R'.seed.data.toList) i) :: .ring r R' S' :: Os))
theorem FrO.held (h : FrO w0 w d M B (.ring r R S :: Os)) : Held w r d R M B S := by
  obtain ⟨⟨hg, hlt⟩, hS⟩ := h.obs _ (List.mem_cons_self ..)
  exact ⟨h.ap, hg, fun k q => (hS k q).1, h.keeps, ⟨fun q => by have := (hS _ q).2; have := (tab_lt h.tab0).1; omega, fun q => by have := (hS _ q).2; have := (tab_lt h.tab0).2; omega⟩, h.tab⟩
theorem sign_st {size : Nat} {root : By} {i : Nat} {e : Ending} (h : FrO w0 w d M B (.ring r R S :: Os)) (hy : SignedAs B S r d w size root i R' M' e w') : SigSt w0 d r Os size root i R' M' e w' := by
  obtain ⟨a, c, S', Y, he, hH⟩ := hy
  obtain ⟨h1, h2, h3, h4, h5, h6, h7, h8⟩ := hH.out
  have hz := h7.size
  have hb : ∀ k, (Value.slice a 3 c).ownBlock = some k → w.heap.size ≤ k ∧ ¬ S' k := h8
  refine ⟨a, c, Y, S', he, Lib.hid ⟨h1, h2, h3, ?_⟩⟩
  obtain ⟨p1, p2⟩ := List.pairwise_cons.1 h.apart
  have hR := h.swap (x := .ring r R' S') h7 (h6.ap.fewer (fun k q => q.imp id Or.inl)) ⟨h6.ring, fun k q => h6.ap.lt (Or.inr (Or.inl q))⟩ h5
  refine ⟨fun k => (B k ∨ S' k) ∨ (Value.slice a 3 c).ownBlock = some k, ⟨h6.ap.fewer (fun k q => q.elim (fun q => q.elim Or.inl (fun q => Or.inr (Or.inl q))) (fun q => Or.inr (Or.inr q))), fun k q => Or.inl (hR.old k q), hR.tab0, hR.kept, fun y q => ?_, List.pairwise_cons.2 ⟨fun y q k e z => ?_, hR.apart⟩⟩⟩
  · rcases List.mem_cons.1 q with rfl | q
    · exact ⟨h4, fun k e => ⟨Or.inr e, Nat.le_trans h.kept.size (hb k e).1⟩⟩
    · have hy := hR.obs y q
      exact ⟨hy.1, fun k e => ⟨Or.inl (hy.2 k e).1, (hy.2 k e).2⟩⟩
  · rcases List.mem_cons.1 q with rfl | q
    · exact (hb k e).2 z
    · have := Ob.lt (h.obs y (List.mem_cons_of_mem _ q)).1 z
      have := (hb k e).1
      omega
end
end Go.Proofs.YtpmdlkogccojmaaGreatDoor
