/- FrO Sta1 Sta2 Sta3 Sta5 Sta6 Sta4 Sta7 Sta8 -/
import Derived.Lib.AppendZeros
import Derived.Deep.RegionHeld3
import Derived.Test.YtpmdlkogccojmaaGreatDoorUStationSure32
import Derived.Test.YtpmdlkogccojmaaGreatDoorUStationSure42
import Derived.Test.YtpmdlkogccojmaaGreatDoorUStationSure39
import Derived.Test.YtpmdlkogccojmaaGreatDoorUStationSure01
import Derived.Test.YtpmdlkogccojmaaGreatDoorUStationSure23
set_option linter.unusedVariables false
set_option linter.unusedSimpArgs false
set_option maxRecDepth 100000
set_option maxHeartbeats 16000000
namespace Go.Proofs.YtpmdlkogccojmaaGreatDoor
open Go.RowKit
inductive Ob where
 | row (v : Value) (l : List By)
 | hrow (v : Value) (l : List By)
 | blk (b : Nat) (c : List Value) (t : TypeId)
 | ring (r : Nat) (R : RingM) (S : Nat → Prop)
 | seg (s : Nat) (G : SegM) (S : Nat → Prop)
def Ob.own : Ob → Nat → Prop
 | .row v _, k=>v.ownBlock = some k
 | .hrow v _, k=>v.ownBlock = some k
 | .blk b _ _, k=>k = b
 | .ring _ _ S, k=>S k
 | .seg _ _ S, k=>S k
def Ob.holds (w : World) (d : Nat) : Ob → Prop
 | .row v l=>Row w 9 1 v (strV l)
 | .hrow v l=>Row w 24 32 v (hcells l)
 | .blk b c t=>Blk w b c t
 | .ring r R S=>IsRing w r d R S∧∀ k, S k → k < w.heap.size
 | .seg s G S=>IsSeg w s d G S∧∀ k, S k → k < w.heap.size
theorem Ob.kept {x : Ob} {w w' : World} {d : Nat} {Z : Nat → Prop} (h : x.holds w d) (hk : Kept Z w w') (hZ : ∀ k, x.own k → ¬ Z k) : x.holds w' d:=by
 cases x with
 | row v l=>exact Row.kept h hk hZ
 | hrow v l=>exact Row.kept h hk hZ
 | blk b c t=>exact Blk.kept h hk (hZ b rfl)
 | ring r R S=>exact ⟨h.1.kept hk hZ, fun k q=>Nat.lt_of_lt_of_le (h.2 k q) hk.size⟩
 | seg s G S=>exact ⟨h.1.kept hk hZ, fun k q=>Nat.lt_of_lt_of_le (h.2 k q) hk.size⟩
theorem Ob.lt {x : Ob} {w : World} {d : Nat} (h : x.holds w d) {k : Nat} (hk : x.own k) : k < w.heap.size:=by
 cases x with
 | row v l=>exact Row.lt h hk
 | hrow v l=>exact Row.lt h hk
 | blk b c t=>have : k = b:=hk; subst this; exact Blk.lt h
 | ring r R S=>exact h.2 k hk
 | seg s G S=>exact h.2 k hk
structure FrO (w0 w : World) (d : Nat) (M : DiskM) (B : Nat → Prop) (Os : List Ob) : Prop where
 ap : Apart B d M w
 old : ∀ k, k < w0.heap.size → B k
 tab0 : Tab w0
 kept : Kept (fun _=>False) w0 w
 obs : ∀ x ∈ Os, x.holds w d∧∀ k, x.own k → B k∧w0.heap.size ≤ k
 apart : Os.Pairwise fun x y=>∀ k, x.own k → ¬ y.own k
def Ows (w0 w : World) (d : Nat) (M : DiskM) (Os : List Ob) : Prop:=∃ B, FrO w0 w d M B Os
section
variable {w0 w w' : World} {d r s b : Nat} {M M' : DiskM} {B B' S Z : Nat → Prop} {Os Os' : List Ob} {R R' : RingM} {G G' : SegM} {a x : Ob} {c c' : List Value} {t : TypeId} {v : Value} {l : List By} {y : Int}
theorem FrO.tab (h : FrO w0 w d M B Os) : Tab w:=h.tab0.same h.kept
theorem FrO.perm (h : FrO w0 w d M B Os) (hp : Os.Perm Os') : FrO w0 w d M B Os' :=
 ⟨h.ap, h.old, h.tab0, h.kept, fun x q=>h.obs x (hp.mem_iff.2 q), h.apart.perm hp (fun h k q z=>h k z q)⟩
theorem FrO.sub (h : FrO w0 w d M B Os) (hp : Os'.Sublist Os) : FrO w0 w d M B Os' :=
 ⟨h.ap, h.old, h.tab0, h.kept, fun x q=>h.obs x (hp.subset q), h.apart.sublist hp⟩
theorem FrO.same (h : FrO w0 w d M B Os) (hk : Kept (fun _=>False) w w') : FrO w0 w' d M B Os :=
 ⟨h.ap.same hk, h.old, h.tab0, h.kept.trans hk, fun x q=>⟨Ob.kept (h.obs x q).1 hk (fun _ _=>id), (h.obs x q).2⟩, h.apart⟩
theorem FrO.swap (h : FrO w0 w d M B (a::Os)) (hk : Kept (fun k=>¬ B k ∨ a.own k) w w') (ha : Apart (fun k=>B k ∨ x.own k) d M' w') (hx : x.holds w' d) (ho : ∀ k, x.own k → a.own k ∨ w.heap.size ≤ k) : FrO w0 w' d M' (fun k=>B k ∨ x.own k) (x::Os):=by
 obtain ⟨p1, p2⟩:=List.pairwise_cons.1 h.apart
 have h0:=h.obs a (List.mem_cons_self ..)
 refine ⟨ha, fun k q=>Or.inl (h.old k q), h.tab0, h.kept.then_ hk (fun i hi z=>?_), fun y q=>?_, List.pairwise_cons.2 ⟨fun y q k e z=>?_, p2⟩⟩
 ·rcases z with z | z
  ·exact z (h.old i hi)
  ·have:=(h0.2 i z).2; omega
 ·rcases List.mem_cons.1 q with rfl | q
  ·refine ⟨hx, fun k e=>⟨Or.inr e, ?_⟩⟩
   rcases ho k e with z | z
   ·exact (h0.2 k z).2
   ·exact Nat.le_trans h.kept.size z
  ·have hy:=h.obs y (List.mem_cons_of_mem _ q)
   exact ⟨Ob.kept hy.1 hk (fun k e z=>z.elim (fun n=>n (hy.2 k e).1) (fun z=>p1 y q k z e)), fun k e=>⟨Or.inl (hy.2 k e).1, (hy.2 k e).2⟩⟩
 ·rcases ho k e with n | n
  ·exact p1 y q k n z
  ·have:=Ob.lt (h.obs y (List.mem_cons_of_mem _ q)).1 z
   omega
theorem FrO.to (h : FrO w0 w d M B Os) (hk : Kept (fun k=>¬ B k) w w') (ha : Apart B d M' w') : FrO w0 w' d M' B Os :=
 ⟨ha, h.old, h.tab0, h.kept.then_ hk (fun i hi z=>z (h.old i hi)), fun x q=>⟨Ob.kept (h.obs x q).1 hk (fun k e z=>z ((h.obs x q).2 k e).1), (h.obs x q).2⟩, h.apart⟩
theorem FrO.come (h : FrO w0 w d M B Os) (hk : Kept (fun k=>¬ B k) w w') (ha : Apart (fun k=>B k ∨ x.own k) d M' w') (hx : x.holds w' d) (ho : ∀ k, x.own k → w.heap.size ≤ k) : FrO w0 w' d M' (fun k=>B k ∨ x.own k) (x::Os):=by
 refine ⟨ha, fun k q=>Or.inl (h.old k q), h.tab0, h.kept.then_ hk (fun i hi z=>z (h.old i hi)), fun y q=>?_, List.pairwise_cons.2 ⟨fun y q k e z=>?_, h.apart⟩⟩
 ·rcases List.mem_cons.1 q with rfl | q
  ·exact ⟨hx, fun k e=>⟨Or.inr e, Nat.le_trans h.kept.size (ho k e)⟩⟩
  ·have hy:=h.obs y q
   exact ⟨Ob.kept hy.1 hk (fun k e z=>z (hy.2 k e).1), fun k e=>⟨Or.inl (hy.2 k e).1, (hy.2 k e).2⟩⟩
 ·have:=Ob.lt (h.obs y q).1 z
  have:=ho k e
  omega
theorem FrO.add (h : FrO w0 w d M B Os) (hk : Kept (fun _=>False) w w') (hx : x.holds w' d) (ho : ∀ k, x.own k → w.heap.size ≤ k) : FrO w0 w' d M (fun k=>B k ∨ x.own k) (x::Os) :=
 h.come (hk.mono (fun _ _=>False.elim)) (h.ap.grow hk (fun _ _=>False.elim) (fun k q=>q.imp id (fun q=>⟨ho k q, Ob.lt hx q⟩))) hx ho
theorem Ows.same (h : Ows w0 w d M Os) (hk : Kept (fun _=>False) w w') : Ows w0 w' d M Os:=by obtain ⟨B, h⟩:=h; exact ⟨_, h.same hk⟩
theorem Ows.add (h : Ows w0 w d M Os) (hk : Kept (fun _=>False) w w') (hx : x.holds w' d) (ho : ∀ k, x.own k → w.heap.size ≤ k) : Ows w0 w' d M (x::Os):=by obtain ⟨B, h⟩:=h; exact ⟨_, h.add hk hx ho⟩
theorem Ows.perm (h : Ows w0 w d M Os) (hp : Os.Perm Os') : Ows w0 w d M Os':=by obtain ⟨B, h⟩:=h; exact ⟨_, h.perm hp⟩
theorem Ows.sub (h : Ows w0 w d M Os) (hp : Os'.Sublist Os) : Ows w0 w d M Os':=by obtain ⟨B, h⟩:=h; exact ⟨_, h.sub hp⟩
theorem Ows.drop (h : Ows w0 w d M (x::Os)) : Ows w0 w d M Os:=h.sub (List.sublist_cons_self ..)
theorem Ows.has (h : Ows w0 w d M Os) (hx : x ∈ Os) : x.holds w d:=by obtain ⟨B, h⟩:=h; exact (h.obs x hx).1
theorem Ows.old (h : Ows w0 w d M Os) : Kept (fun _=>False) w0 w:=by obtain ⟨B, h⟩:=h; exact h.kept
theorem Ows.tab (h : Ows w0 w d M Os) : Tab w:=by obtain ⟨B, h⟩:=h; exact h.tab
theorem Ows.ok (h : Ows w0 w d M Os) : M.Ok:=by obtain ⟨B, h⟩:=h; exact h.ap.ok
theorem Ows.two (h : Ows w0 w d M (a::x::Os)) : Ows w0 w d M (x::a::Os):=h.perm (List.Perm.swap _ _ _)
theorem Ows.new (h : Ows w0 w d M Os) (c : List Value) (t : TypeId) : Ows w0 (w.alloc (.cells c.toArray t)) d M (.blk w.heap.size c t::Os) :=
 h.add ((Kept.refl _ _).alloc _) (Blk.new w c t) (fun k q=>by have : k = w.heap.size:=q; omega)
theorem Ows.turn (h : Ows w0 w d M (.blk b c t::Os)) (hk : Kept (· = b) w w') (hb : Blk w' b c' t) : Ows w0 w' d M (.blk b c' t::Os):=by
 obtain ⟨B, h⟩:=h
 have h0:=(h.obs _ (List.mem_cons_self ..)).2 b rfl
 exact ⟨_, h.swap (x:=.blk b c' t) (hk.mono (fun _ _ e=>Or.inr e)) ((h.ap.turn hk (fun k e=>by rw [e]; exact h0.1)).fewer (fun k q=>q.elim id (fun e=>by rw [show k = b from e]; exact h0.1))) hb (fun _ q=>Or.inl q)⟩
theorem Ows.made (hA : Apart (fun k=>k < w0.heap.size) d M w) (ht : Tab w0) (hk : Kept (fun _=>False) w0 w) : Ows w0 w d M []:=⟨_, hA, fun _=>id, ht, hk, fun x q=>(List.not_mem_nil q).elim, List.Pairwise.nil⟩
theorem Ows.crash (h : Ows w0 w d M Os) (k : Int) (k0 : -9223372036854775808 ≤ k∧k ≤ 9223372036854775807) (he : M.crashR k = (y, M')) :
  Calls Tryz.prog 9 #[.pointer (some ⟨d, 0, none⟩), .int .i64 k] w fun e w'=>e = .returned (.int .i64 y)∧Ows w0 w' d M' Os:=by
 obtain ⟨B, h⟩:=h
 exact (crash_ap h.ap k k0 he).mono fun e w' q=>⟨q.1, B, h.to q.2.2 q.2.1⟩
theorem Ows.start (h : Ows w0 w d M Os) (hs : 0 ≤ M.starts∧M.starts < 9223372036854775807) (he : M.startR = (y, M')) :
  Calls Tryz.prog 25 #[.pointer (some ⟨d, 0, none⟩)] w fun e w'=>e = .returned (.int .i64 y)∧Ows w0 w' d M' Os:=by
 obtain ⟨B, h⟩:=h
 exact (start_ap h.ap hs he).mono fun e w' q=>⟨q.1, B, h.to q.2.2 q.2.1⟩
theorem Ows.fail (h : Ows w0 w d M Os) (n k : Int) (n0 : -9223372036854775808 ≤ n∧n ≤ 9223372036854775807) (k0 : -9223372036854775808 ≤ k∧k ≤ 9223372036854775807) (he : M.failR n k = (y, M')) :
  Calls Tryz.prog 23 #[.pointer (some ⟨d, 0, none⟩), .int .i64 n, .int .i64 k] w fun e w'=>e = .returned (.int .i64 y)∧Ows w0 w' d M' Os:=by
 obtain ⟨B, h⟩:=h
 exact (fail_ap h.ap n k n0 k0 he).mono fun e w' q=>⟨q.1, B, h.to q.2.2 q.2.1⟩
theorem Ows.isup (h : Ows w0 w d M Os) {b : Bool} (he : (!M.down) = b) :
  Calls Tryz.prog 24 #[.pointer (some ⟨d, 0, none⟩)] w fun e w'=>e = .returned (.bool b)∧w = w':=by
 obtain ⟨B, h⟩:=h
 exact up_ap h.ap he
def RingSt (w0 : World) (d : Nat) (Os : List Ob) (seed : ByteArray) (y : Int × List Hd × DiskM) (e : Ending) (w' : World) : Prop :=
 (y.1 ≠ 0∧e = .returned (.tuple #[.pointer none, .int .i64 y.1])∧Ows w0 w' d y.2.2 Os) ∨ (y.1 = 0∧∃ r S, e = .returned (.tuple #[.pointer (some ⟨r, 0, none⟩), .int .i64 0])∧Ows w0 w' d y.2.2 (.ring r ⟨seed, y.2.1, y.2.2.starts, false⟩ S::Os))
theorem FrO.keeps (h : FrO w0 w d M B Os) : Keeps B:=⟨h.old _ (tab_lt h.tab0).1, h.old _ (tab_lt h.tab0).2⟩
theorem Ows.ringOpen (h : Ows w0 w d M Os) (seed : ByteArray) (hs : seed.size ≤ 1000) (hc : M.files.length + M.loose.length < 300000000) :
  Calls Tryz.prog 52 #[.pointer (some ⟨d, 0, none⟩), .string seed] w (RingSt w0 d Os seed M.openR):=by
 obtain ⟨B, h⟩:=h
 refine (open_any h.ap seed hs hc h.keeps h.tab).mono fun e w' q=>?_
 rcases q with ⟨h0, rfl, ha, hk⟩ | ⟨h0, rb, S, rfl, hr, hS, ha, hk⟩
 ·exact Or.inl ⟨h0, rfl, B, h.to hk ha⟩
 ·exact Or.inr ⟨h0, rb, S, rfl, _, h.come (x:=.ring rb _ S) hk ha ⟨hr, fun k q=>ha.lt (Or.inr q)⟩ hS⟩
def SegSt (w0 : World) (d : Nat) (Os : List Ob) (st : Int) (y : Int × List By × DiskM) (e : Ending) (w' : World) : Prop :=
 (y.1 ≠ 0∧e = .returned (.tuple #[.pointer none, .int .i64 y.1])∧Ows w0 w' d y.2.2 Os) ∨ (y.1 = 0∧∃ s S, e = .returned (.tuple #[.pointer (some ⟨s, 0, none⟩), .int .i64 0])∧Ows w0 w' d y.2.2 (.seg s ⟨y.2.1, st, false⟩ S::Os))
theorem Ows.segOpen (h : Ows w0 w d M Os) (hc : M.files.length + M.loose.length < 100000000) :
  Calls Tryz.prog 53 #[.pointer (some ⟨d, 0, none⟩)] w (SegSt w0 d Os M.starts M.openS):=by
 obtain ⟨B, h⟩:=h
 refine (segOpen_any h.ap hc h.tab).mono fun e w' q=>?_
 rcases q with ⟨h0, rfl, ha, hk⟩ | ⟨h0, sb, S, rfl, hr, hS, ha, hk⟩
 ·exact Or.inl ⟨h0, rfl, B, h.to hk ha⟩
 ·exact Or.inr ⟨h0, sb, S, rfl, _, h.come (x:=.seg sb _ S) hk ha ⟨hr, fun k q=>ha.lt (Or.inr q)⟩ hS⟩
def SegTo (w0 : World) (d s : Nat) (Os : List Ob) (y : Int × SegM × DiskM) (e : Ending) (w' : World) : Prop:=e = .returned (.int .i64 y.1)∧∃ S, Ows w0 w' d y.2.2 (.seg s y.2.1 S::Os)
theorem Ows.append (h : Ows w0 w d M (.seg s G S::Os)) (la : Option Addr) (lc : Nat) (l : List By) (hl : View w 1 (.slice la l.length lc) (strV l)) (ho : l ≠ [] → ∀ k, (Value.slice la l.length lc).ownBlock = some k → k < w0.heap.size ∨ ∃ x ∈ Os, x.own k) (hc : M.files.length + M.loose.length < 80000000) {y : Int × SegM × DiskM} (he : G.append M l = y) :
  Calls Tryz.prog 49 #[.pointer (some ⟨s, 0, none⟩), .slice la l.length lc] w (SegTo w0 d s Os y):=by
 subst he
 obtain ⟨B, h⟩:=h
 obtain ⟨p1, p2⟩:=List.pairwise_cons.1 h.apart
 obtain ⟨⟨hg, hlt⟩, hS⟩:=h.obs _ (List.mem_cons_self ..)
 have ht:=tab_low h.tab0
 have hs:=(hS s hg.own).2
 refine (seg_append hg h.ap (fun k q=>(hS k q).1) la lc hl (fun h0 k q=>?_) (by omega) h.tab ⟨by omega, by omega⟩).mono fun e w' q=>?_
 ·rcases ho h0 k q with z | ⟨x, hx, z⟩
  ·exact ⟨h.old k z, fun z2=>by have:=(hS k z2).2; omega⟩
  ·exact ⟨((h.obs x (List.mem_cons_of_mem _ hx)).2 k z).1, fun z2=>p1 x hx k z2 z⟩
 ·obtain ⟨he, S', h1, h2, h3, h4⟩:=q
  exact ⟨he, S', _, h.swap (x:=.seg s _ S') h4 h3 ⟨h1, fun k q=>h3.lt (Or.inr q)⟩ h2⟩
theorem Ows.count (h : Ows w0 w d M Os) (hx : Ob.seg s G S ∈ Os) : Calls Tryz.prog 44 #[.pointer (some ⟨s, 0, none⟩)] w fun e w'=>e = .returned (.int .i64 (G.entries.length : Int))∧w = w':=seg_count (h.has hx).1
theorem Ows.get (h : Ows w0 w d M Os) (hx : Ob.seg s G S ∈ Os) (i k : Nat) (hik : i + k ≤ G.entries.length) :
  Calls Tryz.prog 47 #[.pointer (some ⟨s, 0, none⟩), .int .i64 (i : Int), .int .i64 (k : Int)] w fun e w'=>∃ x m c, e = .returned (.tuple #[.slice x m c, .int .i64 0])∧Ows w0 w' d M (.row (.slice x m c) ((G.entries.drop i).take k)::Os):=by
 have hg : IsSeg w s d G S:=(h.has hx).1
 have hf:=hg.few
 refine (seg_get hg i k (by omega) (by omega)).mono fun e w' hq=>?_
 rcases hq with ⟨hq, _⟩ | ⟨i', k', e1, e2, _, x, m, c, he, hrow, hk, ho⟩
 ·omega
 ·obtain rfl : i = i':=by omega
  obtain rfl : k = k':=by omega
  exact ⟨x, m, c, he, h.add hk hrow ho⟩
theorem Ows.key (h : Ows w0 w d M Os) (hx : Ob.ring r R S ∈ Os) : Calls Tryz.prog 50 #[.pointer (some ⟨r, 0, none⟩)] w fun e w'=>e = .returned (hashV (rootF (leavesF R.seed.data.toList)))∧Ows w0 w' d M Os:=(ring_key (h.has hx).1 h.tab).mono fun e w' q=>⟨q.1, h.same q.2⟩
theorem Ows.last (h : Ows w0 w d M Os) (hx : Ob.ring r R S ∈ Os) (m : Nat) (a : Hd) (hm : R.signed[m]? = some a) (hl : R.signed.length = m + 1) :
  Calls Tryz.prog 54 #[.pointer (some ⟨r, 0, none⟩)] w fun e w'=>e = .returned (.tuple #[headV (a.1 : Int) a.2, .bool true])∧Ows w0 w' d M Os:=(ring_last (h.has hx).1 m a hm hl).mono fun e w' q=>⟨q.1, h.same q.2⟩
theorem Ows.last0 (h : Ows w0 w d M Os) (hx : Ob.ring r R S ∈ Os) (hl : R.signed = []) :
  Calls Tryz.prog 54 #[.pointer (some ⟨r, 0, none⟩)] w fun e w'=>e = .returned (.tuple #[.agg (headC 0 zeroRoot).toArray, .bool false])∧Ows w0 w' d M Os:=(ring_last0 (h.has hx).1 hl).mono fun e w' q=>⟨q.1, h.same q.2⟩
def SigSt (w0 : World) (d r : Nat) (Os : List Ob) (size : Nat) (root : By) (i : Nat) (R' : RingM) (M' : DiskM) (e : Ending) (w' : World) : Prop :=
 ∃ a c Y S', e = .returned (.tuple #[.agg Y.toArray, .int .i64 0])∧Hid (Y = signedC (size : Int) root (i : Int) ⟨(signF R'.seed.data.toList i (digestF size root)).toArray⟩ (.slice a 3 c)∧Y.length = 36∧(∀ v ∈ Y, v.oneCell' = true) ∧
  Ows w0 w' d M' (.hrow (.slice a 3 c) (pathF (leavesF R'.seed.data.toList) i)::.ring r R' S'::Os))
def SigNoSt (w0 : World) (d r : Nat) (Os : List Ob) (S : Nat → Prop) (x : Int) (R' : RingM) (M' : DiskM) (e : Ending) (w' : World) : Prop:=e = .returned (.tuple #[.agg signed0C.toArray, .int .i64 x])∧Ows w0 w' d M' (.ring r R' S::Os)
theorem FrO.held (h : FrO w0 w d M B (.ring r R S::Os)) : Held w r d R M B S:=by
 obtain ⟨⟨hg, hlt⟩, hS⟩:=h.obs _ (List.mem_cons_self ..)
 exact ⟨h.ap, hg, fun k q=>(hS k q).1, h.keeps, ⟨fun q=>by have:=(hS _ q).2; have:=(tab_lt h.tab0).1; omega, fun q=>by have:=(hS _ q).2; have:=(tab_lt h.tab0).2; omega⟩, h.tab⟩
theorem sign_st {size : Nat} {root : By} {i : Nat} {e : Ending} (h : FrO w0 w d M B (.ring r R S::Os)) (hy : SignedAs B S r d w size root i R' M' e w') : SigSt w0 d r Os size root i R' M' e w':=by
 obtain ⟨a, c, S', Y, he, hH⟩:=hy
 obtain ⟨h1, h2, h3, h4, h5, h6, h7, h8⟩:=hH.out
 have hz:=h7.size
 have hb : ∀ k, (Value.slice a 3 c).ownBlock = some k → w.heap.size ≤ k∧¬ S' k:=h8
 refine ⟨a, c, Y, S', he, Lib.hid ⟨h1, h2, h3, ?_⟩⟩
 obtain ⟨p1, p2⟩:=List.pairwise_cons.1 h.apart
 have hR:=h.swap (x:=.ring r R' S') h7 (h6.ap.fewer (fun k q=>q.imp id Or.inl)) ⟨h6.ring, fun k q=>h6.ap.lt (Or.inr (Or.inl q))⟩ h5
 refine ⟨fun k=>(B k ∨ S' k) ∨ (Value.slice a 3 c).ownBlock = some k, ⟨h6.ap.fewer (fun k q=>q.elim (fun q=>q.elim Or.inl (fun q=>Or.inr (Or.inl q))) (fun q=>Or.inr (Or.inr q))), fun k q=>Or.inl (hR.old k q), hR.tab0, hR.kept, fun y q=>?_, List.pairwise_cons.2 ⟨fun y q k e z=>?_, hR.apart⟩⟩⟩
 ·rcases List.mem_cons.1 q with rfl | q
  ·exact ⟨h4, fun k e=>⟨Or.inr e, Nat.le_trans h.kept.size (hb k e).1⟩⟩
  ·have hy:=hR.obs y q
   exact ⟨hy.1, fun k e=>⟨Or.inl (hy.2 k e).1, (hy.2 k e).2⟩⟩
 ·rcases List.mem_cons.1 q with rfl | q
  ·exact (hb k e).2 z
  ·have:=Ob.lt (h.obs y (List.mem_cons_of_mem _ q)).1 z
   have:=(hb k e).1
   omega
theorem sign_no_st {x : Int} {e : Ending} (h : FrO w0 w d M B (.ring r R S::Os)) (hy : RefusedTo B S r d w x R' M' e w') : SigNoSt w0 d r Os S x R' M' e w':=by
 obtain ⟨he, h6, h7⟩:=hy
 obtain ⟨⟨hg, hlt⟩, hS⟩:=h.obs _ (List.mem_cons_self ..)
 exact ⟨he, _, h.swap (x:=.ring r R' S) (h7.mono (fun k _ q=>q.imp id (fun q=>by rw [q]; exact hg.own))) (h6.ap.fewer (fun k q=>q.elim id (fun q=>(hS k q).1))) ⟨h6.ring, fun k q=>h6.ap.lt (h6.sub k q)⟩ (fun k=>Or.inl)⟩
end
section
variable {w : World}
theorem View.text1 {a : Option Addr} {n c : Nat} {l : List By} (h : View w 1 (.slice a n c) (strV l)) {i : Nat} {p : By} (hp : l[i]? = some p) : ∃ g off, a = some ⟨g, off, none⟩∧w.cell? ⟨g, off + i, none⟩ = some (.string ⟨p.toArray⟩):=by
 obtain ⟨_, _, _, ev, hn, _, _, _, hcv⟩:=h
 cases ev
 have hi:=(List.getElem?_eq_some_iff.1 hp).1
 rw [strV_len] at hn
 obtain ⟨g, off, rfl, _, hc⟩:=hcv (by omega)
 exact ⟨g, off, rfl, hc i _ (by unfold strV; rw [List.getElem?_map, hp]; rfl)⟩
theorem View.len1 {a : Option Addr} {n c : Nat} {l : List By} (h : View w 1 (.slice a n c) (strV l)) : n = l.length∧n ≤ maxLen:=by
 obtain ⟨_, _, _, ev, hn, h2, h3, _⟩:=h
 cases ev
 rw [strV_len] at hn
 exact ⟨by omega, by omega⟩
theorem Row.fresh1 {b : Nat} {e : TypeId} {n : Nat} {xs : List Value} (h : Blk w b xs e) (hn : xs.length = n) (h0 : 0 < n) (hm : n ≤ 1000000) : Row w e 1 (.slice (some ⟨b, 0, none⟩) n n) xs :=
 Or.inr ⟨b, n, n, [], rfl, by omega, by rw [List.append_nil]; exact h, Nat.le_refl _, by simp; omega, by unfold maxLen; omega⟩
theorem int_lt {a b : Nat} (h : a < b) : decide ((a : Int) < (b : Int)) = true∧decide (a < b) = true:=⟨decide_eq_true (by omega), decide_eq_true h⟩
theorem int_ge {a b : Nat} (h : ¬ a < b) : decide ((a : Int) < (b : Int)) = false∧decide (a < b) = false:=⟨decide_eq_false (by omega), decide_eq_false h⟩
end
theorem entry_any (w : World) (s : ByteArray) (hs : s.size ≤ 900000) (ht : Tab w) :
  Calls Tryz.prog 27 #[.string s] w fun e w'=>e = .returned (hashV (entF s.data.toList))∧Kept (fun _=>False) w w':=by
 have hcat : (⟨#[0]⟩ : ByteArray) ++ s = ⟨(0::s.data.toList).toArray⟩:=bstr_eq (by simp [ByteArray.data_append])
 have hb:=Blk.new w (zeros 32) 24
 have k : Kept (fun _=>False) w (w.alloc (.cells (zeros 32).toArray 24)):=(Kept.refl _ _).alloc _
 have hsum : Calls Tryz.prog 59 #[.string (⟨#[0]⟩ ++ s)] (w.alloc (.cells (zeros 32).toArray 24)) fun e w5=>e = .returned (.agg (bytes8 (entF s.data.toList)).toArray)∧Hid (Blk w5 w.heap.size (zeros 32) 24∧Kept (fun _=>False) w w5):=by
  rw [hcat]
  refine (sum_any _ _ ?_ (ht.same k)).mono ?_
  ·show (0::s.data.toList).toArray.size ≤ 1000000
   simp; omega
  ·rintro e w5 ⟨rfl, hk⟩
   exact ⟨rfl, Lib.hid ⟨hb.kept hk id, k.trans hk⟩⟩
 have HC:=Lib.hid hsum
 have hl:=entF_len s.data.toList
 have x1 : (⟨#[0]⟩ : ByteArray).size + s.size ≤ 900001:=by show 1 + s.size ≤ 900001; omega
 have x2 : (9223372036854775807 < (⟨#[0]⟩ : ByteArray).size + s.size) = False:=by simp; omega
 generalize entF s.data.toList = R at *
 have HI:=Lib.hid (show (Tryz.prog.info? 24).map (·.size) = some (bytes8 R).length by rw [bytes8_len, hl]; exact info_h32)
 have HR:=Lib.hid hl
 clear hsum hl ht hcat hb k
 go_enter Tryz.func27, Tryz.ntmps27
 go_wp2_with (first | (go_at_call 59; refine HC.out.mono ?_; rintro e w5 ⟨rfl, HB⟩) | (refine wpList_store_mid rfl 24 _ _ rfl w.heap.size 0 (bytes8 R).toArray rfl rfl ?hth ?hi ?h1 ?_))
 case hth=>exact (hash_stored HB.out.1 (zeros_len 32) HR.out).1
 case hi=>exact info_hash HR.out
 case h1=>exact all_oneCell_toArray (fun y hy=>u8_oneCell y hy)
 have hst:=hash_stored HB.out.1 (zeros_len 32) HR.out
 refine bodyPost_ret (hst.2.result rfl rfl Tryz.underlying24 rfl HI.out) rfl ⟨rfl, ?_⟩
 exact HB.out.2.then_ (kept_setCells _ _ _ _) (fun i hi e=>by omega)
def LeavesTo (w : World) (l : List By) (e : Ending) (w' : World) : Prop:=∃ a c, e = .returned (.slice a l.length c)∧Row w' 24 32 (.slice a l.length c) (hcells (l.map entF))∧Kept (fun _=>False) w w'∧∀ k, (Value.slice a l.length c).ownBlock = some k → w.heap.size ≤ k
theorem ents_32 (l : List By) : ∀ x ∈ l.map entF, x.length = 32:=fun x hx=>by obtain ⟨y, _, rfl⟩:=List.mem_map.1 hx; exact entF_len y
theorem ents_next {w wr : World} {a : Option Addr} {c i : Nat} {l : List By} (h : Row wr 24 32 (.slice a i c) (hcells ((l.take i).map entF))∧Kept (fun _=>False) w wr∧∀ k, (Value.slice a i c).ownBlock = some k → w.heap.size ≤ k) {p : By} (hp : l[i]? = some p) (hl : l.length ≤ 100000) (hs : p.length ≤ 900000) (ht : Tab w) :
  Calls Tryz.prog 27 #[.string ⟨p.toArray⟩] wr fun e w2=>∃ (H : By) (a' : Option Addr) (c' : Nat) (w' : World), H.length = 32∧e = .returned (.agg (bytes8 H).toArray) ∧
   (Builtin.append_ #[47, 47] 47 #[.slice a i c, .slice (some ⟨w2.heap.size, 0, none⟩) 1 1]).run Tryz.prog (w2.alloc (.cells (bytes8 H).toArray 24)) = .ok (.slice a' (i + 1) c') w' ∧
   Hid (Row w' 24 32 (.slice a' (i + 1) c') (hcells ((l.take (i + 1)).map entF))∧Kept (fun _=>False) w w'∧∀ k, (Value.slice a' (i + 1) c').ownBlock = some k → w.heap.size ≤ k):=by
 obtain ⟨h1, h2, h3⟩:=h
 have hi:=(List.getElem?_eq_some_iff.1 hp).1
 refine (entry_any wr ⟨p.toArray⟩ (by show p.toArray.size ≤ _; simpa using hs) (ht.same h2)).mono ?_
 rintro e w2 ⟨rfl, hk⟩
 obtain ⟨v', w', hr, hrow, hk2, ho⟩:=append_hash1 (h1.kept hk (fun _ _=>id)) (ents_32 _) (entF p) (entF_len p) (by rw [List.length_map, List.length_take]; omega)
 have e1 : (l.take (i + 1)).map entF = (l.take i).map entF ++ [entF p]:=by rw [List.take_add_one, hp, List.map_append]; rfl
 have hz:=hk.size
 have hz2:=h2.size
 have hown : ∀ k, v'.ownBlock = some k → w.heap.size ≤ k:=fun k q=>by
  rcases ho k q with z | z
  ·exact h3 k z
  ·omega
 obtain ⟨a', m', c', rfl, hm, _⟩:=hrow.shape
 obtain rfl : m' = i + 1:=by
  have hl2 : (hcells ((l.take i).map entF ++ [entF p])).length = (i + 1) * 32:=by
   rw [← e1, hcells_len (ents_32 _), List.length_map, List.length_take]
   rw [Nat.min_eq_left (by omega)]
  omega
 refine ⟨entF p, a', c', w', entF_len p, rfl, hr, Lib.hid ⟨by rw [e1]; exact hrow, (h2.trans hk).then_ hk2 (fun k hk' q=>by have:=h3 k q; omega), hown⟩⟩
theorem leaves_any (w : World) (a : Option Addr) (c : Nat) (l : List By) (hv : View w 1 (.slice a l.length c) (strV l)) (hl : l.length ≤ 100000) (hs : ∀ p ∈ l, p.length ≤ 900000) (ht : Tab w) :
  Calls Tryz.prog 48 #[.slice a l.length c] w (LeavesTo w l):=by
 have HV:=Lib.hid (And.intro hv (And.intro hs ht))
 have hl2 : l.length ≤ 9223372036854775807:=by omega
 have HL:=Lib.hid hl
 clear hv hs ht hl
 go_enter Tryz.func48, Tryz.ntmps48
 go_wp2_with fail
 go_loopw [2, 7] (fun x y wr=>∃ (i : Nat) (b : Option Addr) (c : Nat), i ≤ l.length∧x = .slice b i c∧y = .int .i64 (i : Int)∧Hid (Row wr 24 32 (.slice b i c) (hcells ((l.take i).map entF))∧Kept (fun _=>False) w wr∧∀ k, (Value.slice b i c).ownBlock = some k → w.heap.size ≤ k)) (fun _ y _=>l.length - (intOf y).toNat)
 case atStart=>exact ⟨0, none, 0, Nat.zero_le _, rfl, rfl, Lib.hid ⟨Row.nil _ _ _, Kept.refl _ _, fun k q=>by simp [Value.ownBlock] at q⟩⟩
 case round =>
  obtain ⟨i, b, c', hi, rfl, rfl, HS⟩:=hrel
  by_cases hlt : i < l.length
  ·obtain ⟨y1, y2⟩:=int_lt hlt
   obtain ⟨p, hp⟩ : ∃ p, l[i]? = some p:=⟨_, List.getElem?_eq_getElem hlt⟩
   obtain ⟨g, off, rfl, hc⟩:=(HV.out.1.same HS.out.2.1 (by omega)).text1 hp
   have HN:=Lib.hid (ents_next HS.out hp HL.out (HV.out.2.1 p (List.mem_of_getElem? hp)) HV.out.2.2)
   clear hp
   go_wp2_with (first | (go_at_call 27; refine HN.out.mono ?_; rintro e w2 ⟨H, a', c2, w', hH, rfl, hr, HR⟩; have hfold:=fold_hash hH; simp only [zeros, List.replicate] at hfold; have hbl : (bytes8 H).length = 32:=(by rw [bytes8_len, hH]); clear hH) | (refine Lib.wpList_append_run _ rfl _ _ 47 47 rfl _ _ rfl rfl _ _ hr ?_))
   go_roundw
   case rel=>exact ⟨i + 1, a', c2, hlt, rfl, by go_num, HR⟩
   case measure=>simp [intOf]; omega
  ·obtain rfl : i = l.length:=by omega
   obtain ⟨y1, y2⟩:=int_ge hlt
   clear hi hlt
   go_wp2_with fail
   go_ret
   have h:=HS.out
   rw [List.take_length] at h
   exact ⟨b, c', rfl, h⟩
abbrev staC (r g : Nat) (lv : Value) : List Value:=[.pointer (some ⟨r, 0, none⟩), .pointer (some ⟨g, 0, none⟩), lv]
abbrev staO (s r g : Nat) (lv : Value) (R : RingM) (G : SegM) (Sr Sg : Nat → Prop) (Os : List Ob) : List Ob:=.blk s (staC r g lv) 66::.ring r R Sr::.seg g G Sg::Os
section
variable {w0 w w' : World} {d s r g : Nat} {M M' : DiskM} {Os : List Ob} {R : RingM} {G : SegM} {Sr Sg : Nat → Prop} {lv : Value}
theorem sta_cell {i : Nat} {v : Value} (h : Ows w0 w d M (staO s r g lv R G Sr Sg Os)) (hi : (staC r g lv)[i]? = some v) : w.cell? ⟨s, i, none⟩ = some v:=(show Blk w s (staC r g lv) 66 from h.has (x:=.blk s _ _) (by simp)).cell hi
theorem sta_none (h : Ows w0 w d M (staO s r g lv R G Sr Sg Os)) : Calls Tryz.prog 43 #[.pointer (some ⟨s, 0, none⟩)] w fun e w'=>e = .returned (.bool false)∧w = w':=by
 have c0:=sta_cell (i:=0) h rfl
 clear h
 go_enter Tryz.func43, Tryz.ntmps43
 go_wp2
 go_ret
 exact ⟨rfl, rfl⟩
end
section
variable {w0 w w' : World} {d s r g : Nat} {M M' : DiskM} {Os : List Ob} {R : RingM} {G : SegM} {Sr Sg : Nat → Prop} {lv : Value}
theorem Ows.mv {A : List Ob} {x : Ob} (h : Ows w0 w d M (A ++ x::Os)) : Ows w0 w d M (x::(A ++ Os)):=h.perm List.perm_middle
theorem Ows.mv' {A : List Ob} {x : Ob} (h : Ows w0 w d M (x::(A ++ Os))) : Ows w0 w d M (A ++ x::Os):=h.perm List.perm_middle.symm
theorem Ows.put {b : Nat} {c vs : List Value} {t : TypeId} (h : Ows w0 w d M (.blk b c t::Os)) (off : Nat) (hl : off + vs.length ≤ c.length) : w.there b off vs.toArray.size∧Ows w0 (w.setCells b off vs) d M (.blk b (splice c off vs) t::Os):=by
 have hb : Blk w b c t:=h.has (x:=.blk b c t) (by simp)
 exact ⟨hb.there off _ (by rw [List.size_toArray]; exact hl), h.turn (kept_setCells w b off vs) (hb.setCells off vs hl)⟩
theorem Ows.whole {b : Nat} {c vs : List Value} {t : TypeId} (h : Ows w0 w d M (.blk b c t::Os)) (hl : vs.length = c.length) : w.there b 0 vs.toArray.size∧Ows w0 (w.setCells b 0 vs) d M (.blk b vs t::Os):=by
 obtain ⟨h1, h2⟩:=h.put (vs:=vs) 0 (by omega)
 rw [splice_whole hl] at h2
 exact ⟨h1, h2⟩
theorem Ows.blk1 {b : Nat} {c : List Value} {t : TypeId} (h : Ows w0 w d M (.blk b c t::Os)) : Blk w b c t:=h.has (x:=.blk b c t) (by simp)
theorem sta_head (h : Ows w0 w d M (staO s r g lv R G Sr Sg Os)) (n : Nat) (hn : n ≤ G.entries.length) :
  Calls Tryz.prog 46 #[.pointer (some ⟨s, 0, none⟩), .int .i64 (n : Int)] w fun e w'=>e = .returned (headV (n : Int) (rootE (G.entries.take n)))∧Ows w0 w' d M (staO s r g lv R G Sr Sg Os):=by
 have hseg : IsSeg w g d G Sg:=(h.has (x:=.seg g G Sg) (by simp)).1
 have hfew:=hseg.few
 have HSH:=Lib.hid (And.intro hseg.few hseg.short)
 have HU:=Lib.hid h
 have HN:=Lib.hid hn
 obtain ⟨E, hE⟩ : ∃ E, E = G.entries.take n:=⟨_, rfl⟩
 have hEn : E.length = n:=by rw [hE, List.length_take]; omega
 obtain ⟨Rt, hRt⟩ : ∃ Rt, Rt = rootE E:=⟨_, rfl⟩
 have hR32 : Rt.length = 32:=by rw [hRt]; exact rootE_len E
 rw [← hE, ← hRt]
 have HE:=Lib.hid (show E.length ≤ 4096∧(∀ p ∈ E, p.length ≤ 900000)∧E = G.entries.take n∧Rt = rootF (E.map entF) from ⟨by omega, fun p hp=>by have:=hseg.short p (by rw [hE] at hp; exact List.mem_of_mem_take hp); omega, hE, hRt⟩)
 have HR32:=Lib.hid hR32
 clear hseg h hn hfew hE hRt hR32 hEn
 go_enter Tryz.func46, Tryz.ntmps46
 go_upto_region 1 with fail
 generalize hW : World.alloc w _ = W
 have H1 : Hid (Ows w0 W d M (.blk w.heap.size (headC 0 zeroRoot) 46::staO s r g lv R G Sr Sg Os)):=Lib.hid (by rw [← hW]; exact HU.out.new (headC 0 zeroRoot) 46)
 clear hW HU
 generalize w.heap.size = hb at *
 have c1:=sta_cell (i:=1) H1.out.drop rfl
 have HGET:=Lib.hid (H1.out.get (s:=g) (G:=G) (S:=Sg) (by simp) 0 n (by have:=HN.out; omega))
 go_upto_region 2 with (go_at_call 47; refine HGET.out.mono ?_; rintro e w2 ⟨xa, xm, xc, rfl, h2⟩; have H2:=Lib.hid h2; clear h2)
 clear c1 HGET H1
 have hrow : Row w2 9 1 (.slice xa xm xc) (strV E):=by
  have:=H2.out.has (x:=.row (.slice xa xm xc) ((G.entries.drop 0).take n)) (by simp)
  rw [List.drop_zero, ← HE.out.2.2.1] at this
  exact this
 obtain rfl : xm = E.length:=hrow.view.len1.1
 have HL:=Lib.hid (leaves_any w2 xa xc E hrow.view (by have:=HE.out.1; omega) HE.out.2.1 H2.out.tab)
 obtain ⟨C, hC⟩ : ∃ C : List Value, headC (n : Int) Rt = C:=⟨_, rfl⟩
 have hf1:=fold_build (size:=(n : Int)) HR32.out
 have lC:=headC_len (size:=(n : Int)) HR32.out
 have oC : ∀ v ∈ headC (n : Int) Rt, v.oneCell' = true:=head_oneCell
 rw [hC] at hf1 lC oC
 simp only [zeros, List.replicate] at hf1
 have lH : (bytes8 Rt).length = 32:=by rw [bytes8_len, HR32.out]
 have HC:=Lib.hid (And.intro hC (And.intro lC oC))
 clear hrow hC lC oC
 go_wp2_with (first
  | (go_at_call 48; refine HL.out.mono ?_; rintro e w3 ⟨la, lc, rfl, hrow3, hk3, ho3⟩; have H3:=Lib.hid (H2.out.add (x:=.hrow (.slice la E.length lc) (E.map entF)) hk3 hrow3 ho3); have hrt:=root_any w3 _ _ hrow3.view (ents_32 _) (by rw [List.length_map]; have:=HE.out.1; omega) H3.out.tab; rw [← HE.out.2.2.2] at hrt; have HRT:=Lib.hid hrt; clear hrow3 hk3 ho3 hrt)
  | (go_at_call 28; refine HRT.out.mono ?_; rintro e w4 ⟨rfl, hk4⟩; have H4:=Lib.hid ((H3.out.same hk4).drop.drop); clear hk4)
  | ((with_reducible show wpList _ _ _ (⟨none, .store _ (.tmp 4) _, _, _, _, _⟩::_) _ _); refine wpList_store_mid rfl 46 _ _ rfl hb 0 C.toArray rfl rfl ?hth ?hi ?h1 ?_))
 case hth=>exact (H4.out.whole (vs:=C) (by rw [HC.out.2.1, head0_len])).1
 case hi=>exact (by rw [List.size_toArray, HC.out.2.1]; exact info_head)
 case h1=>exact all_oneCell_toArray HC.out.2.2
 have hst:=(H4.out.whole (vs:=C) (by rw [HC.out.2.1, head0_len])).2
 have hC:=HC.out.1
 refine bodyPost_ret (hst.blk1.result rfl rfl Tryz.underlying46 rfl (by rw [HC.out.2.1]; exact info_head)) rfl ⟨?_, hst.drop⟩
 show _ = Ending.returned (.agg (headC (n : Int) Rt).toArray)
 rw [hC]
theorem sta_key (h : Ows w0 w d M (staO s r g lv R G Sr Sg Os)) : Calls Tryz.prog 16 #[.pointer (some ⟨s, 0, none⟩)] w fun e w'=>e = .returned (hashV (rootF (leavesF R.seed.data.toList)))∧Ows w0 w' d M (staO s r g lv R G Sr Sg Os):=by
 have HU:=Lib.hid h
 obtain ⟨K, hK⟩ : ∃ K, K = rootF (leavesF R.seed.data.toList):=⟨_, rfl⟩
 have hK32 : K.length = 32:=by rw [hK]; exact rootF_len (leaves_32 _)
 rw [← hK]
 have HK:=Lib.hid (And.intro hK hK32)
 clear h hK hK32
 go_enter Tryz.func16, Tryz.ntmps16
 go_upto_region 1 with fail
 generalize hW : World.alloc w _ = W
 have H1 : Hid (Ows w0 W d M (.blk w.heap.size (zeros 32) 24::staO s r g lv R G Sr Sg Os)):=Lib.hid (by rw [← hW]; exact HU.out.new (zeros 32) 24)
 clear hW HU
 generalize w.heap.size = hb at *
 have c0:=sta_cell (i:=0) H1.out.drop rfl
 have hn:=sta_none H1.out.drop
 have hk:=H1.out.key (r:=r) (R:=R) (S:=Sr) (by simp)
 rw [← HK.out.1] at hk
 have HKEY:=Lib.hid hk
 clear hk
 go_wp2_with (first
  | (go_at_call 43; refine hn.mono ?_; rintro e w' ⟨rfl, rfl⟩)
  | (go_at_call 50; refine HKEY.out.mono ?_; rintro e w4 ⟨rfl, h4⟩; have H4:=Lib.hid h4; clear h4)
  | ((with_reducible show wpList _ _ _ (⟨none, .store _ (.tmp 2) _, _, _, _, _⟩::_) _ _); refine wpList_store_mid rfl 24 _ _ rfl hb 0 (bytes8 K).toArray rfl rfl ?hth ?hi ?h1 ?_))
 case hth=>exact (H4.out.whole (vs:=bytes8 K) (by rw [bytes8_len, HK.out.2, zeros_len])).1
 case hi=>exact info_hash HK.out.2
 case h1=>exact all_oneCell_toArray (fun y hy=>u8_oneCell y hy)
 have hst:=(H4.out.whole (vs:=bytes8 K) (by rw [bytes8_len, HK.out.2, zeros_len])).2
 exact bodyPost_ret (hst.blk1.result rfl rfl Tryz.underlying24 rfl (by rw [bytes8_len, HK.out.2]; exact info_h32)) rfl ⟨rfl, hst.drop⟩
def StaTo (w0 : World) (d s r g : Nat) (lv : Value) (R : RingM) (Sr : Nat → Prop) (Os : List Ob) (y : Int × SegM × DiskM) (e : Ending) (w' : World) : Prop:=e = .returned (.int .i64 y.1)∧∃ Sg, Ows w0 w' d y.2.2 (staO s r g lv R y.2.1 Sr Sg Os)
theorem station_append (h : Ows w0 w d M (staO s r g lv R G Sr Sg Os)) (p : By) (hc : M.files.length + M.loose.length < 80000000) {y : Int × SegM × DiskM} (he : G.append M [p] = y) :
  Calls Tryz.prog 15 #[.pointer (some ⟨s, 0, none⟩), .string ⟨p.toArray⟩] w (StaTo w0 d s r g lv R Sr Os y):=by
 have c1:=sta_cell (i:=1) h rfl
 have hn:=sta_none h
 have h1 : Ows w0 (w.alloc (.cells (strV [p]).toArray 9)) d M (.row (.slice (some ⟨w.heap.size, 0, none⟩) 1 1) [p]::staO s r g lv R G Sr Sg Os) :=
  h.add (x:=.row (.slice (some ⟨w.heap.size, 0, none⟩) 1 1) [p]) ((Kept.refl _ _).alloc _) (Row.fresh1 (Blk.new w (strV [p]) 9) rfl (by omega) (by omega)) (fun k q=>by
   have : (Value.slice (some ⟨w.heap.size, 0, none⟩) 1 1).ownBlock = some k:=q
   simp [Value.ownBlock] at this; omega)
 have h2:=Ows.mv (A:=[.row (.slice (some ⟨w.heap.size, 0, none⟩) 1 1) [p], .blk s (staC r g lv) 66, .ring r R Sr]) h1
 have HA:=Lib.hid ((h2.append (some ⟨w.heap.size, 0, none⟩) 1 [p] (h1.has (x:=.row (.slice (some ⟨w.heap.size, 0, none⟩) 1 1) [p]) (by simp)).view (fun _ k q=>Or.inr ⟨.row (.slice (some ⟨w.heap.size, 0, none⟩) 1 1) [p], by simp, q⟩) hc he).mono (fun e w' (q : SegTo w0 d g _ y e w')=>show StaTo w0 d s r g lv R Sr Os y e w' from ⟨q.1, by
  obtain ⟨S, hS⟩:=q.2
  exact ⟨S, (Ows.mv' (A:=[.row (.slice (some ⟨w.heap.size, 0, none⟩) 1 1) [p], .blk s (staC r g lv) 66, .ring r R Sr]) hS).drop⟩⟩))
 clear h h1 h2 he hc
 go_enter Tryz.func15, Tryz.ntmps15
 go_wp2_with (first
  | (go_at_call 43; refine hn.mono ?_; rintro e w' ⟨rfl, rfl⟩)
  | (go_at_call 49; refine HA.out.mono ?_; intro e w2 hq; obtain ⟨he, hs⟩:=hq; subst he; have HS:=Lib.hid hs; clear hs))
 go_ret
 exact ⟨rfl, HS.out⟩
end
abbrev StaS (w' : World) (s r g : Nat) : Prop:=w'.cell? ⟨s, 0, none⟩ = some (.pointer (some ⟨r, 0, none⟩))∧w'.cell? ⟨s, 1, none⟩ = some (.pointer (some ⟨g, 0, none⟩))
section
variable {w0 w w' : World} {d s r g b : Nat} {M M' : DiskM} {Os : List Ob} {R R' : RingM} {G : SegM} {Sr Sg S' : Nat → Prop} {lv : Value} {x : Ob}
theorem staS (h : Ows w0 w d M (staO s r g lv R G Sr Sg Os)) : StaS w s r g:=⟨sta_cell (i:=0) h rfl, sta_cell (i:=1) h rfl⟩
theorem pub_alloc (h : Ows w0 w d M (staO s r g lv R G Sr Sg Os)) : Ows w0 (w.alloc (.cells signed0C.toArray 51)) d M (staO s r g lv R G Sr Sg (.blk w.heap.size signed0C 51::Os)) :=
 Ows.mv' (A:=[.blk s (staC r g lv) 66, .ring r R Sr, .seg g G Sg]) (h.new signed0C 51)
theorem pub_alloc_eq {W : World} (h : Ows w0 w d M (staO s r g lv R G Sr Sg Os)) (hW : w.alloc (.cells signed0C.toArray 51) = W) : Ows w0 W d M (staO s r g lv R G Sr Sg (.blk w.heap.size signed0C 51::Os)):=by rw [← hW]; exact pub_alloc h
theorem pub_ring (h : Ows w0 w d M (staO s r g lv R G Sr Sg Os)) : Ows w0 w d M (.ring r R Sr::.blk s (staC r g lv) 66::.seg g G Sg::Os):=h.two
theorem pub_back {v : Value} {l : List By} (h : Ows w0 w d M (.hrow v l::.ring r R Sr::.blk s (staC r g lv) 66::.seg g G Sg::Os)) : Ows w0 w d M (staO s r g lv R G Sr Sg (.hrow v l::Os)):=by
 have h2 : Ows w0 w d M (.hrow v l::.blk s (staC r g lv) 66::.ring r R Sr::.seg g G Sg::Os):=h.perm (List.Perm.cons _ (List.Perm.swap _ _ _))
 exact Ows.mv' (A:=[.blk s (staC r g lv) 66, .ring r R Sr, .seg g G Sg]) h2
theorem pub_back_no (h : Ows w0 w d M (.ring r R Sr::.blk s (staC r g lv) 66::.seg g G Sg::Os)) : Ows w0 w d M (staO s r g lv R G Sr Sg Os):=h.two
theorem pub_swap {y : Ob} (h : Ows w0 w d M (staO s r g lv R G Sr Sg (x::y::Os))) : Ows w0 w d M (staO s r g lv R G Sr Sg (y::x::Os)) :=
 h.perm (List.Perm.cons _ (List.Perm.cons _ (List.Perm.cons _ (List.Perm.swap _ _ _))))
theorem sta_front (h : Ows w0 w d M (staO s r g lv R G Sr Sg (x::Os))) : Ows w0 w d M (x::staO s r g lv R G Sr Sg Os):=Ows.mv (A:=[.blk s (staC r g lv) 66, .ring r R Sr, .seg g G Sg]) h
theorem sta_rear (h : Ows w0 w d M (x::staO s r g lv R G Sr Sg Os)) : Ows w0 w d M (staO s r g lv R G Sr Sg (x::Os)):=Ows.mv' (A:=[.blk s (staC r g lv) 66, .ring r R Sr, .seg g G Sg]) h
theorem pub_store {c vs : List Value} {t : TypeId} (h : Ows w0 w d M (staO s r g lv R G Sr Sg (.blk b c t::Os))) (hv : vs.length = 36) (hc : c.length = 36:=by exact signed0_len) : w.there b 0 vs.toArray.size∧Ows w0 (w.setCells b 0 vs) d M (staO s r g lv R G Sr Sg (.blk b vs t::Os)):=by
 obtain ⟨h1, h2⟩:=(sta_front h).whole (vs:=vs) (by rw [hv, hc])
 exact ⟨h1, sta_rear h2⟩
theorem log_get (h : Ows w0 w d M (staO s r g lv R G Sr Sg Os)) : Calls Tryz.prog 47 #[.pointer (some ⟨g, 0, none⟩), .int .i64 0, .int .i64 (G.entries.length : Int)] w fun e w'=>∃ a c, e = .returned (.tuple #[.slice a G.entries.length c, .int .i64 0])∧Ows w0 w' d M (.row (.slice a G.entries.length c) G.entries::staO s r g lv R G Sr Sg Os):=by
 refine (h.get (s:=g) (G:=G) (S:=Sg) (by simp) 0 G.entries.length (by omega)).mono ?_
 rintro e w2 ⟨xa, xm, xc, rfl, h2⟩
 rw [List.drop_zero, List.take_length] at h2
 have hrow : Row w2 9 1 (.slice xa xm xc) (strV G.entries):=h2.has (x:=.row (.slice xa xm xc) G.entries) (by simp)
 obtain rfl : xm = G.entries.length:=hrow.view.len1.1
 exact ⟨xa, xc, rfl, h2⟩
theorem sta_head_all {Rt : By} (h : Ows w0 w d M (staO s r g lv R G Sr Sg Os)) (hR : Rt = rootE G.entries) :
  Calls Tryz.prog 46 #[.pointer (some ⟨s, 0, none⟩), .int .i64 (G.entries.length : Int)] w fun e w'=>e = .returned (headV (G.entries.length : Int) Rt)∧Ows w0 w' d M (staO s r g lv R G Sr Sg Os):=by
 have h2:=sta_head h G.entries.length (Nat.le_refl _)
 rw [List.take_length] at h2
 rw [hR]
 exact h2
theorem fold_signed {Y : List Value} (hY : Y.length = 36) : Y.zipIdx.foldl (fun (cs : Array Value) (x : Value × Nat)=>cs.setIfInBounds x.snd x.fst) (((.int .i64 0::zeros 32) ++ [.int .i64 0, .string ⟨#[]⟩, .slice none 0 0] : List Value)).toArray = Y.toArray:=by
 have hz : ((.int .i64 0::zeros 32) ++ [.int .i64 0, .string ⟨#[]⟩, .slice none 0 0] : List Value).length = 36:=by rw [List.length_append, List.length_cons, zeros_len]; rfl
 rw [foldl_zip Y _ 0 (by rw [hY, hz]; omega), splice_whole (by rw [hY, hz])]
theorem pub_set {nb : Nat} {Y : List Value} (h : Ows w0 w d M (.blk nb Y 51::staO s r g lv R G Sr Sg Os)) : Ows w0 (w.setCell ⟨s, 2, none⟩ (.slice (some ⟨nb, 0, none⟩) 1 1)) d M (staO s r g (.slice (some ⟨nb, 0, none⟩) 1 1) R G Sr Sg (.blk nb Y 51::Os)):=by
 have h2:=h.two
 have h3:=h2.turn (kept_cell w s 2 (.slice (some ⟨nb, 0, none⟩) 1 1)) (h2.blk1.set 2 _)
 exact sta_rear h3.two
theorem pub_set_eq {nb : Nat} {Y : List Value} {W : World} (h : Ows w0 w d M (.blk nb Y 51::staO s r g lv R G Sr Sg Os)) (hW : w.setCell ⟨s, 2, none⟩ (.slice (some ⟨nb, 0, none⟩) 1 1) = W) : Ows w0 W d M (staO s r g (.slice (some ⟨nb, 0, none⟩) 1 1) R G Sr Sg (.blk nb Y 51::Os)):=by rw [← hW]; exact pub_set h
theorem pub_b2 {y : Ob} (h : Ows w0 w d M (staO s r g lv R G Sr Sg (x::y::Os))) : Ows w0 w d M (y::x::staO s r g lv R G Sr Sg Os):=by
 exact Ows.mv (A:=[x, .blk s (staC r g lv) 66, .ring r R Sr, .seg g G Sg]) (sta_front h)
theorem pub_end {nb b2 hb : Nat} {Y : List Value} {v : Value} {l : List By} (h : Ows w0 w d M (staO s r g lv R G Sr Sg (.blk nb Y 51::.blk b2 Y 51::.hrow v l::.blk hb signed0C 51::Os))) (hY : Y.length = 36) :
  w.there hb 0 Y.toArray.size∧Blk (w.setCells hb 0 Y) hb Y 51∧Ows w0 (w.setCells hb 0 Y) d M (staO s r g lv R G Sr Sg (.blk nb Y 51::.hrow v l::Os)):=by
 have h2:=Ows.mv (A:=[.blk s (staC r g lv) 66, .ring r R Sr, .seg g G Sg, .blk nb Y 51, .blk b2 Y 51, .hrow v l]) h
 obtain ⟨h3, h4⟩:=h2.whole (vs:=Y) (by rw [hY, signed0_len])
 refine ⟨h3, h4.blk1, (h4.drop).sub ?_⟩
 exact List.Sublist.cons_cons _ (List.Sublist.cons_cons _ (List.Sublist.cons_cons _ (List.Sublist.cons_cons _ (List.sublist_cons_self _ _))))
def PubYes (w0 : World) (d s r g : Nat) (G : SegM) (Sg : Nat → Prop) (Os : List Ob) (size : Nat) (root : By) (i : Nat) (R' : RingM) (M' : DiskM) (e : Ending) (w' : World) : Prop :=
 ∃ nb a c Y S', e = .returned (.tuple #[.agg Y.toArray, .int .i64 0])∧Hid (Y = signedC (size : Int) root (i : Int) ⟨(signF R'.seed.data.toList i (digestF size root)).toArray⟩ (.slice a 3 c)∧Y.length = 36∧(∀ v ∈ Y, v.oneCell' = true) ∧
  Ows w0 w' d M' (staO s r g (.slice (some ⟨nb, 0, none⟩) 1 1) R' G S' Sg (.blk nb Y 51::.hrow (.slice a 3 c) (pathF (leavesF R'.seed.data.toList) i)::Os)))
def PubNo (w0 : World) (d s r g : Nat) (lv : Value) (G : SegM) (Sr Sg : Nat → Prop) (Os : List Ob) (x : Int) (R' : RingM) (M' : DiskM) (e : Ending) (w' : World) : Prop :=
 e = .returned (.tuple #[.agg signed0C.toArray, .int .i64 x])∧Ows w0 w' d M' (staO s r g lv R' G Sr Sg Os)
end
section
variable {w0 w w' : World} {d s r g b : Nat} {M M' : DiskM} {Os : List Ob} {R R' : RingM} {G : SegM} {Sr Sg S' : Nat → Prop} {lv : Value} {x : Ob}
theorem publish_no (h : Ows w0 w d M (staO s r g lv R G Sr Sg Os)) (hne : 0 < G.entries.length) {rt : By} (hrt : rt = rootE G.entries) {x : Int} (hx : x ≠ 0) (hs : ∀ w1 Os1, Ows w0 w1 d M (.ring r R Sr::Os1) → Calls Tryz.prog 45 #[.pointer (some ⟨r, 0, none⟩), headV (G.entries.length : Int) rt] w1 (SigNoSt w0 d r Os1 Sr x R' M')) :
  Calls Tryz.prog 13 #[.pointer (some ⟨s, 0, none⟩)] w (PubNo w0 d s r g lv G Sr Sg Os x R' M'):=by
 have HU:=Lib.hid h
 have HER:=Lib.hid hrt
 have HSG:=Lib.hid hs
 have z0 : ((G.entries.length : Int) == 0) = false:=by rw [beq_eq_false_iff_ne]; omega
 have z1 : decide ((G.entries.length : Int) = 0) = false:=decide_eq_false (by omega)
 have HX:=Lib.hid hx
 clear hx
 clear h hs hrt hne
 go_enter Tryz.func13, Tryz.ntmps13
 go_upto_region 1 with fail
 generalize hW : World.alloc w _ = W
 have HO:=Lib.hid (show Ows w0 W d M (staO s r g lv R G Sr Sg (.blk w.heap.size signed0C 51::Os)) from by rw [← hW]; exact pub_alloc HU.out)
 clear hW HU
 generalize w.heap.size = hb at *
 have c1:=sta_cell (i:=1) HO.out rfl
 have hn:=sta_none HO.out
 have hcn:=HO.out.count (s:=g) (G:=G) (S:=Sg) (by simp)
 go_upto_region 5 with (first
  | (go_at_call 43; refine hn.mono ?_; rintro e w' ⟨rfl, rfl⟩)
  | (go_at_call 44; refine hcn.mono ?_; rintro e w' ⟨rfl, rfl⟩))
 clear hn hcn c1 z0 z1
 have HO:=Lib.hid (HO.out.same (Kept.refl _ _).drew)
 refine wp_region_held_drew (S:=(fun w'=>StaS w' s r g)) (by kernel_rfl) (staS HO.out) (fun hH0=>?_)
 generalize World.drew W = Wd at HO hH0 ⊢
 refine tk 0 rfl (fun _ _ _ h=>h) hH0 ?_
 refine tk 1 rfl (fun _ _ _ h=>h) hH0 ?_
 refine tk 2 rfl (fun _ _ _ h=>h) hH0 ?_
 refine tk 3 rfl (fun _ _ _ h=>h) hH0 ?_
 refine tk 4 rfl (fun _ _ _ h=>h) hH0 ?_
 refine tk 5 rfl (fun _ _ _ h=>h) hH0 ?_
 refine tk 6 rfl (fun _ _ _ h=>h) hH0 ?_
 refine tk 7 rfl (fun _ _ _ h=>h) hH0 ?_
 refine tk 8 rfl (fun _ _ _ h=>h) hH0 ?_
 refine wpAnyH_ready (rs:=[9, 15]) (by kernel_rfl) (by simp) ?_
 refine AllReadyH.cons (o := ⟨some 28, .call { callee := .value (.func 44), args := #[.tmp 27], argTypes := #[64] }, 3, "station.go:79", #[⟨8, .data⟩], none⟩) rfl (fun K hK => ?_) ?_
 ·go_simp
  refine (HO.out.count (s:=g) (G:=G) (S:=Sg) (by simp)).mono ?_
  rintro e wc ⟨rfl, rfl⟩
  refine hK.out _ _ (hH0) (fun hH1=>?_)
  clear hK K
  try simp only [lyA, lyB, lyC, lyD]
  refine wpAnyH_ready (rs:=[10, 15]) (by kernel_rfl) (by simp) ?_
  refine AllReadyH.cons (o := ⟨some 29, .call { callee := .value (.func 46), args := #[.tmp 23, .tmp 28], argTypes := #[44, 3] }, 46, "station.go:79", #[⟨4, .data⟩, ⟨9, .data⟩, ⟨9, .chain⟩], none⟩) rfl (fun K hK => ?_) ?_
  ·go_simp
   refine (sta_head_all HO.out HER.out).mono ?_
   rintro e wh ⟨rfl, hh⟩
   have HO:=Lib.hid hh
   clear hh
   refine hK.out _ _ (staS HO.out) (fun hH2=>?_)
   clear hK K
   try simp only [lyA, lyB, lyC, lyD]
   refine wpAnyH_ready (rs:=[11, 15]) (by kernel_rfl) (by simp) ?_
   refine AllReadyH.cons (o := ⟨some 30, .call { callee := .value (.func 45), args := #[.tmp 22, .tmp 29], argTypes := #[63, 46] }, 52, "station.go:79", #[⟨3, .data⟩, ⟨10, .data⟩, ⟨10, .chain⟩], none⟩) rfl (fun K hK => ?_) ?_
   ·go_simp
    refine (HSG.out _ _ (pub_ring HO.out)).mono ?_
    rintro e ws ⟨rfl, hs⟩
    have HO:=Lib.hid (pub_back_no hs)
    clear hs
    refine hK.out _ _ (staS HO.out) (fun hH3=>?_)
    clear hK K
    try simp only [lyA, lyB, lyC, lyD]
    refine tk 12 rfl (fun _ _ _ h=>h) hH3 ?_
    refine tk 13 rfl (fun _ _ _ h=>h) hH3 ?_
    refine tk 14 rfl (fun _ _ _ h=>h) hH3 ?_
    refine rd1 15 (fun K hK=>?_)
    go_simp
    refine hK.out _ _ (staS (pub_alloc HO.out)) (fun hH4=>?_)
    clear hK K
    try simp only [lyA, lyB, lyC, lyD]
    generalize hwa : World.alloc _ _ = wa at hH4 ⊢
    have HO:=Lib.hid (pub_alloc_eq HO.out hwa)
    clear hwa
    generalize (World.heap _).size = b2 at HO ⊢
    refine rd1 16 (fun K hK=>?_)
    obtain ⟨st1, st2⟩:=pub_store HO.out signed0_len
    have HO:=Lib.hid st2
    clear st2
    rw [if_pos (by rfl)]
    refine wp_store_mid _ _ _ rfl b2 0 signed0C.toArray rfl rfl st1 (by rw [List.size_toArray, signed0_len]; exact info_signed) (signed0_one) ?_
    simp only [Act.put]
    refine hK.out _ _ (staS HO.out) (fun hH5=>?_)
    clear hK K
    try simp only [lyA, lyB, lyC, lyD]
    refine tk 17 rfl (fun _ _ _ h=>h) hH5 ?_
    refine wpAnyH_done (by kernel_rfl) ?_ _
    have HO5:=Lib.hid (show Ows w0 (World.setCells _ b2 0 signed0C.toArray.toList) d M' _ from HO.out)
    generalize World.setCells _ b2 0 signed0C.toArray.toList = w5 at HO5 ⊢
    clear HO
    have x1 : (x == 0) = false:=by simpa using HX.out
    have x2 : (x != 0) = true:=by simpa using HX.out
    have HI:=Lib.hid (show (Tryz.prog.info? 51).map (·.size) = some signed0C.length by rw [signed0_len]; exact info_signed)
    go_wp2_with ((with_reducible show wpList _ _ _ (⟨none, .store _ (.tmp 2) _, _, _, _, _⟩::_) _ _); refine wpList_store_mid rfl 51 _ _ rfl hb 0 signed0C.toArray rfl rfl ?htw1 ?hiw1 ?h1w1 ?_)
    case htw1=>exact (pub_store ((sta_front HO5.out).drop) signed0_len).1
    case hiw1=>exact (by rw [List.size_toArray]; exact HI.out)
    case h1w1=>exact signed0_one
    have hst:=(pub_store ((sta_front HO5.out).drop) signed0_len).2
    exact bodyPost_ret ((sta_front hst).blk1.result2 rfl rfl Tryz.underlying51 rfl HI.out) rfl ⟨rfl, (sta_front hst).drop⟩
   refine AllReadyH.cons (o := ⟨some 4, .alloc 51, 0, "station.go:79", #[], none⟩) rfl (fun K hK => ?_) AllReadyH.nil
   go_simp
   refine hK.out _ _ (staS (pub_alloc HO.out)) (fun hH3=>?_)
   clear hK K
   try simp only [lyA, lyB, lyC, lyD]
   generalize hwa : World.alloc _ _ = wa at hH3 ⊢
   have HO:=Lib.hid (pub_alloc_eq HO.out hwa)
   clear hwa
   generalize (World.heap _).size = b2 at HO ⊢
   refine rd1 11 (fun K hK=>?_)
   go_simp
   refine (HSG.out _ _ (pub_ring HO.out)).mono ?_
   rintro e ws ⟨rfl, hs⟩
   have HO:=Lib.hid (pub_back_no hs)
   clear hs
   refine hK.out _ _ (staS HO.out) (fun hH4=>?_)
   clear hK K
   try simp only [lyA, lyB, lyC, lyD]
   refine tk 12 rfl (fun _ _ _ h=>h) hH4 ?_
   refine tk 13 rfl (fun _ _ _ h=>h) hH4 ?_
   refine tk 14 rfl (fun _ _ _ h=>h) hH4 ?_
   refine rd1 16 (fun K hK=>?_)
   obtain ⟨st1, st2⟩:=pub_store HO.out signed0_len
   have HO:=Lib.hid st2
   clear st2
   rw [if_pos (by rfl)]
   refine wp_store_mid _ _ _ rfl b2 0 signed0C.toArray rfl rfl st1 (by rw [List.size_toArray, signed0_len]; exact info_signed) (signed0_one) ?_
   simp only [Act.put]
   refine hK.out _ _ (staS HO.out) (fun hH5=>?_)
   clear hK K
   try simp only [lyA, lyB, lyC, lyD]
   refine tk 17 rfl (fun _ _ _ h=>h) hH5 ?_
   refine wpAnyH_done (by kernel_rfl) ?_ _
   have HO5:=Lib.hid (show Ows w0 (World.setCells _ b2 0 signed0C.toArray.toList) d M' _ from HO.out)
   generalize World.setCells _ b2 0 signed0C.toArray.toList = w5 at HO5 ⊢
   clear HO
   have x1 : (x == 0) = false:=by simpa using HX.out
   have x2 : (x != 0) = true:=by simpa using HX.out
   have HI:=Lib.hid (show (Tryz.prog.info? 51).map (·.size) = some signed0C.length by rw [signed0_len]; exact info_signed)
   go_wp2_with ((with_reducible show wpList _ _ _ (⟨none, .store _ (.tmp 2) _, _, _, _, _⟩::_) _ _); refine wpList_store_mid rfl 51 _ _ rfl hb 0 signed0C.toArray rfl rfl ?htw2 ?hiw2 ?h1w2 ?_)
   case htw2=>exact (pub_store ((sta_front HO5.out).drop) signed0_len).1
   case hiw2=>exact (by rw [List.size_toArray]; exact HI.out)
   case h1w2=>exact signed0_one
   have hst:=(pub_store ((sta_front HO5.out).drop) signed0_len).2
   exact bodyPost_ret ((sta_front hst).blk1.result2 rfl rfl Tryz.underlying51 rfl HI.out) rfl ⟨rfl, (sta_front hst).drop⟩
  refine AllReadyH.cons (o := ⟨some 4, .alloc 51, 0, "station.go:79", #[], none⟩) rfl (fun K hK => ?_) AllReadyH.nil
  go_simp
  refine hK.out _ _ (staS (pub_alloc HO.out)) (fun hH2=>?_)
  clear hK K
  try simp only [lyA, lyB, lyC, lyD]
  generalize hwa : World.alloc _ _ = wa at hH2 ⊢
  have HO:=Lib.hid (pub_alloc_eq HO.out hwa)
  clear hwa
  generalize (World.heap _).size = b2 at HO ⊢
  refine rd1 10 (fun K hK=>?_)
  go_simp
  refine (sta_head_all HO.out HER.out).mono ?_
  rintro e wh ⟨rfl, hh⟩
  have HO:=Lib.hid hh
  clear hh
  refine hK.out _ _ (staS HO.out) (fun hH3=>?_)
  clear hK K
  try simp only [lyA, lyB, lyC, lyD]
  refine rd1 11 (fun K hK=>?_)
  go_simp
  refine (HSG.out _ _ (pub_ring HO.out)).mono ?_
  rintro e ws ⟨rfl, hs⟩
  have HO:=Lib.hid (pub_back_no hs)
  clear hs
  refine hK.out _ _ (staS HO.out) (fun hH4=>?_)
  clear hK K
  try simp only [lyA, lyB, lyC, lyD]
  refine tk 12 rfl (fun _ _ _ h=>h) hH4 ?_
  refine tk 13 rfl (fun _ _ _ h=>h) hH4 ?_
  refine tk 14 rfl (fun _ _ _ h=>h) hH4 ?_
  refine rd1 16 (fun K hK=>?_)
  obtain ⟨st1, st2⟩:=pub_store HO.out signed0_len
  have HO:=Lib.hid st2
  clear st2
  rw [if_pos (by rfl)]
  refine wp_store_mid _ _ _ rfl b2 0 signed0C.toArray rfl rfl st1 (by rw [List.size_toArray, signed0_len]; exact info_signed) (signed0_one) ?_
  simp only [Act.put]
  refine hK.out _ _ (staS HO.out) (fun hH5=>?_)
  clear hK K
  try simp only [lyA, lyB, lyC, lyD]
  refine tk 17 rfl (fun _ _ _ h=>h) hH5 ?_
  refine wpAnyH_done (by kernel_rfl) ?_ _
  have HO5:=Lib.hid (show Ows w0 (World.setCells _ b2 0 signed0C.toArray.toList) d M' _ from HO.out)
  generalize World.setCells _ b2 0 signed0C.toArray.toList = w5 at HO5 ⊢
  clear HO
  have x1 : (x == 0) = false:=by simpa using HX.out
  have x2 : (x != 0) = true:=by simpa using HX.out
  have HI:=Lib.hid (show (Tryz.prog.info? 51).map (·.size) = some signed0C.length by rw [signed0_len]; exact info_signed)
  go_wp2_with ((with_reducible show wpList _ _ _ (⟨none, .store _ (.tmp 2) _, _, _, _, _⟩::_) _ _); refine wpList_store_mid rfl 51 _ _ rfl hb 0 signed0C.toArray rfl rfl ?htw3 ?hiw3 ?h1w3 ?_)
  case htw3=>exact (pub_store ((sta_front HO5.out).drop) signed0_len).1
  case hiw3=>exact (by rw [List.size_toArray]; exact HI.out)
  case h1w3=>exact signed0_one
  have hst:=(pub_store ((sta_front HO5.out).drop) signed0_len).2
  exact bodyPost_ret ((sta_front hst).blk1.result2 rfl rfl Tryz.underlying51 rfl HI.out) rfl ⟨rfl, (sta_front hst).drop⟩
 refine AllReadyH.cons (o := ⟨some 4, .alloc 51, 0, "station.go:79", #[], none⟩) rfl (fun K hK => ?_) AllReadyH.nil
 go_simp
 refine hK.out _ _ (staS (pub_alloc HO.out)) (fun hH1=>?_)
 clear hK K
 try simp only [lyA, lyB, lyC, lyD]
 generalize hwa : World.alloc _ _ = wa at hH1 ⊢
 have HO:=Lib.hid (pub_alloc_eq HO.out hwa)
 clear hwa
 generalize (World.heap _).size = b2 at HO ⊢
 refine rd1 9 (fun K hK=>?_)
 go_simp
 refine (HO.out.count (s:=g) (G:=G) (S:=Sg) (by simp)).mono ?_
 rintro e wc ⟨rfl, rfl⟩
 refine hK.out _ _ (hH1) (fun hH2=>?_)
 clear hK K
 try simp only [lyA, lyB, lyC, lyD]
 refine rd1 10 (fun K hK=>?_)
 go_simp
 refine (sta_head_all HO.out HER.out).mono ?_
 rintro e wh ⟨rfl, hh⟩
 have HO:=Lib.hid hh
 clear hh
 refine hK.out _ _ (staS HO.out) (fun hH3=>?_)
 clear hK K
 try simp only [lyA, lyB, lyC, lyD]
 refine rd1 11 (fun K hK=>?_)
 go_simp
 refine (HSG.out _ _ (pub_ring HO.out)).mono ?_
 rintro e ws ⟨rfl, hs⟩
 have HO:=Lib.hid (pub_back_no hs)
 clear hs
 refine hK.out _ _ (staS HO.out) (fun hH4=>?_)
 clear hK K
 try simp only [lyA, lyB, lyC, lyD]
 refine tk 12 rfl (fun _ _ _ h=>h) hH4 ?_
 refine tk 13 rfl (fun _ _ _ h=>h) hH4 ?_
 refine tk 14 rfl (fun _ _ _ h=>h) hH4 ?_
 refine rd1 16 (fun K hK=>?_)
 obtain ⟨st1, st2⟩:=pub_store HO.out signed0_len
 have HO:=Lib.hid st2
 clear st2
 rw [if_pos (by rfl)]
 refine wp_store_mid _ _ _ rfl b2 0 signed0C.toArray rfl rfl st1 (by rw [List.size_toArray, signed0_len]; exact info_signed) (signed0_one) ?_
 simp only [Act.put]
 refine hK.out _ _ (staS HO.out) (fun hH5=>?_)
 clear hK K
 try simp only [lyA, lyB, lyC, lyD]
 refine tk 17 rfl (fun _ _ _ h=>h) hH5 ?_
 refine wpAnyH_done (by kernel_rfl) ?_ _
 have HO5:=Lib.hid (show Ows w0 (World.setCells _ b2 0 signed0C.toArray.toList) d M' _ from HO.out)
 generalize World.setCells _ b2 0 signed0C.toArray.toList = w5 at HO5 ⊢
 clear HO
 have x1 : (x == 0) = false:=by simpa using HX.out
 have x2 : (x != 0) = true:=by simpa using HX.out
 have HI:=Lib.hid (show (Tryz.prog.info? 51).map (·.size) = some signed0C.length by rw [signed0_len]; exact info_signed)
 go_wp2_with ((with_reducible show wpList _ _ _ (⟨none, .store _ (.tmp 2) _, _, _, _, _⟩::_) _ _); refine wpList_store_mid rfl 51 _ _ rfl hb 0 signed0C.toArray rfl rfl ?htw4 ?hiw4 ?h1w4 ?_)
 case htw4=>exact (pub_store ((sta_front HO5.out).drop) signed0_len).1
 case hiw4=>exact (by rw [List.size_toArray]; exact HI.out)
 case h1w4=>exact signed0_one
 have hst:=(pub_store ((sta_front HO5.out).drop) signed0_len).2
 exact bodyPost_ret ((sta_front hst).blk1.result2 rfl rfl Tryz.underlying51 rfl HI.out) rfl ⟨rfl, (sta_front hst).drop⟩
end
section
variable {w0 w w' : World} {d s r g b : Nat} {M M' : DiskM} {Os : List Ob} {R R' : RingM} {G : SegM} {Sr Sg S' : Nat → Prop} {lv : Value} {x : Ob}
theorem sta_log (h : Ows w0 w d M (staO s r g lv R G Sr Sg Os)) : Calls Tryz.prog 18 #[.pointer (some ⟨s, 0, none⟩)] w fun e w'=>∃ a c, e = .returned (.slice a G.entries.length c)∧Ows w0 w' d M (.row (.slice a G.entries.length c) G.entries::staO s r g lv R G Sr Sg Os):=by
 have HO:=Lib.hid (h.same (Kept.refl _ _).drew)
 have hn:=sta_none h
 clear h
 go_enter Tryz.func18, Tryz.ntmps18
 go_upto_region 3 with (go_at_call 43; refine hn.mono ?_; rintro e w' ⟨rfl, rfl⟩)
 refine wp_region_held_drew (S:=(fun w'=>StaS w' s r g)) (by kernel_rfl) (staS HO.out) (fun hH0=>?_)
 generalize World.drew w = Wd at HO hH0 ⊢
 refine tk 0 rfl (fun _ _ _ h=>h) hH0 ?_
 refine tk 1 rfl (fun _ _ _ h=>h) hH0 ?_
 refine tk 2 rfl (fun _ _ _ h=>h) hH0 ?_
 refine tk 3 rfl (fun _ _ _ h=>h) hH0 ?_
 refine tk 4 rfl (fun _ _ _ h=>h) hH0 ?_
 refine tk 5 rfl (fun _ _ _ h=>h) hH0 ?_
 refine tk 6 rfl (fun _ _ _ h=>h) hH0 ?_
 refine tk 7 rfl (fun _ _ _ h=>h) hH0 ?_
 refine rd1 8 (fun K hK=>?_)
 go_simp
 refine (HO.out.count (s:=g) (G:=G) (S:=Sg) (by simp)).mono ?_
 rintro e wc ⟨rfl, rfl⟩
 refine hK.out _ _ (hH0) (fun hH1=>?_)
 clear hK K
 try simp only [lyA, lyB, lyC, lyD]
 refine rd1 9 (fun K hK=>?_)
 go_simp
 refine (log_get HO.out).mono ?_
 rintro e wg ⟨xa, xc, rfl, hg⟩
 have HO:=Lib.hid (sta_rear hg)
 clear hg
 refine hK.out _ _ (staS HO.out) (fun hH2=>?_)
 clear hK K
 try simp only [lyA, lyB, lyC, lyD]
 refine tk 10 rfl (fun _ _ _ h=>h) hH2 ?_
 refine tk 11 rfl (fun _ _ _ h=>h) hH2 ?_
 refine tk 12 rfl (fun _ _ _ h=>h) hH2 ?_
 refine tk 13 rfl (fun _ _ _ h=>h) hH2 ?_
 refine tk 14 rfl (fun _ _ _ h=>h) hH2 ?_
 refine wpAnyH_done (by kernel_rfl) ?_ _
 go_wp2_with fail
 go_ret
 exact ⟨xa, xc, rfl, sta_front HO.out⟩
end
section
variable {w0 w w' : World} {d s r g b : Nat} {M M' : DiskM} {Os : List Ob} {R R' : RingM} {G : SegM} {Sr Sg S' : Nat → Prop} {lv : Value} {x : Ob}
theorem publish_yes (h : Ows w0 w d M (staO s r g lv R G Sr Sg Os)) (hne : 0 < G.entries.length) {rt : By} (hrt : rt = rootE G.entries) {i : Nat} (hs : ∀ w1 Os1, Ows w0 w1 d M (.ring r R Sr::Os1) → Calls Tryz.prog 45 #[.pointer (some ⟨r, 0, none⟩), headV (G.entries.length : Int) rt] w1 (SigSt w0 d r Os1 G.entries.length rt i R' M')) :
  Calls Tryz.prog 13 #[.pointer (some ⟨s, 0, none⟩)] w (PubYes w0 d s r g G Sg Os G.entries.length rt i R' M'):=by
 have HU:=Lib.hid h
 have HER:=Lib.hid hrt
 have HSG:=Lib.hid hs
 have z0 : ((G.entries.length : Int) == 0) = false:=by rw [beq_eq_false_iff_ne]; omega
 have z1 : decide ((G.entries.length : Int) = 0) = false:=decide_eq_false (by omega)
 clear h hs hrt hne
 go_enter Tryz.func13, Tryz.ntmps13
 go_upto_region 1 with fail
 generalize hW : World.alloc w _ = W
 have HO:=Lib.hid (show Ows w0 W d M (staO s r g lv R G Sr Sg (.blk w.heap.size signed0C 51::Os)) from by rw [← hW]; exact pub_alloc HU.out)
 clear hW HU
 generalize w.heap.size = hb at *
 have c1:=sta_cell (i:=1) HO.out rfl
 have hn:=sta_none HO.out
 have hcn:=HO.out.count (s:=g) (G:=G) (S:=Sg) (by simp)
 go_upto_region 5 with (first
  | (go_at_call 43; refine hn.mono ?_; rintro e w' ⟨rfl, rfl⟩)
  | (go_at_call 44; refine hcn.mono ?_; rintro e w' ⟨rfl, rfl⟩))
 clear hn hcn c1 z0 z1
 have HO:=Lib.hid (HO.out.same (Kept.refl _ _).drew)
 refine wp_region_held_drew (S:=(fun w'=>StaS w' s r g)) (by kernel_rfl) (staS HO.out) (fun hH0=>?_)
 generalize World.drew W = Wd at HO hH0 ⊢
 refine tk 0 rfl (fun _ _ _ h=>h) hH0 ?_
 refine tk 1 rfl (fun _ _ _ h=>h) hH0 ?_
 refine tk 2 rfl (fun _ _ _ h=>h) hH0 ?_
 refine tk 3 rfl (fun _ _ _ h=>h) hH0 ?_
 refine tk 4 rfl (fun _ _ _ h=>h) hH0 ?_
 refine tk 5 rfl (fun _ _ _ h=>h) hH0 ?_
 refine tk 6 rfl (fun _ _ _ h=>h) hH0 ?_
 refine tk 7 rfl (fun _ _ _ h=>h) hH0 ?_
 refine tk 8 rfl (fun _ _ _ h=>h) hH0 ?_
 refine wpAnyH_ready (rs:=[9, 15]) (by kernel_rfl) (by simp) ?_
 refine AllReadyH.cons (o := ⟨some 28, .call { callee := .value (.func 44), args := #[.tmp 27], argTypes := #[64] }, 3, "station.go:79", #[⟨8, .data⟩], none⟩) rfl (fun K hK => ?_) ?_
 ·go_simp
  refine (HO.out.count (s:=g) (G:=G) (S:=Sg) (by simp)).mono ?_
  rintro e wc ⟨rfl, rfl⟩
  refine hK.out _ _ (hH0) (fun hH1=>?_)
  clear hK K
  try simp only [lyA, lyB, lyC, lyD]
  refine wpAnyH_ready (rs:=[10, 15]) (by kernel_rfl) (by simp) ?_
  refine AllReadyH.cons (o := ⟨some 29, .call { callee := .value (.func 46), args := #[.tmp 23, .tmp 28], argTypes := #[44, 3] }, 46, "station.go:79", #[⟨4, .data⟩, ⟨9, .data⟩, ⟨9, .chain⟩], none⟩) rfl (fun K hK => ?_) ?_
  ·go_simp
   refine (sta_head_all HO.out HER.out).mono ?_
   rintro e wh ⟨rfl, hh⟩
   have HO:=Lib.hid hh
   clear hh
   refine hK.out _ _ (staS HO.out) (fun hH2=>?_)
   clear hK K
   try simp only [lyA, lyB, lyC, lyD]
   refine wpAnyH_ready (rs:=[11, 15]) (by kernel_rfl) (by simp) ?_
   refine AllReadyH.cons (o := ⟨some 30, .call { callee := .value (.func 45), args := #[.tmp 22, .tmp 29], argTypes := #[63, 46] }, 52, "station.go:79", #[⟨3, .data⟩, ⟨10, .data⟩, ⟨10, .chain⟩], none⟩) rfl (fun K hK => ?_) ?_
   ·go_simp
    refine (HSG.out _ _ (pub_ring HO.out)).mono ?_
    intro e ws hq
    obtain ⟨pa, pc, Y, S', rfl, hH⟩:=hq
    have HY:=Lib.hid (And.intro hH.out.1 (And.intro hH.out.2.1 hH.out.2.2.1))
    have HO:=Lib.hid (pub_back hH.out.2.2.2)
    clear hH
    refine hK.out _ _ (staS HO.out) (fun hH3=>?_)
    clear hK K
    try simp only [lyA, lyB, lyC, lyD]
    refine tk 12 rfl (fun _ _ _ h=>h) hH3 ?_
    refine tk 13 rfl (fun _ _ _ h=>h) hH3 ?_
    refine tk 14 rfl (fun _ _ _ h=>h) hH3 ?_
    refine rd1 15 (fun K hK=>?_)
    go_simp
    refine hK.out _ _ (staS (pub_alloc HO.out)) (fun hH4=>?_)
    clear hK K
    try simp only [lyA, lyB, lyC, lyD]
    generalize hwa : World.alloc _ _ = wa at hH4 ⊢
    have HO:=Lib.hid (pub_alloc_eq HO.out hwa)
    clear hwa
    generalize (World.heap _).size = b2 at HO ⊢
    refine rd1 16 (fun K hK=>?_)
    have HO:=Lib.hid (show Ows _ _ _ _ (staO _ _ _ _ _ _ _ _ (.blk b2 signed0C 51::.hrow (.slice pa 3 pc) (pathF (leavesF R'.seed.data.toList) i)::.blk hb signed0C 51::Os)) from by first | exact HO.out | exact pub_swap HO.out)
    obtain ⟨st1, st2⟩:=pub_store HO.out HY.out.2.1
    have HO:=Lib.hid st2
    clear st2
    rw [if_pos (by rfl)]
    refine wp_store_mid _ _ _ rfl b2 0 Y.toArray rfl rfl st1 (by rw [List.size_toArray, HY.out.2.1]; exact info_signed) (all_oneCell_toArray HY.out.2.2) ?_
    simp only [Act.put]
    refine hK.out _ _ (staS HO.out) (fun hH5=>?_)
    clear hK K
    try simp only [lyA, lyB, lyC, lyD]
    refine tk 17 rfl (fun _ _ _ h=>h) hH5 ?_
    refine wpAnyH_done (by kernel_rfl) ?_ _
    have HO5:=Lib.hid (show Ows w0 (World.setCells _ b2 0 Y.toArray.toList) d M' _ from HO.out)
    generalize World.setCells _ b2 0 Y.toArray.toList = w5 at HO5 ⊢
    clear HO
    have hfold:=fold_signed HY.out.2.1
    simp only [zeros, List.replicate, List.cons_append, List.nil_append] at hfold
    have hrg : World.rangeAt w5 b2 0 Y:=(sta_front HO5.out).blk1.range0
    have HI:=Lib.hid (show (Tryz.prog.info? 51).map (·.size) = some Y.length by rw [HY.out.2.1]; exact info_signed)
    have HN:=Lib.hid (HO5.out.new Y 51)
    have z2:=(HN.out.drop).blk1.free 2
    have c2:=(HN.out.drop).blk1.cell (i:=2) rfl
    have lY : Y.length = 36:=HY.out.2.1
    go_upto_region 9 with ((with_reducible show wpList _ _ _ (⟨some 38, _, _, _, _, _⟩::_) _ _); refine wpList_load_mid rfl 51 _ rfl b2 0 rfl Y _ hrg Tryz.underlying51 rfl HI.out ?_)
    generalize hW8 : World.setCell _ _ _ = w8
    have HO8:=Lib.hid (pub_set_eq HN.out hW8)
    clear hrg z2 c2 HN hfold HO5 lY hW8
    generalize (World.heap _).size = nb at HO8 ⊢
    have hrg : World.rangeAt w8 b2 0 Y:=(pub_b2 HO8.out).blk1.range0
    go_wp2_with (first
     | ((with_reducible show wpList _ _ _ (⟨some 42, _, _, _, _, _⟩::_) _ _); refine wpList_load_mid rfl 51 _ rfl b2 0 rfl Y _ hrg Tryz.underlying51 rfl HI.out ?_)
     | ((with_reducible show wpList _ _ _ (⟨none, .store _ (.tmp 2) _, _, _, _, _⟩::_) _ _); refine wpList_store_mid rfl 51 _ _ rfl hb 0 Y.toArray rfl rfl ?htw1 ?hiw1 ?h1w1 ?_))
    case htw1=>exact (pub_end HO8.out HY.out.2.1).1
    case hiw1=>exact (by rw [List.size_toArray]; exact HI.out)
    case h1w1=>exact all_oneCell_toArray HY.out.2.2
    have hst:=(pub_end HO8.out HY.out.2.1).2
    exact bodyPost_ret (hst.1.result2 rfl rfl Tryz.underlying51 rfl HI.out) rfl ⟨nb, pa, pc, Y, S', rfl, Lib.hid ⟨HY.out.1, HY.out.2.1, HY.out.2.2, hst.2⟩⟩
   refine AllReadyH.cons (o := ⟨some 4, .alloc 51, 0, "station.go:79", #[], none⟩) rfl (fun K hK => ?_) AllReadyH.nil
   go_simp
   refine hK.out _ _ (staS (pub_alloc HO.out)) (fun hH3=>?_)
   clear hK K
   try simp only [lyA, lyB, lyC, lyD]
   generalize hwa : World.alloc _ _ = wa at hH3 ⊢
   have HO:=Lib.hid (pub_alloc_eq HO.out hwa)
   clear hwa
   generalize (World.heap _).size = b2 at HO ⊢
   refine rd1 11 (fun K hK=>?_)
   go_simp
   refine (HSG.out _ _ (pub_ring HO.out)).mono ?_
   intro e ws hq
   obtain ⟨pa, pc, Y, S', rfl, hH⟩:=hq
   have HY:=Lib.hid (And.intro hH.out.1 (And.intro hH.out.2.1 hH.out.2.2.1))
   have HO:=Lib.hid (pub_back hH.out.2.2.2)
   clear hH
   refine hK.out _ _ (staS HO.out) (fun hH4=>?_)
   clear hK K
   try simp only [lyA, lyB, lyC, lyD]
   refine tk 12 rfl (fun _ _ _ h=>h) hH4 ?_
   refine tk 13 rfl (fun _ _ _ h=>h) hH4 ?_
   refine tk 14 rfl (fun _ _ _ h=>h) hH4 ?_
   refine rd1 16 (fun K hK=>?_)
   have HO:=Lib.hid (show Ows _ _ _ _ (staO _ _ _ _ _ _ _ _ (.blk b2 signed0C 51::.hrow (.slice pa 3 pc) (pathF (leavesF R'.seed.data.toList) i)::.blk hb signed0C 51::Os)) from by first | exact HO.out | exact pub_swap HO.out)
   obtain ⟨st1, st2⟩:=pub_store HO.out HY.out.2.1
   have HO:=Lib.hid st2
   clear st2
   rw [if_pos (by rfl)]
   refine wp_store_mid _ _ _ rfl b2 0 Y.toArray rfl rfl st1 (by rw [List.size_toArray, HY.out.2.1]; exact info_signed) (all_oneCell_toArray HY.out.2.2) ?_
   simp only [Act.put]
   refine hK.out _ _ (staS HO.out) (fun hH5=>?_)
   clear hK K
   try simp only [lyA, lyB, lyC, lyD]
   refine tk 17 rfl (fun _ _ _ h=>h) hH5 ?_
   refine wpAnyH_done (by kernel_rfl) ?_ _
   have HO5:=Lib.hid (show Ows w0 (World.setCells _ b2 0 Y.toArray.toList) d M' _ from HO.out)
   generalize World.setCells _ b2 0 Y.toArray.toList = w5 at HO5 ⊢
   clear HO
   have hfold:=fold_signed HY.out.2.1
   simp only [zeros, List.replicate, List.cons_append, List.nil_append] at hfold
   have hrg : World.rangeAt w5 b2 0 Y:=(sta_front HO5.out).blk1.range0
   have HI:=Lib.hid (show (Tryz.prog.info? 51).map (·.size) = some Y.length by rw [HY.out.2.1]; exact info_signed)
   have HN:=Lib.hid (HO5.out.new Y 51)
   have z2:=(HN.out.drop).blk1.free 2
   have c2:=(HN.out.drop).blk1.cell (i:=2) rfl
   have lY : Y.length = 36:=HY.out.2.1
   go_upto_region 9 with ((with_reducible show wpList _ _ _ (⟨some 38, _, _, _, _, _⟩::_) _ _); refine wpList_load_mid rfl 51 _ rfl b2 0 rfl Y _ hrg Tryz.underlying51 rfl HI.out ?_)
   generalize hW8 : World.setCell _ _ _ = w8
   have HO8:=Lib.hid (pub_set_eq HN.out hW8)
   clear hrg z2 c2 HN hfold HO5 lY hW8
   generalize (World.heap _).size = nb at HO8 ⊢
   have hrg : World.rangeAt w8 b2 0 Y:=(pub_b2 HO8.out).blk1.range0
   go_wp2_with (first
    | ((with_reducible show wpList _ _ _ (⟨some 42, _, _, _, _, _⟩::_) _ _); refine wpList_load_mid rfl 51 _ rfl b2 0 rfl Y _ hrg Tryz.underlying51 rfl HI.out ?_)
    | ((with_reducible show wpList _ _ _ (⟨none, .store _ (.tmp 2) _, _, _, _, _⟩::_) _ _); refine wpList_store_mid rfl 51 _ _ rfl hb 0 Y.toArray rfl rfl ?htw2 ?hiw2 ?h1w2 ?_))
   case htw2=>exact (pub_end HO8.out HY.out.2.1).1
   case hiw2=>exact (by rw [List.size_toArray]; exact HI.out)
   case h1w2=>exact all_oneCell_toArray HY.out.2.2
   have hst:=(pub_end HO8.out HY.out.2.1).2
   exact bodyPost_ret (hst.1.result2 rfl rfl Tryz.underlying51 rfl HI.out) rfl ⟨nb, pa, pc, Y, S', rfl, Lib.hid ⟨HY.out.1, HY.out.2.1, HY.out.2.2, hst.2⟩⟩
  refine AllReadyH.cons (o := ⟨some 4, .alloc 51, 0, "station.go:79", #[], none⟩) rfl (fun K hK => ?_) AllReadyH.nil
  go_simp
  refine hK.out _ _ (staS (pub_alloc HO.out)) (fun hH2=>?_)
  clear hK K
  try simp only [lyA, lyB, lyC, lyD]
  generalize hwa : World.alloc _ _ = wa at hH2 ⊢
  have HO:=Lib.hid (pub_alloc_eq HO.out hwa)
  clear hwa
  generalize (World.heap _).size = b2 at HO ⊢
  refine rd1 10 (fun K hK=>?_)
  go_simp
  refine (sta_head_all HO.out HER.out).mono ?_
  rintro e wh ⟨rfl, hh⟩
  have HO:=Lib.hid hh
  clear hh
  refine hK.out _ _ (staS HO.out) (fun hH3=>?_)
  clear hK K
  try simp only [lyA, lyB, lyC, lyD]
  refine rd1 11 (fun K hK=>?_)
  go_simp
  refine (HSG.out _ _ (pub_ring HO.out)).mono ?_
  intro e ws hq
  obtain ⟨pa, pc, Y, S', rfl, hH⟩:=hq
  have HY:=Lib.hid (And.intro hH.out.1 (And.intro hH.out.2.1 hH.out.2.2.1))
  have HO:=Lib.hid (pub_back hH.out.2.2.2)
  clear hH
  refine hK.out _ _ (staS HO.out) (fun hH4=>?_)
  clear hK K
  try simp only [lyA, lyB, lyC, lyD]
  refine tk 12 rfl (fun _ _ _ h=>h) hH4 ?_
  refine tk 13 rfl (fun _ _ _ h=>h) hH4 ?_
  refine tk 14 rfl (fun _ _ _ h=>h) hH4 ?_
  refine rd1 16 (fun K hK=>?_)
  have HO:=Lib.hid (show Ows _ _ _ _ (staO _ _ _ _ _ _ _ _ (.blk b2 signed0C 51::.hrow (.slice pa 3 pc) (pathF (leavesF R'.seed.data.toList) i)::.blk hb signed0C 51::Os)) from by first | exact HO.out | exact pub_swap HO.out)
  obtain ⟨st1, st2⟩:=pub_store HO.out HY.out.2.1
  have HO:=Lib.hid st2
  clear st2
  rw [if_pos (by rfl)]
  refine wp_store_mid _ _ _ rfl b2 0 Y.toArray rfl rfl st1 (by rw [List.size_toArray, HY.out.2.1]; exact info_signed) (all_oneCell_toArray HY.out.2.2) ?_
  simp only [Act.put]
  refine hK.out _ _ (staS HO.out) (fun hH5=>?_)
  clear hK K
  try simp only [lyA, lyB, lyC, lyD]
  refine tk 17 rfl (fun _ _ _ h=>h) hH5 ?_
  refine wpAnyH_done (by kernel_rfl) ?_ _
  have HO5:=Lib.hid (show Ows w0 (World.setCells _ b2 0 Y.toArray.toList) d M' _ from HO.out)
  generalize World.setCells _ b2 0 Y.toArray.toList = w5 at HO5 ⊢
  clear HO
  have hfold:=fold_signed HY.out.2.1
  simp only [zeros, List.replicate, List.cons_append, List.nil_append] at hfold
  have hrg : World.rangeAt w5 b2 0 Y:=(sta_front HO5.out).blk1.range0
  have HI:=Lib.hid (show (Tryz.prog.info? 51).map (·.size) = some Y.length by rw [HY.out.2.1]; exact info_signed)
  have HN:=Lib.hid (HO5.out.new Y 51)
  have z2:=(HN.out.drop).blk1.free 2
  have c2:=(HN.out.drop).blk1.cell (i:=2) rfl
  have lY : Y.length = 36:=HY.out.2.1
  go_upto_region 9 with ((with_reducible show wpList _ _ _ (⟨some 38, _, _, _, _, _⟩::_) _ _); refine wpList_load_mid rfl 51 _ rfl b2 0 rfl Y _ hrg Tryz.underlying51 rfl HI.out ?_)
  generalize hW8 : World.setCell _ _ _ = w8
  have HO8:=Lib.hid (pub_set_eq HN.out hW8)
  clear hrg z2 c2 HN hfold HO5 lY hW8
  generalize (World.heap _).size = nb at HO8 ⊢
  have hrg : World.rangeAt w8 b2 0 Y:=(pub_b2 HO8.out).blk1.range0
  go_wp2_with (first
   | ((with_reducible show wpList _ _ _ (⟨some 42, _, _, _, _, _⟩::_) _ _); refine wpList_load_mid rfl 51 _ rfl b2 0 rfl Y _ hrg Tryz.underlying51 rfl HI.out ?_)
   | ((with_reducible show wpList _ _ _ (⟨none, .store _ (.tmp 2) _, _, _, _, _⟩::_) _ _); refine wpList_store_mid rfl 51 _ _ rfl hb 0 Y.toArray rfl rfl ?htw3 ?hiw3 ?h1w3 ?_))
  case htw3=>exact (pub_end HO8.out HY.out.2.1).1
  case hiw3=>exact (by rw [List.size_toArray]; exact HI.out)
  case h1w3=>exact all_oneCell_toArray HY.out.2.2
  have hst:=(pub_end HO8.out HY.out.2.1).2
  exact bodyPost_ret (hst.1.result2 rfl rfl Tryz.underlying51 rfl HI.out) rfl ⟨nb, pa, pc, Y, S', rfl, Lib.hid ⟨HY.out.1, HY.out.2.1, HY.out.2.2, hst.2⟩⟩
 refine AllReadyH.cons (o := ⟨some 4, .alloc 51, 0, "station.go:79", #[], none⟩) rfl (fun K hK => ?_) AllReadyH.nil
 go_simp
 refine hK.out _ _ (staS (pub_alloc HO.out)) (fun hH1=>?_)
 clear hK K
 try simp only [lyA, lyB, lyC, lyD]
 generalize hwa : World.alloc _ _ = wa at hH1 ⊢
 have HO:=Lib.hid (pub_alloc_eq HO.out hwa)
 clear hwa
 generalize (World.heap _).size = b2 at HO ⊢
 refine rd1 9 (fun K hK=>?_)
 go_simp
 refine (HO.out.count (s:=g) (G:=G) (S:=Sg) (by simp)).mono ?_
 rintro e wc ⟨rfl, rfl⟩
 refine hK.out _ _ (hH1) (fun hH2=>?_)
 clear hK K
 try simp only [lyA, lyB, lyC, lyD]
 refine rd1 10 (fun K hK=>?_)
 go_simp
 refine (sta_head_all HO.out HER.out).mono ?_
 rintro e wh ⟨rfl, hh⟩
 have HO:=Lib.hid hh
 clear hh
 refine hK.out _ _ (staS HO.out) (fun hH3=>?_)
 clear hK K
 try simp only [lyA, lyB, lyC, lyD]
 refine rd1 11 (fun K hK=>?_)
 go_simp
 refine (HSG.out _ _ (pub_ring HO.out)).mono ?_
 intro e ws hq
 obtain ⟨pa, pc, Y, S', rfl, hH⟩:=hq
 have HY:=Lib.hid (And.intro hH.out.1 (And.intro hH.out.2.1 hH.out.2.2.1))
 have HO:=Lib.hid (pub_back hH.out.2.2.2)
 clear hH
 refine hK.out _ _ (staS HO.out) (fun hH4=>?_)
 clear hK K
 try simp only [lyA, lyB, lyC, lyD]
 refine tk 12 rfl (fun _ _ _ h=>h) hH4 ?_
 refine tk 13 rfl (fun _ _ _ h=>h) hH4 ?_
 refine tk 14 rfl (fun _ _ _ h=>h) hH4 ?_
 refine rd1 16 (fun K hK=>?_)
 have HO:=Lib.hid (show Ows _ _ _ _ (staO _ _ _ _ _ _ _ _ (.blk b2 signed0C 51::.hrow (.slice pa 3 pc) (pathF (leavesF R'.seed.data.toList) i)::.blk hb signed0C 51::Os)) from by first | exact HO.out | exact pub_swap HO.out)
 obtain ⟨st1, st2⟩:=pub_store HO.out HY.out.2.1
 have HO:=Lib.hid st2
 clear st2
 rw [if_pos (by rfl)]
 refine wp_store_mid _ _ _ rfl b2 0 Y.toArray rfl rfl st1 (by rw [List.size_toArray, HY.out.2.1]; exact info_signed) (all_oneCell_toArray HY.out.2.2) ?_
 simp only [Act.put]
 refine hK.out _ _ (staS HO.out) (fun hH5=>?_)
 clear hK K
 try simp only [lyA, lyB, lyC, lyD]
 refine tk 17 rfl (fun _ _ _ h=>h) hH5 ?_
 refine wpAnyH_done (by kernel_rfl) ?_ _
 have HO5:=Lib.hid (show Ows w0 (World.setCells _ b2 0 Y.toArray.toList) d M' _ from HO.out)
 generalize World.setCells _ b2 0 Y.toArray.toList = w5 at HO5 ⊢
 clear HO
 have hfold:=fold_signed HY.out.2.1
 simp only [zeros, List.replicate, List.cons_append, List.nil_append] at hfold
 have hrg : World.rangeAt w5 b2 0 Y:=(sta_front HO5.out).blk1.range0
 have HI:=Lib.hid (show (Tryz.prog.info? 51).map (·.size) = some Y.length by rw [HY.out.2.1]; exact info_signed)
 have HN:=Lib.hid (HO5.out.new Y 51)
 have z2:=(HN.out.drop).blk1.free 2
 have c2:=(HN.out.drop).blk1.cell (i:=2) rfl
 have lY : Y.length = 36:=HY.out.2.1
 go_upto_region 9 with ((with_reducible show wpList _ _ _ (⟨some 38, _, _, _, _, _⟩::_) _ _); refine wpList_load_mid rfl 51 _ rfl b2 0 rfl Y _ hrg Tryz.underlying51 rfl HI.out ?_)
 generalize hW8 : World.setCell _ _ _ = w8
 have HO8:=Lib.hid (pub_set_eq HN.out hW8)
 clear hrg z2 c2 HN hfold HO5 lY hW8
 generalize (World.heap _).size = nb at HO8 ⊢
 have hrg : World.rangeAt w8 b2 0 Y:=(pub_b2 HO8.out).blk1.range0
 go_wp2_with (first
  | ((with_reducible show wpList _ _ _ (⟨some 42, _, _, _, _, _⟩::_) _ _); refine wpList_load_mid rfl 51 _ rfl b2 0 rfl Y _ hrg Tryz.underlying51 rfl HI.out ?_)
  | ((with_reducible show wpList _ _ _ (⟨none, .store _ (.tmp 2) _, _, _, _, _⟩::_) _ _); refine wpList_store_mid rfl 51 _ _ rfl hb 0 Y.toArray rfl rfl ?htw4 ?hiw4 ?h1w4 ?_))
 case htw4=>exact (pub_end HO8.out HY.out.2.1).1
 case hiw4=>exact (by rw [List.size_toArray]; exact HI.out)
 case h1w4=>exact all_oneCell_toArray HY.out.2.2
 have hst:=(pub_end HO8.out HY.out.2.1).2
 exact bodyPost_ret (hst.1.result2 rfl rfl Tryz.underlying51 rfl HI.out) rfl ⟨nb, pa, pc, Y, S', rfl, Lib.hid ⟨HY.out.1, HY.out.2.1, HY.out.2.2, hst.2⟩⟩
end
section
variable {w0 w w' : World} {d s r g b : Nat} {M M' M1 M2 : DiskM} {Os : List Ob} {R R' : RingM} {G : SegM} {Sr Sg S' : Nat → Prop} {lv : Value} {x : Ob} {L : List Hd} {E : List By} {st : Int} {fl : Bool} {X : Nat} {sd : ByteArray}
def LastIs (sd : ByteArray) (L : List Hd) (lv : Value) (Ls : List Ob) : Prop :=
 (L = []∧lv = .slice none 0 0∧Ls = []) ∨
 (∃ (nb : Nat) (a : Option Addr) (c : Nat) (Y : List Value) (m : Nat) (x : Hd), L[m]? = some x∧L.length = m + 1∧lv = .slice (some ⟨nb, 0, none⟩) 1 1∧(Y = signedC (x.1 : Int) x.2 (m : Int) ⟨(signF sd.data.toList m (digestF x.1 x.2)).toArray⟩ (.slice a 3 c)∧Y.length = 36∧(∀ v ∈ Y, v.oneCell' = true)) ∧
  Ls = [.blk nb Y 51, .hrow (.slice a 3 c) (pathF (leavesF sd.data.toList) m)])
def StaUp (w0 w' : World) (d s : Nat) (Os : List Ob) (sd : ByteArray) (cp : Int) (L : List Hd) (E : List By) (st : Int) (fl : Bool) (X : Nat) : Prop :=
 ∃ r g lv Sr Sg M' Ls, UpS cp L E st fl X M'∧Ows w0 w' d M' (staO s r g lv ⟨sd, L, st, false⟩ ⟨E, st, false⟩ Sr Sg (Ls ++ Os))∧LastIs sd L lv Ls
def StaOpen (w0 : World) (d : Nat) (Os : List Ob) (sd : ByteArray) (cp : Int) (L : List Hd) (E : List By) (st : Int) (fl : Bool) (X : Nat) (e : Ending) (w' : World) : Prop :=
 (fl = true∧e = .returned (.tuple #[.pointer none, .int .i64 61])∧∃ M', DnS cp L E st X M'∧Ows w0 w' d M' Os) ∨
 (∃ s, e = .returned (.tuple #[.pointer (some ⟨s, 0, none⟩), .int .i64 0])∧StaUp w0 w' d s Os sd cp L E st fl X)
theorem open_no1 (h : Ows w0 w d M Os) (hc : M.files.length + M.loose.length < 80000000) (hsd : sd.size ≤ 1000) {l : List Hd} (he : M.openR = (61, l, M')) :
  Calls Tryz.prog 52 #[.pointer (some ⟨d, 0, none⟩), .string sd] w fun e w'=>e = .returned (.tuple #[.pointer none, .int .i64 61])∧Ows w0 w' d M' Os:=by
 have h1:=h.ringOpen sd hsd (by omega)
 rw [he] at h1
 refine h1.mono ?_
 intro e w' q
 rcases q with ⟨_, q1, q2⟩ | ⟨q, _⟩
 ·exact ⟨q1, q2⟩
 ·cases q
theorem open_ok1 (h : Ows w0 w d M Os) (hc : M.files.length + M.loose.length < 80000000) (hsd : sd.size ≤ 1000) (he : M.openR = (0, L, M1)) (hs : M1.starts = st) :
  Calls Tryz.prog 52 #[.pointer (some ⟨d, 0, none⟩), .string sd] w fun e w'=>∃ r Sr, e = .returned (.tuple #[.pointer (some ⟨r, 0, none⟩), .int .i64 0])∧Ows w0 w' d M1 (.ring r ⟨sd, L, st, false⟩ Sr::Os):=by
 have h1:=h.ringOpen sd hsd (by omega)
 rw [he] at h1
 refine h1.mono ?_
 intro e w' q
 rcases q with ⟨q, _⟩ | ⟨_, r, S, q1, q2⟩
 ·exact absurd rfl q
 ·rw [hs] at q2
  exact ⟨r, S, q1, q2⟩
theorem open_no2 (h : Ows w0 w d M Os) (hc : M.files.length + M.loose.length < 80000000) {l : List By} (he : M.openS = (61, l, M')) :
  Calls Tryz.prog 53 #[.pointer (some ⟨d, 0, none⟩)] w fun e w'=>e = .returned (.tuple #[.pointer none, .int .i64 61])∧Ows w0 w' d M' Os:=by
 have h1:=h.segOpen (by omega)
 rw [he] at h1
 refine h1.mono ?_
 intro e w' q
 rcases q with ⟨_, q1, q2⟩ | ⟨q, _⟩
 ·exact ⟨q1, q2⟩
 ·cases q
theorem open_ok2 (h : Ows w0 w d M Os) (hc : M.files.length + M.loose.length < 80000000) (he : M.openS = (0, E, M2)) (hs : M.starts = st) :
  Calls Tryz.prog 53 #[.pointer (some ⟨d, 0, none⟩)] w fun e w'=>∃ g Sg, e = .returned (.tuple #[.pointer (some ⟨g, 0, none⟩), .int .i64 0])∧Ows w0 w' d M2 (.seg g ⟨E, st, false⟩ Sg::Os):=by
 have h1:=h.segOpen (by omega)
 rw [he, hs] at h1
 refine h1.mono ?_
 intro e w' q
 rcases q with ⟨q, _⟩ | ⟨_, r, S, q1, q2⟩
 ·exact absurd rfl q
 ·exact ⟨r, S, q1, q2⟩
theorem open_made (h : Ows w0 w d M (.seg g G Sg::.ring r R Sr::Os)) : Ows w0 (w.alloc (.cells (staC r g (.slice none 0 0)).toArray 66)) d M (staO w.heap.size r g (.slice none 0 0) R G Sr Sg Os) :=
 (h.new (staC r g (.slice none 0 0)) 66).perm (List.Perm.cons _ (List.Perm.swap _ _ _))
theorem open_made_eq {W : World} (h : Ows w0 w d M (.seg g G Sg::.ring r R Sr::Os)) (hW : w.alloc (.cells (staC r g (.slice none 0 0)).toArray 66) = W) : Ows w0 W d M (staO w.heap.size r g (.slice none 0 0) R G Sr Sg Os):=by rw [← hW]; exact open_made h
theorem open_a (h : Ows w0 w d M Os) (hc : M.files.length + M.loose.length < 80000000) (hsd : sd.size ≤ 1000) {l : List Hd} (he : M.openR = (61, l, M')) :
  Calls Tryz.prog 20 #[.pointer (some ⟨d, 0, none⟩), .string sd] w fun e w'=>e = .returned (.tuple #[.pointer none, .int .i64 61])∧Ows w0 w' d M' Os:=by
 have h1:=open_no1 h hc hsd he
 clear h hc hsd he
 go_enter Tryz.func20, Tryz.ntmps20
 go_wp2_with (go_at_call 52; refine h1.mono ?_; rintro e w1 ⟨rfl, hu⟩; have HU:=Lib.hid hu; clear hu)
 go_ret2
 exact ⟨rfl, HU.out⟩
theorem open_b (h : Ows w0 w d M Os) (hc : M.files.length + M.loose.length < 80000000) (hsd : sd.size ≤ 1000) (he : M.openR = (0, L, M1)) (hs : M1.starts = st) (hc1 : M1.files.length + M1.loose.length < 80000000) {l : List By} (he1 : M1.openS = (61, l, M')) :
  Calls Tryz.prog 20 #[.pointer (some ⟨d, 0, none⟩), .string sd] w fun e w'=>e = .returned (.tuple #[.pointer none, .int .i64 61])∧Ows w0 w' d M' Os:=by
 have h1:=open_ok1 h hc hsd he hs
 have H2:=Lib.hid (fun w1 Os1 (h1 : Ows w0 w1 d M1 Os1)=>open_no2 h1 hc1 he1)
 clear h hc hsd he hc1 he1
 go_enter Tryz.func20, Tryz.ntmps20
 go_wp2_with (first
  | (go_at_call 52; refine h1.mono ?_; rintro e w1 ⟨r, Sr, rfl, hu⟩; have HU:=Lib.hid hu; clear hu)
  | (go_at_call 53; refine (H2.out _ _ HU.out).mono ?_; rintro e w2 ⟨rfl, hu2⟩; have HU2:=Lib.hid hu2.drop; clear hu2))
 go_ret2
 exact ⟨rfl, HU2.out⟩
theorem open_head {W : World} {C : List Value} (h : Ows w0 w d M (staO s r g lv R G Sr Sg Os)) (hC : C.length = 33) (hW : (w.alloc (.cells (headC 0 zeroRoot).toArray 46)).setCells w.heap.size 0 C = W) : Ows w0 W d M (staO s r g lv R G Sr Sg (.blk w.heap.size C 46::Os)):=by
 rw [← hW]
 exact sta_rear ((h.new (headC 0 zeroRoot) 46).whole (vs:=C) (by rw [hC, head0_len])).2
theorem open_there {C : List Value} (hC : C.length = 33) : (w.alloc (.cells (headC 0 zeroRoot).toArray 46)).there w.heap.size 0 C.toArray.size:=(Blk.new w (headC 0 zeroRoot) 46).there 0 _ (by rw [List.size_toArray, hC, head0_len]; omega)
def OpenOk (w0 w : World) (d : Nat) (sd : ByteArray) (L : List Hd) (E : List By) (st : Int) (M2 : DiskM) (Os : List Ob) : Prop :=
 ∃ M1, (Calls Tryz.prog 52 #[.pointer (some ⟨d, 0, none⟩), .string sd] w fun e w'=>∃ r Sr, e = .returned (.tuple #[.pointer (some ⟨r, 0, none⟩), .int .i64 0])∧Ows w0 w' d M1 (.ring r ⟨sd, L, st, false⟩ Sr::Os)) ∧
  (∀ w1 Os1, Ows w0 w1 d M1 Os1 → Calls Tryz.prog 53 #[.pointer (some ⟨d, 0, none⟩)] w1 fun e w'=>∃ g Sg, e = .returned (.tuple #[.pointer (some ⟨g, 0, none⟩), .int .i64 0])∧Ows w0 w' d M2 (.seg g ⟨E, st, false⟩ Sg::Os1))
theorem open_oks (h : Ows w0 w d M Os) (hc : M.files.length + M.loose.length < 80000000) (hsd : sd.size ≤ 1000) (he : M.openR = (0, L, M1)) (hs : M1.starts = st) (hc1 : M1.files.length + M1.loose.length < 80000000) (he1 : M1.openS = (0, E, M2)) : OpenOk w0 w d sd L E st M2 Os :=
 ⟨M1, open_ok1 h hc hsd he hs, fun _ _ h1=>open_ok2 h1 hc1 he1 hs⟩
theorem open_c (h : OpenOk w0 w d sd [] E st M2 Os) :
  Calls Tryz.prog 20 #[.pointer (some ⟨d, 0, none⟩), .string sd] w fun e w'=>∃ s r g Sr Sg, e = .returned (.tuple #[.pointer (some ⟨s, 0, none⟩), .int .i64 0])∧Ows w0 w' d M2 (staO s r g (.slice none 0 0) ⟨sd, [], st, false⟩ ⟨E, st, false⟩ Sr Sg Os):=by
 obtain ⟨M1, h1, h2⟩:=h
 have H2:=Lib.hid h2
 clear h2
 go_enter Tryz.func20, Tryz.ntmps20
 go_upto_region 8 with (first
  | (go_at_call 52; refine h1.mono ?_; rintro e w1 ⟨r, Sr, rfl, hu⟩; have HU:=Lib.hid hu; clear hu)
  | (go_at_call 53; refine (H2.out _ _ HU.out).mono ?_; rintro e w2 ⟨g, Sg, rfl, hu2⟩; have HU2:=Lib.hid hu2; clear hu2))
 clear h1 H2 HU
 generalize hW : World.alloc w2 _ = w3
 have HO:=Lib.hid (open_made_eq HU2.out hW)
 clear hW HU2
 generalize w2.heap.size = s at *
 have HL:=Lib.hid (HO.out.last0 (r:=r) (R:=⟨sd, [], st, false⟩) (S:=Sr) (by simp) rfl)
 have hC:=head0_len
 obtain ⟨C, hCC⟩ : ∃ C, C = headC 0 zeroRoot:=⟨_, rfl⟩
 rw [← hCC] at HL hC
 have HC:=Lib.hid (And.intro hC (show ∀ v ∈ C, v.oneCell' = true by rw [hCC]; exact head_oneCell))
 clear hC hCC
 go_upto_region 9 with (first
  | (go_at_call 54; refine HL.out.mono ?_; rintro e w4 ⟨rfl, hu4⟩; have HO4:=Lib.hid hu4; clear hu4)
  | ((with_reducible show wpList _ _ _ (⟨none, .store _ (.tmp 10) _, _, _, _, _⟩::_) _ _); refine wpList_store_mid rfl 46 _ _ rfl w4.heap.size 0 C.toArray rfl rfl ?hth ?hi ?h1 ?_))
 case hth=>exact open_there HC.out.1
 case hi=>exact (by rw [List.size_toArray, HC.out.1]; exact info_head)
 case h1=>exact all_oneCell_toArray HC.out.2
 generalize hW : World.setCells _ w4.heap.size 0 _ = w5
 have HO5:=Lib.hid (open_head (C:=C) HO4.out HC.out.1 hW)
 clear hW HO4
 go_wp2_with fail
 go_ret2
 exact ⟨s, r, g, Sr, Sg, rfl, (sta_front HO5.out).drop⟩
abbrev OpS (w' : World) (hb : Nat) (C : List Value) (sz : Nat) : Prop:=w'.cell? ⟨hb, 0, none⟩ = some (.int .i64 (sz : Int))∧w'.rangeAt hb 0 C
theorem opS {hb sz : Nat} {C : List Value} (h : Ows w0 w d M (staO s r g lv R G Sr Sg (.blk hb C 46::Os))) (hC : C[0]? = some (.int .i64 (sz : Int))) : OpS w hb C sz:=⟨(sta_front h).blk1.cell hC, (sta_front h).blk1.range0⟩
theorem open_signed {W : World} {Y : List Value} (h : Ows w0 w d M (staO s r g lv R G Sr Sg Os)) (hY : Y.length = 36) (hW : (w.alloc (.cells signed0C.toArray 51)).setCells w.heap.size 0 Y = W) : Ows w0 W d M (staO s r g lv R G Sr Sg (.blk w.heap.size Y 51::Os)):=by
 rw [← hW]
 exact sta_rear ((h.new signed0C 51).whole (vs:=Y) (by rw [hY, signed0_len])).2
theorem open_last {nb yb hb pc sz i : Nat} {pa : Option Addr} {rt : By} {Y C : List Value} {y : Hd} {W : World} (h : Ows w0 W d M2 (staO s r g (.slice (some ⟨nb, 0, none⟩) 1 1) ⟨sd, L, st, false⟩ ⟨E, st, false⟩ S' Sg (.blk nb Y 51::.blk yb Y 51::.hrow (.slice pa 3 pc) (pathF (leavesF sd.data.toList) i)::.blk hb C 46::Os)))
  (hY : Y = signedC (sz : Int) rt (i : Int) ⟨(signF sd.data.toList i (digestF sz rt)).toArray⟩ (.slice pa 3 pc)∧Y.length = 36∧∀ v ∈ Y, v.oneCell' = true) (hi : L[i]? = some y) (hl : L.length = i + 1) (hy : y = (sz, rt)) :
  ∃ Ls, Ows w0 W d M2 (staO s r g (.slice (some ⟨nb, 0, none⟩) 1 1) ⟨sd, L, st, false⟩ ⟨E, st, false⟩ S' Sg (Ls ++ Os))∧LastIs sd L (.slice (some ⟨nb, 0, none⟩) 1 1) Ls:=by
 refine ⟨[.blk nb Y 51, .hrow (.slice pa 3 pc) (pathF (leavesF sd.data.toList) i)], h.sub ?_, Or.inr ⟨nb, pa, pc, Y, i, y, hi, hl, rfl, by rw [hy]; exact hY, rfl⟩⟩
 exact List.Sublist.cons_cons _ (List.Sublist.cons_cons _ (List.Sublist.cons_cons _ (List.Sublist.cons_cons _ (List.Sublist.cons _ (List.Sublist.cons_cons _ (List.sublist_cons_self _ _))))))
theorem open_d (h : OpenOk w0 w d sd L E st M2 Os) {i : Nat} {y : Hd} (hi : L[i]? = some y) (hl : L.length = i + 1) (h8 : L.length ≤ 8) (hr : Rises 0 L) (hg : GoodL L E) (hu : M2.down = false∧M2.starts = st) :
  Calls Tryz.prog 20 #[.pointer (some ⟨d, 0, none⟩), .string sd] w fun e w'=>∃ s r g lv Sr Sg, e = .returned (.tuple #[.pointer (some ⟨s, 0, none⟩), .int .i64 0])∧∃ Ls, Ows w0 w' d M2 (staO s r g lv ⟨sd, L, st, false⟩ ⟨E, st, false⟩ Sr Sg (Ls ++ Os))∧LastIs sd L lv Ls:=by
 obtain ⟨M1, h1, h2⟩:=h
 have H2:=Lib.hid h2
 clear h2
 obtain ⟨sz, rt⟩:=y
 have hok:=hr.ok (sz, rt) (List.mem_of_getElem? hi)
 have hgl:=hg (sz, rt) (List.mem_of_getElem? hi)
 simp only at hgl
 have hok2 : 1 ≤ sz∧sz ≤ 4096∧rt.length = 32:=hok
 have ho : RingM.over ⟨sd, L, st, false⟩ M2 = false:=by simp [RingM.over, hu.1, hu.2]
 have hnx:=next_same hr hi hl
 have HSG:=Lib.hid (fun (w1 : World) (r : Nat) (Sr : Nat → Prop) (Os1 : List Ob) (h1 : Ows w0 w1 d M2 (.ring r ⟨sd, L, st, false⟩ Sr::Os1))=>show Calls Tryz.prog 45 #[.pointer (some ⟨r, 0, none⟩), headV (sz : Int) rt] w1 (SigSt w0 d r Os1 sz rt i ⟨sd, L, st, false⟩ M2) from by
  obtain ⟨B, h1⟩:=h1
  exact (held_again h1.held sz rt hok2.2.1 hok2.2.2 ho i (by omega) hnx).mono fun e w' q=>sign_st h1 (signed_as hok2.2.2 q))
 have HLI:=Lib.hid (And.intro hi hl)
 have HGL:=Lib.hid hgl
 have x1 : decide ((E.length : Int) < (sz : Int)) = false:=decide_eq_false (by omega)
 have x2 : decide (E.length < sz) = false:=decide_eq_false (by omega)
 obtain ⟨C, hC⟩ : ∃ C, headC (sz : Int) rt = C:=⟨_, rfl⟩
 have lC:=headC_len (size:=(sz : Int)) hok2.2.2
 have oC : ∀ v ∈ headC (sz : Int) rt, v.oneCell' = true:=head_oneCell
 have zC : (headC (sz : Int) rt)[0]? = some (.int .i64 (sz : Int)):=rfl
 have hneq : ∀ w', (binOp .neq 46 (.agg (headC (sz : Int) rt).toArray) (.agg (headC (sz : Int) rt).toArray)).run Tryz.prog w' = .ok (.bool false) w':=fun w'=>by
  have h:=neq_head w' (sz : Int) (sz : Int) rt rt hok2.2.2 hok2.2.2
  simp only [and_self, decide_true, Bool.not_true] at h
  exact h
 rw [hC] at lC oC zC hneq
 have HI:=Lib.hid (show (Tryz.prog.info? 46).map (·.size) = some C.length by rw [lC]; exact info_head)
 have HC:=Lib.hid (And.intro lC (And.intro oC zC))
 have HCC:=Lib.hid hC
 have hHD : ∀ (w1 : World) (s r g : Nat) (lv : Value) (Sr Sg : Nat → Prop) (Os1 : List Ob), Ows w0 w1 d M2 (staO s r g lv ⟨sd, L, st, false⟩ ⟨E, st, false⟩ Sr Sg Os1) → Calls Tryz.prog 46 #[.pointer (some ⟨s, 0, none⟩), .int .i64 (sz : Int)] w1 fun e w'=>e = .returned (.agg C.toArray)∧Ows w0 w' d M2 (staO s r g lv ⟨sd, L, st, false⟩ ⟨E, st, false⟩ Sr Sg Os1):=fun w1 s r g lv Sr Sg Os1 h1=>by
  have h:=sta_head h1 sz hgl.1
  rw [← hC, hgl.2]
  exact h
 have HHD:=Lib.hid hHD
 have HLS:=Lib.hid (fun (w1 : World) (r : Nat) (Sr : Nat → Prop) (Os1 : List Ob) (h1 : Ows w0 w1 d M2 Os1) (hx : Ob.ring r ⟨sd, L, st, false⟩ Sr ∈ Os1)=>h1.last (r:=r) (R:=⟨sd, L, st, false⟩) (S:=Sr) hx i (sz, rt) hi hl)
 clear hHD lC oC zC hC hok hok2 hgl hnx ho hi hl h8 hr hg hu
 go_enter Tryz.func20, Tryz.ntmps20
 go_upto_region 8 with (first
  | (go_at_call 52; refine h1.mono ?_; rintro e w1 ⟨r, Sr, rfl, hu⟩; have HU:=Lib.hid hu; clear hu)
  | (go_at_call 53; refine (H2.out _ _ HU.out).mono ?_; rintro e w2 ⟨g, Sg, rfl, hu2⟩; have HU2:=Lib.hid hu2; clear hu2))
 clear h1 H2 HU
 generalize hW : World.alloc w2 _ = w3
 have HO:=Lib.hid (open_made_eq HU2.out hW)
 clear hW HU2
 generalize w2.heap.size = s at *
 have hls : Calls Tryz.prog 54 #[.pointer (some ⟨r, 0, none⟩)] w3 fun e w'=>e = .returned (.tuple #[.agg C.toArray, .bool true])∧Ows w0 w' d M2 (staO s r g (.slice none 0 0) ⟨sd, L, st, false⟩ ⟨E, st, false⟩ Sr Sg Os):=by
  have h:=HLS.out _ r Sr _ HO.out (by simp)
  rw [← HCC.out]
  exact h
 have HL:=Lib.hid hls
 clear hls HLS
 have HSG:=Lib.hid (fun w1 Os1 (h1 : Ows w0 w1 d M2 (.ring r ⟨sd, L, st, false⟩ Sr::Os1))=>show Calls Tryz.prog 45 #[.pointer (some ⟨r, 0, none⟩), .agg C.toArray] w1 (SigSt w0 d r Os1 sz rt i ⟨sd, L, st, false⟩ M2) from by
  have h:=HSG.out w1 r Sr Os1 h1
  rw [← HCC.out]
  exact h)
 go_upto_region 9 with (first
  | (go_at_call 54; refine HL.out.mono ?_; rintro e w4 ⟨rfl, hu4⟩; have HO4:=Lib.hid hu4; clear hu4)
  | ((with_reducible show wpList _ _ _ (⟨none, .store _ (.tmp 10) _, _, _, _, _⟩::_) _ _); refine wpList_store_mid rfl 46 _ _ rfl w4.heap.size 0 C.toArray rfl rfl ?hth ?hi ?h1 ?_))
 case hth=>exact open_there HC.out.1
 case hi=>exact (by rw [List.size_toArray]; exact HI.out)
 case h1=>exact all_oneCell_toArray HC.out.2.1
 generalize hW : World.setCells _ w4.heap.size 0 _ = w5
 have HO:=Lib.hid (open_head (C:=C) HO4.out HC.out.1 hW)
 clear hW HO4 HL
 generalize w4.heap.size = hb at *
 have HHD:=Lib.hid (fun (w1 : World) (h1 : Ows w0 w1 d M2 (staO s r g (.slice none 0 0) ⟨sd, L, st, false⟩ ⟨E, st, false⟩ Sr Sg (.blk hb C 46::Os)))=>HHD.out w1 s r g (.slice none 0 0) Sr Sg _ h1)
 go_upto_region 11 with fail
 have HO:=Lib.hid (HO.out.same (Kept.refl _ _).drew)
 refine wp_region_held_drew (S:=(fun w'=>OpS w' hb C sz)) (by kernel_rfl) (opS HO.out HC.out.2.2) (fun hH0=>?_)
 generalize World.drew w5 = Wd at HO hH0 ⊢
 refine tk 0 rfl (fun _ _ _ h=>h) hH0 ?_
 refine tk 1 rfl (fun _ _ _ h=>h) hH0 ?_
 refine tk 2 rfl (fun _ _ _ h=>h) hH0 ?_
 refine rd1 3 (fun K hK=>?_)
 go_simp
 refine (HO.out.count (s:=g) (G:=⟨E, st, false⟩) (S:=Sg) (by simp)).mono ?_
 rintro e wc ⟨rfl, rfl⟩
 refine hK.out _ _ (hH0) (fun hH1=>?_)
 clear hK K
 try simp only [lyA, lyB, lyC, lyD]
 refine tk 4 rfl (fun _ _ _ h=>h) hH1 ?_
 refine tk 5 rfl (fun _ _ _ h=>h) hH1 ?_
 refine tk 6 rfl (fun _ _ _ h=>h) hH1 ?_
 refine tk 7 rfl (fun _ _ _ h=>h) hH1 ?_
 refine tk 8 rfl (fun _ _ _ h=>h) hH1 ?_
 refine tky 10 rfl (fun _ _ _ h=>h) (yieldsIf_load_mid (by rfl) _ _ rfl (hb) (0) rfl (C) _ (fun w q=>q.2) Tryz.underlying46 rfl HI.out) hH1 ?_
 refine rd1 9 (fun K hK=>?_)
 go_simp
 refine (HHD.out _ HO.out).mono ?_
 rintro e wh ⟨rfl, hh⟩
 have HO:=Lib.hid hh
 clear hh
 refine hK.out _ _ (opS HO.out HC.out.2.2) (fun hH2=>?_)
 clear hK K
 try simp only [lyA, lyB, lyC, lyD]
 refine tk 11 rfl (fun _ _ _ h=>h) hH2 ?_
 refine tk 12 rfl (fun _ _ _ h=>h) hH2 ?_
 refine wpAnyH_done (by kernel_rfl) ?_ _
 go_upto_region 14 with (first
  | ((with_reducible show wpList _ _ _ (⟨some 57, _, _, _, _, _⟩::_) _ _); refine wpList_load_mid rfl 46 _ rfl hb 0 rfl C _ (opS HO.out HC.out.2.2).2 Tryz.underlying46 rfl HI.out ?_)
  | (go_at_call 45; refine (HSG.out _ _ (pub_ring HO.out)).mono ?_; intro e ws hq; obtain ⟨pa, pc, Y, S', rfl, hH⟩:=hq; have HY:=Lib.hid (And.intro hH.out.1 (And.intro hH.out.2.1 hH.out.2.2.1)); have HO6:=Lib.hid (pub_back hH.out.2.2.2); clear hH)
  | ((with_reducible show wpList _ _ _ (⟨none, .store _ (.tmp 12) _, _, _, _, _⟩::_) _ _); refine wpList_store_mid rfl 51 _ _ rfl ws.heap.size 0 Y.toArray rfl rfl ?hta ?hia ?h1a ?_))
 case hta=>exact (store_signed ws HY.out.2.1).1
 case hia=>exact (by rw [List.size_toArray, HY.out.2.1]; exact info_signed)
 case h1a=>exact all_oneCell_toArray HY.out.2.2
 generalize hW : World.setCells _ ws.heap.size 0 _ = w7
 have HO7:=Lib.hid (open_signed (Y:=Y) HO6.out HY.out.2.1 hW)
 clear hW HO6
 generalize ws.heap.size = yb at *
 have hfold:=fold_signed HY.out.2.1
 simp only [zeros, List.replicate, List.cons_append, List.nil_append] at hfold
 have hrg : World.rangeAt w7 yb 0 Y:=(sta_front HO7.out).blk1.range0
 have HIY:=Lib.hid (show (Tryz.prog.info? 51).map (·.size) = some Y.length by rw [HY.out.2.1]; exact info_signed)
 have HN:=Lib.hid (HO7.out.new Y 51)
 have z2:=(HN.out.drop).blk1.free 2
 have c2:=(HN.out.drop).blk1.cell (i:=2) rfl
 have lY : Y.length = 36:=HY.out.2.1
 go_upto_region 17 with ((with_reducible show wpList _ _ _ (⟨some 65, _, _, _, _, _⟩::_) _ _); refine wpList_load_mid rfl 51 _ rfl yb 0 rfl Y _ hrg Tryz.underlying51 rfl HIY.out ?_)
 generalize hW8 : World.setCell _ _ _ = w8
 have HO8:=Lib.hid (pub_set_eq HN.out hW8)
 clear hrg z2 c2 HN hfold lY HO7 hW8
 generalize (World.heap _).size = nb at HO8 ⊢
 go_wp2_with fail
 go_ret2
 exact ⟨s, r, g, _, S', Sg, rfl, open_last HO8.out HY.out HLI.out.1 HLI.out.2 rfl⟩
end
section
variable {w0 w w' : World} {d s r g b : Nat} {M M' M1 M2 : DiskM} {Os : List Ob} {R R' : RingM} {G : SegM} {Sr Sg S' : Nat → Prop} {lv : Value} {x : Ob} {L : List Hd} {E : List By} {st cp : Int} {fl : Bool} {X : Nat} {sd : ByteArray}
theorem open_up2 (hO : OpenOk w0 w d sd L E st M2 Os) (hM : UpS cp L E st fl X M2) (hr : Rises 0 L) (h8 : L.length ≤ 8) (hg : GoodL L E) :
  Calls Tryz.prog 20 #[.pointer (some ⟨d, 0, none⟩), .string sd] w fun e w'=>∃ s, e = .returned (.tuple #[.pointer (some ⟨s, 0, none⟩), .int .i64 0])∧StaUp w0 w' d s Os sd cp L E st fl X:=by
 cases hl : L.length with
 | zero =>
  obtain rfl : L = []:=List.eq_nil_of_length_eq_zero hl
  refine (open_c hO).mono ?_
  rintro e w' ⟨s, r, g, Sr, Sg, rfl, h⟩
  exact ⟨s, rfl, r, g, _, Sr, Sg, M2, [], hM, h, Or.inl ⟨rfl, rfl, rfl⟩⟩
 | succ i =>
  obtain ⟨y, hy⟩ : ∃ y, L[i]? = some y:=⟨_, List.getElem?_eq_getElem (by omega)⟩
  refine (open_d hO hy hl h8 hr hg ⟨hM.up.1, hM.up.2.1⟩).mono ?_
  rintro e w' ⟨s, r, g, lv, Sr, Sg, rfl, Ls, h, hl⟩
  exact ⟨s, rfl, r, g, lv, Sr, Sg, M2, Ls, hM, h, hl⟩
theorem station_open (h : Ows w0 w d M Os) (hM : MdS cp L E st fl X M) (hr : Rises 0 L) (h8 : L.length ≤ 8) (hg : GoodL L E) (hsd : sd.size ≤ 1000) :
  Calls Tryz.prog 20 #[.pointer (some ⟨d, 0, none⟩), .string sd] w (StaOpen w0 d Os sd cp L E st fl X):=by
 have hu:=hM.up
 rcases hM.ringOpen hr h8 with ⟨M1, e1, h1⟩ | ⟨hf, l, M', e1, h1⟩
 ·have hu1:=h1.up
  have hok1 : M1.Ok:=by
   have hap:=h.ringOpen sd hsd (by omega)
   rw [e1] at hap
   obtain ⟨e, w', fr, hq, _⟩:=hap []
   rcases hq with ⟨q, _⟩ | ⟨_, r, S, _, q2⟩
   ·exact absurd rfl q
   ·exact q2.ok
  rcases h1.segOpen hok1 with ⟨M2, e2, h2⟩ | ⟨hf, l, M', e2, h2⟩
  ·exact (open_up2 (open_oks h hu.2.2 hsd e1 hu1.2.1 hu1.2.2 e2) h2 hr h8 hg).mono (fun e w' q=>Or.inr q)
  ·refine (open_b h hu.2.2 hsd e1 hu1.2.1 hu1.2.2 e2).mono ?_
   rintro e w' ⟨rfl, q⟩
   exact Or.inl ⟨hf, rfl, M', h2, q⟩
 ·refine (open_a h hu.2.2 hsd e1).mono ?_
  rintro e w' ⟨rfl, q⟩
  exact Or.inl ⟨hf, rfl, M', h1, q⟩
theorem new_ring (cp : Int) : (DiskM.new cp).openR = (0, [], staD cp [] [] false 0 false 0 0):=by rfl
theorem new_nr (hc : 0 ≤ cp) : NrS cp [] [] 0 false 0 (staD cp [] [] false 0 false 0 0):=⟨[], 0, 0, rfl, (fun h=>by cases h), exact_nil.1.mess, by simp [AM.sum]⟩
theorem station_new (h : Ows w0 w d (DiskM.new cp) Os) (hc : 0 ≤ cp) (hsd : sd.size ≤ 1000) :
  Calls Tryz.prog 20 #[.pointer (some ⟨d, 0, none⟩), .string sd] w fun e w'=>∃ s, e = .returned (.tuple #[.pointer (some ⟨s, 0, none⟩), .int .i64 0])∧StaUp w0 w' d s Os sd cp [] [] 0 false 0:=by
 have h1:=new_nr hc
 have hu1:=h1.up
 have hok1 : (staD cp [] [] false 0 false 0 0).Ok:=by
  have hap:=h.ringOpen sd hsd (by show 0 + 0 < 300000000; omega)
  rw [new_ring cp] at hap
  obtain ⟨e, w', fr, hq, _⟩:=hap []
  rcases hq with ⟨q, _⟩ | ⟨_, r, S, _, q2⟩
  ·exact absurd rfl q
  ·exact q2.ok
 rcases h1.segOpen hok1 with ⟨M2, e2, h2⟩ | ⟨hf, _⟩
 ·exact open_up2 (open_oks h (by show 0 + 0 < 80000000; omega) hsd (new_ring cp) hu1.2.1 hu1.2.2 e2) h2 (by trivial) (by simp) (GoodL.nil _)
 ·cases hf
theorem publish_cases (h : Ows w0 w d M (staO s r g lv ⟨sd, L, st, false⟩ ⟨E, st, false⟩ Sr Sg Os)) (hM : UpS cp L E st fl X M) (hne : 0 < E.length) (hr : Rises 0 L) (h8 : L.length ≤ 8) (hX : (X : Int) + 2000 ≤ cp) :
    (Calls Tryz.prog 13 #[.pointer (some ⟨s, 0, none⟩)] w fun e w' => ∃ x, x ≠ 0 ∧ e = .returned (.tuple #[.agg signed0C.toArray, .int .i64 x]) ∧
      ((∃ M', UpS cp L E st fl X M' ∧ Ows w0 w' d M' (staO s r g lv ⟨sd, L, st, false⟩ ⟨E, st, false⟩ Sr Sg Os)) ∨
       (fl = true ∧ ∃ L' M', (L' = L ∨ L' = L ++ [(E.length, rootE E)]) ∧ Rises 0 L' ∧ L'.length ≤ 8 ∧ DnS cp L' E st X M' ∧ Ows w0 w' d M' Os))) ∨
    (∃ m L', m < 8 ∧ L'.length = m + 1 ∧ L'[m]? = some (E.length, rootE E) ∧ Rises 0 L' ∧ (L' = L ∨ (L' = L ++ [(E.length, rootE E)] ∧ m = L.length)) ∧
      Calls Tryz.prog 13 #[.pointer (some ⟨s, 0, none⟩)] w fun e w' => ∃ M', UpS cp L' E st fl X M' ∧ PubYes w0 d s r g ⟨E, st, false⟩ Sg Os E.length (rootE E) m ⟨sd, L', st, false⟩ M' e w') := by
  have hu := hM.up
  have h32 := rootE_len E
  have hh : HdOk (E.length, rootE E) := ⟨hne, hu.2.2.2.1, h32⟩
  have ho : RingM.over ⟨sd, L, st, false⟩ M = false := by simp [RingM.over, hu.1, hu.2.1]
  rcases next_cases hr h8 hh with ⟨m, e1, e2, e3⟩ | ⟨x, e1, e2⟩ | ⟨e1, e2, e3⟩
  · refine Or.inr ⟨m, L, by omega, e1, e2, hr, Or.inl rfl, ?_⟩
    refine (publish_yes h hne rfl (i := m) (M' := M) (R' := ⟨sd, L, st, false⟩) (fun w1 Os1 h1 => ?_)).mono (fun e w' q => ⟨M, hM, q⟩)
    obtain ⟨B, h1⟩ := h1
    exact (held_again h1.held E.length (rootE E) hu.2.2.2.1 h32 ho m (by omega) e3).mono fun e w' q => sign_st h1 (signed_as h32 q)
  · refine Or.inl ?_
    refine (publish_no h hne rfl (x := x) (M' := M) (R' := ⟨sd, L, st, false⟩) e1 (fun w1 Os1 h1 => ?_)).mono (fun e w' q => ⟨x, e1, q.1, Or.inl ⟨M, hM, q.2⟩⟩)
    obtain ⟨B, h1⟩ := h1
    exact (held_refused h1.held E.length (rootE E) h32 ho 0 false x e2 e1).mono fun e w' q => sign_no_st h1 q
  · rcases hM.keepR hh hr e1 hX with ⟨M', k1, k2⟩ | ⟨hf, L', M', k1, k2, k3⟩
    · refine Or.inr ⟨L.length, L ++ [(E.length, rootE E)], e1, by simp, by simp, e3, Or.inr ⟨rfl, rfl⟩, ?_⟩
      refine (publish_yes h hne rfl (i := L.length) (M' := M') (R' := ⟨sd, L ++ [(E.length, rootE E)], st, false⟩) (fun w1 Os1 h1 => ?_)).mono (fun e w' q => ⟨M', k2, q⟩)
      obtain ⟨B, h1⟩ := h1
      exact (held_fresh h1.held E.length (rootE E) hne hu.2.2.2.1 h32 ho L.length e1 rfl e2 M' k1 (by have := hu.2.2.1; omega)).mono fun e w' q => sign_st h1 (signed_as h32 q)
    · refine Or.inl ?_
      refine (publish_no h hne rfl (x := 61) (M' := M') (R' := { (⟨sd, L, st, false⟩ : RingM) with dead := decide ((61 : Int) = 61) }) (by decide) (fun w1 Os1 h1 => ?_)).mono (fun e w' q => ⟨61, by decide, q.1, Or.inr ⟨hf, L', M', k2, ?_, ?_, k3, q.2.drop.drop.drop⟩⟩)
      · obtain ⟨B, h1⟩ := h1
        exact (held_fails h1.held E.length (rootE E) hu.2.2.2.1 h32 ho L.length e2 61 M' k1 (by decide) (by have := hu.2.2.1; omega)).mono fun e w' q => sign_no_st h1 q
      · rcases k2 with rfl | rfl
        · exact hr
        · exact e3
      · rcases k2 with rfl | rfl
        · exact h8
        · rw [List.length_append, List.length_singleton]; omega
theorem publish_empty (h : Ows w0 w d M (staO s r g lv R G Sr Sg Os)) (hne : G.entries = []) :
  Calls Tryz.prog 13 #[.pointer (some ⟨s, 0, none⟩)] w fun e w'=>e = .returned (.tuple #[.agg signed0C.toArray, .int .i64 4])∧Ows w0 w' d M (staO s r g lv R G Sr Sg Os):=by
 have HU:=Lib.hid h
 have HE:=Lib.hid hne
 clear h hne
 go_enter Tryz.func13, Tryz.ntmps13
 go_upto_region 1 with fail
 generalize hW : World.alloc w _ = W
 have HO:=Lib.hid (show Ows w0 W d M (staO s r g lv R G Sr Sg (.blk w.heap.size signed0C 51::Os)) from by rw [← hW]; exact pub_alloc HU.out)
 clear hW HU
 generalize w.heap.size = hb at *
 have c1:=sta_cell (i:=1) HO.out rfl
 have hn:=sta_none HO.out
 have hcn:=HO.out.count (s:=g) (G:=G) (S:=Sg) (by simp)
 rw [HE.out] at hcn
 have HI:=Lib.hid (show (Tryz.prog.info? 51).map (·.size) = some signed0C.length by rw [signed0_len]; exact info_signed)
 go_wp2_with (first
  | (go_at_call 43; refine hn.mono ?_; rintro e w' ⟨rfl, rfl⟩)
  | (go_at_call 44; refine hcn.mono ?_; rintro e w' ⟨rfl, rfl⟩)
  | ((with_reducible show wpList _ _ _ (⟨none, .store _ (.tmp 2) _, _, _, _, _⟩::_) _ _); refine wpList_store_mid rfl 51 _ _ rfl hb 0 signed0C.toArray rfl rfl ?hth ?hi ?h1 ?_))
 case hth=>exact (pub_store HO.out signed0_len).1
 case hi=>exact (by rw [List.size_toArray]; exact HI.out)
 case h1=>exact signed0_one
 have hst:=(pub_store HO.out signed0_len).2
 exact bodyPost_ret ((sta_front hst).blk1.result2 rfl rfl Tryz.underlying51 rfl HI.out) rfl ⟨rfl, (sta_front hst).drop⟩
end
end Go.Proofs.YtpmdlkogccojmaaGreatDoor
