/- Step FrG ChkN -/
import Derived.Test.YtlgeijbgkipliaaGreatDoorUChecksSure19
import Derived.Test.YtlgeijbgkipliaaGreatDoorUChecksSure22
import Derived.Test.YtlgeijbgkipliaaGreatDoorUChecksSure35
import Derived.Test.YtlgeijbgkipliaaGreatDoorUChecksSure13
import Derived.Test.YtlgeijbgkipliaaGreatDoorUChecksSure18
import Derived.Test.YtlgeijbgkipliaaGreatDoorUChecksSure32
set_option linter.unusedVariables false
set_option linter.unusedSimpArgs false
namespace Go.Proofs.YtlgeijbgkipliaaGreatDoor
open Go.RowKit
section
variable {w w' : World} {B : Nat → Prop} {d : Nat} {M M' : DiskM} {r : Int}
theorem delete_ap (h : Apart B d M w) (n : Int) (n0 : -9223372036854775808 ≤ n ∧ n ≤ 9223372036854775807) (he : M.delete n = (r, M')) :
    Calls Tryz.prog 95 #[.pointer (some ⟨d, 0, none⟩), .int .i64 n] w fun e w' => e = .returned (.int .i64 r) ∧ Apart B d M' w' ∧ Kept (fun k => ¬ B k) w w' := by
  obtain ⟨hl, hb, fp, h1, h2⟩ := h
  have hl' := DiskM.Live.delete hl n
  refine (delete_to w n n0 h1 hl).mono ?_
  rw [he] at hl' ⊢
  rintro e w' ⟨rfl, hto⟩
  exact ⟨rfl, Apart.next hl' hb h2 hto⟩
end
section
variable {w w' : World} {d : Nat}
end
section
variable {w : World} {d : Nat}
end
section
variable {w : World} {d : Nat} {B : Nat → Prop} {M : DiskM}
end
end Go.Proofs.YtlgeijbgkipliaaGreatDoor

namespace Go.Proofs.YtlgeijbgkipliaaGreatDoor
open Go.RowKit
structure Og where
  own : Nat → Prop
  holds : World → Nat → Prop
  keep' : ∀ {w w' : World} {d : Nat} {Z : Nat → Prop}, holds w d → Kept Z w w' → (∀ k, own k → ¬ Z k) → holds w' d
  lt' : ∀ {w : World} {d k : Nat}, holds w d → own k → k < w.heap.size
theorem Og.keep {x : Og} {w w' : World} {d : Nat} {Z : Nat → Prop} (h : x.holds w d) (hk : Kept Z w w') (hZ : ∀ k, x.own k → ¬ Z k) : x.holds w' d := x.keep' h hk hZ
theorem Og.lt {x : Og} {w : World} {d : Nat} (h : x.holds w d) {k : Nat} (hk : x.own k) : k < w.heap.size := x.lt' h hk
def Og.hrow (v : Value) (l : List By) : Og := ⟨fun k => v.ownBlock = some k, fun w _ => Row w 57 32 v (hcells l), fun h hk hZ => Row.kept h hk hZ, fun h hk => Row.lt h hk⟩
def Og.blk (b : Nat) (c : List Value) (t : TypeId) : Og := ⟨fun k => k = b, fun w _ => Blk w b c t, fun h hk hZ => Blk.kept h hk (hZ b rfl), fun h hk => by rw [show _ = b from hk]; exact Blk.lt h⟩
structure FrG (w0 w : World) (d : Nat) (M : DiskM) (B : Nat → Prop) (Os : List Og) : Prop where
  ap : Apart B d M w
  old : ∀ k, k < w0.heap.size → B k
  tab0 : Tab w0
  kept : Kept (fun _ => False) w0 w
  obs : ∀ x ∈ Os, x.holds w d ∧ ∀ k, x.own k → B k ∧ w0.heap.size ≤ k
  apart : Os.Pairwise fun x y => ∀ k, x.own k → ¬ y.own k
def Owg (w0 w : World) (d : Nat) (M : DiskM) (Os : List Og) : Prop := ∃ B, FrG w0 w d M B Os
section
variable {w0 w w' : World} {d r s b : Nat} {M M' : DiskM} {B B' S Z : Nat → Prop} {Os Os' : List Og} {a x : Og} {c c' : List Value} {t : TypeId} {v : Value} {l : List By} {y : Int}
theorem FrG.tab (h : FrG w0 w d M B Os) : Tab w := h.tab0.same h.kept
theorem FrG.lt (h : FrG w0 w d M B Os) (hx : x ∈ Os) {k : Nat} (hk : x.own k) : k < w.heap.size := Og.lt (h.obs x hx).1 hk
theorem FrG.perm (h : FrG w0 w d M B Os) (hp : Os.Perm Os') : FrG w0 w d M B Os' :=
  ⟨h.ap, h.old, h.tab0, h.kept, fun x q => h.obs x (hp.mem_iff.2 q), h.apart.perm hp (fun h k q z => h k z q)⟩
theorem FrG.sub (h : FrG w0 w d M B Os) (hp : Os'.Sublist Os) : FrG w0 w d M B Os' :=
  ⟨h.ap, h.old, h.tab0, h.kept, fun x q => h.obs x (hp.subset q), h.apart.sublist hp⟩
theorem FrG.same (h : FrG w0 w d M B Os) (hk : Kept (fun _ => False) w w') : FrG w0 w' d M B Os :=
  ⟨h.ap.same hk, h.old, h.tab0, h.kept.trans hk, fun x q => ⟨Og.keep (h.obs x q).1 hk (fun _ _ => id), (h.obs x q).2⟩, h.apart⟩
theorem FrG.swap (h : FrG w0 w d M B (a :: Os)) (hk : Kept (fun k => ¬ B k ∨ a.own k) w w') (ha : Apart (fun k => B k ∨ x.own k) d M' w') (hx : x.holds w' d) (ho : ∀ k, x.own k → a.own k ∨ w.heap.size ≤ k) : FrG w0 w' d M' (fun k => B k ∨ x.own k) (x :: Os) := by
  obtain ⟨p1, p2⟩ := List.pairwise_cons.1 h.apart
  have h0 := h.obs a (List.mem_cons_self ..)
  refine ⟨ha, fun k q => Or.inl (h.old k q), h.tab0, h.kept.then_ hk (fun i hi z => ?_), fun y q => ?_, List.pairwise_cons.2 ⟨fun y q k e z => ?_, p2⟩⟩
  · rcases z with z | z
    · exact z (h.old i hi)
    · have := (h0.2 i z).2; omega
  · rcases List.mem_cons.1 q with rfl | q
    · refine ⟨hx, fun k e => ⟨Or.inr e, ?_⟩⟩
      rcases ho k e with z | z
      · exact (h0.2 k z).2
      · exact Nat.le_trans h.kept.size z
    · have hy := h.obs y (List.mem_cons_of_mem _ q)
      exact ⟨Og.keep hy.1 hk (fun k e z => z.elim (fun n => n (hy.2 k e).1) (fun z => p1 y q k z e)), fun k e => ⟨Or.inl (hy.2 k e).1, (hy.2 k e).2⟩⟩
  · rcases ho k e with n | n
    · exact p1 y q k n z
    · have := Og.lt (h.obs y (List.mem_cons_of_mem _ q)).1 z
      omega
theorem FrG.to (h : FrG w0 w d M B Os) (hk : Kept (fun k => ¬ B k) w w') (ha : Apart B d M' w') : FrG w0 w' d M' B Os :=
  ⟨ha, h.old, h.tab0, h.kept.then_ hk (fun i hi z => z (h.old i hi)), fun x q => ⟨Og.keep (h.obs x q).1 hk (fun k e z => z ((h.obs x q).2 k e).1), (h.obs x q).2⟩, h.apart⟩
theorem FrG.come (h : FrG w0 w d M B Os) (hk : Kept (fun k => ¬ B k) w w') (ha : Apart (fun k => B k ∨ x.own k) d M' w') (hx : x.holds w' d) (ho : ∀ k, x.own k → w.heap.size ≤ k) : FrG w0 w' d M' (fun k => B k ∨ x.own k) (x :: Os) := by
  refine ⟨ha, fun k q => Or.inl (h.old k q), h.tab0, h.kept.then_ hk (fun i hi z => z (h.old i hi)), fun y q => ?_, List.pairwise_cons.2 ⟨fun y q k e z => ?_, h.apart⟩⟩
  · rcases List.mem_cons.1 q with rfl | q
    · exact ⟨hx, fun k e => ⟨Or.inr e, Nat.le_trans h.kept.size (ho k e)⟩⟩
    · have hy := h.obs y q
      exact ⟨Og.keep hy.1 hk (fun k e z => z (hy.2 k e).1), fun k e => ⟨Or.inl (hy.2 k e).1, (hy.2 k e).2⟩⟩
  · have := Og.lt (h.obs y q).1 z
    have := ho k e
    omega
theorem FrG.add (h : FrG w0 w d M B Os) (hk : Kept (fun _ => False) w w') (hx : x.holds w' d) (ho : ∀ k, x.own k → w.heap.size ≤ k) : FrG w0 w' d M (fun k => B k ∨ x.own k) (x :: Os) :=
  h.come (hk.mono (fun _ _ => False.elim)) (h.ap.grow hk (fun _ _ => False.elim) (fun k q => q.imp id (fun q => ⟨ho k q, Og.lt hx q⟩))) hx ho
theorem Owg.same (h : Owg w0 w d M Os) (hk : Kept (fun _ => False) w w') : Owg w0 w' d M Os := by obtain ⟨B, h⟩ := h; exact ⟨_, h.same hk⟩
theorem Owg.add (h : Owg w0 w d M Os) (hk : Kept (fun _ => False) w w') (hx : x.holds w' d) (ho : ∀ k, x.own k → w.heap.size ≤ k) : Owg w0 w' d M (x :: Os) := by obtain ⟨B, h⟩ := h; exact ⟨_, h.add hk hx ho⟩
theorem Owg.perm (h : Owg w0 w d M Os) (hp : Os.Perm Os') : Owg w0 w d M Os' := by obtain ⟨B, h⟩ := h; exact ⟨_, h.perm hp⟩
theorem Owg.sub (h : Owg w0 w d M Os) (hp : Os'.Sublist Os) : Owg w0 w d M Os' := by obtain ⟨B, h⟩ := h; exact ⟨_, h.sub hp⟩
theorem Owg.drop (h : Owg w0 w d M (x :: Os)) : Owg w0 w d M Os := h.sub (List.sublist_cons_self ..)
theorem Owg.has (h : Owg w0 w d M Os) (hx : x ∈ Os) : x.holds w d := by obtain ⟨B, h⟩ := h; exact (h.obs x hx).1
theorem Owg.old (h : Owg w0 w d M Os) : Kept (fun _ => False) w0 w := by obtain ⟨B, h⟩ := h; exact h.kept
theorem Owg.tab (h : Owg w0 w d M Os) : Tab w := by obtain ⟨B, h⟩ := h; exact h.tab
theorem Owg.ok (h : Owg w0 w d M Os) : M.Ok := by obtain ⟨B, h⟩ := h; exact h.ap.ok
theorem Owg.live (h : Owg w0 w d M Os) : M.Live := by obtain ⟨B, h⟩ := h; exact h.ap.live
theorem Owg.two (h : Owg w0 w d M (a :: x :: Os)) : Owg w0 w d M (x :: a :: Os) := h.perm (List.Perm.swap _ _ _)
theorem Owg.new (h : Owg w0 w d M Os) (c : List Value) (t : TypeId) : Owg w0 (w.alloc (.cells c.toArray t)) d M (Og.blk w.heap.size c t :: Os) :=
  h.add ((Kept.refl _ _).alloc _) (Blk.new w c t) (fun k q => by have : k = w.heap.size := q; omega)
theorem Owg.turn (h : Owg w0 w d M (Og.blk b c t :: Os)) (hk : Kept (· = b) w w') (hb : Blk w' b c' t) : Owg w0 w' d M (Og.blk b c' t :: Os) := by
  obtain ⟨B, h⟩ := h
  have h0 := (h.obs _ (List.mem_cons_self ..)).2 b rfl
  exact ⟨_, h.swap (x := Og.blk b c' t) (hk.mono (fun _ _ e => Or.inr e)) ((h.ap.turn hk (fun k e => by rw [e]; exact h0.1)).fewer (fun k q => q.elim id (fun e => by rw [show k = b from e]; exact h0.1))) hb (fun _ q => Or.inl q)⟩
theorem Owg.made (hA : Apart (fun k => k < w0.heap.size) d M w) (ht : Tab w0) (hk : Kept (fun _ => False) w0 w) : Owg w0 w d M [] := ⟨_, hA, fun _ => id, ht, hk, fun x q => (List.not_mem_nil q).elim, List.Pairwise.nil⟩
theorem Owg.crash (h : Owg w0 w d M Os) (k : Int) (k0 : -9223372036854775808 ≤ k ∧ k ≤ 9223372036854775807) (he : M.crashR k = (y, M')) :
    Calls Tryz.prog 26 #[.pointer (some ⟨d, 0, none⟩), .int .i64 k] w fun e w' => e = .returned (.int .i64 y) ∧ Owg w0 w' d M' Os := by
  obtain ⟨B, h⟩ := h
  exact (crash_ap h.ap k k0 he).mono fun e w' q => ⟨q.1, B, h.to q.2.2 q.2.1⟩
theorem Owg.start (h : Owg w0 w d M Os) (hs : 0 ≤ M.starts ∧ M.starts < 9223372036854775807) (he : M.startR = (y, M')) :
    Calls Tryz.prog 33 #[.pointer (some ⟨d, 0, none⟩)] w fun e w' => e = .returned (.int .i64 y) ∧ Owg w0 w' d M' Os := by
  obtain ⟨B, h⟩ := h
  exact (start_ap h.ap hs he).mono fun e w' q => ⟨q.1, B, h.to q.2.2 q.2.1⟩
theorem Owg.fail (h : Owg w0 w d M Os) (n k : Int) (n0 : -9223372036854775808 ≤ n ∧ n ≤ 9223372036854775807) (k0 : -9223372036854775808 ≤ k ∧ k ≤ 9223372036854775807) (he : M.failR n k = (y, M')) :
    Calls Tryz.prog 31 #[.pointer (some ⟨d, 0, none⟩), .int .i64 n, .int .i64 k] w fun e w' => e = .returned (.int .i64 y) ∧ Owg w0 w' d M' Os := by
  obtain ⟨B, h⟩ := h
  exact (fail_ap h.ap n k n0 k0 he).mono fun e w' q => ⟨q.1, B, h.to q.2.2 q.2.1⟩
theorem Owg.isup (h : Owg w0 w d M Os) {b : Bool} (he : (!M.down) = b) :
    Calls Tryz.prog 32 #[.pointer (some ⟨d, 0, none⟩)] w fun e w' => e = .returned (.bool b) ∧ w = w' := by
  obtain ⟨B, h⟩ := h
  exact up_ap h.ap he
theorem Owg.dcreate (h : Owg w0 w d M Os) (n : Int) (n0 : -9223372036854775808 ≤ n ∧ n ≤ 9223372036854775807) (hc : M.files.length + M.loose.length < 300000000) (he : M.create n = (y, M')) :
    Calls Tryz.prog 11 #[.pointer (some ⟨d, 0, none⟩), .int .i64 n] w fun e w' => e = .returned (.int .i64 y) ∧ Owg w0 w' d M' Os := by
  obtain ⟨B, h⟩ := h
  exact (create_ap h.ap n n0 hc he).mono fun e w' q => ⟨q.1, B, h.to q.2.2 q.2.1⟩
theorem Owg.dappend (h : Owg w0 w d M Os) (n : Int) (n0 : -9223372036854775808 ≤ n ∧ n ≤ 9223372036854775807) (s : ByteArray) (hc : M.files.length + M.loose.length < 300000000) (he : M.append n s.data.toList = (y, M')) :
    Calls Tryz.prog 13 #[.pointer (some ⟨d, 0, none⟩), .int .i64 n, .string s] w fun e w' => e = .returned (.int .i64 y) ∧ Owg w0 w' d M' Os := by
  obtain ⟨B, h⟩ := h
  exact (append_ap h.ap n n0 s hc he).mono fun e w' q => ⟨q.1, B, h.to q.2.2 q.2.1⟩
theorem Owg.ddelete (h : Owg w0 w d M Os) (n : Int) (n0 : -9223372036854775808 ≤ n ∧ n ≤ 9223372036854775807) (he : M.delete n = (y, M')) :
    Calls Tryz.prog 95 #[.pointer (some ⟨d, 0, none⟩), .int .i64 n] w fun e w' => e = .returned (.int .i64 y) ∧ Owg w0 w' d M' Os := by
  obtain ⟨B, h⟩ := h
  exact (delete_ap h.ap n n0 he).mono fun e w' q => ⟨q.1, B, h.to q.2.2 q.2.1⟩
theorem Owg.dsync (h : Owg w0 w d M Os) (he : M.sync = (y, M')) :
    Calls Tryz.prog 55 #[.pointer (some ⟨d, 0, none⟩)] w fun e w' => e = .returned (.int .i64 y) ∧ Owg w0 w' d M' Os := by
  obtain ⟨B, h⟩ := h
  exact (sync_ap h.ap he).mono fun e w' q => ⟨q.1, B, h.to q.2.2 q.2.1⟩
theorem Owg.dtruncate (h : Owg w0 w d M Os) (n size : Int) (n0 : -9223372036854775808 ≤ n ∧ n ≤ 9223372036854775807) (he : M.truncate n size = (y, M')) :
    Calls Tryz.prog 52 #[.pointer (some ⟨d, 0, none⟩), .int .i64 n, .int .i64 size] w fun e w' => e = .returned (.int .i64 y) ∧ Owg w0 w' d M' Os := by
  obtain ⟨B, h⟩ := h
  exact (truncate_ap h.ap n size n0 he).mono fun e w' q => ⟨q.1, B, h.to q.2.2 q.2.1⟩
end
end Go.Proofs.YtlgeijbgkipliaaGreatDoor

namespace Go.Proofs.YtlgeijbgkipliaaGreatDoor
open Go.RowKit
end Go.Proofs.YtlgeijbgkipliaaGreatDoor
