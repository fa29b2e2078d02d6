/- A ring and its disk, as the laws of chapter 34 hold them; the contracts in that form. Plain: what becomes of a ring's disk in the law KeyringOnce. No program. What a law's walk holds: blocks of its own, the disk, the ring; the contracts in that form. The statements' example of layer 34: ringed. -/
import Derived.Deep.RegionHeld3
import Derived.Test.YtaimokclhcfohaaDoorUKeyringOnce35
import Derived.Test.YtaimokclhcfohaaDoorUKeyringOnce30
set_option linter.unusedVariables false
set_option linter.unusedSimpArgs false
namespace Go.Proofs.YtaimokclhcfohaaDoor
open Go.RowKit

/-- A ring at r on the disk at d; B: what does not turn but by the ring itself; S: the ring's own blocks. -/
structure Held (w : World) (r d : Nat) (R : RingM) (M : DiskM) (B S : Nat → Prop) : Prop where
  ap : Apart B d M w
  ring : IsRing w r d R S
  sub : ∀ k, S k → B k
  keep : Keeps B
  off : ¬ S 0 ∧ ¬ S 1
  tab : Tab w
theorem topF_32 (n : Nat) : ∀ (l : List By) (i : Nat), l.length ≤ n → (∀ x ∈ l, x.length = 32) → ∀ x ∈ topF l i, x.length = 32 := by
  induction n with
  | zero => intro l i hl _ x hx; rw [topF_few (by omega)] at hx; cases hx
  | succ n ih =>
    intro l i hl h x hx
    by_cases h2 : 2 ≤ l.length
    · have hs := splitN_in h2
      by_cases hi : i < splitN l.length
      · rw [topF_low h2 hi] at hx
        rcases List.mem_cons.1 hx with rfl | hx
        · exact rootF_len (fun y hy => h y (List.mem_of_mem_drop hy))
        · exact ih _ _ (by rw [List.length_take]; omega) (fun y hy => h y (List.mem_of_mem_take hy)) x hx
      · rw [topF_high h2 hi] at hx
        rcases List.mem_cons.1 hx with rfl | hx
        · exact rootF_len (fun y hy => h y (List.mem_of_mem_take hy))
        · exact ih _ _ (by rw [List.length_drop]; omega) (fun y hy => h y (List.mem_of_mem_drop hy)) x hx
    · rw [topF_few h2] at hx; cases hx
theorem pathF_32 (seed : By) (i : Nat) : ∀ x ∈ pathF (leavesF seed) i, x.length = 32 := by
  intro x hx
  unfold pathF at hx
  exact topF_32 _ _ i (Nat.le_refl _) (leaves_32 seed) x (List.mem_reverse.1 hx)
theorem head_signed (seed : By) (size : Nat) (root : By) (i : Nat) (hi : i < 8) : headF (rootF (leavesF seed)) size root i (signF seed i (digestF size root)) (pathF (leavesF seed) i) = 0 := by
  have h := proves_sign seed i hi (digestF size root)
  have hc : checkAns (leafF (recoveredF (signF seed i (digestF size root)) (digestF size root))) (rootF (leavesF seed)) i 8 (pathF (leavesF seed) i) = 0 := by
    unfold checkAns
    simp [h, hi]
  unfold headF verifyF
  rw [hc]
  simp
section
variable {w w' : World} {r d : Nat} {R R' : RingM} {M M' : DiskM} {B S : Nat → Prop}
/-- What comes meanwhile is one's own. -/
theorem Held.more (h : Held w r d R M B S) (hk : Kept (fun _ => False) w w') : Held w' r d R M (fun k => B k ∨ (w.heap.size ≤ k ∧ k < w'.heap.size)) S :=
  ⟨h.ap.grow hk (fun _ _ => False.elim) (fun _ q => q), h.ring.same hk, fun k q => Or.inl (h.sub k q), ⟨Or.inl h.keep.1, Or.inl h.keep.2⟩, h.off, h.tab.same hk⟩
theorem Held.same (h : Held w r d R M B S) (hk : Kept (fun _ => False) w w') : Held w' r d R M B S :=
  ⟨h.ap.same hk, h.ring.same hk, h.sub, h.keep, h.off, h.tab.same hk⟩
/-- A block that is one's own, and not the ring's, is as it was behind a call of the ring. -/
theorem held_blk {b : Nat} {c : List Value} {t : TypeId} (h : Blk w b c t) (hk : Kept (fun k => ¬ B k ∨ S k) w w') (hB : B b) (hS : ¬ S b) : Blk w' b c t := h.kept hk (fun q => q.elim (fun n => n hB) hS)
/-- What Sign leaves when it signs. -/
def SignedTo (B S : Nat → Prop) (r d : Nat) (w : World) (size : Nat) (root : By) (i : Nat) (R' : RingM) (M' : DiskM) (e : Ending) (w' : World) : Prop :=
  ∃ a c S', e = .returned (.tuple #[signedV (size : Int) root (i : Int) ⟨(signF R'.seed.data.toList i (digestF size root)).toArray⟩ (.slice a 3 c), .int .i64 0]) ∧ Row w' 23 32 (.slice a 3 c) (hcells (pathF (leavesF R'.seed.data.toList) i)) ∧
    (∀ k, S' k → S k ∨ w.heap.size ≤ k) ∧ Held w' r d R' M' (fun k => B k ∨ S' k ∨ (Value.slice a 3 c).ownBlock = some k) S' ∧ Kept (fun k => ¬ B k ∨ S k) w w' ∧ ∀ k, (Value.slice a 3 c).ownBlock = some k → w.heap.size ≤ k ∧ ¬ S' k
theorem path_len (L : List By) (hL : L.length = 8) (i : Nat) (hi : i < 8) : (pathF L i).length = 3 := (proves_eight L hL i hi).1
theorem tab_lt (h : Tab w) : 0 < w.heap.size ∧ 1 < w.heap.size :=
  ⟨World.block_lt_of_cell? w _ (h.first 0 _ rfl), World.block_lt_of_cell? w _ (h.rounds 0 _ rfl)⟩
theorem signed_to {size : Nat} {root : By} {i : Nat} {e : Ending} (h : Held w r d R M B S) (hi : i < 8) (hy : SignYes B S r d w size root i R' M' e w') : SignedTo B S r d w size root i R' M' e w' := by
  obtain ⟨v, S', rfl, hrow, hown, hr, hS', ha, hk⟩ := hy
  obtain ⟨a, n, c, rfl, hn, -⟩ := hrow.form (by omega)
  rw [hcells_len (pathF_32 _ i), path_len _ (leavesF_len _) i hi] at hn
  obtain rfl : n = 3 := by omega
  have ht := tab_lt h.tab
  have hoff : ∀ k, k < w.heap.size → ¬ S k → ¬ S' k := fun k hl hn q => (hS' k q).elim hn (fun q => by omega)
  exact ⟨a, c, S', rfl, hrow, hS', ⟨ha, hr, fun k q => Or.inr (Or.inl q), ⟨Or.inl h.keep.1, Or.inl h.keep.2⟩, ⟨hoff _ ht.1 h.off.1, hoff _ ht.2 h.off.2⟩, h.tab.kept hk (fun q => q.elim (fun n => n h.keep.1) h.off.1) (fun q => q.elim (fun n => n h.keep.2) h.off.2)⟩, hk, hown⟩
theorem refused_to {x : Int} {e : Ending} (h : Held w r d R M B S) (hn : SignNo B S r d w x R' M' e w') : e = .returned (.tuple #[.agg signed0C.toArray, .int .i64 x]) ∧ Held w' r d R' M' B S ∧ Kept (fun k => ¬ B k ∨ k = r) w w' := by
  obtain ⟨rfl, hr, ha, hk⟩ := hn
  have ho : ∀ k, ¬ S k → ¬ k = r := fun k n e => n (by rw [e]; exact h.ring.own)
  exact ⟨rfl, ⟨ha, hr, h.sub, h.keep, h.off, h.tab.kept hk (fun q => q.elim (fun n => n h.keep.1) (ho _ h.off.1)) (fun q => q.elim (fun n => n h.keep.2) (ho _ h.off.2))⟩, hk⟩
/-- What Open leaves, when it opens. -/
theorem opened_to {seed : ByteArray} {l : List Hd} {e : Ending} (hB : Keeps B) (ht : Tab w) (ho : OpenPost B d w seed (0, l, M') e w') : ∃ rb S, e = .returned (.tuple #[.pointer (some ⟨rb, 0, none⟩), .int .i64 0]) ∧ (∀ k, S k → w.heap.size ≤ k) ∧ Held w' rb d ⟨seed, l, M'.starts, false⟩ M' (fun k => B k ∨ S k) S ∧ Kept (fun k => ¬ B k) w w' := by
  rcases ho with ⟨h0, _⟩ | ⟨-, rb, S, rfl, hr, hS, ha, hk⟩
  · exact absurd rfl h0
  · have hl := tab_lt ht
    exact ⟨rb, S, rfl, hS, ⟨ha, hr, fun k q => Or.inr q, ⟨Or.inl hB.1, Or.inl hB.2⟩, ⟨fun q => by have := hS _ q; omega, fun q => by have := hS _ q; omega⟩, ht.apart hk hB⟩, hk⟩
theorem held_fresh (h : Held w r d R M B S) (size : Nat) (root : By) (hz1 : 1 ≤ size) (hz : size ≤ 4096) (hroot : root.length = 32) (ho : R.over M = false) (i : Nat) (hi : i < 8) (hil : R.signed.length = i) (hx : nextF R.signed (size : Int) root = ((i : Int), true, 0)) (M' : DiskM) (hkr : M.keepR (size, root) = (0, M')) (hc : M.files.length + M.loose.length < 300000000) :
    Calls Tryd.prog 5 #[.pointer (some ⟨r, 0, none⟩), headV (size : Int) root] w (SignedTo B S r d w size root i { R with signed := R.signed ++ [(size, root)] } M') :=
  (sign_fresh h.ring h.ap h.sub size root hz hroot ho hz1 i hi hil hx M' hkr hc h.keep h.tab h.off).mono fun _ _ q => signed_to h hi q
theorem held_again (h : Held w r d R M B S) (size : Nat) (root : By) (hz : size ≤ 4096) (hroot : root.length = 32) (ho : R.over M = false) (i : Nat) (hi : i < 8) (hx : nextF R.signed (size : Int) root = ((i : Int), false, 0)) :
    Calls Tryd.prog 5 #[.pointer (some ⟨r, 0, none⟩), headV (size : Int) root] w (SignedTo B S r d w size root i R M) :=
  (sign_again h.ring h.ap h.sub size root hz hroot ho i hi hx h.tab h.off).mono fun _ _ q => signed_to h hi q
/-- The same, so that a walk sees but that there are cells. -/
def SignedAs (B S : Nat → Prop) (r d : Nat) (w : World) (size : Nat) (root : By) (i : Nat) (R' : RingM) (M' : DiskM) (e : Ending) (w' : World) : Prop :=
  ∃ a c S' Y, e = .returned (.tuple #[.agg Y.toArray, .int .i64 0]) ∧ Hid (Y = signedC (size : Int) root (i : Int) ⟨(signF R'.seed.data.toList i (digestF size root)).toArray⟩ (.slice a 3 c) ∧ Y.length = 36 ∧ (∀ v ∈ Y, v.oneCell' = true) ∧ Row w' 23 32 (.slice a 3 c) (hcells (pathF (leavesF R'.seed.data.toList) i)) ∧
    (∀ k, S' k → S k ∨ w.heap.size ≤ k) ∧ Held w' r d R' M' (fun k => B k ∨ S' k ∨ (Value.slice a 3 c).ownBlock = some k) S' ∧ Kept (fun k => ¬ B k ∨ S k) w w' ∧ ∀ k, (Value.slice a 3 c).ownBlock = some k → w.heap.size ≤ k ∧ ¬ S' k)
theorem signed_as {size : Nat} {root : By} {i : Nat} {e : Ending} (hroot : root.length = 32) (h : SignedTo B S r d w size root i R' M' e w') : SignedAs B S r d w size root i R' M' e w' := by
  obtain ⟨a, c, S', he, h1, h2, h3, h4, h5⟩ := h
  exact ⟨a, c, S', _, he, Lib.hid ⟨rfl, signedC_len hroot, signedC_one rfl, h1, h2, h3, h4, h5⟩⟩
/-- What Sign leaves when it does not sign. -/
def RefusedTo (B S : Nat → Prop) (r d : Nat) (w : World) (x : Int) (R' : RingM) (M' : DiskM) (e : Ending) (w' : World) : Prop := e = .returned (.tuple #[.agg signed0C.toArray, .int .i64 x]) ∧ Held w' r d R' M' B S ∧ Kept (fun k => ¬ B k ∨ k = r) w w'
theorem held_refused (h : Held w r d R M B S) (size : Int) (root : By) (hroot : root.length = 32) (ho : R.over M = false) (i : Int) (fr : Bool) (x : Int) (hx : nextF R.signed size root = (i, fr, x)) (hx0 : x ≠ 0) :
    Calls Tryd.prog 5 #[.pointer (some ⟨r, 0, none⟩), headV size root] w (RefusedTo B S r d w x R M) :=
  (sign_refused h.ring h.ap h.sub size root hroot ho i fr x hx hx0).mono fun _ _ q => refused_to h q
theorem held_down (h : Held w r d R M B S) (size : Int) (root : By) (ho : R.over M = true) :
    Calls Tryd.prog 5 #[.pointer (some ⟨r, 0, none⟩), headV size root] w (RefusedTo B S r d w 61 { R with dead := true } M) :=
  (sign_down h.ring h.ap h.sub size root ho).mono fun _ _ q => refused_to h q
theorem held_fails (h : Held w r d R M B S) (size : Nat) (root : By) (hz : size ≤ 4096) (hroot : root.length = 32) (ho : R.over M = false) (i : Int) (hx : nextF R.signed (size : Int) root = (i, true, 0)) (x : Int) (M' : DiskM) (hkr : M.keepR (size, root) = (x, M')) (hx0 : x ≠ 0) (hc : M.files.length + M.loose.length < 300000000) :
    Calls Tryd.prog 5 #[.pointer (some ⟨r, 0, none⟩), headV (size : Int) root] w (RefusedTo B S r d w x { R with dead := decide (x = 61) } M') :=
  (sign_fails h.ring h.ap h.sub size root hz hroot ho i hx x M' hkr hx0 hc h.tab h.off).mono fun _ _ q => refused_to h q
end
theorem frame_room {h : Hd} (hh : HdOk h) : (frameF (recordF h)).length ≤ 144 := by have := recordF_len hh; rw [frameF_len]; omega
/-- A block of one's own, behind a call of Sign that signs, and what comes then. -/
theorem local_next {w w' w2 : World} {B S S' V : Nat → Prop} {b : Nat} {c : List Value} {t : TypeId} (h : Blk w b c t ∧ ¬ S b ∧ B b) (hk : Kept (fun k => ¬ B k ∨ S k) w w') (hS : ∀ k, S' k → S k ∨ w.heap.size ≤ k) (hk2 : Kept (fun _ => False) w' w2) : Blk w2 b c t ∧ ¬ S' b ∧ ((B b ∨ S' b ∨ V b) ∨ (w'.heap.size ≤ b ∧ b < w2.heap.size)) := by
  have hl := h.1.lt
  exact ⟨(h.1.kept hk (fun q => q.elim (fun n => n h.2.2) h.2.1)).kept hk2 id, fun q => (hS _ q).elim h.2.1 (fun q => by omega), Or.inl (Or.inl h.2.2)⟩
theorem local_refused {w w' w2 : World} {B S : Nat → Prop} {r b : Nat} {c : List Value} {t : TypeId} (h : Blk w b c t ∧ ¬ S b ∧ B b) (hk : Kept (fun k => ¬ B k ∨ k = r) w w') (hr : S r) (hk2 : Kept (fun _ => False) w' w2) : Blk w2 b c t ∧ ¬ S b ∧ (B b ∨ (w'.heap.size ≤ b ∧ b < w2.heap.size)) :=
  ⟨(h.1.kept hk (fun q => q.elim (fun n => n h.2.2) (fun e => h.2.1 (by rw [e]; exact hr)))).kept hk2 id, h.2.1, Or.inl h.2.2⟩
/-- A block that has come since. -/
theorem local_new {w' w2 : World} {r d b : Nat} {R : RingM} {M : DiskM} {B B2 S : Nat → Prop} {c : List Value} {t : TypeId} (_ : Held w2 r d R M B2 S) (h : Held w' r d R M B S) (hb : Blk w2 b c t) (hle : w'.heap.size ≤ b) : Blk w2 b c t ∧ ¬ S b ∧ (B b ∨ (w'.heap.size ≤ b ∧ b < w2.heap.size)) :=
  ⟨hb, fun q => by have := h.ap.lt (h.sub _ q); omega, Or.inr ⟨hle, hb.lt⟩⟩
theorem row_new {w' w2 : World} {r d : Nat} {R : RingM} {M : DiskM} {B S : Nat → Prop} {v : Value} {xs : List Value} {n : Nat} (_ : Held w2 r d R M B S) (h : Row w' 23 32 v xs) (hk : Kept (fun _ => False) w' w2) (ho : ∀ k, v.ownBlock = some k → n ≤ k ∧ ¬ S k) (hB : ∀ k, v.ownBlock = some k → B k) : Row w2 23 32 v xs ∧ ∀ k, v.ownBlock = some k → ¬ S k ∧ B k :=
  ⟨h.kept hk (fun _ _ => id), fun k q => ⟨(ho k q).2, hB k q⟩⟩
theorem row_next {w w' w2 : World} {B S S' V : Nat → Prop} {v : Value} {xs : List Value} (h : Row w 23 32 v xs ∧ ∀ k, v.ownBlock = some k → ¬ S k ∧ B k) (hk : Kept (fun k => ¬ B k ∨ S k) w w') (hS : ∀ k, S' k → S k ∨ w.heap.size ≤ k) (hk2 : Kept (fun _ => False) w' w2) : Row w2 23 32 v xs ∧ ∀ k, v.ownBlock = some k → ¬ S' k ∧ ((B k ∨ S' k ∨ V k) ∨ (w'.heap.size ≤ k ∧ k < w2.heap.size)) :=
  ⟨(h.1.kept hk (fun k q n => n.elim (fun n => n (h.2 k q).2) (h.2 k q).1)).kept hk2 (fun _ _ => id), fun k q => ⟨fun n => (hS k n).elim (h.2 k q).1 (fun o => by have := h.1.lt q; omega), Or.inl (Or.inl (h.2 k q).2)⟩⟩
theorem row_refused {w w' w2 : World} {B S : Nat → Prop} {r : Nat} {v : Value} {xs : List Value} (h : Row w 23 32 v xs ∧ ∀ k, v.ownBlock = some k → ¬ S k ∧ B k) (hk : Kept (fun k => ¬ B k ∨ k = r) w w') (hr : S r) (hk2 : Kept (fun _ => False) w' w2) : Row w2 23 32 v xs ∧ ∀ k, v.ownBlock = some k → ¬ S k ∧ (B k ∨ (w'.heap.size ≤ k ∧ k < w2.heap.size)) :=
  ⟨(h.1.kept hk (fun k q n => n.elim (fun n => n (h.2 k q).2) (fun e => (h.2 k q).1 (by rw [e]; exact hr)))).kept hk2 (fun _ _ => id), fun k q => ⟨(h.2 k q).1, Or.inl (h.2 k q).2⟩⟩
theorem check_of {w : World} {sd : By} {size i : Nat} {root : By} {a : Option Addr} {c : Nat} {Y : List Value} (hY : Y = signedC (size : Int) root (i : Int) ⟨(signF sd i (digestF size root)).toArray⟩ (.slice a 3 c)) (hz : size ≤ 4096) (hroot : root.length = 32) (hi : i < 8) (hrow : Row w 23 32 (.slice a 3 c) (hcells (pathF (leavesF sd) i))) (ht : Tab w) :
    Calls Tryd.prog 15 #[hashV (rootF (leavesF sd)), .agg Y.toArray] w fun e w2 => e = .returned (.int .i64 0) ∧ Kept (fun _ => False) w w2 := by
  have h := headCheck_ok w (rootF (leavesF sd)) size i root ⟨(signF sd i (digestF size root)).toArray⟩ a c (pathF (leavesF sd) i) (rootF_len (leaves_32 _)) hroot hz hi (by show (signF _ _ _).toArray.size = _; simp [signF_len]) hrow.view (pathF_32 _ _) (by rw [path_len _ (leavesF_len _) i hi]; omega) (fun b hb => hrow.lt hb) ht
  have e1 : (⟨(signF sd i (digestF size root)).toArray⟩ : ByteArray).data.toList = signF sd i (digestF size root) := List.toList_toArray
  rw [e1, head_signed sd size root i hi] at h
  rw [hY]
  exact h
theorem same_of {w : World} {sd : By} {size i : Nat} {root : By} {sig : ByteArray} {a a' : Option Addr} {c c' : Nat} {Y Y' : List Value} (hY : Y = signedC (size : Int) root (i : Int) sig (.slice a 3 c)) (hY' : Y' = signedC (size : Int) root (i : Int) sig (.slice a' 3 c')) (hroot : root.length = 32) (hi : i < 8)
    (hrow : Row w 23 32 (.slice a 3 c) (hcells (pathF (leavesF sd) i))) (hrow' : Row w 23 32 (.slice a' 3 c') (hcells (pathF (leavesF sd) i))) :
    Calls Tryd.prog 31 #[.agg Y.toArray, .agg Y'.toArray] w fun e w2 => e = .returned (.bool true) ∧ Kept (fun _ => False) w w2 := by
  rw [hY, hY']
  exact same_ok w (size : Int) root (i : Int) sig a a' c c' 3 3 _ hroot hrow.view hrow'.view (pathF_32 sd i) (by rw [path_len _ (leavesF_len _) i hi]; omega) (by rw [path_len _ (leavesF_len _) i hi]; omega)
/-- A signed head in a block of its own. -/
theorem store_signed (w4 : World) {Y : List Value} (hY : Y.length = 36) : (w4.alloc (.cells signed0C.toArray 31)).there w4.heap.size 0 Y.length ∧ Blk ((w4.alloc (.cells signed0C.toArray 31)).setCells w4.heap.size 0 Y) w4.heap.size Y 31 ∧ Kept (fun _ => False) w4 ((w4.alloc (.cells signed0C.toArray 31)).setCells w4.heap.size 0 Y) := by
  have h := sign_fin (Blk.new w4 signed0C 31) hY
  exact ⟨h.1, h.2, ((Kept.refl (fun _ => False) w4).alloc _).then_ (kept_setCells _ w4.heap.size 0 _) (fun i hi e => by omega)⟩
end Go.Proofs.YtaimokclhcfohaaDoor

namespace Go.Proofs.YtaimokclhcfohaaDoor

/-- The heads by their keys, eight of them. -/
def byH (L : List Hd) : List Hd := L ++ List.replicate (8 - L.length) (0, zeroRoot)
theorem byH_len {L : List Hd} (h : L.length ≤ 8) : (byH L).length = 8 := by unfold byH; rw [List.length_append, List.length_replicate]; omega
theorem byH_in {L : List Hd} {i : Nat} (h : i < L.length) : (byH L)[i]? = L[i]? := by unfold byH; rw [List.getElem?_append_left h]
theorem byH_out {L : List Hd} {i : Nat} (h : L.length ≤ i) (h8 : i < 8) : (byH L)[i]? = some (0, zeroRoot) := by
  unfold byH; rw [List.getElem?_append_right h, List.getElem?_replicate, if_pos (by omega)]
theorem byH_snoc {L : List Hd} {h : Hd} (hl : L.length < 8) : (byH L).set L.length h = byH (L ++ [h]) := by
  unfold byH
  rw [List.set_append, if_neg (by omega), Nat.sub_self, show 8 - L.length = (8 - (L ++ [h]).length) + 1 by rw [List.length_append, List.length_singleton]; omega, List.replicate_succ, List.set_cons_zero, List.append_assoc]
  rfl
theorem byH_again {L : List Hd} {h : Hd} {i : Nat} (hl : (byH L)[i]? = some h) : (byH L).set i h = byH L := by
  apply List.ext_getElem?
  intro j
  rw [List.getElem?_set]
  split
  · rename_i e
    subst e
    have := (List.getElem?_eq_some_iff.1 hl).1
    rw [if_pos this, hl]
  · rfl
theorem byH_32 {L : List Hd} (h : ∀ x ∈ L, HdOk x) : ∀ x ∈ byH L, x.2.length = 32 := by
  intro x hx
  rcases List.mem_append.1 hx with q | q
  · exact (h x q).2.2
  · rw [(List.mem_replicate.1 q).2]; simp
theorem hdC_set {l : List Hd} {h : Hd} (h32 : ∀ x ∈ l, x.2.length = 32) (hh : h.2.length = 32) {i : Nat} (hi : i < l.length) : splice (hdC l) (i * 33) (headC (h.1 : Int) h.2) = hdC (l.set i h) := by
  have e : l = l.take i ++ l[i] :: l.drop (i + 1) := by rw [List.getElem_cons_drop, List.take_append_drop]
  have e2 : l.set i h = l.take i ++ h :: l.drop (i + 1) := by rw [List.set_eq_take_append_cons_drop, if_pos hi]
  have hc : ∀ (a : List Hd) (x : Hd) (b : List Hd), hdC (a ++ x :: b) = hdC a ++ (headC (x.1 : Int) x.2 ++ hdC b) := by intro a x b; simp [hdC]
  have ht : (hdC (l.take i)).length = i * 33 := by rw [hdC_len (fun x hx => h32 x (List.mem_of_mem_take hx)), List.length_take]; congr 1; omega
  have hx : (headC ((l[i]).1 : Int) (l[i]).2).length = 33 := headC_len (h32 _ (List.getElem_mem hi))
  have hn : (headC (h.1 : Int) h.2).length = 33 := headC_len hh
  rw [e2, hc]
  conv => lhs; rw [e, hc]
  unfold splice
  rw [hn, List.take_append_of_le_length (by omega), List.take_of_length_le (by omega), List.drop_append, List.drop_eq_nil_of_le (by omega), List.nil_append, ht, show i * 33 + 33 - i * 33 = 33 by omega, List.drop_append_of_le_length (by omega), List.drop_eq_nil_of_le (by omega), List.nil_append, List.append_assoc]
/-- The disk is up; its file holds the heads, nothing is loose. -/
def UpM (L : List Hd) (s : Int) (M : DiskM) : Prop := ∃ fails left keep, M = oneD (ringFile L) [] 10000 false s fails left keep ∧ (fails = true → 0 ≤ left)
/-- It is up, and has bytes behind. -/
def MdM (L' : List Hd) (s : Int) (fails : Bool) (M : DiskM) : Prop := ∃ t left keep, M = oneD (ringFile L' ++ t) [] 10000 false s fails left keep ∧ (fails = true → 0 ≤ left) ∧ cutF t = none
/-- It is down; one head more may be there. -/
def DnM (L : List Hd) (h : Hd) (s : Int) (M : DiskM) : Prop := ∃ L' t left keep, M = oneD (ringFile L' ++ t) [] 10000 true s false left keep ∧ cutF t = none ∧ (L' = L ∨ L' = L ++ [h]) ∧ Rises 0 L' ∧ L'.length ≤ 8
theorem UpM.up {L : List Hd} {s : Int} {M : DiskM} (h : UpM L s M) : M.down = false ∧ M.starts = s ∧ M.files.length + M.loose.length < 300000000 := by
  obtain ⟨f, l, k, rfl, _⟩ := h; exact ⟨rfl, rfl, by show 1 + 0 < 300000000; decide⟩
theorem MdM.up {L : List Hd} {s : Int} {f : Bool} {M : DiskM} (h : MdM L s f M) : M.down = false ∧ M.starts = s ∧ M.files.length + M.loose.length < 300000000 := by
  obtain ⟨t, l, k, rfl, _⟩ := h; exact ⟨rfl, rfl, by show 1 + 0 < 300000000; decide⟩
theorem DnM.down {L : List Hd} {h : Hd} {s : Int} {M : DiskM} (q : DnM L h s M) : M.down = true ∧ M.starts = s := by
  obtain ⟨L', t, l, k, rfl, _⟩ := q; exact ⟨rfl, rfl⟩
theorem UpM.crash {L : List Hd} {s : Int} {M : DiskM} (h : UpM L s M) (hr : Rises 0 L) (h8 : L.length ≤ 8) (x : Hd) (k : Int) : ∃ M', M.crashR k = (0, M') ∧ DnM L x s M' := by
  obtain ⟨f, l, kp, rfl, hl⟩ := h
  refine ⟨_, by rw [DiskM.crashR, if_neg (by simp [oneD]), oneD_crash], L, [], l, kp, by rw [List.append_nil], cutF_nil, Or.inl rfl, hr, h8⟩
theorem UpM.fail {L : List Hd} {s : Int} {M : DiskM} (h : UpM L s M) {n : Int} (hn : 0 ≤ n) (k : Int) : ∃ M', M.failR n k = (0, M') ∧ UpM L s M' := by
  obtain ⟨f, l, kp, rfl, hl⟩ := h
  exact ⟨_, by rw [DiskM.failR, if_neg (by simp [oneD]), if_neg (by omega)]; rfl, true, n, k, rfl, fun _ => hn⟩
theorem MdM.fail {L : List Hd} {s : Int} {f : Bool} {M : DiskM} (h : MdM L s f M) {n : Int} (hn : 0 ≤ n) (k : Int) : ∃ M', M.failR n k = (0, M') ∧ MdM L s true M' := by
  obtain ⟨t, l, kp, rfl, hl, hc⟩ := h
  exact ⟨_, by rw [DiskM.failR, if_neg (by simp [oneD]), if_neg (by omega)]; rfl, t, n, k, rfl, fun _ => hn, hc⟩
theorem DnM.start {L : List Hd} {h : Hd} {s : Int} {M : DiskM} (q : DnM L h s M) : ∃ L' M', M.startR = (0, M') ∧ MdM L' (s + 1) false M' ∧ (L' = L ∨ L' = L ++ [h]) ∧ Rises 0 L' ∧ L'.length ≤ 8 := by
  obtain ⟨L', t, l, k, rfl, hc, h1, h2, h3⟩ := q
  exact ⟨L', _, by unfold DiskM.startR; rw [if_pos (show (oneD _ _ _ _ _ _ _ _).down = true from rfl)]; rfl, ⟨t, l, k, rfl, (fun h => by cases h), hc⟩, h1, h2, h3⟩
theorem MdM.open {L L' : List Hd} {h : Hd} {s : Int} {f : Bool} {M : DiskM} (q : MdM L' s f M) (h1 : L' = L ∨ L' = L ++ [h]) (hr : Rises 0 L') (h8 : L'.length ≤ 8) :
    (∃ M', M.openR = (0, L', M') ∧ UpM L' s M') ∨ (f = true ∧ ∃ l M', M.openR = (61, l, M') ∧ DnM L h s M') := by
  obtain ⟨t, l, kp, rfl, hl, hc⟩ := q
  have hw := whole_ring hr.ok hc
  have ho : ∀ (M : DiskM), M.down = false → M.openR = M.mend := fun M h => by unfold DiskM.openR; rw [if_neg (by simp [h])]
  rw [ho _ rfl]
  rcases oneD_mend (cap := 10000) (starts := s) (keep := kp) (left := l) (fails := f) hw (readH_records hr h8) hl with ⟨left', e, q⟩ | ⟨e0, t', left', l', ht, e⟩
  · exact Or.inl ⟨_, e, f, left', kp, rfl, q⟩
  · refine Or.inr ⟨e0, l', _, e, L', t', left', kp, rfl, ?_, h1, hr, h8⟩
    rcases ht with rfl | rfl
    · exact hc
    · exact cutF_nil
theorem ring_room {L : List Hd} (hr : ∀ x ∈ L, HdOk x) : (ringFile L).length ≤ L.length * 144 := by
  induction L with
  | nil => simp [ringFile, framesF]
  | cons a r ih =>
    have e : ringFile (a :: r) = frameF (recordF a) ++ ringFile r := by simp [ringFile, framesF]
    have := frame_room (hr a (by simp))
    have := ih (fun x hx => hr x (by simp [hx]))
    rw [e, List.length_append, List.length_cons]
    omega
theorem UpM.keepR {L : List Hd} {s : Int} {M : DiskM} (q : UpM L s M) {h : Hd} (hh : HdOk h) (hr : Rises 0 L) (hr2 : Rises 0 (L ++ [h])) (h8 : L.length < 8) :
    (∃ M', M.keepR h = (0, M') ∧ UpM (L ++ [h]) s M') ∨ (∃ M', M.keepR h = (61, M') ∧ DnM L h s M') := by
  obtain ⟨f, l, kp, rfl, hl⟩ := q
  have h1 := ring_room hr.ok
  have h2 := frame_room hh
  rcases oneD_keep (f := ringFile L) (s := frameF (recordF h)) (cap := 10000) (starts := s) (keep := kp) (left := l) (fails := f) (by omega) hl with ⟨left', e, q⟩ | ⟨-, j, left', hj, e⟩
  · refine Or.inl ⟨_, e, f, left', kp, ?_, q⟩
    rw [ringFile_snoc]
  · refine Or.inr ⟨_, e, ?_⟩
    rcases Nat.lt_or_ge j (frameF (recordF h)).length with q | q
    · have := recordF_len hh
      exact ⟨L, (frameF (recordF h)).take j, left', kp, rfl, cutF_part _ (by omega) j q, Or.inl rfl, hr, by omega⟩
    · refine ⟨L ++ [h], [], left', kp, ?_, cutF_nil, Or.inr rfl, hr2, by rw [List.length_append, List.length_singleton]; omega⟩
      rw [List.take_of_length_le q, ringFile_snoc, List.append_nil]
/-- What 'next' says of a head that may be. -/
theorem next_cases {L : List Hd} {h : Hd} (hr : Rises 0 L) (h8 : L.length ≤ 8) (hh : HdOk h) :
    (∃ m, L.length = m + 1 ∧ L[m]? = some h ∧ nextF L (h.1 : Int) h.2 = ((m : Int), false, 0)) ∨ (∃ x, x ≠ 0 ∧ nextF L (h.1 : Int) h.2 = (0, false, x)) ∨
    (L.length < 8 ∧ nextF L (h.1 : Int) h.2 = ((L.length : Int), true, 0) ∧ Rises 0 (L ++ [h])) := by
  obtain ⟨a, b, c⟩ := hh
  unfold nextF
  rw [if_neg (by omega)]
  cases hg : L.getLast? with
  | none =>
    have : L = [] := by simpa using hg
    subst this
    exact Or.inr (Or.inr ⟨by simp, rfl, ⟨⟨a, b, c⟩, a, trivial⟩⟩)
  | some y =>
    have hlen : 0 < L.length := by
      rcases L with _ | ⟨p, r⟩
      · simp at hg
      · simp
    have hget : L[L.length - 1]? = some y := by rw [← List.getLast?_eq_getElem?]; exact hg
    simp only
    by_cases e : (y.1 : Int) = (h.1 : Int) ∧ y.2 = h.2
    · have ey : y = h := Prod.ext (by omega) e.2
      rw [if_pos e]
      exact Or.inl ⟨L.length - 1, by omega, by rw [hget, ey], rfl⟩
    · rw [if_neg e]
      by_cases e1 : (h.1 : Int) ≤ (y.1 : Int)
      · rw [if_pos e1]; exact Or.inr (Or.inl ⟨83, by decide, rfl⟩)
      · rw [if_neg e1]
        by_cases e2 : 8 ≤ L.length
        · rw [if_pos e2]; exact Or.inr (Or.inl ⟨85, by decide, rfl⟩)
        · rw [if_neg e2]
          refine Or.inr (Or.inr ⟨by omega, rfl, hr.snoc ⟨a, b, c⟩ a (fun z hz => ?_)⟩)
          rw [hg] at hz
          cases hz
          omega
end Go.Proofs.YtaimokclhcfohaaDoor

namespace Go.Proofs.YtaimokclhcfohaaDoor
open Go.RowKit

/-- A block of one's own, what it holds, its type. -/
abbrev Loc := Nat × List Value × TypeId
/-- Since w0 nothing that was there has turned; the disk is made of other blocks than B, which holds all that was there, and one's own. -/
structure Fr (w0 w : World) (d : Nat) (M : DiskM) (B : Nat → Prop) (Lc : List Loc) : Prop where
  ap : Apart B d M w
  old : ∀ k, k < w0.heap.size → B k
  tab0 : Tab w0
  kept : Kept (fun _ => False) w0 w
  loc : ∀ x ∈ Lc, Blk w x.1 x.2.1 x.2.2 ∧ B x.1 ∧ w0.heap.size ≤ x.1
/-- The ring's blocks are none of one's own. -/
structure Rg (w0 w : World) (d : Nat) (B : Nat → Prop) (Lc : List Loc) (r : Nat) (R : RingM) (S : Nat → Prop) : Prop where
  ring : IsRing w r d R S
  sub : ∀ k, S k → B k
  off : ∀ k, S k → w0.heap.size ≤ k
  loc : ∀ x ∈ Lc, ¬ S x.1
def Dn (w0 w : World) (d : Nat) (M : DiskM) (Lc : List Loc) : Prop := ∃ B, Fr w0 w d M B Lc
def Up (w0 w : World) (d r : Nat) (R : RingM) (M : DiskM) (Lc : List Loc) : Prop := ∃ B S, Fr w0 w d M B Lc ∧ Rg w0 w d B Lc r R S
section
variable {w0 w w' : World} {d r b : Nat} {M M' : DiskM} {B B' S Z : Nat → Prop} {Lc Lc' : List Loc} {R R' : RingM} {c c' : List Value} {t : TypeId} {x : Int}
theorem Fr.tab (h : Fr w0 w d M B Lc) : Tab w := h.tab0.same h.kept
theorem Fr.keeps (h : Fr w0 w d M B Lc) : Keeps B := ⟨h.old _ (tab_lt h.tab0).1, h.old _ (tab_lt h.tab0).2⟩
theorem Fr.step (h : Fr w0 w d M B Lc) (hk : Kept Z w w') (hZ : ∀ k, k < w.heap.size → Z k → B k → k < w0.heap.size ∨ (∃ x ∈ Lc, x.1 = k) → False) (ha : Apart B' d M' w') (hB : ∀ k, B k → B' k) : Fr w0 w' d M' B' Lc :=
  ⟨ha, fun k q => hB k (h.old k q), h.tab0, h.kept.then_ hk (fun i hi z => hZ i (Nat.lt_of_lt_of_le hi h.kept.size) z (h.old i hi) (Or.inl hi)), fun x q => ⟨(h.loc x q).1.kept hk (fun z => hZ x.1 (h.loc x q).1.lt z (h.loc x q).2.1 (Or.inr ⟨x, q, rfl⟩)), hB _ (h.loc x q).2.1, (h.loc x q).2.2⟩⟩
theorem Rg.step (h : Rg w0 w d B Lc r R S) (hk : Kept Z w w') (hZ : ∀ k, S k → ¬ Z k) (hB : ∀ k, B k → B' k) : Rg w0 w' d B' Lc r R S := ⟨h.ring.kept hk hZ, fun k q => hB k (h.sub k q), h.off, h.loc⟩
theorem Fr.same (h : Fr w0 w d M B Lc) (hk : Kept (fun _ => False) w w') : Fr w0 w' d M (fun k => B k ∨ (w.heap.size ≤ k ∧ k < w'.heap.size)) Lc :=
  h.step hk (fun _ _ z _ _ => z) (h.ap.grow hk (fun _ _ => False.elim) (fun _ q => q)) (fun _ => Or.inl)
theorem Fr.new (h : Fr w0 w d M B Lc) (hk : Kept (fun _ => False) w w') (hb : Blk w' b c t) (hl : w.heap.size ≤ b) : Fr w0 w' d M (fun k => B k ∨ (w.heap.size ≤ k ∧ k < w'.heap.size)) ((b, c, t) :: Lc) := by
  have h2 := h.same hk
  refine ⟨h2.ap, h2.old, h2.tab0, h2.kept, fun x q => ?_⟩
  rcases List.mem_cons.1 q with rfl | q
  · exact ⟨hb, Or.inr ⟨hl, hb.lt⟩, Nat.le_trans h.kept.size hl⟩
  · exact h2.loc x q
theorem Fr.fewer (h : Fr w0 w d M B Lc) (hL : ∀ x ∈ Lc', x ∈ Lc) : Fr w0 w d M B Lc' := ⟨h.ap, h.old, h.tab0, h.kept, fun x q => h.loc x (hL x q)⟩
theorem Fr.turn (h : Fr w0 w d M B ((b, c, t) :: Lc)) (hk : Kept (· = b) w w') (hb : Blk w' b c' t) (hn : ∀ x ∈ Lc, x.1 ≠ b) : Fr w0 w' d M B ((b, c', t) :: Lc) := by
  have h0 := h.loc _ (List.mem_cons_self ..)
  refine ⟨h.ap.turn hk (fun k e => by rw [e]; exact h0.2.1), h.old, h.tab0, h.kept.then_ hk (fun i hi e => by have := h0.2.2; simp only at this; omega), fun x q => ?_⟩
  rcases List.mem_cons.1 q with rfl | q
  · exact ⟨hb, h0.2.1, h0.2.2⟩
  · exact ⟨(h.loc x (List.mem_cons_of_mem _ q)).1.kept hk (hn x q), (h.loc x (List.mem_cons_of_mem _ q)).2⟩
theorem Fr.to (h : Fr w0 w d M B Lc) (hk : Kept (fun k => ¬ B k) w w') (ha : Apart B d M' w') : Fr w0 w' d M' B Lc := h.step hk (fun _ _ z q _ => z q) ha (fun _ => id)
theorem Up.dn (h : Up w0 w d r R M Lc) : Dn w0 w d M Lc := by obtain ⟨B, S, h, _⟩ := h; exact ⟨B, h⟩
theorem Dn.same (h : Dn w0 w d M Lc) (hk : Kept (fun _ => False) w w') : Dn w0 w' d M Lc := by obtain ⟨B, h⟩ := h; exact ⟨_, h.same hk⟩
theorem Dn.new (h : Dn w0 w d M Lc) (hk : Kept (fun _ => False) w w') (hb : Blk w' b c t) (hl : w.heap.size ≤ b) : Dn w0 w' d M ((b, c, t) :: Lc) := by obtain ⟨B, h⟩ := h; exact ⟨_, h.new hk hb hl⟩
theorem Dn.fewer (h : Dn w0 w d M Lc) (hL : ∀ x ∈ Lc', x ∈ Lc) : Dn w0 w d M Lc' := by obtain ⟨B, h⟩ := h; exact ⟨_, h.fewer hL⟩
theorem Dn.turn (h : Dn w0 w d M ((b, c, t) :: Lc)) (hk : Kept (· = b) w w') (hb : Blk w' b c' t) (hn : ∀ x ∈ Lc, x.1 ≠ b) : Dn w0 w' d M ((b, c', t) :: Lc) := by obtain ⟨B, h⟩ := h; exact ⟨_, h.turn hk hb hn⟩
theorem Dn.blk (h : Dn w0 w d M Lc) {y : Loc} (hy : y ∈ Lc) : Blk w y.1 y.2.1 y.2.2 := by obtain ⟨B, h⟩ := h; exact (h.loc y hy).1
theorem Dn.old (h : Dn w0 w d M Lc) : Kept (fun _ => False) w0 w := by obtain ⟨B, h⟩ := h; exact h.kept
theorem Dn.tab (h : Dn w0 w d M Lc) : Tab w := by obtain ⟨B, h⟩ := h; exact h.tab
theorem Dn.ge (h : Dn w0 w d M Lc) {y : Loc} (hy : y ∈ Lc) : w0.heap.size ≤ y.1 := by obtain ⟨B, h⟩ := h; exact (h.loc y hy).2.2
theorem Up.same (h : Up w0 w d r R M Lc) (hk : Kept (fun _ => False) w w') : Up w0 w' d r R M Lc := by obtain ⟨B, S, h, g⟩ := h; exact ⟨_, S, h.same hk, g.step hk (fun _ _ => id) (fun _ => Or.inl)⟩
theorem Up.new (h : Up w0 w d r R M Lc) (hk : Kept (fun _ => False) w w') (hb : Blk w' b c t) (hl : w.heap.size ≤ b) : Up w0 w' d r R M ((b, c, t) :: Lc) := by
  obtain ⟨B, S, h, g⟩ := h
  have g2 := g.step (B' := fun k => B k ∨ (w.heap.size ≤ k ∧ k < w'.heap.size)) hk (fun _ _ => id) (fun _ => Or.inl)
  refine ⟨_, S, h.new hk hb hl, ⟨g2.ring, g2.sub, g2.off, fun x q => ?_⟩⟩
  rcases List.mem_cons.1 q with rfl | q
  · exact fun z => by have := h.ap.lt (g.sub _ z); simp only at this; omega
  · exact g.loc x q
theorem Up.fewer (h : Up w0 w d r R M Lc) (hL : ∀ x ∈ Lc', x ∈ Lc) : Up w0 w d r R M Lc' := by obtain ⟨B, S, h, g⟩ := h; exact ⟨_, S, h.fewer hL, ⟨g.ring, g.sub, g.off, fun x q => g.loc x (hL x q)⟩⟩
theorem Up.turn (h : Up w0 w d r R M ((b, c, t) :: Lc)) (hk : Kept (· = b) w w') (hb : Blk w' b c' t) (hn : ∀ x ∈ Lc, x.1 ≠ b) : Up w0 w' d r R M ((b, c', t) :: Lc) := by
  obtain ⟨B, S, h, g⟩ := h
  have h0 := g.loc _ (List.mem_cons_self ..)
  refine ⟨_, S, h.turn hk hb hn, ⟨g.ring.kept hk (fun k q e => h0 (by rw [← e]; exact q)), g.sub, g.off, fun x q => ?_⟩⟩
  rcases List.mem_cons.1 q with rfl | q
  · exact h0
  · exact g.loc x (List.mem_cons_of_mem _ q)
theorem Up.ring (h : Up w0 w d r R M Lc) : ∃ S, IsRing w r d R S := by obtain ⟨B, S, h, g⟩ := h; exact ⟨S, g.ring⟩
theorem Up.used (h : Up w0 w d r R M Lc) : Calls Tryd.prog 7 #[.pointer (some ⟨r, 0, none⟩)] w fun e w' => e = .returned (.int .i64 (R.signed.length : Int)) ∧ w = w' := by obtain ⟨S, h⟩ := h.ring; exact ring_used h
theorem Fr.made (hA : Apart (fun k => k < w0.heap.size) d M w) (ht : Tab w0) (hk : Kept (fun _ => False) w0 w) : Dn w0 w d M [] := ⟨_, hA, fun _ => id, ht, hk, fun x q => by cases q⟩
theorem Dn.crash (h : Dn w0 w d M Lc) (k : Int) (k0 : -9223372036854775808 ≤ k ∧ k ≤ 9223372036854775807) (he : M.crashR k = (x, M')) :
    Calls Tryd.prog 11 #[.pointer (some ⟨d, 0, none⟩), .int .i64 k] w fun e w' => e = .returned (.int .i64 x) ∧ Dn w0 w' d M' Lc := by
  obtain ⟨B, h⟩ := h
  exact (crash_ap h.ap k k0 he).mono fun e w' q => ⟨q.1, B, h.to q.2.2 q.2.1⟩
theorem Dn.start (h : Dn w0 w d M Lc) (hs : 0 ≤ M.starts ∧ M.starts < 9223372036854775807) (he : M.startR = (x, M')) :
    Calls Tryd.prog 18 #[.pointer (some ⟨d, 0, none⟩)] w fun e w' => e = .returned (.int .i64 x) ∧ Dn w0 w' d M' Lc := by
  obtain ⟨B, h⟩ := h
  exact (start_ap h.ap hs he).mono fun e w' q => ⟨q.1, B, h.to q.2.2 q.2.1⟩
theorem Dn.fail (h : Dn w0 w d M Lc) (n k : Int) (n0 : -9223372036854775808 ≤ n ∧ n ≤ 9223372036854775807) (k0 : -9223372036854775808 ≤ k ∧ k ≤ 9223372036854775807) (he : M.failR n k = (x, M')) :
    Calls Tryd.prog 16 #[.pointer (some ⟨d, 0, none⟩), .int .i64 n, .int .i64 k] w fun e w' => e = .returned (.int .i64 x) ∧ Dn w0 w' d M' Lc := by
  obtain ⟨B, h⟩ := h
  exact (fail_ap h.ap n k n0 k0 he).mono fun e w' q => ⟨q.1, B, h.to q.2.2 q.2.1⟩
theorem Up.fail (h : Up w0 w d r R M Lc) (n k : Int) (n0 : -9223372036854775808 ≤ n ∧ n ≤ 9223372036854775807) (k0 : -9223372036854775808 ≤ k ∧ k ≤ 9223372036854775807) (he : M.failR n k = (x, M')) :
    Calls Tryd.prog 16 #[.pointer (some ⟨d, 0, none⟩), .int .i64 n, .int .i64 k] w fun e w' => e = .returned (.int .i64 x) ∧ Up w0 w' d r R M' Lc := by
  obtain ⟨B, S, h, g⟩ := h
  exact (fail_ap h.ap n k n0 k0 he).mono fun e w' q => ⟨q.1, B, S, h.to q.2.2 q.2.1, g.step q.2.2 (fun k z n => n (g.sub k z)) (fun _ => id)⟩
theorem Dn.isup (h : Dn w0 w d M Lc) {b : Bool} (he : (!M.down) = b) :
    Calls Tryd.prog 17 #[.pointer (some ⟨d, 0, none⟩)] w fun e w' => e = .returned (.bool b) ∧ w = w' := by
  obtain ⟨B, h⟩ := h
  exact up_ap h.ap he
/-- What Open leaves. -/
def OpenSt (w0 : World) (d : Nat) (Lc : List Loc) (seed : ByteArray) (y : Int × List Hd × DiskM) (e : Ending) (w' : World) : Prop :=
  (y.1 ≠ 0 ∧ e = .returned (.tuple #[.pointer none, .int .i64 y.1]) ∧ Dn w0 w' d y.2.2 Lc) ∨ (y.1 = 0 ∧ ∃ r, e = .returned (.tuple #[.pointer (some ⟨r, 0, none⟩), .int .i64 0]) ∧ Up w0 w' d r ⟨seed, y.2.1, y.2.2.starts, false⟩ y.2.2 Lc)
theorem Dn.opens (h : Dn w0 w d M Lc) (seed : ByteArray) (hs : seed.size ≤ 1000) (hc : M.files.length + M.loose.length < 300000000) :
    Calls Tryd.prog 10 #[.pointer (some ⟨d, 0, none⟩), .string seed] w (OpenSt w0 d Lc seed M.openR) := by
  obtain ⟨B, h⟩ := h
  refine (open_any h.ap seed hs hc h.keeps h.tab).mono fun e w' q => ?_
  rcases q with ⟨h0, rfl, ha, hk⟩ | ⟨h0, rb, S, rfl, hr, hS, ha, hk⟩
  · exact Or.inl ⟨h0, rfl, B, h.to hk ha⟩
  · refine Or.inr ⟨h0, rb, rfl, fun k => B k ∨ S k, S, h.step hk (fun k _ z q _ => z q) ha (fun _ => Or.inl), ⟨hr, fun _ => Or.inr, fun k q => Nat.le_trans h.kept.size (hS k q), fun x q z => ?_⟩⟩
    have := hS _ z
    have := (h.loc x q).1.lt
    omega
theorem Up.held (h : Fr w0 w d M B Lc) (g : Rg w0 w d B Lc r R S) : Held w r d R M B S :=
  ⟨h.ap, g.ring, g.sub, h.keeps, ⟨fun q => by have := g.off _ q; have := (tab_lt h.tab0).1; omega, fun q => by have := g.off _ q; have := (tab_lt h.tab0).2; omega⟩, h.tab⟩
/-- What Sign leaves, when it signs. -/
def SignUp (w0 w : World) (d r : Nat) (Lc : List Loc) (size : Nat) (root : By) (i : Nat) (R' : RingM) (M' : DiskM) (e : Ending) (w' : World) : Prop :=
  ∃ a c Y, e = .returned (.tuple #[.agg Y.toArray, .int .i64 0]) ∧ Hid (Y = signedC (size : Int) root (i : Int) ⟨(signF R'.seed.data.toList i (digestF size root)).toArray⟩ (.slice a 3 c) ∧ Y.length = 36 ∧ (∀ v ∈ Y, v.oneCell' = true) ∧
    Row w' 23 32 (.slice a 3 c) (hcells (pathF (leavesF R'.seed.data.toList) i)) ∧ Up w0 w' d r R' M' Lc ∧ ∀ k, (Value.slice a 3 c).ownBlock = some k → w.heap.size ≤ k)
theorem sign_up {size : Nat} {root : By} {i : Nat} {e : Ending} (h : Fr w0 w d M B Lc) (g : Rg w0 w d B Lc r R S) (hy : SignedAs B S r d w size root i R' M' e w') : SignUp w0 w d r Lc size root i R' M' e w' := by
  obtain ⟨a, c, S', Y, he, hH⟩ := hy
  obtain ⟨h1, h2, h3, h4, h5, h6, h7, h8⟩ := hH.out
  have hS' : ∀ k, k < w.heap.size → ¬ S k → ¬ S' k := fun k hl n q => (h5 k q).elim n (fun q => by omega)
  refine ⟨a, c, Y, he, Lib.hid ⟨h1, h2, h3, h4, ⟨_, S', h.step h7 (fun k hl z q o => ?_) h6.ap (fun _ => Or.inl), ⟨h6.ring, fun k q => Or.inr (Or.inl q), fun k q => (h5 k q).elim (g.off k) (fun q => Nat.le_trans h.kept.size q), fun x q => hS' _ (h.loc x q).1.lt (g.loc x q)⟩⟩, fun k q => (h8 k q).1⟩⟩
  rcases z with z | z
  · exact z q
  · rcases o with o | ⟨x, o, rfl⟩
    · have := g.off k z; omega
    · exact g.loc x o z
theorem sign_no_up {y : Int} {e : Ending} (h : Fr w0 w d M B Lc) (g : Rg w0 w d B Lc r R S) (hy : RefusedTo B S r d w y R' M' e w') : e = .returned (.tuple #[.agg signed0C.toArray, .int .i64 y]) ∧ Up w0 w' d r R' M' Lc := by
  obtain ⟨he, h6, h7⟩ := hy
  refine ⟨he, B, S, h.step h7 (fun k hl z q o => ?_) h6.ap (fun _ => id), ⟨h6.ring, h6.sub, g.off, g.loc⟩⟩
  rcases z with z | rfl
  · exact z q
  · rcases o with o | ⟨x, o, rfl⟩
    · have := g.off _ g.ring.own; omega
    · exact g.loc x o g.ring.own
end
end Go.Proofs.YtaimokclhcfohaaDoor

namespace Go.Proofs.YtaimokclhcfohaaDoor
open Go.RowKit

theorem ropen0 : (DiskM.new 10000).openR = (0, [], oneD [] [] 10000 false 0 false 0 0) := by rfl
/-- Two heads in blocks of their own. -/
theorem two_heads (w : World) (x y : Int) : ((w.alloc (.cells (headC 0 zeroRoot).toArray 25)).alloc (.cells (headC 0 zeroRoot).toArray 25)).there w.heap.size 0 (headC x zeroRoot).toArray.size ∧
    (((w.alloc (.cells (headC 0 zeroRoot).toArray 25)).alloc (.cells (headC 0 zeroRoot).toArray 25)).setCells w.heap.size 0 (headC x zeroRoot)).there (w.heap.size + 1) 0 (headC y zeroRoot).toArray.size ∧
    Blk ((((w.alloc (.cells (headC 0 zeroRoot).toArray 25)).alloc (.cells (headC 0 zeroRoot).toArray 25)).setCells w.heap.size 0 (headC x zeroRoot)).setCells (w.heap.size + 1) 0 (headC y zeroRoot)) w.heap.size (headC x zeroRoot) 25 ∧
    Blk ((((w.alloc (.cells (headC 0 zeroRoot).toArray 25)).alloc (.cells (headC 0 zeroRoot).toArray 25)).setCells w.heap.size 0 (headC x zeroRoot)).setCells (w.heap.size + 1) 0 (headC y zeroRoot)) (w.heap.size + 1) (headC y zeroRoot) 25 ∧
    Kept (fun _ => False) w ((((w.alloc (.cells (headC 0 zeroRoot).toArray 25)).alloc (.cells (headC 0 zeroRoot).toArray 25)).setCells w.heap.size 0 (headC x zeroRoot)).setCells (w.heap.size + 1) 0 (headC y zeroRoot)) := by
  have l0 : ∀ z : Int, (headC z zeroRoot).length = 33 := fun z => headC_len (by simp)
  have b0 := (Blk.new w (headC 0 zeroRoot) 25).alloc (.cells (headC 0 zeroRoot).toArray 25)
  have b1 := Blk.new (w.alloc (.cells (headC 0 zeroRoot).toArray 25)) (headC 0 zeroRoot) 25
  rw [World.size_alloc] at b1
  have k1 := kept_setCells ((w.alloc (.cells (headC 0 zeroRoot).toArray 25)).alloc (.cells (headC 0 zeroRoot).toArray 25)) w.heap.size 0 (headC x zeroRoot)
  have c0 := b0.setCells 0 (headC x zeroRoot) (by rw [l0, l0]; omega)
  rw [splice_whole (by rw [l0, l0])] at c0
  have c1 := b1.kept k1 (by omega)
  have k2 := kept_setCells (((w.alloc (.cells (headC 0 zeroRoot).toArray 25)).alloc (.cells (headC 0 zeroRoot).toArray 25)).setCells w.heap.size 0 (headC x zeroRoot)) (w.heap.size + 1) 0 (headC y zeroRoot)
  have d1 := c1.setCells 0 (headC y zeroRoot) (by rw [l0, l0]; omega)
  rw [splice_whole (by rw [l0, l0])] at d1
  refine ⟨b0.there 0 _ (by rw [List.size_toArray, l0, l0]; omega), c1.there 0 _ (by rw [List.size_toArray, l0, l0]; omega), c0.kept k2 (by omega), d1, ((((Kept.refl (fun _ => False) w).alloc _).alloc _).then_ k1 (fun i hi e => by omega)).then_ k2 (fun i hi e => by omega)⟩
theorem info_headz (z : Int) : (Tryd.prog.info? 25).map (·.size) = some (headC z zeroRoot).toArray.size := by rw [List.size_toArray, headC_len (by simp)]; exact info_head
abbrev oneRoot : By := 1 :: List.replicate 31 0
theorem hd2 : HdOk (2, zeroRoot) := ⟨by omega, by omega, by simp⟩
theorem hd3 : HdOk (3, zeroRoot) := ⟨by omega, by omega, by simp⟩
theorem ropen2 : ∃ left', (oneD (([] ++ frameF (recordF (2, zeroRoot))) ++ frameF (recordF (3, zeroRoot))) [] 10000 false 0 false 0 0).openR = (0, [(2, zeroRoot), (3, zeroRoot)], oneD (([] ++ frameF (recordF (2, zeroRoot))) ++ frameF (recordF (3, zeroRoot))) [] 10000 false 0 false left' 0) := by
  have hr : Rises 0 [(2, zeroRoot), (3, zeroRoot)] := ⟨hd2, by show 0 < 2; omega, hd3, by show 2 < 3; omega, trivial⟩
  have e : ([] ++ frameF (recordF (2, zeroRoot))) ++ frameF (recordF (3, zeroRoot)) = ringFile [(2, zeroRoot), (3, zeroRoot)] := by simp [ringFile, framesF]
  rw [e]
  have hw := whole_ring hr.ok cutF_nil
  rcases oneD_mend (cap := 10000) (starts := 0) (keep := 0) (left := 0) (fails := false) hw (readH_records hr (by decide)) (fun h => by cases h) with ⟨left', h1, _⟩ | ⟨h1, _⟩
  · refine ⟨left', ?_⟩
    rw [List.append_nil] at h1
    unfold DiskM.openR
    rw [if_neg (by simp [oneD])]
    exact h1
  · cases h1
/-- What holds all the way through ringed's last statement. -/
abbrev S11 (w8 w' : World) (b1 b2 b3 : Nat) (Y1 Y2 Y3 : List Value) : Prop := w'.rangeAt b1 0 Y1 ∧ w'.rangeAt b2 0 Y2 ∧ w'.rangeAt b3 0 Y3 ∧ w'.cell? ⟨b1, 33, none⟩ = some (.int .i64 0) ∧ w'.cell? ⟨b3, 33, none⟩ = some (.int .i64 1) ∧ Kept (fun _ => False) w8 w'
theorem s11_next {w8 w1 w2 : World} {b1 b2 b3 : Nat} {Y1 Y2 Y3 : List Value} (h : S11 w8 w1 b1 b2 b3 Y1 Y2 Y3) (hl : b1 < w8.heap.size ∧ b2 < w8.heap.size ∧ b3 < w8.heap.size) (k : Kept (fun _ => False) w1 w2) : S11 w8 w2 b1 b2 b3 Y1 Y2 Y3 := by
  have := h.2.2.2.2.2.size
  exact ⟨rangeAt_kept h.1 k (by omega) id, rangeAt_kept h.2.1 k (by omega) id, rangeAt_kept h.2.2.1 k (by omega) id, k.cell h.2.2.2.1 id, k.cell h.2.2.2.2.1 id, h.2.2.2.2.2.trans k⟩
/-- All that was there at w0 is as it was. -/
def Fin0 (w0 w : World) (B S : Nat → Prop) : Prop := Kept (fun _ => False) w0 w ∧ (∀ k, k < w0.heap.size → B k) ∧ ∀ k, S k → w0.heap.size ≤ k
theorem Fin0.sign {w0 w w' w2 : World} {B S S' V : Nat → Prop} (h : Fin0 w0 w B S) (hk : Kept (fun k => ¬ B k ∨ S k) w w') (hS : ∀ k, S' k → S k ∨ w.heap.size ≤ k) (hk2 : Kept (fun _ => False) w' w2) : Fin0 w0 w2 (fun k => (B k ∨ S' k ∨ V k) ∨ (w'.heap.size ≤ k ∧ k < w2.heap.size)) S' := by
  have := h.1.size
  exact ⟨(h.1.then_ hk (fun i hi e => e.elim (fun n => n (h.2.1 i hi)) (fun n => by have := h.2.2 i n; omega))).then_ hk2 (fun _ _ e => e), fun k q => Or.inl (Or.inl (h.2.1 k q)), fun k q => (hS k q).elim (h.2.2 k) (fun q => by omega)⟩
theorem Fin0.refused {w0 w w' w2 : World} {B S : Nat → Prop} {r : Nat} (h : Fin0 w0 w B S) (hk : Kept (fun k => ¬ B k ∨ k = r) w w') (hr : S r) (hk2 : Kept (fun _ => False) w' w2) : Fin0 w0 w2 (fun k => B k ∨ (w'.heap.size ≤ k ∧ k < w2.heap.size)) S :=
  ⟨(h.1.then_ hk (fun i hi e => e.elim (fun n => n (h.2.1 i hi)) (fun n => by have := h.2.2 r hr; omega))).then_ hk2 (fun _ _ e => e), fun k q => Or.inl (h.2.1 k q), h.2.2⟩
set_option maxRecDepth 100000 in
set_option maxHeartbeats 8000000 in
theorem ringed_any (w : World) (ht : Tab w) : Calls Tryd.prog 12 #[] w fun e w' => e = .returned (.bool true) ∧ Kept (fun _ => False) w w' := by
  have hKB : Keeps (fun k => k < w.heap.size) := tab_lt ht
  go_enter Tryd.func12, Tryd.ntmps12
  go_wp2_with fail
  refine (new_ok _ 10000 (by omega) (by omega)).mono ?_
  rintro e w1 hnew
  obtain ⟨d, rfl, hA1, k1⟩ := Apart.made _ hnew
  clear hnew
  go_wp2_with fail
  have hop := open_any hA1 ⟨#[115]⟩ (by decide) (by decide) hKB (ht.same k1)
  rw [ropen0] at hop
  refine hop.mono ?_
  clear hop
  intro e w2 ho
  obtain ⟨rb, S1, rfl, hS1, hH1, k2⟩ := opened_to hKB (ht.same k1) ho
  clear ho hA1
  obtain ⟨sd, hsd⟩ : ∃ sd : ByteArray, sd = ⟨#[115]⟩ := ⟨_, rfl⟩
  rw [← hsd] at hH1
  have hH1 := Lib.hid hH1
  have HSD := Lib.hid hsd
  clear hsd
  have hu := ring_used hH1.out.ring
  change Calls _ _ _ _ (fun e w' => e = .returned (.int .i64 0) ∧ w2 = w') at hu
  have HU := Lib.hid hu
  have HF := Lib.hid (And.intro ht (And.intro hKB (And.intro hS1 (And.intro k1 k2))))
  clear hu ht hKB hS1 k1 k2
  have HW := Lib.hid (two_heads w2 2 3)
  go_upto_region 6 with (first | (go_at_call 7; refine HU.out.mono ?_; rintro e w' ⟨rfl, rfl⟩) | ((with_reducible show wpList _ _ _ (⟨none, .store _ (.tmp 5) _, _, _, _, _⟩ :: _) _ _); refine wpList_store_mid rfl 25 _ _ rfl w2.heap.size 0 (headC 2 zeroRoot).toArray rfl rfl ?hta ?hia ?h1a ?_) | ((with_reducible show wpList _ _ _ (⟨none, .store _ (.tmp 6) _, _, _, _, _⟩ :: _) _ _); refine wpList_store_mid rfl 25 _ _ rfl (w2.heap.size + 1) 0 (headC 3 zeroRoot).toArray rfl rfl ?htb ?hib ?h1b ?_))
  case hta => exact HW.out.1
  case hia => exact info_headz 2
  case h1a => exact all_oneCell_toArray head_oneCell
  case htb => exact HW.out.2.1
  case hib => exact info_headz 3
  case h1b => exact all_oneCell_toArray head_oneCell
  generalize hw3 : World.setCells _ (w2.heap.size + 1) 0 _ = w3
  have hb3 : Blk w3 w2.heap.size (headC 2 zeroRoot) 25 ∧ Blk w3 (w2.heap.size + 1) (headC 3 zeroRoot) 25 ∧ Kept (fun _ => False) w2 w3 := by rw [← hw3]; exact HW.out.2.2
  have HB3 := Lib.hid hb3
  clear hw3 HW hb3
  have H3 := Lib.hid (hH1.out.more HB3.out.2.2)
  have f3 : Fin0 w w3 (fun k => (k < w.heap.size ∨ S1 k) ∨ (w2.heap.size ≤ k ∧ k < w3.heap.size)) S1 := by
    obtain ⟨-, -, q1, q2, q3⟩ := HF.out
    have := q2.size
    exact ⟨(q2.then_ q3 (fun i hi e => e hi)).then_ HB3.out.2.2 (fun _ _ e => e), fun k q => Or.inl (Or.inl q), fun k q => by have := q1 k q; omega⟩
  have F3 := Lib.hid f3
  clear f3 HF
  have HI2 := Lib.hid (show (Tryd.prog.info? 25).map (·.size) = some (headC 2 zeroRoot).length by rw [headC_len (by simp)]; exact info_head)
  have HI3 := Lib.hid (show (Tryd.prog.info? 25).map (·.size) = some (headC 3 zeroRoot).length by rw [headC_len (by simp)]; exact info_head)
  have hsa := (held_fresh H3.out 2 zeroRoot (by omega) (by omega) (by simp) rfl 0 (by omega) rfl (by rfl) _ (oneD_keepR (2, zeroRoot) (by have := frame_room hd2; simp only [List.length_nil]; omega)) (by decide)).mono (fun _ _ q => signed_as (by simp) q)
  have HSa := Lib.hid hsa
  clear hsa
  go_upto_region 7 with (first | ((with_reducible show wpList _ _ _ (⟨some 41, _, _, _, _, _⟩ :: _) _ _); refine wpList_load_mid rfl 25 _ rfl w2.heap.size 0 rfl (headC 2 zeroRoot) _ HB3.out.1.range0 Tryd.underlying25 rfl HI2.out ?_) | (go_at_call 5; refine HSa.out.mono ?_; rintro e ua ⟨aa, ca, Sa, Ya, rfl, HYa⟩) | ((with_reducible show wpList _ _ _ (⟨none, .store _ (.tmp 7) _, _, _, _, _⟩ :: _) _ _); refine wpList_store_mid rfl 31 _ _ rfl ua.heap.size 0 Ya.toArray rfl rfl ?hta ?hia ?h1a ?_))
  case hta => first | exact (store_signed ua HYa.out.2.1).1 | simpa using (store_signed ua HYa.out.2.1).1
  case hia => first | exact info_sized HYa.out.2.1 | simpa using info_sized HYa.out.2.1
  case h1a => first | exact all_oneCell_toArray HYa.out.2.2.1 | exact HYa.out.2.2.1
  generalize hwa : World.setCells _ ua.heap.size 0 _ = w4
  have hba : Blk w4 ua.heap.size Ya 31 ∧ Kept (fun _ => False) ua w4 := by rw [← hwa]; exact (store_signed ua HYa.out.2.1).2
  have HBa := Lib.hid hba
  clear hwa hba
  have HHa := Lib.hid (HYa.out.2.2.2.2.2.1.more HBa.out.2)

  have hn1 : ¬ S1 w2.heap.size := fun q => by have := hH1.out.ap.lt (Or.inr q); omega
  have hn2 : ¬ S1 (w2.heap.size + 1) := fun q => by have := hH1.out.ap.lt (Or.inr q); omega
  have F4 := Lib.hid (Fin0.sign (V := fun k => (Value.slice aa 3 ca).ownBlock = some k) F3.out HYa.out.2.2.2.2.2.2.1 HYa.out.2.2.2.2.1 HBa.out.2)
  clear F3
  have LA5 := Lib.hid (local_next (V := fun k => (Value.slice aa 3 ca).ownBlock = some k) ⟨HB3.out.1, hn1, Or.inr ⟨Nat.le_refl _, HB3.out.1.lt⟩⟩ HYa.out.2.2.2.2.2.2.1 HYa.out.2.2.2.2.1 HBa.out.2)
  have LA6 := Lib.hid (local_next (V := fun k => (Value.slice aa 3 ca).ownBlock = some k) ⟨HB3.out.2.1, hn2, Or.inr ⟨by omega, HB3.out.2.1.lt⟩⟩ HYa.out.2.2.2.2.2.2.1 HYa.out.2.2.2.2.1 HBa.out.2)
  have LAa := Lib.hid (local_new HHa.out HYa.out.2.2.2.2.2.1 HBa.out.1 (Nat.le_refl _))
  have RAa := Lib.hid (row_new HHa.out HYa.out.2.2.2.1 HBa.out.2 HYa.out.2.2.2.2.2.2.2 (fun k q => Or.inl (Or.inr (Or.inr q))))
  clear hn1 hn2
  have hsb := (held_again HHa.out 2 zeroRoot (by omega) (by simp) rfl 0 (by omega) (by rfl)).mono (fun _ _ q => signed_as (by simp) q)
  have HSb := Lib.hid hsb
  clear hsb
  go_upto_region 8 with (first | ((with_reducible show wpList _ _ _ (⟨some 47, _, _, _, _, _⟩ :: _) _ _); refine wpList_load_mid rfl 25 _ rfl w2.heap.size 0 rfl (headC 2 zeroRoot) _ LA5.out.1.range0 Tryd.underlying25 rfl HI2.out ?_) | (go_at_call 5; refine HSb.out.mono ?_; rintro e ub ⟨ab, cb, Sb, Yb, rfl, HYb⟩) | ((with_reducible show wpList _ _ _ (⟨none, .store _ (.tmp 9) _, _, _, _, _⟩ :: _) _ _); refine wpList_store_mid rfl 31 _ _ rfl ub.heap.size 0 Yb.toArray rfl rfl ?htb ?hib ?h1b ?_))
  case htb => first | exact (store_signed ub HYb.out.2.1).1 | simpa using (store_signed ub HYb.out.2.1).1
  case hib => first | exact info_sized HYb.out.2.1 | simpa using info_sized HYb.out.2.1
  case h1b => first | exact all_oneCell_toArray HYb.out.2.2.1 | exact HYb.out.2.2.1
  generalize hwb : World.setCells _ ub.heap.size 0 _ = w5
  have hbb : Blk w5 ub.heap.size Yb 31 ∧ Kept (fun _ => False) ub w5 := by rw [← hwb]; exact (store_signed ub HYb.out.2.1).2
  have HBb := Lib.hid hbb
  clear hwb hbb
  have HHb := Lib.hid (HYb.out.2.2.2.2.2.1.more HBb.out.2)

  have F5 := Lib.hid (Fin0.sign (V := fun k => (Value.slice ab 3 cb).ownBlock = some k) F4.out HYb.out.2.2.2.2.2.2.1 HYb.out.2.2.2.2.1 HBb.out.2)
  clear F4
  have LB5 := Lib.hid (local_next (V := fun k => (Value.slice ab 3 cb).ownBlock = some k) LA5.out HYb.out.2.2.2.2.2.2.1 HYb.out.2.2.2.2.1 HBb.out.2)
  have LB6 := Lib.hid (local_next (V := fun k => (Value.slice ab 3 cb).ownBlock = some k) LA6.out HYb.out.2.2.2.2.2.2.1 HYb.out.2.2.2.2.1 HBb.out.2)
  have LBa := Lib.hid (local_next (V := fun k => (Value.slice ab 3 cb).ownBlock = some k) LAa.out HYb.out.2.2.2.2.2.2.1 HYb.out.2.2.2.2.1 HBb.out.2)
  have LBb := Lib.hid (local_new HHb.out HYb.out.2.2.2.2.2.1 HBb.out.1 (Nat.le_refl _))
  have RBa := Lib.hid (row_next (V := fun k => (Value.slice ab 3 cb).ownBlock = some k) RAa.out HYb.out.2.2.2.2.2.2.1 HYb.out.2.2.2.2.1 HBb.out.2)
  have RBb := Lib.hid (row_new HHb.out HYb.out.2.2.2.1 HBb.out.2 HYb.out.2.2.2.2.2.2.2 (fun k q => Or.inl (Or.inr (Or.inr q))))
  have hsc := held_refused HHb.out 2 oneRoot (by simp) rfl 0 false 83 (by rfl) (by omega)
  have HSc := Lib.hid hsc
  clear hsc
  go_upto_region 9 with (first | (go_at_call 5; refine HSc.out.mono ?_; rintro e uc ⟨rfl, hHc, hkc⟩; have HYc := Lib.hid (And.intro hHc hkc); clear hHc hkc) | ((with_reducible show wpList _ _ _ (⟨none, .store _ (.tmp 11) _, _, _, _, _⟩ :: _) _ _); refine wpList_store_mid rfl 31 _ _ rfl uc.heap.size 0 signed0C.toArray rfl rfl ?htc ?hic ?h1c ?_))
  case htc => first | exact (store_signed uc signed0_len).1 | simpa using (store_signed uc signed0_len).1
  case hic => first | exact info_signed0 | (rw [List.size_toArray]; exact info_signed0)
  case h1c => exact signed0_one
  generalize hwc : World.setCells _ uc.heap.size 0 _ = w6
  have hbc : Blk w6 uc.heap.size signed0C 31 ∧ Kept (fun _ => False) uc w6 := by rw [← hwc]; exact (store_signed uc signed0_len).2
  have HBc := Lib.hid hbc
  clear hwc hbc
  have HHc := Lib.hid (HYc.out.1.more HBc.out.2)
  have F6 := Lib.hid (F5.out.refused HYc.out.2 HHb.out.ring.own HBc.out.2)
  clear F5
  have LC5 := Lib.hid (local_refused LB5.out HYc.out.2 HHb.out.ring.own HBc.out.2)
  have LC6 := Lib.hid (local_refused LB6.out HYc.out.2 HHb.out.ring.own HBc.out.2)
  have LCa := Lib.hid (local_refused LBa.out HYc.out.2 HHb.out.ring.own HBc.out.2)
  have LCb := Lib.hid (local_refused LBb.out HYc.out.2 HHb.out.ring.own HBc.out.2)
  have RCa := Lib.hid (row_refused RBa.out HYc.out.2 HHb.out.ring.own HBc.out.2)
  have RCb := Lib.hid (row_refused RBb.out HYc.out.2 HHb.out.ring.own HBc.out.2)
  have hsd := (held_fresh HHc.out 3 zeroRoot (by omega) (by omega) (by simp) rfl 1 (by omega) rfl (by rfl) _ (oneD_keepR (3, zeroRoot) (by have := frame_room hd2; have := frame_room hd3; rw [List.length_append]; simp only [List.length_nil]; omega)) (by decide)).mono (fun _ _ q => signed_as (by simp) q)
  have HSd := Lib.hid hsd
  clear hsd
  go_upto_region 10 with (first | ((with_reducible show wpList _ _ _ (⟨some 60, _, _, _, _, _⟩ :: _) _ _); refine wpList_load_mid rfl 25 _ rfl (w2.heap.size + 1) 0 rfl (headC 3 zeroRoot) _ LC6.out.1.range0 Tryd.underlying25 rfl HI3.out ?_) | (go_at_call 5; refine HSd.out.mono ?_; rintro e ud ⟨ad, cd, Sd, Yd, rfl, HYd⟩) | ((with_reducible show wpList _ _ _ (⟨none, .store _ (.tmp 13) _, _, _, _, _⟩ :: _) _ _); refine wpList_store_mid rfl 31 _ _ rfl ud.heap.size 0 Yd.toArray rfl rfl ?htd ?hid ?h1d ?_))
  case htd => first | exact (store_signed ud HYd.out.2.1).1 | simpa using (store_signed ud HYd.out.2.1).1
  case hid => first | exact info_sized HYd.out.2.1 | simpa using info_sized HYd.out.2.1
  case h1d => first | exact all_oneCell_toArray HYd.out.2.2.1 | exact HYd.out.2.2.1
  generalize hwd : World.setCells _ ud.heap.size 0 _ = w7
  have hbd : Blk w7 ud.heap.size Yd 31 ∧ Kept (fun _ => False) ud w7 := by rw [← hwd]; exact (store_signed ud HYd.out.2.1).2
  have HBd := Lib.hid hbd
  clear hwd hbd
  have HHd := Lib.hid (HYd.out.2.2.2.2.2.1.more HBd.out.2)

  have F7 := Lib.hid (Fin0.sign (V := fun k => (Value.slice ad 3 cd).ownBlock = some k) F6.out HYd.out.2.2.2.2.2.2.1 HYd.out.2.2.2.2.1 HBd.out.2)
  clear F6
  have LDa := Lib.hid (local_next (V := fun k => (Value.slice ad 3 cd).ownBlock = some k) LCa.out HYd.out.2.2.2.2.2.2.1 HYd.out.2.2.2.2.1 HBd.out.2)
  have LDb := Lib.hid (local_next (V := fun k => (Value.slice ad 3 cd).ownBlock = some k) LCb.out HYd.out.2.2.2.2.2.2.1 HYd.out.2.2.2.2.1 HBd.out.2)
  have LDd := Lib.hid (local_new HHd.out HYd.out.2.2.2.2.2.1 HBd.out.1 (Nat.le_refl _))
  have RDa := Lib.hid (row_next (V := fun k => (Value.slice ad 3 cd).ownBlock = some k) RCa.out HYd.out.2.2.2.2.2.2.1 HYd.out.2.2.2.2.1 HBd.out.2)
  have RDb := Lib.hid (row_next (V := fun k => (Value.slice ad 3 cd).ownBlock = some k) RCb.out HYd.out.2.2.2.2.2.2.1 HYd.out.2.2.2.2.1 HBd.out.2)
  have RDd := Lib.hid (row_new HHd.out HYd.out.2.2.2.1 HBd.out.2 HYd.out.2.2.2.2.2.2.2 (fun k q => Or.inl (Or.inr (Or.inr q))))
  obtain ⟨left2, hro⟩ := ropen2
  have hop2 := open_any HHd.out.ap ⟨#[115]⟩ (by decide) (by decide) HHd.out.keep HHd.out.tab
  rw [show DiskM.openR _ = _ from hro] at hop2
  have HOP := Lib.hid hop2
  clear hop2 hro
  go_upto_region 11 with (go_at_call 10; refine HOP.out.mono ?_; intro e w8 ho; obtain ⟨rn, Sn, rfl, hSn, hHn, k8⟩ := opened_to HHd.out.keep HHd.out.tab ho; rw [← HSD.out] at hHn; have HHn := Lib.hid (And.intro hHn k8); clear ho hSn hHn k8)
  have F8 := Lib.hid (F7.out.1.then_ HHn.out.2 (fun i hi e => e (F7.out.2.1 i hi)))
  clear F7
  have ba := LDa.out.1.kept HHn.out.2 (fun n => n LDa.out.2.2)
  have bb := LDb.out.1.kept HHn.out.2 (fun n => n LDb.out.2.2)
  have bd := LDd.out.1.kept HHn.out.2 (fun n => n LDd.out.2.2)
  have ra := RDa.out.1.kept HHn.out.2 (fun k q n => n (RDa.out.2 k q).2)
  have rb' := RDb.out.1.kept HHn.out.2 (fun k q n => n (RDb.out.2 k q).2)
  have rd := RDd.out.1.kept HHn.out.2 (fun k q n => n (RDd.out.2 k q).2)
  have eYa : Ya = signedC ((2 : Nat) : Int) zeroRoot ((0 : Nat) : Int) ⟨(signF sd.data.toList 0 (digestF 2 zeroRoot)).toArray⟩ (.slice aa 3 ca) := HYa.out.1
  have eYb : Yb = signedC ((2 : Nat) : Int) zeroRoot ((0 : Nat) : Int) ⟨(signF sd.data.toList 0 (digestF 2 zeroRoot)).toArray⟩ (.slice ab 3 cb) := HYb.out.1
  have eYd : Yd = signedC ((3 : Nat) : Int) zeroRoot ((1 : Nat) : Int) ⟨(signF sd.data.toList 1 (digestF 3 zeroRoot)).toArray⟩ (.slice ad 3 cd) := HYd.out.1
  have c1 : w8.cell? ⟨ua.heap.size, 33, none⟩ = some (.int .i64 0) := ba.cell (by rw [eYa]; exact (signed_at (by simp)).2.1)
  have c2 : w8.cell? ⟨ud.heap.size, 33, none⟩ = some (.int .i64 1) := bd.cell (by rw [eYd]; exact (signed_at (by simp)).2.1)
  have hSM : ∀ w', Kept (fun _ => False) w8 w' → Calls Tryd.prog 31 #[.agg Ya.toArray, .agg Yb.toArray] w' fun e w2 => e = .returned (.bool true) ∧ Kept (fun _ => False) w' w2 :=
    fun w' k => same_of eYa eYb (by simp) (by omega) (ra.kept k (fun _ _ => id)) (rb'.kept k (fun _ _ => id))
  have hUS : ∀ w', Kept (fun _ => False) w8 w' → Calls Tryd.prog 7 #[.pointer (some ⟨rn, 0, none⟩)] w' fun e w2 => e = .returned (.int .i64 2) ∧ w' = w2 := fun w' k => ring_used (HHn.out.1.ring.same k)
  obtain ⟨KEY, hKEY⟩ : ∃ K : By, K = rootF (leavesF sd.data.toList) := ⟨_, rfl⟩
  have hKY : ∀ w', Kept (fun _ => False) w8 w' → Calls Tryd.prog 8 #[.pointer (some ⟨rn, 0, none⟩)] w' fun e w2 => e = .returned (hashV KEY) ∧ Kept (fun _ => False) w' w2 := by
    intro w' k
    have h := ring_key (HHn.out.1.ring.same k) (HHn.out.1.tab.same k)
    change Calls _ _ _ _ (fun e w2 => e = .returned (hashV (rootF (leavesF sd.data.toList))) ∧ Kept (fun _ => False) w' w2) at h
    rw [← hKEY] at h
    exact h
  have hCK : ∀ w', Kept (fun _ => False) w8 w' → Calls Tryd.prog 15 #[hashV KEY, .agg Yd.toArray] w' fun e w2 => e = .returned (.int .i64 0) ∧ Kept (fun _ => False) w' w2 := by
    intro w' k
    have h := check_of eYd (by omega) (by simp) (by omega) (rd.kept k (fun _ _ => id)) (HHn.out.1.tab.same k)
    rw [← hKEY] at h
    exact h
  clear hKEY
  have SA : S11 w8 w8.drew ua.heap.size ub.heap.size ud.heap.size Ya Yb Yd := ⟨ba.drew.range0, bb.drew.range0, bd.drew.range0, c1, c2, (Kept.refl _ _).drew⟩
  have hl : ua.heap.size < w8.heap.size ∧ ub.heap.size < w8.heap.size ∧ ud.heap.size < w8.heap.size := ⟨ba.lt, bb.lt, bd.lt⟩
  have HSM := Lib.hid hSM
  have HUS := Lib.hid hUS
  have HKY := Lib.hid hKY
  have HCK := Lib.hid hCK
  have HIa := Lib.hid (info_sized HYa.out.2.1)
  have HIb := Lib.hid (info_sized HYb.out.2.1)
  have HId := Lib.hid (info_sized HYd.out.2.1)
  clear hSM hUS hKY hCK eYa eYb eYd c1 c2 ba bb bd ra rb' rd
  refine wp_region_held_drew (S := (fun w' => S11 w8 w' ua.heap.size ub.heap.size ud.heap.size Ya Yb Yd)) (by kernel_rfl) SA (fun hH0 => ?_)
  refine wpAnyH_take (i := 0) (oi := ⟨some 69, .move (.tmp 8), 32, "outright.go:25", #[], none⟩) (v := ?_) rfl (by kernel_rfl) (by kernel_rfl) (by kernel_rfl) (fun _ _ _ h => h) (Or.inl ⟨by rfl, fun w hSw => ?_⟩) hH0 ?_
  rotate_left 1
  · (try simp only [S11] at hSw); go_simp; (try with_reducible rfl)
  try simp only [Act.put, List.setIfInBounds_toArray, List.set_cons_zero, List.set_cons_succ]
  refine wpAnyH_take (i := 1) (oi := ⟨some 70, .binOp .eql 32 (.tmp 69) (.const (.int .i64 0)) 32, 4, "outright.go:25", #[⟨0, .data⟩], none⟩) (v := ?_) rfl (by kernel_rfl) (by kernel_rfl) (by kernel_rfl) (fun _ _ _ h => h) (Or.inl ⟨by rfl, fun w hSw => ?_⟩) hH0 ?_
  rotate_left 1
  · (try simp only [S11] at hSw); go_simp; (try with_reducible rfl)
  try simp only [Act.put, List.setIfInBounds_toArray, List.set_cons_zero, List.set_cons_succ]
  refine wpAnyH_take (i := 2) (oi := ⟨some 71, .move (.tmp 70), 4, "outright.go:25", #[⟨1, .data⟩], none⟩) (v := ?_) rfl (by kernel_rfl) (by kernel_rfl) (by kernel_rfl) (fun _ _ _ h => h) (Or.inl ⟨by rfl, fun w hSw => ?_⟩) hH0 ?_
  rotate_left 1
  · (try simp only [S11] at hSw); go_simp; (try with_reducible rfl)
  try simp only [Act.put, List.setIfInBounds_toArray, List.set_cons_zero, List.set_cons_succ]
  refine wpAnyH_take (i := 3) (oi := ⟨some 72, .fieldAddr 31 (.tmp 7) 1, 0, "outright.go:25", #[⟨2, .guard⟩], some (2, true)⟩) (v := ?_) rfl (by kernel_rfl) (by kernel_rfl) (by kernel_rfl) (fun _ _ _ h => h) (Or.inl ⟨by rfl, fun w hSw => ?_⟩) hH0 ?_
  rotate_left 1
  · (try simp only [S11] at hSw); go_simp; (try with_reducible rfl)
  try simp only [Act.put, List.setIfInBounds_toArray, List.set_cons_zero, List.set_cons_succ]
  refine wpAnyH_take (i := 4) (oi := ⟨some 73, .fieldAddr 29 (.tmp 72) 0, 0, "outright.go:25", #[⟨3, .data⟩, ⟨2, .guard⟩], some (2, true)⟩) (v := ?_) rfl (by kernel_rfl) (by kernel_rfl) (by kernel_rfl) (fun _ _ _ h => h) (Or.inl ⟨by rfl, fun w hSw => ?_⟩) hH0 ?_
  rotate_left 1
  · (try simp only [S11] at hSw); go_simp; (try with_reducible rfl)
  try simp only [Act.put, List.setIfInBounds_toArray, List.set_cons_zero, List.set_cons_succ]
  refine wpAnyH_take (i := 5) (oi := ⟨some 74, .load 3 (.tmp 73), 3, "outright.go:25", #[⟨4, .data⟩, ⟨2, .guard⟩], some (2, true)⟩) (v := ?_) rfl (by kernel_rfl) (by kernel_rfl) (by kernel_rfl) (fun _ _ _ h => h) (Or.inl ⟨by rfl, fun w hSw => ?_⟩) hH0 ?_
  rotate_left 1
  · (try simp only [S11] at hSw); go_simp; (try with_reducible rfl)
  try simp only [Act.put, List.setIfInBounds_toArray, List.set_cons_zero, List.set_cons_succ]
  refine wpAnyH_take (i := 6) (oi := ⟨some 75, .binOp .eql 3 (.tmp 74) (.const (.int .i64 0)) 3, 4, "outright.go:25", #[⟨5, .data⟩, ⟨2, .guard⟩], some (2, true)⟩) (v := ?_) rfl (by kernel_rfl) (by kernel_rfl) (by kernel_rfl) (fun _ _ _ h => h) (Or.inl ⟨by rfl, fun w hSw => ?_⟩) hH0 ?_
  rotate_left 1
  · (try simp only [S11] at hSw); go_simp; (try with_reducible rfl)
  try simp only [Act.put, List.setIfInBounds_toArray, List.set_cons_zero, List.set_cons_succ]
  refine wpAnyH_take (i := 7) (oi := ⟨some 76, .pick (.tmp 71) (.tmp 75) (.const (.bool false)), 4, "outright.go:25", #[⟨2, .data⟩, ⟨6, .data⟩], none⟩) (v := ?_) rfl (by kernel_rfl) (by kernel_rfl) (by kernel_rfl) (fun _ _ _ h => h) (Or.inl ⟨by rfl, fun w hSw => ?_⟩) hH0 ?_
  rotate_left 1
  · (try simp only [S11] at hSw); go_simp; (try with_reducible rfl)
  try simp only [Act.put, List.setIfInBounds_toArray, List.set_cons_zero, List.set_cons_succ]
  refine wpAnyH_take (i := 8) (oi := ⟨some 77, .move (.tmp 76), 4, "outright.go:25", #[⟨7, .data⟩, ⟨2, .chain⟩], none⟩) (v := ?_) rfl (by kernel_rfl) (by kernel_rfl) (by kernel_rfl) (fun _ _ _ h => h) (Or.inl ⟨by rfl, fun w hSw => ?_⟩) hH0 ?_
  rotate_left 1
  · (try simp only [S11] at hSw); go_simp; (try with_reducible rfl)
  try simp only [Act.put, List.setIfInBounds_toArray, List.set_cons_zero, List.set_cons_succ]
  refine wpAnyH_take (i := 9) (oi := ⟨some 78, .move (.tmp 10), 32, "outright.go:25", #[⟨8, .guard⟩], some (8, true)⟩) (v := ?_) rfl (by kernel_rfl) (by kernel_rfl) (by kernel_rfl) (fun _ _ _ h => h) (Or.inl ⟨by rfl, fun w hSw => ?_⟩) hH0 ?_
  rotate_left 1
  · (try simp only [S11] at hSw); go_simp; (try with_reducible rfl)
  try simp only [Act.put, List.setIfInBounds_toArray, List.set_cons_zero, List.set_cons_succ]
  refine wpAnyH_take (i := 10) (oi := ⟨some 79, .binOp .eql 32 (.tmp 78) (.const (.int .i64 0)) 32, 4, "outright.go:25", #[⟨9, .data⟩, ⟨8, .guard⟩], some (8, true)⟩) (v := ?_) rfl (by kernel_rfl) (by kernel_rfl) (by kernel_rfl) (fun _ _ _ h => h) (Or.inl ⟨by rfl, fun w hSw => ?_⟩) hH0 ?_
  rotate_left 1
  · (try simp only [S11] at hSw); go_simp; (try with_reducible rfl)
  try simp only [Act.put, List.setIfInBounds_toArray, List.set_cons_zero, List.set_cons_succ]
  refine wpAnyH_take (i := 11) (oi := ⟨some 80, .pick (.tmp 77) (.tmp 79) (.const (.bool false)), 4, "outright.go:25", #[⟨8, .data⟩, ⟨10, .data⟩], none⟩) (v := ?_) rfl (by kernel_rfl) (by kernel_rfl) (by kernel_rfl) (fun _ _ _ h => h) (Or.inl ⟨by rfl, fun w hSw => ?_⟩) hH0 ?_
  rotate_left 1
  · (try simp only [S11] at hSw); go_simp; (try with_reducible rfl)
  try simp only [Act.put, List.setIfInBounds_toArray, List.set_cons_zero, List.set_cons_succ]
  refine wpAnyH_take (i := 12) (oi := ⟨some 81, .move (.tmp 80), 4, "outright.go:25", #[⟨11, .data⟩, ⟨8, .chain⟩], none⟩) (v := ?_) rfl (by kernel_rfl) (by kernel_rfl) (by kernel_rfl) (fun _ _ _ h => h) (Or.inl ⟨by rfl, fun w hSw => ?_⟩) hH0 ?_
  rotate_left 1
  · (try simp only [S11] at hSw); go_simp; (try with_reducible rfl)
  try simp only [Act.put, List.setIfInBounds_toArray, List.set_cons_zero, List.set_cons_succ]
  refine wpAnyH_take (i := 13) (oi := ⟨some 82, .load 31 (.tmp 7), 31, "outright.go:25", #[⟨12, .guard⟩], some (12, true)⟩) (v := .agg (Ya).toArray) rfl (by kernel_rfl) (by kernel_rfl) (by kernel_rfl) (fun _ _ _ h => h) (yieldsIf_load_mid (by rfl) _ _ rfl (ua.heap.size) (0) rfl (Ya) _ (fun w q => q.1) Tryd.underlying31 rfl HIa.out) hH0 ?_
  try simp only [Act.put, List.setIfInBounds_toArray, List.set_cons_zero, List.set_cons_succ]
  refine wpAnyH_take (i := 14) (oi := ⟨some 83, .load 31 (.tmp 9), 31, "outright.go:25", #[⟨12, .guard⟩], some (12, true)⟩) (v := .agg (Yb).toArray) rfl (by kernel_rfl) (by kernel_rfl) (by kernel_rfl) (fun _ _ _ h => h) (yieldsIf_load_mid (by rfl) _ _ rfl (ub.heap.size) (0) rfl (Yb) _ (fun w q => q.2.1) Tryd.underlying31 rfl HIb.out) hH0 ?_
  try simp only [Act.put, List.setIfInBounds_toArray, List.set_cons_zero, List.set_cons_succ]
  refine wpAnyH_ready (rs := [15]) (by kernel_rfl) (by simp) ?_
  refine AllReadyH.cons (o := ⟨some 84, .call { callee := .value (.func 31), args := #[.tmp 82, .tmp 83], argTypes := #[31, 31] }, 4, "outright.go:25", #[⟨13, .data⟩, ⟨14, .data⟩, ⟨12, .chain⟩, ⟨12, .guard⟩], some (12, true)⟩) rfl (fun K hK => ?_) AllReadyH.nil
  go_simp
  refine (HSM.out _ hH0.2.2.2.2.2).mono ?_
  rintro e w9 ⟨rfl, hk9⟩
  refine hK.out _ _ (s11_next hH0 hl hk9) (fun hH1 => ?_)
  clear hK K
  try simp only [Act.put, List.setIfInBounds_toArray, List.set_cons_zero, List.set_cons_succ]
  refine wpAnyH_take (i := 16) (oi := ⟨some 85, .pick (.tmp 81) (.tmp 84) (.const (.bool false)), 4, "outright.go:25", #[⟨12, .data⟩, ⟨15, .data⟩], none⟩) (v := ?_) rfl (by kernel_rfl) (by kernel_rfl) (by kernel_rfl) (fun _ _ _ h => h) (Or.inl ⟨by rfl, fun w hSw => ?_⟩) hH1 ?_
  rotate_left 1
  · (try simp only [S11] at hSw); go_simp; (try with_reducible rfl)
  try simp only [Act.put, List.setIfInBounds_toArray, List.set_cons_zero, List.set_cons_succ]
  refine wpAnyH_take (i := 17) (oi := ⟨some 86, .move (.tmp 85), 4, "outright.go:25", #[⟨16, .data⟩, ⟨15, .chain⟩], none⟩) (v := ?_) rfl (by kernel_rfl) (by kernel_rfl) (by kernel_rfl) (fun _ _ _ h => h) (Or.inl ⟨by rfl, fun w hSw => ?_⟩) hH1 ?_
  rotate_left 1
  · (try simp only [S11] at hSw); go_simp; (try with_reducible rfl)
  try simp only [Act.put, List.setIfInBounds_toArray, List.set_cons_zero, List.set_cons_succ]
  refine wpAnyH_take (i := 18) (oi := ⟨some 87, .move (.tmp 12), 32, "outright.go:25", #[⟨17, .guard⟩], some (17, true)⟩) (v := ?_) rfl (by kernel_rfl) (by kernel_rfl) (by kernel_rfl) (fun _ _ _ h => h) (Or.inl ⟨by rfl, fun w hSw => ?_⟩) hH1 ?_
  rotate_left 1
  · (try simp only [S11] at hSw); go_simp; (try with_reducible rfl)
  try simp only [Act.put, List.setIfInBounds_toArray, List.set_cons_zero, List.set_cons_succ]
  refine wpAnyH_take (i := 19) (oi := ⟨some 88, .binOp .eql 32 (.tmp 87) (.const (.int .i64 83)) 32, 4, "outright.go:25", #[⟨18, .data⟩, ⟨17, .guard⟩], some (17, true)⟩) (v := ?_) rfl (by kernel_rfl) (by kernel_rfl) (by kernel_rfl) (fun _ _ _ h => h) (Or.inl ⟨by rfl, fun w hSw => ?_⟩) hH1 ?_
  rotate_left 1
  · (try simp only [S11] at hSw); go_simp; (try with_reducible rfl)
  try simp only [Act.put, List.setIfInBounds_toArray, List.set_cons_zero, List.set_cons_succ]
  refine wpAnyH_take (i := 20) (oi := ⟨some 89, .pick (.tmp 86) (.tmp 88) (.const (.bool false)), 4, "outright.go:25", #[⟨17, .data⟩, ⟨19, .data⟩], none⟩) (v := ?_) rfl (by kernel_rfl) (by kernel_rfl) (by kernel_rfl) (fun _ _ _ h => h) (Or.inl ⟨by rfl, fun w hSw => ?_⟩) hH1 ?_
  rotate_left 1
  · (try simp only [S11] at hSw); go_simp; (try with_reducible rfl)
  try simp only [Act.put, List.setIfInBounds_toArray, List.set_cons_zero, List.set_cons_succ]
  refine wpAnyH_take (i := 21) (oi := ⟨some 90, .move (.tmp 89), 4, "outright.go:25", #[⟨20, .data⟩, ⟨17, .chain⟩], none⟩) (v := ?_) rfl (by kernel_rfl) (by kernel_rfl) (by kernel_rfl) (fun _ _ _ h => h) (Or.inl ⟨by rfl, fun w hSw => ?_⟩) hH1 ?_
  rotate_left 1
  · (try simp only [S11] at hSw); go_simp; (try with_reducible rfl)
  try simp only [Act.put, List.setIfInBounds_toArray, List.set_cons_zero, List.set_cons_succ]
  refine wpAnyH_take (i := 22) (oi := ⟨some 91, .move (.tmp 14), 32, "outright.go:25", #[⟨21, .guard⟩], some (21, true)⟩) (v := ?_) rfl (by kernel_rfl) (by kernel_rfl) (by kernel_rfl) (fun _ _ _ h => h) (Or.inl ⟨by rfl, fun w hSw => ?_⟩) hH1 ?_
  rotate_left 1
  · (try simp only [S11] at hSw); go_simp; (try with_reducible rfl)
  try simp only [Act.put, List.setIfInBounds_toArray, List.set_cons_zero, List.set_cons_succ]
  refine wpAnyH_take (i := 23) (oi := ⟨some 92, .binOp .eql 32 (.tmp 91) (.const (.int .i64 0)) 32, 4, "outright.go:25", #[⟨22, .data⟩, ⟨21, .guard⟩], some (21, true)⟩) (v := ?_) rfl (by kernel_rfl) (by kernel_rfl) (by kernel_rfl) (fun _ _ _ h => h) (Or.inl ⟨by rfl, fun w hSw => ?_⟩) hH1 ?_
  rotate_left 1
  · (try simp only [S11] at hSw); go_simp; (try with_reducible rfl)
  try simp only [Act.put, List.setIfInBounds_toArray, List.set_cons_zero, List.set_cons_succ]
  refine wpAnyH_take (i := 24) (oi := ⟨some 93, .pick (.tmp 90) (.tmp 92) (.const (.bool false)), 4, "outright.go:25", #[⟨21, .data⟩, ⟨23, .data⟩], none⟩) (v := ?_) rfl (by kernel_rfl) (by kernel_rfl) (by kernel_rfl) (fun _ _ _ h => h) (Or.inl ⟨by rfl, fun w hSw => ?_⟩) hH1 ?_
  rotate_left 1
  · (try simp only [S11] at hSw); go_simp; (try with_reducible rfl)
  try simp only [Act.put, List.setIfInBounds_toArray, List.set_cons_zero, List.set_cons_succ]
  refine wpAnyH_take (i := 25) (oi := ⟨some 94, .move (.tmp 93), 4, "outright.go:25", #[⟨24, .data⟩, ⟨21, .chain⟩], none⟩) (v := ?_) rfl (by kernel_rfl) (by kernel_rfl) (by kernel_rfl) (fun _ _ _ h => h) (Or.inl ⟨by rfl, fun w hSw => ?_⟩) hH1 ?_
  rotate_left 1
  · (try simp only [S11] at hSw); go_simp; (try with_reducible rfl)
  try simp only [Act.put, List.setIfInBounds_toArray, List.set_cons_zero, List.set_cons_succ]
  refine wpAnyH_take (i := 26) (oi := ⟨some 95, .fieldAddr 31 (.tmp 13) 1, 0, "outright.go:25", #[⟨25, .guard⟩], some (25, true)⟩) (v := ?_) rfl (by kernel_rfl) (by kernel_rfl) (by kernel_rfl) (fun _ _ _ h => h) (Or.inl ⟨by rfl, fun w hSw => ?_⟩) hH1 ?_
  rotate_left 1
  · (try simp only [S11] at hSw); go_simp; (try with_reducible rfl)
  try simp only [Act.put, List.setIfInBounds_toArray, List.set_cons_zero, List.set_cons_succ]
  refine wpAnyH_take (i := 27) (oi := ⟨some 96, .fieldAddr 29 (.tmp 95) 0, 0, "outright.go:25", #[⟨26, .data⟩, ⟨25, .guard⟩], some (25, true)⟩) (v := ?_) rfl (by kernel_rfl) (by kernel_rfl) (by kernel_rfl) (fun _ _ _ h => h) (Or.inl ⟨by rfl, fun w hSw => ?_⟩) hH1 ?_
  rotate_left 1
  · (try simp only [S11] at hSw); go_simp; (try with_reducible rfl)
  try simp only [Act.put, List.setIfInBounds_toArray, List.set_cons_zero, List.set_cons_succ]
  refine wpAnyH_take (i := 28) (oi := ⟨some 97, .load 3 (.tmp 96), 3, "outright.go:25", #[⟨27, .data⟩, ⟨25, .guard⟩], some (25, true)⟩) (v := ?_) rfl (by kernel_rfl) (by kernel_rfl) (by kernel_rfl) (fun _ _ _ h => h) (Or.inl ⟨by rfl, fun w hSw => ?_⟩) hH1 ?_
  rotate_left 1
  · (try simp only [S11] at hSw); go_simp; (try with_reducible rfl)
  try simp only [Act.put, List.setIfInBounds_toArray, List.set_cons_zero, List.set_cons_succ]
  refine wpAnyH_take (i := 29) (oi := ⟨some 98, .binOp .eql 3 (.tmp 97) (.const (.int .i64 1)) 3, 4, "outright.go:25", #[⟨28, .data⟩, ⟨25, .guard⟩], some (25, true)⟩) (v := ?_) rfl (by kernel_rfl) (by kernel_rfl) (by kernel_rfl) (fun _ _ _ h => h) (Or.inl ⟨by rfl, fun w hSw => ?_⟩) hH1 ?_
  rotate_left 1
  · (try simp only [S11] at hSw); go_simp; (try with_reducible rfl)
  try simp only [Act.put, List.setIfInBounds_toArray, List.set_cons_zero, List.set_cons_succ]
  refine wpAnyH_take (i := 30) (oi := ⟨some 99, .pick (.tmp 94) (.tmp 98) (.const (.bool false)), 4, "outright.go:25", #[⟨25, .data⟩, ⟨29, .data⟩], none⟩) (v := ?_) rfl (by kernel_rfl) (by kernel_rfl) (by kernel_rfl) (fun _ _ _ h => h) (Or.inl ⟨by rfl, fun w hSw => ?_⟩) hH1 ?_
  rotate_left 1
  · (try simp only [S11] at hSw); go_simp; (try with_reducible rfl)
  try simp only [Act.put, List.setIfInBounds_toArray, List.set_cons_zero, List.set_cons_succ]
  refine wpAnyH_take (i := 31) (oi := ⟨some 100, .move (.tmp 99), 4, "outright.go:25", #[⟨30, .data⟩, ⟨25, .chain⟩], none⟩) (v := ?_) rfl (by kernel_rfl) (by kernel_rfl) (by kernel_rfl) (fun _ _ _ h => h) (Or.inl ⟨by rfl, fun w hSw => ?_⟩) hH1 ?_
  rotate_left 1
  · (try simp only [S11] at hSw); go_simp; (try with_reducible rfl)
  try simp only [Act.put, List.setIfInBounds_toArray, List.set_cons_zero, List.set_cons_succ]
  refine wpAnyH_take (i := 32) (oi := ⟨some 101, .move (.tmp 16), 32, "outright.go:25", #[⟨31, .guard⟩], some (31, true)⟩) (v := ?_) rfl (by kernel_rfl) (by kernel_rfl) (by kernel_rfl) (fun _ _ _ h => h) (Or.inl ⟨by rfl, fun w hSw => ?_⟩) hH1 ?_
  rotate_left 1
  · (try simp only [S11] at hSw); go_simp; (try with_reducible rfl)
  try simp only [Act.put, List.setIfInBounds_toArray, List.set_cons_zero, List.set_cons_succ]
  refine wpAnyH_take (i := 33) (oi := ⟨some 102, .binOp .eql 32 (.tmp 101) (.const (.int .i64 0)) 32, 4, "outright.go:25", #[⟨32, .data⟩, ⟨31, .guard⟩], some (31, true)⟩) (v := ?_) rfl (by kernel_rfl) (by kernel_rfl) (by kernel_rfl) (fun _ _ _ h => h) (Or.inl ⟨by rfl, fun w hSw => ?_⟩) hH1 ?_
  rotate_left 1
  · (try simp only [S11] at hSw); go_simp; (try with_reducible rfl)
  try simp only [Act.put, List.setIfInBounds_toArray, List.set_cons_zero, List.set_cons_succ]
  refine wpAnyH_take (i := 34) (oi := ⟨some 103, .pick (.tmp 100) (.tmp 102) (.const (.bool false)), 4, "outright.go:25", #[⟨31, .data⟩, ⟨33, .data⟩], none⟩) (v := ?_) rfl (by kernel_rfl) (by kernel_rfl) (by kernel_rfl) (fun _ _ _ h => h) (Or.inl ⟨by rfl, fun w hSw => ?_⟩) hH1 ?_
  rotate_left 1
  · (try simp only [S11] at hSw); go_simp; (try with_reducible rfl)
  try simp only [Act.put, List.setIfInBounds_toArray, List.set_cons_zero, List.set_cons_succ]
  refine wpAnyH_take (i := 35) (oi := ⟨some 104, .move (.tmp 103), 4, "outright.go:25", #[⟨34, .data⟩, ⟨31, .chain⟩], none⟩) (v := ?_) rfl (by kernel_rfl) (by kernel_rfl) (by kernel_rfl) (fun _ _ _ h => h) (Or.inl ⟨by rfl, fun w hSw => ?_⟩) hH1 ?_
  rotate_left 1
  · (try simp only [S11] at hSw); go_simp; (try with_reducible rfl)
  try simp only [Act.put, List.setIfInBounds_toArray, List.set_cons_zero, List.set_cons_succ]
  refine wpAnyH_take (i := 36) (oi := ⟨some 105, .move (.tmp 15), 26, "outright.go:25", #[⟨35, .guard⟩], some (35, true)⟩) (v := ?_) rfl (by kernel_rfl) (by kernel_rfl) (by kernel_rfl) (fun _ _ _ h => h) (Or.inl ⟨by rfl, fun w hSw => ?_⟩) hH1 ?_
  rotate_left 1
  · (try simp only [S11] at hSw); go_simp; (try with_reducible rfl)
  try simp only [Act.put, List.setIfInBounds_toArray, List.set_cons_zero, List.set_cons_succ]
  refine wpAnyH_ready (rs := [37]) (by kernel_rfl) (by simp) ?_
  refine AllReadyH.cons (o := ⟨some 106, .call { callee := .value (.func 7), args := #[.tmp 105], argTypes := #[26] }, 3, "outright.go:25", #[⟨36, .data⟩, ⟨35, .chain⟩, ⟨35, .guard⟩], some (35, true)⟩) rfl (fun K hK => ?_) AllReadyH.nil
  go_simp
  refine (HUS.out _ hH1.2.2.2.2.2).mono ?_
  rintro e w' ⟨rfl, rfl⟩
  refine hK.out _ _ (hH1) (fun hH2 => ?_)
  clear hK K
  try simp only [Act.put, List.setIfInBounds_toArray, List.set_cons_zero, List.set_cons_succ]
  refine wpAnyH_take (i := 38) (oi := ⟨some 107, .binOp .eql 3 (.tmp 106) (.const (.int .i64 2)) 3, 4, "outright.go:25", #[⟨37, .data⟩, ⟨35, .guard⟩], some (35, true)⟩) (v := ?_) rfl (by kernel_rfl) (by kernel_rfl) (by kernel_rfl) (fun _ _ _ h => h) (Or.inl ⟨by rfl, fun w hSw => ?_⟩) hH2 ?_
  rotate_left 1
  · (try simp only [S11] at hSw); go_simp; (try with_reducible rfl)
  try simp only [Act.put, List.setIfInBounds_toArray, List.set_cons_zero, List.set_cons_succ]
  refine wpAnyH_take (i := 39) (oi := ⟨some 108, .pick (.tmp 104) (.tmp 107) (.const (.bool false)), 4, "outright.go:25", #[⟨35, .data⟩, ⟨38, .data⟩], none⟩) (v := ?_) rfl (by kernel_rfl) (by kernel_rfl) (by kernel_rfl) (fun _ _ _ h => h) (Or.inl ⟨by rfl, fun w hSw => ?_⟩) hH2 ?_
  rotate_left 1
  · (try simp only [S11] at hSw); go_simp; (try with_reducible rfl)
  try simp only [Act.put, List.setIfInBounds_toArray, List.set_cons_zero, List.set_cons_succ]
  refine wpAnyH_take (i := 40) (oi := ⟨some 109, .move (.tmp 108), 4, "outright.go:25", #[⟨39, .data⟩, ⟨37, .chain⟩], none⟩) (v := ?_) rfl (by kernel_rfl) (by kernel_rfl) (by kernel_rfl) (fun _ _ _ h => h) (Or.inl ⟨by rfl, fun w hSw => ?_⟩) hH2 ?_
  rotate_left 1
  · (try simp only [S11] at hSw); go_simp; (try with_reducible rfl)
  try simp only [Act.put, List.setIfInBounds_toArray, List.set_cons_zero, List.set_cons_succ]
  refine wpAnyH_take (i := 41) (oi := ⟨some 110, .move (.tmp 15), 26, "outright.go:25", #[⟨40, .guard⟩], some (40, true)⟩) (v := ?_) rfl (by kernel_rfl) (by kernel_rfl) (by kernel_rfl) (fun _ _ _ h => h) (Or.inl ⟨by rfl, fun w hSw => ?_⟩) hH2 ?_
  rotate_left 1
  · (try simp only [S11] at hSw); go_simp; (try with_reducible rfl)
  try simp only [Act.put, List.setIfInBounds_toArray, List.set_cons_zero, List.set_cons_succ]
  refine wpAnyH_take (i := 43) (oi := ⟨some 112, .load 31 (.tmp 13), 31, "outright.go:25", #[⟨40, .guard⟩], some (40, true)⟩) (v := .agg (Yd).toArray) rfl (by kernel_rfl) (by kernel_rfl) (by kernel_rfl) (fun _ _ _ h => h) (yieldsIf_load_mid (by rfl) _ _ rfl (ud.heap.size) (0) rfl (Yd) _ (fun w q => q.2.2.1) Tryd.underlying31 rfl HId.out) hH2 ?_
  try simp only [Act.put, List.setIfInBounds_toArray, List.set_cons_zero, List.set_cons_succ]
  refine wpAnyH_ready (rs := [42]) (by kernel_rfl) (by simp) ?_
  refine AllReadyH.cons (o := ⟨some 111, .call { callee := .value (.func 8), args := #[.tmp 110], argTypes := #[26] }, 23, "outright.go:25", #[⟨41, .data⟩, ⟨40, .chain⟩, ⟨40, .guard⟩], some (40, true)⟩) rfl (fun K hK => ?_) AllReadyH.nil
  go_simp
  refine (HKY.out _ hH2.2.2.2.2.2).mono ?_
  rintro e w10 ⟨rfl, hk10⟩
  refine hK.out _ _ (s11_next hH2 hl hk10) (fun hH3 => ?_)
  clear hK K
  try simp only [Act.put, List.setIfInBounds_toArray, List.set_cons_zero, List.set_cons_succ]
  refine wpAnyH_ready (rs := [44]) (by kernel_rfl) (by simp) ?_
  refine AllReadyH.cons (o := ⟨some 113, .call { callee := .value (.func 15), args := #[.tmp 111, .tmp 112], argTypes := #[23, 31] }, 32, "outright.go:25", #[⟨42, .data⟩, ⟨43, .data⟩, ⟨42, .chain⟩, ⟨40, .guard⟩], some (40, true)⟩) rfl (fun K hK => ?_) AllReadyH.nil
  go_simp
  refine (HCK.out _ hH3.2.2.2.2.2).mono ?_
  rintro e w11 ⟨rfl, hk11⟩
  refine hK.out _ _ (s11_next hH3 hl hk11) (fun hH4 => ?_)
  clear hK K
  try simp only [Act.put, List.setIfInBounds_toArray, List.set_cons_zero, List.set_cons_succ]
  refine wpAnyH_take (i := 45) (oi := ⟨some 114, .binOp .eql 32 (.tmp 113) (.const (.int .i64 0)) 32, 4, "outright.go:25", #[⟨44, .data⟩, ⟨40, .guard⟩], some (40, true)⟩) (v := ?_) rfl (by kernel_rfl) (by kernel_rfl) (by kernel_rfl) (fun _ _ _ h => h) (Or.inl ⟨by rfl, fun w hSw => ?_⟩) hH4 ?_
  rotate_left 1
  · (try simp only [S11] at hSw); go_simp; (try with_reducible rfl)
  try simp only [Act.put, List.setIfInBounds_toArray, List.set_cons_zero, List.set_cons_succ]
  refine wpAnyH_take (i := 46) (oi := ⟨some 115, .pick (.tmp 109) (.tmp 114) (.const (.bool false)), 4, "outright.go:25", #[⟨40, .data⟩, ⟨45, .data⟩], none⟩) (v := ?_) rfl (by kernel_rfl) (by kernel_rfl) (by kernel_rfl) (fun _ _ _ h => h) (Or.inl ⟨by rfl, fun w hSw => ?_⟩) hH4 ?_
  rotate_left 1
  · (try simp only [S11] at hSw); go_simp; (try with_reducible rfl)
  try simp only [Act.put, List.setIfInBounds_toArray, List.set_cons_zero, List.set_cons_succ]
  refine wpAnyH_ready (rs := [47]) (by kernel_rfl) (by simp) ?_
  refine AllReadyH.cons (o := ⟨some 0, .assign (.tmp 115), 4, "outright.go:25", #[⟨46, .data⟩, ⟨44, .chain⟩, ⟨0, .phase⟩, ⟨1, .phase⟩, ⟨2, .phase⟩, ⟨3, .phase⟩, ⟨4, .phase⟩, ⟨5, .phase⟩, ⟨6, .phase⟩, ⟨7, .phase⟩, ⟨8, .phase⟩, ⟨9, .phase⟩, ⟨10, .phase⟩, ⟨11, .phase⟩, ⟨12, .phase⟩, ⟨13, .phase⟩, ⟨14, .phase⟩, ⟨15, .phase⟩, ⟨16, .phase⟩, ⟨17, .phase⟩, ⟨18, .phase⟩, ⟨19, .phase⟩, ⟨20, .phase⟩, ⟨21, .phase⟩, ⟨22, .phase⟩, ⟨23, .phase⟩, ⟨24, .phase⟩, ⟨25, .phase⟩, ⟨26, .phase⟩, ⟨27, .phase⟩, ⟨28, .phase⟩, ⟨29, .phase⟩, ⟨30, .phase⟩, ⟨31, .phase⟩, ⟨32, .phase⟩, ⟨33, .phase⟩, ⟨34, .phase⟩, ⟨35, .phase⟩, ⟨36, .phase⟩, ⟨37, .phase⟩, ⟨38, .phase⟩, ⟨39, .phase⟩, ⟨40, .phase⟩, ⟨41, .phase⟩, ⟨42, .phase⟩, ⟨43, .phase⟩, ⟨44, .phase⟩, ⟨45, .phase⟩, ⟨46, .phase⟩], none⟩) rfl (fun K hK => ?_) AllReadyH.nil
  go_simp
  refine hK.out _ _ (hH4) (fun hH5 => ?_)
  clear hK K
  try simp only [Act.put, List.setIfInBounds_toArray, List.set_cons_zero, List.set_cons_succ]
  refine wpAnyH_done (by kernel_rfl) ?_ _
  go_wp2_with fail
  go_ret
  exact ⟨rfl, F8.out.then_ hH5.2.2.2.2.2 (fun _ _ e => e)⟩
end Go.Proofs.YtaimokclhcfohaaDoor
