/- SegDrop SegLoad -/
import Derived.Laws.EntriesVeiled
import Derived.OwnWalk
import Derived.Test.YtpmdlkogccojmaaGreatDoorUScrubNone33
import Derived.Test.YtpmdlkogccojmaaGreatDoorUScrubNone35
set_option linter.unusedVariables false
set_option linter.unusedSimpArgs false
set_option maxRecDepth 100000
set_option maxHeartbeats 16000000
namespace Go.Proofs.YtpmdlkogccojmaaGreatDoor
open Go.RowKit Go.Shelf
attribute [local go_sem] Oper.semAt_some
def IsCells (w : World) (k : Nat) : Prop:=∃ c t f, w.heap[k]? = some (.cells c t f)
theorem Blk.cells {w : World} {b : Nat} {c : List Value} {t : TypeId} (h : Blk w b c t) : IsCells w b:=⟨_, _, _, h⟩
theorem Row.ownCells {w : World} {e : TypeId} {size : Nat} {v : Value} {xs : List Value} (h : Row w e size v xs) {k : Nat} (hk : v.ownBlock = some k) : IsCells w k:=by
 rcases h with ⟨rfl, _⟩ | ⟨g, n, cap, rest, rfl, _, hb, _⟩
 ·simp [Value.ownBlock] at hk
 ·simp [Value.ownBlock] at hk; subst hk; exact hb.cells
def CellsT (w : World) (k : Nat) (t : TypeId) : Prop:=∃ c f, w.heap[k]? = some (.cells c t f)
theorem Row.cellsT {w : World} {e : TypeId} {size : Nat} {v : Value} {xs : List Value} (h : Row w e size v xs) {k : Nat} (hk : v.ownBlock = some k) : CellsT w k e:=by
 rcases h with ⟨rfl, _⟩ | ⟨g, n, cap, rest, rfl, _, hb, _⟩
 ·simp [Value.ownBlock] at hk
 ·simp [Value.ownBlock] at hk; subst hk; exact ⟨_, _, hb⟩
theorem CellsT.same {w : World} {k : Nat} {t t' : TypeId} (h : CellsT w k t) (h' : CellsT w k t') : t = t':=by
 obtain ⟨c, f, h⟩:=h
 obtain ⟨c', f', h'⟩:=h'
 rw [h] at h'
 simp at h'
 exact h'.2.1
theorem CellsT.keepsFrom {w w' : World} {Z : Nat → Prop} (hk : Kept Z w w') (hZ : ∀ k, k < w.heap.size → Z k → IsCells w k) (B : Nat) : KeepsFrom B w w' :=
 ⟨hk.size, fun k o _ h ho=>(hk.block k (Array.getElem?_eq_some_iff.1 h).1 (fun z=>by obtain ⟨c, t, f, q⟩:=hZ k (Array.getElem?_eq_some_iff.1 h).1 z; rw [h] at q; cases q; cases ho)).trans h⟩
theorem grown_kept {X Y : World} {row : Option Nat} (hg : X.grownBy Y row) : Kept (fun k=>row = some k) X Y:=(Kept.refl _ _).grown hg (fun _ e _=>e)
theorem nonCells {X : World} {k : Nat} {o : Obj} (h : X.heap[k]? = some o) (ho : o.isCells = false) : ¬ IsCells X k:=by
 rintro ⟨c, t, f, q⟩
 rw [h] at q
 cases q
 cases ho
theorem kept_again {w : World} {b : Nat} {v : Value} {t : TypeId} (h : Blk w b [v] t) : Kept (fun _=>False) w (w.setCell ⟨b, 0, none⟩ v):=by
 have hk:=kept_cell w b 0 v
 refine ⟨hk.os, hk.tape, hk.output, hk.size, fun k hl _=>?_⟩
 by_cases e : k = b
 ·subst e
  have h2:=h.set 0 v
  unfold Blk at h h2
  rw [h2, h]
  rfl
 ·exact hk.block k hl e
theorem Apart.files {B : Nat → Prop} {d : Nat} {M : DiskM} {w : World} (h : Apart B d M w) : Calls Tryz.prog 70 #[.pointer (some ⟨d, 0, none⟩)] w (FilesTo w M):=by
 obtain ⟨_, _, fp, h1, _⟩:=h
 exact files_any w h1
theorem Apart.keys {B : Nat → Prop} {d : Nat} {M : DiskM} {w : World} (h : Apart B d M w) : ∀ x ∈ M.files.map (·.1), -9223372036854775808 ≤ x∧x ≤ 9223372036854775807:=by
 intro x hx
 obtain ⟨p, hp, rfl⟩:=List.mem_map.1 hx
 have:=h.ok.keys p hp
 omega
theorem icells_intsV (l : List Int) : icells l = intsV l:=rfl
end Go.Proofs.YtpmdlkogccojmaaGreatDoor
namespace Go.Proofs.YtpmdlkogccojmaaGreatDoor
open Go.RowKit
def GetPost (w : World) (s : ByteArray) (pos : Nat) (e : Ending) (w' : World) : Prop :=
 (match cutF (s.data.toList.drop pos) with
  | none=>e = .returned (.tuple #[.string ⟨#[]⟩, .int .i64 0, .bool false])
  | some x=>e = .returned (.tuple #[.string ⟨x.1.toArray⟩, .int .i64 ((s.size - x.2.length : Nat) : Int), .bool true]))∧Kept (fun _=>False) w w'
theorem frameGet_any (w : World) (s : ByteArray) (pos : Nat) (hp : pos ≤ s.size) (hs : s.size ≤ 2000000) (ht : Tab w) :
  Calls Tryz.prog 113 #[.string s, .int .i64 (pos : Int)] w (GetPost w s pos):=by
 have hxd:=extract_data s pos
 have hxz : (s.extract pos s.size).size = s.size - pos:=by rw [ByteArray.size_extract]; omega
 obtain ⟨v0, w1, hr0, hv0, hu0, hk0, a0, n0, c0, rfl, hn0⟩:=bytes_view w (s.extract pos s.size) (by omega)
 have hcut:=cut_any w1 _ _ hv0 (ht.same hk0)
 rw [hxd] at hcut
 have hlen : (s.data.toList.drop pos).length = s.size - pos:=by rw [List.length_drop]; simp
 unfold CutPost at hcut
 unfold GetPost
 have y1 : decide ((pos : Int) < 0) = false:=by simp
 have y2 : decide (s.size < pos) = false:=decide_eq_false (by omega)
 match hc : cutF (s.data.toList.drop pos) with
 | none =>
  dsimp only
  rw [hc] at hcut
  have HC:=Lib.hid hcut
  clear hcut hc hxd hxz hn0 hlen hv0
  go_enter Tryz.func113, Tryz.ntmps113
  go_wp2_with (go_at_call 107; refine HC.out.mono ?_; rintro e w2 ⟨v1, v2, ok, rfl, hci, hk2⟩; obtain rfl : ok = false:=hci)
  go_ret3
  exact ⟨rfl, hk0.trans hk2⟩
 | some x =>
  dsimp only
  rw [hc] at hcut
  have hcl:=cutF_len hc
  rw [hlen] at hcl
  have hcut2 : Calls Tryz.prog 107 #[.slice a0 n0 c0] w1 fun e w2=>∃ v1 a m c, e = .returned (.tuple #[v1, .slice a m c, .bool true])∧(convert 100 9 v1).run Tryz.prog w2 = .ok (.string ⟨x.1.toArray⟩) w2∧m = x.2.length∧Hid (Kept (fun _=>False) w1 w2):=by
   refine hcut.mono ?_
   rintro e w2 ⟨v1, v2, ok, rfl, ⟨rfl, h1, h2, _⟩, hk2⟩
   have ht1:=h1.text
   obtain ⟨a, m, c, rfl, hm, _⟩:=h2
   rw [bytes8_len, Nat.mul_one] at hm
   exact ⟨v1, a, m, c, rfl, ht1, hm, Lib.hid hk2⟩
  have HC:=Lib.hid hcut2
  obtain ⟨q, hq⟩ : ∃ q, x.2.length = q:=⟨_, rfl⟩
  rw [hq] at hcl HC ⊢
  have a1 : wrap64 ((s.size : Int) - (q : Int)) = ((s.size - q : Nat) : Int):=by rw [IntWalk.wrap64_in _ (by omega)]; omega
  have A1:=Lib.hid a1
  clear hcut hcut2 hc hxd hxz hn0 hlen hcl hv0 hq a1
  go_enter Tryz.func113, Tryz.ntmps113
  go_wp2_with (go_at_call 107; refine HC.out.mono ?_; rintro e w2 ⟨v1, a, m, c, rfl, ht1, rfl, hk2⟩)
  go_ret3
  exact ⟨by rw [← A1.out]; rfl, hk0.trans hk2.out⟩
def natsV (l : List Nat) : List Value:=l.map fun (n : Nat)=>.int .i64 (n : Int)
section
variable {w : World} {d : Nat} {B : Nat → Prop} {M : DiskM}
end
end Go.Proofs.YtpmdlkogccojmaaGreatDoor
