/- SegM SegP1 SegP2 -/
import Derived.Test.YtlgeijbgkipliaaGreatDoorUChecksSure32
import Derived.Test.YtlgeijbgkipliaaGreatDoorUChecksSure19
set_option linter.unusedVariables false
set_option linter.unusedSimpArgs false
namespace Go.Proofs.YtlgeijbgkipliaaGreatDoor
end Go.Proofs.YtlgeijbgkipliaaGreatDoor

namespace Go.Proofs.YtlgeijbgkipliaaGreatDoor
section
variable {F : List (Int × By)} {E : List By} {t : Option By}
end
end Go.Proofs.YtlgeijbgkipliaaGreatDoor

namespace Go.Proofs.YtlgeijbgkipliaaGreatDoor
structure UpF (M : DiskM) (F : List (Int × By)) (cap st : Int) (fl : Bool) : Prop where
  ok : M.Ok
  live : M.Live
  up : M.down = false
  files : M.files = F
  loose : M.loose = []
  cap : M.cap = cap
  starts : M.starts = st
  fails : M.fails = fl
structure DnF (M : DiskM) (F : List (Int × By)) (cap st : Int) : Prop where
  ok : M.Ok
  down : M.down = true
  files : M.files = F
  loose : M.loose = []
  cap : M.cap = cap
  starts : M.starts = st
  fails : M.fails = false
section
variable {M : DiskM} {F F' : List (Int × By)} {cap st : Int} {fl : Bool}
theorem crash_none (M : DiskM) (keep : Int) (hl : M.loose = []) : (M.crash keep).files = M.files := by
  show DiskM.crashed M.files (DiskM.gone M.loose keep) = M.files
  rw [hl]
  rfl
theorem tick_cap (M : DiskM) : M.tick.cap = M.cap := by unfold DiskM.tick; split <;> rfl
theorem tick_starts (M : DiskM) : M.tick.starts = M.starts := by unfold DiskM.tick; split <;> rfl
theorem tick_fails (M : DiskM) : M.tick.fails = M.fails := by unfold DiskM.tick; split <;> rfl
theorem UpF.sunk (h : UpF M F cap st fl) : DnF M.sunk F cap st :=
  ⟨(h.ok.tick h.live).crash _, rfl, by show (M.tick.crash M.keep).files = F; rw [crash_none _ _ (by rw [DiskM.tick_loose]; exact h.loose), DiskM.tick_files]; exact h.files, rfl, by show M.tick.cap = cap; rw [tick_cap]; exact h.cap, by show M.tick.starts = st; rw [tick_starts]; exact h.starts, rfl⟩
theorem UpF.crash (h : UpF M F cap st fl) (keep : Int) : DnF (M.crash keep) F cap st :=
  ⟨h.ok.crash _, rfl, by rw [crash_none _ _ h.loose]; exact h.files, rfl, h.cap, h.starts, rfl⟩
theorem UpF.tick (h : UpF M F cap st fl) (hs : M.sinks = false) : UpF M.tick F cap st fl :=
  ⟨h.ok.tick h.live, DiskM.Live.tick h.live hs, by rw [DiskM.tick_down]; exact h.up, by rw [DiskM.tick_files]; exact h.files, by rw [DiskM.tick_loose]; exact h.loose, by rw [tick_cap]; exact h.cap, by rw [tick_starts]; exact h.starts, by rw [tick_fails]; exact h.fails⟩
theorem UpF.sinks_fails (h : UpF M F cap st fl) (hs : M.sinks = true) : fl = true := by
  rw [← h.fails]
  unfold DiskM.sinks at hs
  simp at hs
  exact hs.1
theorem DnF.start (h : DnF M F cap st) : UpF M.start F cap (st + 1) false :=
  ⟨⟨h.ok.rise, h.ok.keys, h.ok.cap0, h.ok.cap1, h.ok.room, h.ok.lo, h.ok.loks, h.ok.left1, h.ok.left2, h.ok.count, h.ok.keepk⟩, fun q => (by rw [show M.start.fails = M.fails from rfl, h.fails] at q; cases q), rfl, h.files, h.loose, h.cap, by show M.starts + 1 = st + 1; rw [h.starts], h.fails⟩
theorem UpF.fail (h : UpF M F cap st fl) {n keep : Int} (n0 : 0 ≤ n ∧ n ≤ 9223372036854775807) (k0 : -9223372036854775808 ≤ keep ∧ keep ≤ 9223372036854775807) : UpF (M.fail n keep) F cap st true :=
  ⟨⟨h.ok.rise, h.ok.keys, h.ok.cap0, h.ok.cap1, h.ok.room, h.ok.lo, h.ok.loks, n0.2, by show -1 ≤ n; omega, h.ok.count, k0⟩, fun _ => n0.1, h.up, h.files, h.loose, h.cap, h.starts, rfl⟩
def StepTo (r : Int × DiskM) (F F' : List (Int × By)) (cap st : Int) (fl : Bool) : Prop :=
  (r.1 = 0 ∧ UpF r.2 F' cap st fl) ∨ (r.1 = 61 ∧ fl = true ∧ DnF r.2 F cap st)
theorem UpF.has (h : UpF M F cap st fl) {n : Int} {b : By} (hb : AM.get F n = some b) : M.has n = 0 := by
  unfold DiskM.has
  rw [h.up, h.files, hb]
  rfl
theorem UpF.delete (h : UpF M F cap st fl) {n : Int} {b : By} (hb : AM.get F n = some b) : StepTo (M.delete n) F (AM.del F n) cap st fl := by
  unfold DiskM.delete
  rw [if_neg (by rw [h.has hb]; simp)]
  cases hs : M.sinks
  · rw [if_neg (by simp)]
    have ht := h.tick hs
    refine Or.inl ⟨rfl, ?_⟩
    have hb2 : AM.get M.tick.files n = some b := by rw [ht.files]; exact hb
    exact ⟨ht.ok.deleted hb2, ht.live, ht.up, by show AM.del M.tick.files n = _; rw [ht.files], by show DiskM.dropL n M.tick.loose 0 = []; rw [ht.loose]; rfl, ht.cap, ht.starts, ht.fails⟩
  · rw [if_pos rfl]
    exact Or.inr ⟨rfl, h.sinks_fails hs, h.sunk⟩
theorem UpF.truncate (h : UpF M F cap st fl) {n : Int} {b : By} (hb : AM.get F n = some b) (size : Nat) (hz : size ≤ b.length) : StepTo (M.truncate n (size : Int)) F (AM.set F n (b.take size)) cap st fl := by
  unfold DiskM.truncate
  have e : (AM.get M.files n).getD [] = b := by rw [h.files, hb]; rfl
  rw [if_neg (by rw [h.has hb]; simp), e, if_neg (by omega)]
  cases hs : M.sinks
  · rw [if_neg (by simp)]
    have ht := h.tick hs
    refine Or.inl ⟨rfl, ?_⟩
    have hb2 : AM.get M.tick.files n = some b := by rw [ht.files]; exact hb
    have e2 : (AM.get M.tick.files n).getD [] = b := by rw [hb2]; rfl
    refine ⟨ht.ok.truncated hb2 _ (by rw [Int.toNat_natCast]; exact hz), ht.live, ht.up, ?_, ?_, ht.cap, ht.starts, ht.fails⟩
    · show AM.set M.tick.files n (((AM.get M.tick.files n).getD []).take _) = _
      rw [e2, ht.files, Int.toNat_natCast]
    · show DiskM.dropL n M.tick.loose _ = []
      rw [ht.loose]; rfl
  · rw [if_pos rfl]
    exact Or.inr ⟨rfl, h.sinks_fails hs, h.sunk⟩
theorem UpF.sync (h : UpF M F cap st fl) : StepTo M.sync F F cap st fl := by
  unfold DiskM.sync
  rw [if_neg (by rw [h.up]; simp)]
  cases hs : M.sinks
  · rw [if_neg (by simp)]
    have ht := h.tick hs
    exact Or.inl ⟨rfl, ht.ok.noLoose, ht.live, ht.up, ht.files, rfl, ht.cap, ht.starts, ht.fails⟩
  · rw [if_pos rfl]
    exact Or.inr ⟨rfl, h.sinks_fails hs, h.sunk⟩
end
section
variable {M : DiskM} {F F' : List (Int × By)} {cap st : Int} {fl : Bool} {E : List By} {t : Option By}
end
end Go.Proofs.YtlgeijbgkipliaaGreatDoor
