/- Plain: what a crash leaves, when bytes are appended to four files in turn. No program. -/
import Derived.Test.YtahiimcdmojngaaDiskOwn
namespace Go.Proofs.Ytahiimcdmojngaa

/-- Four files on a disk that does not fail, behind i scraps. -/
structure OrdM (M : DiskM) (i : Nat) : Prop where
  ok : M.Ok
  cap : M.cap = 3000
  down : M.down = false
  fails : M.fails = false
  starts : M.starts = 0
  four : M.files.length = 4
  has : ∀ n : Nat, n < 4 → ∃ b, AM.get M.files n = some b
  total : M.total ≤ 50 * i
  loose : M.loose.length ≤ i

theorem AM.length_set_some {α : Type} {m : List (Int × α)} (h : AM.Rise m) {k : Int} {v : α} (hg : AM.get m k = some v) (v' : α) : (AM.set m k v').length = m.length := by
  rw [AM.length_set, AM.length_del_some h hg]
theorem DiskM.total_appended {M : DiskM} (h : M.Ok) {n : Int} {b : List UInt8} (hg : AM.get M.files n = some b) (s : List UInt8) : (M.appended n s).total = M.total + s.length := by
  unfold DiskM.appended DiskM.total
  rw [hg, Option.getD_some]
  show AM.sum List.length (AM.set M.files n (b ++ s)) = _
  rw [AM.sum_set, AM.sum_del List.length h.rise hg, List.length_append]
  omega
theorem DiskM.tick_quiet {M : DiskM} (h : M.fails = false) : M.tick = M := by unfold DiskM.tick; rw [if_neg (by simp [h])]
theorem DiskM.sinks_quiet {M : DiskM} (h : M.fails = false) : M.sinks = false := by unfold DiskM.sinks; rw [h]; rfl
theorem DiskM.live_quiet {M : DiskM} (h : M.fails = false) : M.Live := fun q => by rw [h] at q; cases q
theorem DiskM.append_quiet {M : DiskM} (hf : M.fails = false) (hd : M.down = false) {n : Int} {b : List UInt8} (hg : AM.get M.files n = some b) {s : List UInt8} (hr : ((M.total + s.length : Nat) : Int) ≤ M.cap) : M.append n s = (0, M.appended n s) := by
  have h0 : M.has n = 0 := by simp [DiskM.has, hd, hg]
  unfold DiskM.append
  rw [if_neg (by simp [h0]), if_neg (by omega), if_neg (by simp [DiskM.sinks_quiet hf])]
  rw [DiskM.tick_quiet (M := M.appended n s) hf]
theorem DiskM.sync_quiet {M : DiskM} (hf : M.fails = false) (hd : M.down = false) : M.sync = (0, { M with loose := [] }) := by
  unfold DiskM.sync
  rw [if_neg (by simp [hd]), if_neg (by simp [DiskM.sinks_quiet hf]), DiskM.tick_quiet hf]
theorem DiskM.appended_get {M : DiskM} (h : M.Ok) {n : Int} {b : List UInt8} (hg : AM.get M.files n = some b) (s : List UInt8) (n' : Int) : AM.get (M.appended n s).files n' = if n' = n then some (b ++ s) else AM.get M.files n' := by
  unfold DiskM.appended
  rw [hg, Option.getD_some]
  show AM.get (AM.set M.files n (b ++ s)) n' = _
  by_cases e : n' = n
  · subst e; rw [if_pos rfl, AM.get_set_same h.rise]
  · rw [if_neg e, AM.get_set_other h.rise _ e]

theorem OrdM.append {M : DiskM} {i : Nat} (h : OrdM M i) (hi : i < 31) {n : Nat} (hn : n < 4) {s : List UInt8} (hs : s.length ≤ 50) : M.append n s = (0, M.appended n s) ∧ OrdM (M.appended n s) (i + 1) := by
  obtain ⟨b, hb⟩ := h.has n hn
  have ht := h.total
  have hr : ((M.total + s.length : Nat) : Int) ≤ M.cap := by rw [h.cap]; omega
  refine ⟨DiskM.append_quiet h.fails h.down hb hr, ?_⟩
  refine ⟨h.ok.appended hb hr (by have := h.four; have := h.loose; omega), h.cap, h.down, h.fails, h.starts, ?_, fun m hm => ?_, ?_, ?_⟩
  · unfold DiskM.appended
    show (AM.set M.files n _).length = 4
    rw [AM.length_set_some h.ok.rise hb, h.four]
  · rw [DiskM.appended_get h.ok hb]
    split
    · exact ⟨_, rfl⟩
    · exact h.has m hm
  · rw [DiskM.total_appended h.ok hb]; omega
  · unfold DiskM.appended
    show (M.loose ++ [(_, _)]).length ≤ _
    rw [List.length_append]
    have := h.loose
    simp only [List.length_cons, List.length_nil]
    omega
theorem OrdM.sync {M : DiskM} {i : Nat} (h : OrdM M i) : M.sync = (0, { M with loose := [] }) ∧ OrdM { M with loose := [] } i :=
  ⟨DiskM.sync_quiet h.fails h.down, h.ok.noLoose, h.cap, h.down, h.fails, h.starts, h.four, h.has, h.total, by show 0 ≤ i; omega⟩

/-- What is wanted of each of the four files, and how many loose bytes are still kept: ahead of the Sync .. -/
structure Ahead (keep : Int) (M : DiskM) (left : Nat) (W : Nat → List UInt8) : Prop where
  lft : left = (max keep 0).toNat
  want : ∀ n : Nat, n < 4 → AM.get M.files n = some (W n)
/-- .. and behind it. -/
structure Behind (keep : Int) (M : DiskM) (left : Nat) (W : Nat → List UInt8) : Prop where
  lft : left = (max (M.loose.foldl DiskM.gstep (keep, [])).1 0).toNat
  want : ∀ n : Nat, n < 4 → ∃ b, AM.get M.files n = some b ∧ W n = b.take (b.length - (AM.get (DiskM.gone M.loose keep) n).getD 0)
  gone : left = 0 ∨ ∀ n, (AM.get (DiskM.gone M.loose keep) n).getD 0 = 0

def upd (W : Nat → List UInt8) (n : Nat) (x : List UInt8) : Nat → List UInt8 := fun m => if m = n then x else W m

theorem Ahead.append {keep : Int} {M : DiskM} {left : Nat} {W : Nat → List UInt8} (h : Ahead keep M left W) (hok : M.Ok) {n : Nat} (hn : n < 4) (s : List UInt8) : Ahead keep (M.appended n s) left (upd W n (W n ++ s)) := by
  refine ⟨h.lft, fun m hm => ?_⟩
  rw [DiskM.appended_get hok (h.want n hn)]
  unfold upd
  by_cases e : m = n
  · subst e; simp
  · have : ¬ (m : Int) = (n : Int) := by omega
    rw [if_neg this, if_neg e]
    exact h.want m hm
theorem Ahead.sync {keep : Int} {M : DiskM} {left : Nat} {W : Nat → List UInt8} (h : Ahead keep M left W) : Behind keep { M with loose := [] } left W := by
  refine ⟨h.lft, fun n hn => ⟨W n, h.want n hn, ?_⟩, Or.inr (fun n => rfl)⟩
  show W n = (W n).take ((W n).length - 0)
  rw [Nat.sub_zero, List.take_length]
theorem Behind.append {keep : Int} {M : DiskM} {left : Nat} {W : Nat → List UInt8} (h : Behind keep M left W) (hok : M.Ok) {n : Nat} (hn : n < 4) (s : List UInt8) :
    Behind keep (M.appended n s) (left - min s.length left) (upd W n (W n ++ s.take (min s.length left))) := by
  obtain ⟨b, hb, hW⟩ := h.want n hn
  have hrise := DiskM.gone_rise M.loose keep
  have hl : (M.appended n s).loose = M.loose ++ [((n : Int), s.length)] := rfl
  have hfold : ((M.appended n s).loose.foldl DiskM.gstep (keep, [])) = DiskM.gstep (M.loose.foldl DiskM.gstep (keep, [])) ((n : Int), s.length) := by rw [hl, List.foldl_append]; rfl
  have hstay : DiskM.stay (M.loose.foldl DiskM.gstep (keep, [])).1 s.length = min s.length left := by unfold DiskM.stay; rw [← h.lft]; omega
  have hg : ∀ m : Int, (AM.get (DiskM.gone (M.appended n s).loose keep) m).getD 0 = if m = n then (AM.get (DiskM.gone M.loose keep) n).getD 0 + (s.length - min s.length left) else (AM.get (DiskM.gone M.loose keep) m).getD 0 := by
    intro m
    have e0 : DiskM.gone (M.appended n s).loose keep = AM.set (DiskM.gone M.loose keep) (n : Int) ((AM.get (DiskM.gone M.loose keep) n).getD 0 + (s.length - min s.length left)) := by
      rw [← hstay]
      unfold DiskM.gone
      rw [hfold]
      rfl
    rw [e0]
    by_cases e : m = n
    · subst e; rw [if_pos rfl, AM.get_set_same hrise]; rfl
    · rw [if_neg e, AM.get_set_other hrise _ e]
  have hgn : (AM.get (DiskM.gone M.loose keep) n).getD 0 ≤ b.length := by
    have h1 := DiskM.gone_le M.loose keep n
    have h2 := hok.lo n
    rw [hb] at h2
    simp only [Option.getD_some] at h2
    omega
  refine ⟨?_, fun m hm => ?_, ?_⟩
  · rw [hfold]
    show _ = (max ((M.loose.foldl DiskM.gstep (keep, [])).1 - (DiskM.stay (M.loose.foldl DiskM.gstep (keep, [])).1 s.length : Nat)) 0).toNat
    have := h.lft
    rw [hstay]
    omega
  · rw [DiskM.appended_get hok hb, hg]
    unfold upd
    by_cases e : m = n
    · subst e
      rw [if_pos rfl, if_pos rfl, if_pos rfl]
      refine ⟨_, rfl, ?_⟩
      rw [hW, List.length_append]
      rcases h.gone with h0 | h0
      · rw [h0]
        simp only [Nat.min_zero, List.take_zero, List.append_nil, Nat.sub_zero]
        rw [List.take_append_of_le_length (by omega)]
        congr 1
        omega
      · rw [h0 m]
        have e1 : b.length + s.length - (0 + (s.length - min s.length left)) = b.length + min s.length left := by omega
        rw [e1, List.take_length_add_append, Nat.sub_zero, List.take_length]
    · have e2 : ¬ (m : Int) = (n : Int) := by omega
      rw [if_neg e2, if_neg e2, if_neg e]
      exact h.want m hm
  · by_cases h0 : left ≤ s.length
    · left; omega
    · rcases h.gone with h1 | h1
      · left; omega
      · right
        intro m
        rw [hg]
        split
        · rw [h1]; omega
        · exact h1 m
theorem Behind.crash {keep : Int} {M : DiskM} {left : Nat} {W : Nat → List UInt8} (h : Behind keep M left W) (hok : M.Ok) : ∀ n : Nat, n < 4 → AM.get (M.crash keep).files n = some (W n) := by
  intro n hn
  obtain ⟨b, hb, hW⟩ := h.want n hn
  show AM.get (DiskM.crashed M.files (DiskM.gone M.loose keep)) n = _
  rw [DiskM.crashed_get hok.rise (DiskM.gone_rise _ _)]
  cases hg : AM.get (DiskM.gone M.loose keep) n with
  | none => rw [hg] at hW; simp only [Option.getD_none, Nat.sub_zero, List.take_length] at hW; rw [hW]; exact hb
  | some m => rw [hg] at hW; simp only [Option.getD_some] at hW; rw [hW]; unfold DiskM.cut; rw [hb]; rfl
end Go.Proofs.Ytahiimcdmojngaa
