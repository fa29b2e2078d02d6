/- Glue -/
import Derived.Test.YtpmdlkogccojmaaGreatDoorUStationNone28
import Derived.Test.YtpmdlkogccojmaaGreatDoorUStationNone27
set_option linter.unusedVariables false
set_option linter.unusedSimpArgs false
namespace Go.Proofs.YtpmdlkogccojmaaGreatDoor
structure Ext (P : Int → Prop) (e : List (Int × By) → List (Int × By)) (x c : Nat) : Prop where
  get : ∀ F n, P n → AM.get (e F) n = AM.get F n
  set : ∀ F n v, P n → AM.set (e F) n v = e (AM.set F n v)
  del : ∀ F n, P n → AM.del (e F) n = e (AM.del F n)
  sum : ∀ F, AM.sum List.length (e F) = AM.sum List.length F + x
  len : ∀ F, (e F).length = F.length + c
section
variable {α : Type} {A B H : List (Int × α)} {n : Int}
theorem AM.get_append (A B : List (Int × α)) (n : Int) : AM.get (A ++ B) n = (AM.get A n).or (AM.get B n) := by
  unfold AM.get
  rw [List.find?_append]
  cases List.find? (fun p => decide (p.1 = n)) A <;> rfl
theorem AM.get_skip (h : ∀ p ∈ A, p.1 ≠ n) : AM.get A n = none := AM.get_none.2 h
theorem AM.del_append (A B : List (Int × α)) (n : Int) : AM.del (A ++ B) n = AM.del A n ++ AM.del B n := by unfold AM.del; rw [List.filter_append]
theorem AM.ins_low (h : ∀ p ∈ B, n < p.1) (v : α) : AM.ins n v (A ++ B) = AM.ins n v A ++ B := by
  induction A with
  | nil =>
    cases B with
    | nil => rfl
    | cons y r => have := h y (by simp); simp [AM.ins, this]
  | cons y r ih =>
    simp only [List.cons_append, AM.ins]
    split
    · rfl
    · rw [ih]; rfl
theorem AM.ins_high (h : ∀ p ∈ A, p.1 ≤ n) (v : α) : AM.ins n v (A ++ B) = A ++ AM.ins n v B := by
  induction A with
  | nil => rfl
  | cons y r ih =>
    have := h y (by simp)
    simp only [List.cons_append, AM.ins]
    rw [if_neg (by omega), ih (fun p hp => h p (by simp [hp]))]
theorem AM.sum_append (f : α → Nat) (A B : List (Int × α)) : AM.sum f (A ++ B) = AM.sum f A + AM.sum f B := by simp [AM.sum]
end
theorem Ext.high {H : List (Int × By)} (h : ∀ p ∈ H, 1000 ≤ p.1) : Ext (fun n => n < 1000) (fun F => F ++ H) (AM.sum List.length H) H.length :=
  ⟨fun F n hn => by
    rw [AM.get_append, AM.get_skip (A := H) (fun p hp => by have := h p hp; omega)]; cases AM.get F n <;> rfl,
   fun F n v hn => by
    have hd : AM.del H n = H := AM.del_none (AM.get_skip (fun p hp => by have := h p hp; omega))
    unfold AM.set
    rw [AM.del_append, hd, AM.ins_low (fun p hp => by have := h p hp; omega)],
   fun F n hn => by
    have hd : AM.del H n = H := AM.del_none (AM.get_skip (fun p hp => by have := h p hp; omega))
    rw [AM.del_append, hd],
   fun F => AM.sum_append _ F H, fun F => List.length_append⟩
theorem Ext.low {L : List (Int × By)} (h : ∀ p ∈ L, p.1 < 1000) : Ext (fun n => 1000 ≤ n) (fun F => L ++ F) (AM.sum List.length L) L.length :=
  ⟨fun F n hn => by rw [AM.get_append, AM.get_skip (A := L) (fun p hp => by have := h p hp; omega)]; rfl,
   fun F n v hn => by
    have hd : AM.del L n = L := AM.del_none (AM.get_skip (fun p hp => by have := h p hp; omega))
    unfold AM.set
    rw [AM.del_append, hd, AM.ins_high (fun p hp => by have := h p hp; omega)],
   fun F n hn => by
    have hd : AM.del L n = L := AM.del_none (AM.get_skip (fun p hp => by have := h p hp; omega))
    rw [AM.del_append, hd],
   fun F => by rw [AM.sum_append]; omega, fun F => by rw [List.length_append]; omega⟩
def DiskM.ext (M : DiskM) (e : List (Int × By) → List (Int × By)) (x : Nat) : DiskM := { M with files := e M.files, cap := M.cap + (x : Int) }
def Chg.on (P : Int → Prop) : Chg → Prop
  | .del n => P n
  | .cut n _ => P n
  | .make n => P n
  | .app n _ => P n
  | .sync => True
section
variable {P : Int → Prop} {e : List (Int × By) → List (Int × By)} {x c : Nat} {M : DiskM} {n : Int}
theorem ext_has (hE : Ext P e x c) (hn : P n) : (M.ext e x).has n = M.has n := by unfold DiskM.has; show (if M.down = true then (61 : Int) else if (AM.get (e M.files) n).isSome = true then 0 else 4) = _; rw [hE.get _ _ hn]
theorem ext_sinks : (M.ext e x).sinks = M.sinks := rfl
theorem ext_tick : (M.ext e x).tick = M.tick.ext e x := by
  unfold DiskM.tick
  by_cases hf : M.fails = true
  · rw [if_pos hf, if_pos (show (M.ext e x).fails = true from hf)]; rfl
  · rw [if_neg hf, if_neg (show ¬ (M.ext e x).fails = true from hf)]
theorem ext_total (hE : Ext P e x c) : (M.ext e x).total = M.total + x := hE.sum M.files
theorem ext_room (hE : Ext P e x c) : (M.ext e x).cap - ((M.ext e x).total : Int) = M.cap - (M.total : Int) := by rw [ext_total hE]; show M.cap + (x : Int) - _ = _; omega
theorem crashed_ext (hE : Ext P e x c) (F : List (Int × By)) (g : List (Int × Nat)) (hg : ∀ p ∈ g, P p.1) : DiskM.crashed (e F) g = e (DiskM.crashed F g) := by
  have key : ∀ (g : List (Int × Nat)) (f : List (Int × By)), (∀ p ∈ g, P p.1) → g.foldl (fun f p => AM.set f p.1 (DiskM.cut (e F) p.1 p.2)) (e f) = e (g.foldl (fun f p => AM.set f p.1 (DiskM.cut F p.1 p.2)) f) := by
    intro g
    induction g with
    | nil => intro f _; rfl
    | cons p r ih =>
      intro f h
      have hp := h p (by simp)
      rw [List.foldl_cons, List.foldl_cons, hE.set _ _ _ hp, ih _ (fun q hq => h q (by simp [hq]))]
      congr 2
      unfold DiskM.cut
      rw [hE.get _ _ hp]
  exact key g F hg
theorem gone_keys (l : List (Int × Nat)) (keep : Int) (h : ∀ p ∈ l, P p.1) : ∀ p ∈ DiskM.gone l keep, P p.1 := by
  intro p hp
  have h1 := (AM.get_some (DiskM.gone_rise l keep) (k := p.1) (v := p.2)).2 hp
  have h2 := DiskM.gone_some l keep p.1
  rw [h1] at h2
  obtain ⟨q, hq, he⟩ := List.any_eq_true.1 h2.symm
  have := h q hq
  simp at he
  rw [he] at this
  exact this
theorem ext_crash (hE : Ext P e x c) (hl : ∀ p ∈ M.loose, P p.1) (k : Int) : (M.ext e x).crash k = (M.crash k).ext e x := by
  unfold DiskM.crash
  show ({ (M.ext e x) with files := DiskM.crashed (e M.files) (DiskM.gone M.loose k), loose := [], down := true, fails := false } : DiskM) = _
  rw [crashed_ext hE _ _ (gone_keys _ _ hl)]
  rfl
theorem ext_sunk (hE : Ext P e x c) (hl : ∀ p ∈ M.loose, P p.1) : (M.ext e x).sunk = M.sunk.ext e x := by
  unfold DiskM.sunk
  rw [ext_tick, ext_crash hE (by rw [DiskM.tick_loose]; exact hl)]
  rfl
abbrev extR (r : Int × DiskM) (e : List (Int × By) → List (Int × By)) (x : Nat) : Int × DiskM := (r.1, r.2.ext e x)
theorem ext_sync (hE : Ext P e x c) (hl : ∀ p ∈ M.loose, P p.1) : (M.ext e x).sync = extR M.sync e x := by
  unfold DiskM.sync
  show (if M.down = true then _ else if M.sinks = true then _ else _) = _
  rw [ext_sunk hE hl, ext_tick]
  split
  · rfl
  · split <;> rfl
theorem ext_create (hE : Ext P e x c) (hl : ∀ p ∈ M.loose, P p.1) (hn : P n) (hc : M.files.length + c < 100) : (M.ext e x).create n = extR (M.create n) e x := by
  unfold DiskM.create
  show (if M.down = true then _ else if n < 0 then _ else if (AM.get (e M.files) n).isSome = true then _ else if 100 ≤ (e M.files).length then _ else if M.sinks = true then _ else _) = _
  rw [hE.get _ _ hn, hE.len, ext_sunk hE hl, ext_tick, if_neg (show ¬ 100 ≤ M.files.length + c by omega), if_neg (show ¬ 100 ≤ M.files.length by omega)]
  split
  · rfl
  · split
    · rfl
    · split
      · rfl
      · split
        · rfl
        · show ((0 : Int), ({ (M.tick.ext e x) with files := AM.set (e M.files) n [] } : DiskM)) = _
          rw [hE.set _ _ _ hn]
          rfl
theorem ext_appended (hE : Ext P e x c) (hn : P n) (s : By) : (M.ext e x).appended n s = (M.appended n s).ext e x := by
  unfold DiskM.appended
  show ({ (M.ext e x) with files := AM.set (e M.files) n (((AM.get (e M.files) n).getD []) ++ s), loose := M.loose ++ [(n, s.length)] } : DiskM) = _
  rw [hE.get _ _ hn, hE.set _ _ _ hn]
  rfl
theorem ext_append (hE : Ext P e x c) (hl : ∀ p ∈ M.loose, P p.1) (hn : P n) (s : By) : (M.ext e x).append n s = extR (M.append n s) e x := by
  have h2 : ∀ p ∈ (M.appended n s).loose, P p.1 := by
    intro p hp
    rcases List.mem_append.1 hp with q | q
    · exact hl p q
    · rw [List.mem_singleton] at q; subst q; exact hn
  unfold DiskM.append
  rw [ext_has hE hn, ext_room hE, ext_appended hE hn, ext_sunk hE h2, ext_tick, ext_sinks]
  split
  · rfl
  · split
    · rfl
    · split <;> rfl
theorem ext_truncate (hE : Ext P e x c) (hl : ∀ p ∈ M.loose, P p.1) (hn : P n) (s : Int) : (M.ext e x).truncate n s = extR (M.truncate n s) e x := by
  unfold DiskM.truncate
  rw [ext_has hE hn, show AM.get (M.ext e x).files n = AM.get M.files n from hE.get _ _ hn, ext_sunk hE hl, ext_tick, ext_sinks]
  have h3 : (M.tick.ext e x).truncated n s.toNat = (M.tick.truncated n s.toNat).ext e x := by
    unfold DiskM.truncated
    show ({ (M.tick.ext e x) with files := AM.set (e M.tick.files) n (((AM.get (e M.tick.files) n).getD []).take s.toNat), loose := DiskM.dropL n M.tick.loose (s.toNat - (((AM.get (e M.tick.files) n).getD []).length - DiskM.looseOf M.tick.loose n)) } : DiskM) = _
    rw [hE.get _ _ hn, hE.set _ _ _ hn]
    rfl
  rw [h3]
  split
  · rfl
  · split
    · rfl
    · split <;> rfl
theorem ext_delete (hE : Ext P e x c) (hl : ∀ p ∈ M.loose, P p.1) (hn : P n) : (M.ext e x).delete n = extR (M.delete n) e x := by
  unfold DiskM.delete
  rw [ext_has hE hn, ext_sunk hE hl, ext_tick, ext_sinks]
  have h3 : (M.tick.ext e x).deleted n = (M.tick.deleted n).ext e x := by
    unfold DiskM.deleted
    show ({ (M.tick.ext e x) with files := AM.del (e M.tick.files) n, loose := DiskM.dropL n M.tick.loose 0 } : DiskM) = _
    rw [hE.del _ _ hn]
    rfl
  rw [h3]
  split
  · rfl
  · split <;> rfl
end
theorem AM.del_lt {α : Type} {m : List (Int × α)} {k : Int} (h : (AM.get m k).isSome = true) : (AM.del m k).length + 1 ≤ m.length := by
  have h2 : (AM.del m k).length < m.length := by
    refine Nat.lt_of_le_of_ne (List.length_filter_le _ _) (fun q => ?_)
    have h3 : AM.del m k = m := List.filter_eq_self.2 (List.length_filter_eq_length_iff.1 q)
    have h4 : AM.get m k = none := by rw [← h3]; exact AM.get_del_same k
    rw [h4] at h
    cases h
  omega
theorem AM.set_len_le {α : Type} {m : List (Int × α)} {k : Int} (v : α) (h : (AM.get m k).isSome = true) : (AM.set m k v).length ≤ m.length := by
  rw [AM.length_set]; exact AM.del_lt h
theorem has_some {M : DiskM} {n : Int} (h : ¬ M.has n ≠ 0) : (AM.get M.files n).isSome = true := by
  unfold DiskM.has at h
  split at h
  · exact absurd (by decide) h
  · split at h
    · assumption
    · exact absurd (by decide) h
section
variable {P : Int → Prop} {e : List (Int × By) → List (Int × By)} {x c : Nat} {M : DiskM} {n : Int}
theorem run_inv (ch : Chg) (hon : ch.on P) (hl : ∀ p ∈ M.loose, P p.1) (h0 : (ch.run M).1 = 0) : (∀ p ∈ (ch.run M).2.loose, P p.1) ∧ (ch.run M).2.files.length ≤ M.files.length + makes [ch] := by
  have hdrop : ∀ (n : Int) (l : List (Int × Nat)) (s : Nat), (∀ p ∈ l, P p.1) → ∀ p ∈ DiskM.dropL n l s, P p.1 := by
    intro n l s h p hp
    have h1 : p.1 ∈ (DiskM.dropL n l s).map (·.1) := List.mem_map_of_mem hp
    rw [dropL_keys] at h1
    obtain ⟨q, hq, he⟩ := List.mem_map.1 h1
    have := h q hq
    rw [he] at this
    exact this
  cases ch with
  | sync =>
    simp only [Chg.run] at h0 ⊢
    unfold DiskM.sync at h0 ⊢
    split at h0
    · cases h0
    · split at h0
      · cases h0
      · rename_i h1 h2
        rw [if_neg h1, if_neg h2]
        refine ⟨fun p hp => (by cases hp), ?_⟩
        show M.tick.files.length ≤ _
        rw [DiskM.tick_files]
        exact Nat.le_add_right _ _
  | del n =>
    simp only [Chg.run] at h0 ⊢
    unfold DiskM.delete at h0 ⊢
    split at h0
    · exact absurd h0 ‹_›
    · split at h0
      · cases h0
      · rename_i h1 h2
        rw [if_neg h1, if_neg h2]
        refine ⟨hdrop n _ _ (by rw [DiskM.tick_loose]; exact hl), ?_⟩
        show (AM.del M.tick.files n).length ≤ _
        rw [DiskM.tick_files]
        have := AM.del_lt (has_some h1)
        omega
  | cut n s =>
    simp only [Chg.run] at h0 ⊢
    unfold DiskM.truncate at h0 ⊢
    split at h0
    · exact absurd h0 ‹_›
    · split at h0
      · cases h0
      · split at h0
        · cases h0
        · rename_i h1 h2 h3
          rw [if_neg h1, if_neg h2, if_neg h3]
          refine ⟨hdrop n _ _ (by rw [DiskM.tick_loose]; exact hl), ?_⟩
          show (AM.set M.tick.files n _).length ≤ _
          rw [DiskM.tick_files]
          have := AM.set_len_le (((AM.get M.files n).getD []).take s.toNat) (has_some h1)
          omega
  | make n =>
    simp only [Chg.run] at h0 ⊢
    unfold DiskM.create at h0 ⊢
    split at h0
    · cases h0
    · split at h0
      · cases h0
      · split at h0
        · cases h0
        · split at h0
          · cases h0
          · split at h0
            · cases h0
            · rename_i h1 h2 h3 h4 h5
              rw [if_neg h1, if_neg h2, if_neg h3, if_neg h4, if_neg h5]
              refine ⟨fun p hp => hl p (by have : p ∈ M.tick.loose := hp; rwa [DiskM.tick_loose] at this), ?_⟩
              show (AM.set M.files n []).length ≤ _
              have := AM.length_set_le M.files n ([] : By)
              simpa [makes] using this
  | app n s =>
    simp only [Chg.run] at h0 ⊢
    unfold DiskM.append at h0 ⊢
    split at h0
    · exact absurd h0 ‹_›
    · split at h0
      · cases h0
      · split at h0
        · cases h0
        · rename_i h1 h2 h3
          rw [if_neg h1, if_neg h2, if_neg h3]
          refine ⟨fun p hp => ?_, ?_⟩
          · have h4 : p ∈ (M.appended n s).tick.loose := hp
            rw [DiskM.tick_loose] at h4
            rcases List.mem_append.1 h4 with q | q
            · exact hl p q
            · rw [List.mem_singleton] at q; subst q; exact hon
          · show (M.appended n s).tick.files.length ≤ _
            rw [DiskM.tick_files]
            show (AM.set M.files n _).length ≤ _
            have := AM.set_len_le (((AM.get M.files n).getD []) ++ s) (has_some h1)
            omega
theorem run_ext (hE : Ext P e x c) (ch : Chg) (hon : ch.on P) (hl : ∀ p ∈ M.loose, P p.1) (hc : makes [ch] = 0 ∨ M.files.length + makes [ch] + c ≤ 100) : ch.run (M.ext e x) = extR (ch.run M) e x := by
  cases ch with
  | sync => exact ext_sync hE hl
  | del n => exact ext_delete hE hl hon
  | cut n s => exact ext_truncate hE hl hon s
  | make n => exact ext_create hE hl hon (by have h1 : makes [Chg.make n] = 1 := rfl; omega)
  | app n s => exact ext_append hE hl hon s
theorem runAll_ext (hE : Ext P e x c) : ∀ (cs : List Chg) (M : DiskM), (∀ ch ∈ cs, ch.on P) → (∀ p ∈ M.loose, P p.1) → (makes cs = 0 ∨ M.files.length + makes cs + c ≤ 100) → runAll cs (M.ext e x) = extR (runAll cs M) e x := by
  intro cs
  induction cs with
  | nil => intros; rfl
  | cons ch r ih =>
    intro M hon hl hc
    have hm : makes (ch :: r) = makes [ch] + makes r := makes_append [ch] r
    have h1 := run_ext hE ch (hon ch (by simp)) hl (by omega)
    by_cases h0 : (ch.run M).1 = 0
    · have h2 := run_inv ch (hon ch (by simp)) hl h0
      rw [runAll_cons_ok (by rw [h1]; exact h0), runAll_cons_ok h0, h1]
      exact ih _ (fun q hq => hon q (by simp [hq])) h2.1 (by omega)
    · rw [runAll_cons_no (by rw [h1]; exact h0), runAll_cons_no h0, h1]
end
end Go.Proofs.YtpmdlkogccojmaaGreatDoor
