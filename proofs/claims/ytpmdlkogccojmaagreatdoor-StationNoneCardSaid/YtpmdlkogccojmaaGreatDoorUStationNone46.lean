/- StaM StaLawM -/
import Derived.Test.YtpmdlkogccojmaaGreatDoorUStationNone45
import Derived.Test.YtpmdlkogccojmaaGreatDoorUStationNone28
import Derived.Test.YtpmdlkogccojmaaGreatDoorUStationNone33
set_option linter.unusedVariables false
set_option linter.unusedSimpArgs false
namespace Go.Proofs.YtpmdlkogccojmaaGreatDoor
section
variable {P : Int → Prop} {e : List (Int × By) → List (Int × By)} {x c : Nat} {M : DiskM}
theorem ext_keepR (hE : Ext P e x c) (hl : ∀ p ∈ M.loose, P p.1) (hn : P 990) (h : Hd) : (M.ext e x).keepR h = extR (M.keepR h) e x := by
  have h1 := ext_append hE hl hn (frameF (recordF h))
  unfold DiskM.keepR
  rw [h1]
  by_cases h0 : (M.append 990 (frameF (recordF h))).1 = 0
  · have h2 := (run_inv (.app 990 (frameF (recordF h))) hn hl h0).1
    rw [if_pos h0, if_pos h0]
    exact ext_sync hE h2
  · rw [if_neg h0, if_neg h0]
theorem ext_mend (hE : Ext P e x c) (hl : ∀ p ∈ M.loose, P p.1) (hn : P 990) (hc : (AM.get M.files 990).isSome = true) : (M.ext e x).mend = (M.mend.1, M.mend.2.1, M.mend.2.2.ext e x) := by
  have h2 := ext_sync hE hl
  unfold DiskM.mend
  rw [show AM.get (M.ext e x).files 990 = AM.get M.files 990 from hE.get _ _ hn, h2]
  cases hg : AM.get M.files 990 with
  | none => rw [hg] at hc; cases hc
  | some b =>
    simp only
    cases hr : readH (wholeF b).1 with
    | none => rfl
    | some l =>
      simp only
      by_cases h0 : (wholeF b).2.length = 0
      · rw [if_pos h0, if_pos h0]
      · rw [if_neg h0, if_neg h0, ext_truncate hE hl hn]
        by_cases h3 : (M.truncate 990 ((b.length - (wholeF b).2.length : Nat) : Int)).1 = 0
        · have h4 := ext_sync hE (run_inv (.cut 990 ((b.length - (wholeF b).2.length : Nat) : Int)) hn hl h3).1
          rw [if_neg (by simp [h3]), if_neg (by simp [h3])]
          show ((((M.truncate 990 _).2.ext e x).sync).1, _, (((M.truncate 990 _).2.ext e x).sync).2) = _
          rw [show (M.truncate 990 ((b.length - (wholeF b).2.length : Nat) : Int)).2 = ((Chg.cut 990 ((b.length - (wholeF b).2.length : Nat) : Int)).run M).2 from rfl, h4]
        · rw [if_pos (by simpa using h3), if_pos (by simpa using h3)]
end
section
variable {L : List (Int × By)} {M : DiskM}
theorem low_drop (h : ∀ p ∈ L, p.1 < 1000) {a : Int} (ha : 1000 ≤ a) (x : Nat) : dropC (M.ext (fun F => L ++ F) x) a = dropC M a := by
  unfold dropC
  show (((L ++ M.files).map (·.1)).reverse.filter fun n => decide (a ≤ n)).map Chg.del = _
  rw [List.map_append, List.reverse_append, List.filter_append]
  have : ((L.map (·.1)).reverse.filter fun n => decide (a ≤ n)) = [] := by
    rw [List.filter_eq_nil_iff]
    intro n hn
    obtain ⟨p, hp, rfl⟩ := List.mem_map.1 (List.mem_reverse.1 hn)
    have := h p hp
    simp; omega
  rw [this, List.append_nil]
theorem low_segs (h : ∀ p ∈ L, p.1 < 1000) (x : Nat) : ∀ f i, segFiles (M.ext (fun F => L ++ F) x) f i = segFiles M f i := by
  intro f
  induction f with
  | zero => intro i; rfl
  | succ f ih =>
    intro i
    unfold segFiles
    rw [show AM.get (M.ext (fun F => L ++ F) x).files (1000 + (i : Int)) = AM.get M.files (1000 + (i : Int)) from (Ext.low h).get _ _ (by omega)]
    cases AM.get M.files (1000 + (i : Int)) with
    | none => rfl
    | some b => simp only; rw [ih]
theorem low_openC (h : ∀ p ∈ L, p.1 < 1000) (x : Nat) : (M.ext (fun F => L ++ F) x).openC = M.openC := by
  unfold DiskM.openC
  rw [low_segs h, low_drop h (by omega)]
theorem torn_on (i : Nat) (l : List By) : (∀ ch ∈ tornC i l, ch.on (fun n => 1000 ≤ n)) ∧ makes (tornC i l) = 0 := by
  induction l generalizing i with
  | nil => exact ⟨fun ch hc => (List.not_mem_nil hc).elim, rfl⟩
  | cons b r ih =>
    have h := ih (i + 1)
    unfold tornC
    split
    · refine ⟨fun ch hc => ?_, h.2⟩
      rcases List.mem_cons.1 hc with rfl | hc
      · show (1000 : Int) ≤ 1000 + (i : Int); omega
      · exact h.1 ch hc
    · exact h
theorem del_on (ks : List Int) (a : Int) (ha : 1000 ≤ a) : (∀ ch ∈ (ks.filter fun n => decide (a ≤ n)).map Chg.del, ch.on (fun n => 1000 ≤ n)) ∧ makes ((ks.filter fun n => decide (a ≤ n)).map Chg.del) = 0 := by
  induction ks with
  | nil => exact ⟨fun ch hc => (List.not_mem_nil hc).elim, rfl⟩
  | cons k r ih =>
    by_cases hk : a ≤ k
    · rw [List.filter_cons_of_pos (by simpa using hk), List.map_cons]
      refine ⟨fun ch hc => ?_, ih.2⟩
      rcases List.mem_cons.1 hc with rfl | hc
      · show (1000 : Int) ≤ k; omega
      · exact ih.1 ch hc
    · rw [List.filter_cons_of_neg (by simpa using hk)]
      exact ih
theorem open_on (M : DiskM) : (∀ ch ∈ M.openC, ch.on (fun n => 1000 ≤ n)) ∧ makes M.openC = 0 := by
  have h1 := torn_on 0 (segFiles M 64 0)
  have h2 := del_on (M.files.map (·.1)).reverse (1000 + ((segFiles M 64 0).length : Nat)) (by omega)
  unfold DiskM.openC
  refine ⟨fun ch hc => ?_, ?_⟩
  · rcases List.mem_append.1 hc with hc | hc
    · rcases List.mem_append.1 hc with hc | hc
      · exact h2.1 ch hc
      · exact h1.1 ch hc
    · rw [List.mem_singleton] at hc; subst hc; trivial
  · rw [makes_append, makes_append, h1.2]
    have : makes (dropC M (1000 + ((segFiles M 64 0).length : Nat))) = 0 := h2.2
    rw [this]; rfl
theorem low_openS (h : ∀ p ∈ L, p.1 < 1000) (hl : ∀ p ∈ M.loose, 1000 ≤ p.1) :
    (M.ext (fun F => L ++ F) (AM.sum List.length L)).openS = (M.openS.1, M.openS.2.1, M.openS.2.2.ext (fun F => L ++ F) (AM.sum List.length L)) := by
  have ho := open_on M
  have hr := runAll_ext (Ext.low h) M.openC M ho.1 hl (Or.inl ho.2)
  unfold DiskM.openS
  rw [low_openC h, hr, low_segs h]
  show (if M.down = true then _ else _) = _
  split <;> rfl
theorem plan_congr {has has' : Int → Bool} (hh : ∀ n, 1000 ≤ n → has n = has' n) (k : Nat) : ∀ (at_ : Nat) (l : List By), l.length ≤ k → planC has at_ l = planC has' at_ l := by
  induction k with
  | zero => intro at_ l hl; have : l = [] := List.eq_nil_of_length_eq_zero (by omega); subst this; rw [planC_nil, planC_nil]
  | succ k ih =>
    intro at_ l hl
    by_cases h0 : l = []
    · subst h0; rw [planC_nil, planC_nil]
    · have := List.length_pos_iff.2 h0
      rw [planC_step _ _ h0, planC_step _ _ h0, hh _ (by omega), ih _ _ (by rw [List.length_drop]; omega)]
theorem plan_on (has : Int → Bool) (k : Nat) : ∀ (at_ : Nat) (l : List By), l.length ≤ k → ∀ ch ∈ planC has at_ l, ch.on (fun n => 1000 ≤ n) := by
  induction k with
  | zero => intro at_ l hl; have : l = [] := List.eq_nil_of_length_eq_zero (by omega); subst this; rw [planC_nil]; exact fun ch hc => (List.not_mem_nil hc).elim
  | succ k ih =>
    intro at_ l hl
    by_cases h0 : l = []
    · subst h0; rw [planC_nil]; exact fun ch hc => (List.not_mem_nil hc).elim
    · have := List.length_pos_iff.2 h0
      rw [planC_step _ _ h0]
      intro ch hc
      rcases List.mem_append.1 hc with hc | hc
      · split at hc
        · cases hc
        · rw [List.mem_singleton] at hc; subst hc; show (1000 : Int) ≤ _; omega
      · rcases List.mem_cons.1 hc with rfl | hc
        · show (1000 : Int) ≤ _; omega
        · exact ih _ _ (by rw [List.length_drop]; omega) ch hc
theorem low_append (h : ∀ p ∈ L, p.1 < 1000) (hl : ∀ p ∈ M.loose, 1000 ≤ p.1) (G : SegM) (l : List By) (hc : M.files.length + makes (planC (fun n => (AM.get M.files n).isSome) G.entries.length l) + L.length ≤ 100) :
    G.append (M.ext (fun F => L ++ F) (AM.sum List.length L)) l = ((G.append M l).1, (G.append M l).2.1, (G.append M l).2.2.ext (fun F => L ++ F) (AM.sum List.length L)) := by
  have hE := Ext.low h
  have e1 : planC (fun n => (AM.get (M.ext (fun F => L ++ F) (AM.sum List.length L)).files n).isSome) G.entries.length l = planC (fun n => (AM.get M.files n).isSome) G.entries.length l :=
    plan_congr (fun n hn => by rw [show AM.get (M.ext (fun F => L ++ F) (AM.sum List.length L)).files n = AM.get M.files n from hE.get _ _ hn]) _ _ _ (Nat.le_refl _)
  have e2 := ext_room (M := M) hE
  have hm : makes (planC (fun n => (AM.get M.files n).isSome) G.entries.length l ++ [.sync]) = makes (planC (fun n => (AM.get M.files n).isSome) G.entries.length l) := by rw [makes_append]; rfl
  have hr := runAll_ext hE (planC (fun n => (AM.get M.files n).isSome) G.entries.length l ++ [.sync]) M (fun ch q => by
    rcases List.mem_append.1 q with q | q
    · exact plan_on _ _ _ _ (Nat.le_refl _) ch q
    · rw [List.mem_singleton] at q; subst q; trivial) hl (Or.inr (by rw [hm]; exact hc))
  unfold SegM.append
  rw [e1, e2, hr, show G.over (M.ext (fun F => L ++ F) (AM.sum List.length L)) = G.over M from rfl, show (M.ext (fun F => L ++ F) (AM.sum List.length L)).files.length = M.files.length + L.length from hE.len _]
  by_cases h1 : G.over M = true
  · rw [if_pos h1, if_pos h1]
  · rw [if_neg h1, if_neg h1]
    by_cases h2 : l = []
    · rw [if_pos h2, if_pos h2]
    · rw [if_neg h2, if_neg h2]
      by_cases h3 : (l.any fun p => decide (200 < p.length)) = true
      · rw [if_pos h3, if_pos h3]
      · rw [if_neg h3, if_neg h3]
        by_cases h4 : 4096 - G.entries.length < l.length
        · rw [if_pos h4, if_pos h4]
        · rw [if_neg h4, if_neg h4]
          by_cases h5 : M.cap - M.total < ((framesF l).length : Nat)
          · rw [if_pos (Or.inl h5), if_pos (Or.inl h5)]
          · have h6 : ¬ (M.cap - M.total < ((framesF l).length : Nat) ∨ 100 < M.files.length + L.length + makes (planC (fun n => (AM.get M.files n).isSome) G.entries.length l)) := fun q => q.elim h5 (fun q => by omega)
            have h7 : ¬ (M.cap - M.total < ((framesF l).length : Nat) ∨ 100 < M.files.length + makes (planC (fun n => (AM.get M.files n).isSome) G.entries.length l)) := fun q => q.elim h5 (fun q => by omega)
            rw [if_neg h6, if_neg h7]
end
def staD (cp : Int) (f : By) (H : List (Int × By)) (down : Bool) (st : Int) (fl : Bool) (left keep : Int) : DiskM := ⟨(990, f) :: H, [], cp, down, st, fl, left, keep⟩
def segD (cp : Int) (f : By) (H : List (Int × By)) (down : Bool) (st : Int) (fl : Bool) (left keep : Int) : DiskM := ⟨H, [], cp - (f.length : Int), down, st, fl, left, keep⟩
section
variable {cp : Int} {f s t : By} {H : List (Int × By)} {down fl : Bool} {st left keep : Int} {M : DiskM} {E : List By}
theorem low990 (f : By) : ∀ p ∈ [((990 : Int), f)], p.1 < 1000 := by intro p hp; rw [List.mem_singleton] at hp; subst hp; show (990 : Int) < 1000; decide
theorem sum990 (f : By) : AM.sum List.length [((990 : Int), f)] = f.length := by simp [AM.sum]
theorem sta_seg : staD cp f H down st fl left keep = (segD cp f H down st fl left keep).ext (fun F => [((990 : Int), f)] ++ F) (AM.sum List.length [((990 : Int), f)]) := by
  rw [sum990]
  unfold staD segD DiskM.ext
  simp
theorem sta_one : staD cp f H down st fl left keep = (oneD f [] (cp - (AM.sum List.length H : Nat)) down st fl left keep).ext (fun F => F ++ H) (AM.sum List.length H) := by
  unfold staD oneD DiskM.ext
  simp
theorem segD_ok (h : (staD cp f H down st fl left keep).Ok) : (segD cp f H down st fl left keep).Ok := by
  have h1 := h.room
  have h2 : (staD cp f H down st fl left keep).total = f.length + AM.sum List.length H := AM.sum_cons _ _ _
  rw [h2] at h1
  have h1 : ((f.length + AM.sum List.length H : Nat) : Int) ≤ cp := h1
  have h3 := h.count
  have h3 : H.length + 1 + 0 ≤ 400000000 := h3
  refine ⟨(List.pairwise_cons.1 h.rise).2, fun p hp => h.keys p (List.mem_cons_of_mem _ hp), ?_, ?_, ?_, fun n => Nat.zero_le _, fun p hp => (List.not_mem_nil hp).elim, h.left1, h.left2, ?_, h.keepk⟩
  · show 0 ≤ cp - (f.length : Int); omega
  · have h4 := h.cap1
    have h4 : cp ≤ 1048576 := h4
    show cp - (f.length : Int) ≤ 1048576; omega
  · show ((AM.sum List.length H : Nat) : Int) ≤ cp - (f.length : Int); omega
  · show H.length + 0 ≤ 400000000; omega
theorem segD_up (h : (staD cp f H false st fl left keep).Ok) (hl : fl = true → 0 ≤ left) : UpF (segD cp f H false st fl left keep) H (cp - (f.length : Int)) st fl := ⟨segD_ok h, hl, rfl, rfl, rfl, rfl, rfl, rfl⟩
theorem up_sta {M2 : DiskM} (h : UpF M2 H (cp - (f.length : Int)) st fl) : ∃ left keep, M2.ext (fun F => [((990 : Int), f)] ++ F) (AM.sum List.length [((990 : Int), f)]) = staD cp f H false st fl left keep ∧ (fl = true → 0 ≤ left) := by
  obtain ⟨h1, h2, h3, h4, h5, h6, h7, h8⟩ := h
  refine ⟨M2.left, M2.keep, ?_, fun q => h2 (by rw [h8]; exact q)⟩
  rw [sta_seg]
  congr 1
  cases M2
  unfold segD
  simp only at h3 h4 h5 h6 h7 h8
  simp only [h3, h4, h5, h6, h7, h8]
theorem dn_sta {M2 : DiskM} (h : DnF M2 H (cp - (f.length : Int)) st) : ∃ left keep, M2.ext (fun F => [((990 : Int), f)] ++ F) (AM.sum List.length [((990 : Int), f)]) = staD cp f H true st false left keep := by
  obtain ⟨h1, h3, h4, h5, h6, h7, h8⟩ := h
  refine ⟨M2.left, M2.keep, ?_⟩
  rw [sta_seg]
  congr 1
  cases M2
  unfold segD
  simp only at h3 h4 h5 h6 h7 h8
  simp only [h3, h4, h5, h6, h7, h8]
theorem sta_crash (k : Int) : (staD cp f H false st fl left keep).crash k = staD cp f H true st false left keep := by simp [DiskM.crash, staD, DiskM.gone, DiskM.crashed]
theorem high_of (h : ∀ n, (AM.get H n).isSome = true → 1000 ≤ n ∧ n < 1100) (hr : AM.Rise H) : ∀ p ∈ H, 1000 ≤ p.1 := by
  intro p hp
  have := (AM.get_some hr (k := p.1) (v := p.2)).2 hp
  exact (h p.1 (by rw [this]; rfl)).1
theorem Mess.high (h : Mess H E) : ∀ p ∈ H, 1000 ≤ p.1 := by obtain ⟨t, h⟩ := h; exact high_of h.keys h.rise
theorem sta_keep (hH : Mess H E) (hr : ((f.length + (frameF s).length + AM.sum List.length H : Nat) : Int) ≤ cp) (hl : fl = true → 0 ≤ left) (x : Hd) (hx : recordF x = s) :
    (∃ left', (staD cp f H false st fl left keep).keepR x = (0, staD cp (f ++ frameF s) H false st fl left' keep) ∧ (fl = true → 0 ≤ left')) ∨
    (fl = true ∧ ∃ j left', j ≤ (frameF s).length ∧ (staD cp f H false st fl left keep).keepR x = (61, staD cp (f ++ (frameF s).take j) H true st false left' keep)) := by
  have e := ext_keepR (M := oneD f [] (cp - (AM.sum List.length H : Nat)) false st fl left keep) (Ext.high hH.high) (fun p hp => (List.not_mem_nil hp).elim) (by show (990 : Int) < 1000; decide) x
  rw [← sta_one] at e
  rw [e]
  subst hx
  unfold DiskM.keepR
  rcases oneD_keep (f := f) (s := frameF (recordF x)) (cap := cp - (AM.sum List.length H : Nat)) (starts := st) (keep := keep) (left := left) (fails := fl) (by omega) hl with ⟨left', e, q⟩ | ⟨hf, j, left', hj, e⟩
  · exact Or.inl ⟨left', by rw [e, sta_one], q⟩
  · exact Or.inr ⟨hf, j, left', hj, by rw [e, sta_one]⟩
theorem sta_mend (hH : Mess H E) {l : List Hd} (hw : wholeF (f ++ t) = (l.map recordF, t)) (hr : readH (l.map recordF) = some l) (hl : fl = true → 0 ≤ left) :
    (∃ left', (staD cp (f ++ t) H false st fl left keep).openR = (0, l, staD cp f H false st fl left' keep) ∧ (fl = true → 0 ≤ left')) ∨
    (fl = true ∧ ∃ t' left' l', (t' = t ∨ t' = []) ∧ (staD cp (f ++ t) H false st fl left keep).openR = (61, l', staD cp (f ++ t') H true st false left' keep)) := by
  have e := ext_mend (M := oneD (f ++ t) [] (cp - (AM.sum List.length H : Nat)) false st fl left keep) (Ext.high hH.high) (fun p hp => (List.not_mem_nil hp).elim) (by show (990 : Int) < 1000; decide) (by show (AM.get [((990 : Int), f ++ t)] 990).isSome = true; rw [AM.get_990]; rfl)
  have e0 : (staD cp (f ++ t) H false st fl left keep).openR = (staD cp (f ++ t) H false st fl left keep).mend := by unfold DiskM.openR; rw [if_neg (by simp [staD])]
  rw [← sta_one] at e
  rw [e0, e]
  rcases oneD_mend (cap := cp - (AM.sum List.length H : Nat)) (starts := st) (keep := keep) (left := left) (fails := fl) hw hr hl with ⟨left', e, q⟩ | ⟨e0, t', left', l', ht, e⟩
  · exact Or.inl ⟨left', by rw [e, sta_one], q⟩
  · exact Or.inr ⟨e0, t', left', l', ht, by rw [e, sta_one]⟩
theorem sta_open (hok : (staD cp f H false st fl left keep).Ok) (hl : fl = true → 0 ≤ left) (hH : Mess H E) :
    (∃ H' left' keep', (staD cp f H false st fl left keep).openS = (0, E, staD cp f H' false st fl left' keep') ∧ (fl = true → 0 ≤ left') ∧ Tidy H' E ∧ AM.sum List.length H' ≤ AM.sum List.length H) ∨
    (fl = true ∧ ∃ E' H' left' keep', (staD cp f H false st fl left keep).openS = (61, E', staD cp f H' true st false left' keep') ∧ Mess H' E ∧ AM.sum List.length H' ≤ AM.sum List.length H) := by
  obtain ⟨t, hL⟩ := hH
  have e := low_openS (M := segD cp f H false st fl left keep) (low990 f) (fun p hp => (List.not_mem_nil hp).elim)
  rw [← sta_seg] at e
  rw [e]
  rcases open_laid (segD_up hok hl) hL with ⟨e1, e2, F', hT, hs, hu⟩ | ⟨e1, hf, F', hM, hs, hd⟩
  · obtain ⟨left', keep', e3, h3⟩ := up_sta hu
    exact Or.inl ⟨F', left', keep', by rw [e1, e2, e3], h3, hT, hs⟩
  · obtain ⟨left', keep', e3⟩ := dn_sta hd
    exact Or.inr ⟨hf, _, F', left', keep', by rw [e1, e3], hM, hs⟩
theorem sta_append (hok : (staD cp f H false st fl left keep).Ok) (hl : fl = true → 0 ≤ left) (hT : Tidy H E) (p : By) (hE : E.length ≤ 1000) (hr : f.length + AM.sum List.length H + 212 ≤ cp) :
    (p.length ≤ 200 ∧ ∃ H' left' keep', (⟨E, st, false⟩ : SegM).append (staD cp f H false st fl left keep) [p] = (0, ⟨E ++ [p], st, false⟩, staD cp f H' false st fl left' keep') ∧ (fl = true → 0 ≤ left') ∧ Tidy H' (E ++ [p]) ∧ AM.sum List.length H' ≤ AM.sum List.length H + 212) ∨
    (200 < p.length ∧ (⟨E, st, false⟩ : SegM).append (staD cp f H false st fl left keep) [p] = (3, ⟨E, st, false⟩, staD cp f H false st fl left keep)) ∨
    (fl = true ∧ ∃ E' H' left' keep', (⟨E, st, false⟩ : SegM).append (staD cp f H false st fl left keep) [p] = (61, ⟨E, st, true⟩, staD cp f H' true st false left' keep') ∧ (E' = E ∨ E' = E ++ [p]) ∧ Mess H' E' ∧ AM.sum List.length H' ≤ AM.sum List.length H + 212) := by
  have hU := segD_up hok hl
  have hlen := hT.len
  have hm := makes_le (fun n => (AM.get H n).isSome) 1 E.length [p] (Nat.le_refl _)
  have e := low_append (M := segD cp f H false st fl left keep) (low990 f) (fun p hp => (List.not_mem_nil hp).elim) ⟨E, st, false⟩ [p] (by
    show H.length + makes (planC (fun n => (AM.get H n).isSome) E.length [p]) + 1 ≤ 100
    simp only [List.length_singleton] at hm
    omega)
  rw [← sta_seg] at e
  rw [e]
  by_cases hp : p.length ≤ 200
  · have hfr : (framesF [p]).length ≤ 212 := by
      rw [frames_len_cons, framesF_nil]; simp; omega
    rcases hU.append hT (l := [p]) (by simp) (by simpa using hp) (by simp; omega) (by omega) with ⟨M', F', e2, hx, hs, hu⟩ | ⟨hf, M', e2, j, F', hj, hM, hs, hd⟩
    · obtain ⟨left', keep', e3, h3⟩ := up_sta hu
      exact Or.inl ⟨hp, F', left', keep', by rw [e2, e3], h3, hx.1, by omega⟩
    · obtain ⟨left', keep', e3⟩ := dn_sta hd
      refine Or.inr (Or.inr ⟨hf, _, F', left', keep', by rw [e2, e3], ?_, hM, by omega⟩)
      have : j = 0 ∨ j = 1 := by simp at hj; omega
      rcases this with rfl | rfl
      · exact Or.inl (by simp)
      · exact Or.inr (by simp)
  · have e2 := hU.append_long (E := E) (l := [p]) (p := p) (by simp) (by omega)
    exact Or.inr (Or.inl ⟨by omega, by rw [e2, sta_seg]⟩)
end
end Go.Proofs.YtpmdlkogccojmaaGreatDoor

namespace Go.Proofs.YtpmdlkogccojmaaGreatDoor
def UpS (cp : Int) (L : List Hd) (E : List By) (st : Int) (fl : Bool) (X : Nat) (M : DiskM) : Prop := ∃ H left keep, M = staD cp (ringFile L) H false st fl left keep ∧ (fl = true → 0 ≤ left) ∧ Tidy H E ∧ AM.sum List.length H ≤ X
def NrS (cp : Int) (L : List Hd) (E : List By) (st : Int) (fl : Bool) (X : Nat) (M : DiskM) : Prop := ∃ H left keep, M = staD cp (ringFile L) H false st fl left keep ∧ (fl = true → 0 ≤ left) ∧ Mess H E ∧ AM.sum List.length H ≤ X
def MdS (cp : Int) (L : List Hd) (E : List By) (st : Int) (fl : Bool) (X : Nat) (M : DiskM) : Prop := ∃ t H left keep, M = staD cp (ringFile L ++ t) H false st fl left keep ∧ (fl = true → 0 ≤ left) ∧ cutF t = none ∧ Mess H E ∧ AM.sum List.length H ≤ X
def DnS (cp : Int) (L : List Hd) (E : List By) (st : Int) (X : Nat) (M : DiskM) : Prop := ∃ t H left keep, M = staD cp (ringFile L ++ t) H true st false left keep ∧ cutF t = none ∧ Mess H E ∧ AM.sum List.length H ≤ X
section
variable {cp : Int} {L : List Hd} {E : List By} {st : Int} {fl : Bool} {X Y : Nat} {M : DiskM}
theorem staD_few {f : By} {H : List (Int × By)} {down : Bool} {left keep : Int} (hH : Mess H E) : (staD cp f H down st fl left keep).files.length + (staD cp f H down st fl left keep).loose.length < 80000000 := by
  have := hH.len
  show H.length + 1 + 0 < 80000000
  omega
theorem UpS.up (h : UpS cp L E st fl X M) : M.down = false ∧ M.starts = st ∧ M.files.length + M.loose.length < 80000000 ∧ E.length ≤ 4096 ∧ ∀ p ∈ E, p.length ≤ 200 := by
  obtain ⟨H, l, k, rfl, _, h2, _⟩ := h
  exact ⟨rfl, rfl, staD_few h2.mess, h2.few, h2.short⟩
theorem NrS.up (h : NrS cp L E st fl X M) : M.down = false ∧ M.starts = st ∧ M.files.length + M.loose.length < 80000000 := by
  obtain ⟨H, l, k, rfl, _, h2, _⟩ := h
  exact ⟨rfl, rfl, staD_few h2⟩
theorem MdS.up (h : MdS cp L E st fl X M) : M.down = false ∧ M.starts = st ∧ M.files.length + M.loose.length < 80000000 := by
  obtain ⟨t, H, l, k, rfl, _, _, h2, _⟩ := h
  exact ⟨rfl, rfl, staD_few h2⟩
theorem DnS.down (h : DnS cp L E st X M) : M.down = true ∧ M.starts = st := by
  obtain ⟨t, H, l, k, rfl, _⟩ := h
  exact ⟨rfl, rfl⟩
theorem UpS.more (h : UpS cp L E st fl X M) (hX : X ≤ Y) : UpS cp L E st fl Y M := by
  obtain ⟨H, l, k, h1, h2, h3, h4⟩ := h
  exact ⟨H, l, k, h1, h2, h3, by omega⟩
theorem DnS.more (h : DnS cp L E st X M) (hX : X ≤ Y) : DnS cp L E st Y M := by
  obtain ⟨t, H, l, k, h1, h2, h3, h4⟩ := h
  exact ⟨t, H, l, k, h1, h2, h3, by omega⟩
theorem UpS.md (h : UpS cp L E st fl X M) : MdS cp L E st fl X M := by
  obtain ⟨H, l, k, h1, h2, h3, h4⟩ := h
  exact ⟨[], H, l, k, by rw [h1, List.append_nil], h2, cutF_nil, h3.mess, h4⟩
theorem UpS.crash (h : UpS cp L E st fl X M) (k : Int) : ∃ M', M.crashR k = (0, M') ∧ DnS cp L E st X M' := by
  obtain ⟨H, l, kp, rfl, h2, h3, h4⟩ := h
  exact ⟨_, by rw [DiskM.crashR, if_neg (by simp [staD]), sta_crash], [], H, l, kp, by rw [List.append_nil], cutF_nil, h3.mess, h4⟩
theorem UpS.fail (h : UpS cp L E st fl X M) {n : Int} (hn : 0 ≤ n) (k : Int) : ∃ M', M.failR n k = (0, M') ∧ UpS cp L E st true X M' := by
  obtain ⟨H, l, kp, rfl, h2, h3, h4⟩ := h
  exact ⟨_, by rw [DiskM.failR, if_neg (by simp [staD]), if_neg (by omega)]; rfl, H, n, k, rfl, fun _ => hn, h3, h4⟩
theorem MdS.fail (h : MdS cp L E st fl X M) {n : Int} (hn : 0 ≤ n) (k : Int) : ∃ M', M.failR n k = (0, M') ∧ MdS cp L E st true X M' := by
  obtain ⟨t, H, l, kp, rfl, h2, hc, h3, h4⟩ := h
  exact ⟨_, by rw [DiskM.failR, if_neg (by simp [staD]), if_neg (by omega)]; rfl, t, H, n, k, rfl, fun _ => hn, hc, h3, h4⟩
theorem DnS.start (h : DnS cp L E st X M) : ∃ M', M.startR = (0, M') ∧ MdS cp L E (st + 1) false X M' := by
  obtain ⟨t, H, l, k, rfl, hc, h3, h4⟩ := h
  exact ⟨_, by unfold DiskM.startR; rw [if_pos (show (staD cp _ _ _ _ _ _ _).down = true from rfl)]; rfl, t, H, l, k, rfl, (fun h => by cases h), hc, h3, h4⟩
theorem MdS.ringOpen (h : MdS cp L E st fl X M) (hr : Rises 0 L) (h8 : L.length ≤ 8) :
    (∃ M', M.openR = (0, L, M') ∧ NrS cp L E st fl X M') ∨ (fl = true ∧ ∃ l M', M.openR = (61, l, M') ∧ DnS cp L E st X M') := by
  obtain ⟨t, H, l, k, rfl, h2, hc, h3, h4⟩ := h
  rcases sta_mend (cp := cp) (f := ringFile L) (t := t) (st := st) (fl := fl) (left := l) (keep := k) h3 (whole_ring hr.ok hc) (readH_records hr h8) h2 with ⟨left', e, q⟩ | ⟨e0, t', left', l', ht, e⟩
  · exact Or.inl ⟨_, e, H, left', k, rfl, q, h3, h4⟩
  · refine Or.inr ⟨e0, l', _, e, t', H, left', k, rfl, ?_, h3, h4⟩
    rcases ht with rfl | rfl
    · exact hc
    · exact cutF_nil
theorem NrS.segOpen (h : NrS cp L E st fl X M) (hok : M.Ok) :
    (∃ M', M.openS = (0, E, M') ∧ UpS cp L E st fl X M') ∨ (fl = true ∧ ∃ l M', M.openS = (61, l, M') ∧ DnS cp L E st X M') := by
  obtain ⟨H, l, k, rfl, h2, h3, h4⟩ := h
  rcases sta_open hok h2 h3 with ⟨H', left', keep', e, q, hT, hs⟩ | ⟨e0, E', H', left', keep', e, hM, hs⟩
  · exact Or.inl ⟨_, e, H', left', keep', rfl, q, hT, by omega⟩
  · exact Or.inr ⟨e0, E', _, e, [], H', left', keep', by rw [List.append_nil], cutF_nil, hM, by omega⟩
theorem UpS.append (h : UpS cp L E st fl X M) (hok : M.Ok) (hr : Rises 0 L) (h8 : L.length ≤ 8) (p : By) (hE : E.length ≤ 1000) (hX : (X : Int) + 2000 ≤ cp) :
    (p.length ≤ 200 ∧ ∃ M', (⟨E, st, false⟩ : SegM).append M [p] = (0, ⟨E ++ [p], st, false⟩, M') ∧ UpS cp L (E ++ [p]) st fl (X + 212) M') ∨
    (200 < p.length ∧ (⟨E, st, false⟩ : SegM).append M [p] = (3, ⟨E, st, false⟩, M)) ∨
    (fl = true ∧ ∃ E' M', (⟨E, st, false⟩ : SegM).append M [p] = (61, ⟨E, st, true⟩, M') ∧ (E' = E ∨ E' = E ++ [p]) ∧ DnS cp L E' st (X + 212) M') := by
  obtain ⟨H, l, k, rfl, h2, h3, h4⟩ := h
  have hroom := ring_room hr.ok
  rcases sta_append hok h2 h3 p hE (by omega) with ⟨hp, H', left', keep', e, q, hT, hs⟩ | e | ⟨hf, E', H', left', keep', e, hE', hM, hs⟩
  · exact Or.inl ⟨hp, _, e, H', left', keep', rfl, q, hT, by omega⟩
  · exact Or.inr (Or.inl e)
  · exact Or.inr (Or.inr ⟨hf, E', _, e, hE', [], H', left', keep', by rw [List.append_nil], cutF_nil, hM, by omega⟩)
theorem UpS.keepR (q : UpS cp L E st fl X M) {h : Hd} (hh : HdOk h) (hr : Rises 0 L) (h8 : L.length < 8) (hX : (X : Int) + 2000 ≤ cp) :
    (∃ M', M.keepR h = (0, M') ∧ UpS cp (L ++ [h]) E st fl X M') ∨ (fl = true ∧ ∃ L' M', M.keepR h = (61, M') ∧ (L' = L ∨ L' = L ++ [h]) ∧ DnS cp L' E st X M') := by
  obtain ⟨H, l, k, rfl, h2, h3, h4⟩ := q
  have h5 := ring_room hr.ok
  have h6 := frame_room hh
  have h7 := recordF_len hh
  rcases sta_keep (cp := cp) (f := ringFile L) (s := recordF h) (st := st) (fl := fl) (left := l) (keep := k) h3.mess (by omega) h2 h rfl with ⟨left', e, q⟩ | ⟨hf, j, left', hj, e⟩
  · exact Or.inl ⟨_, e, H, left', k, by rw [ringFile_snoc], q, h3, h4⟩
  · rcases Nat.lt_or_ge j (frameF (recordF h)).length with q | q
    · exact Or.inr ⟨hf, L, _, e, Or.inl rfl, (frameF (recordF h)).take j, H, left', k, rfl, cutF_part _ (by omega) j q, h3.mess, h4⟩
    · refine Or.inr ⟨hf, L ++ [h], _, e, Or.inr rfl, [], H, left', k, ?_, cutF_nil, h3.mess, h4⟩
      rw [List.take_of_length_le q, ringFile_snoc, List.append_nil]
end
def entF (s : By) : By := shaF (0 :: s)
def rootE (E : List By) : By := rootF (E.map entF)
def GoodL (L : List Hd) (E : List By) : Prop := ∀ x ∈ L, x.1 ≤ E.length ∧ x.2 = rootE (E.take x.1)
theorem GoodL.more {L : List Hd} {E : List By} (h : GoodL L E) (E2 : List By) : GoodL L (E ++ E2) := by
  intro x hx
  obtain ⟨h1, h2⟩ := h x hx
  exact ⟨by rw [List.length_append]; omega, by rw [List.take_append_of_le_length h1]; exact h2⟩
theorem GoodL.snoc {L : List Hd} {E : List By} (h : GoodL L E) : GoodL (L ++ [(E.length, rootE E)]) E := by
  intro x hx
  rcases List.mem_append.1 hx with q | q
  · exact h x q
  · rw [List.mem_singleton] at q
    subst q
    exact ⟨Nat.le_refl _, by rw [List.take_length]⟩
theorem GoodL.nil (E : List By) : GoodL [] E := fun x hx => (List.not_mem_nil hx).elim
theorem GoodL.last {L : List Hd} {E : List By} (h : GoodL L E) {x : Hd} {m : Nat} (hx : L[m]? = some x) : x.1 ≤ E.length ∧ x.2 = rootE (E.take x.1) := h x (List.mem_of_getElem? hx)
theorem entF_len (s : By) : (entF s).length = 32 := shaF_len _
theorem rootE_len (E : List By) : (rootE E).length = 32 := rootF_len (fun x hx => by obtain ⟨y, _, rfl⟩ := List.mem_map.1 hx; exact entF_len y)
theorem next_same {L : List Hd} {x : Hd} {m : Nat} (hr : Rises 0 L) (hx : L[m]? = some x) (hm : L.length = m + 1) : nextF L (x.1 : Int) x.2 = ((m : Int), false, 0) := by
  have ho := hr.ok x (List.mem_of_getElem? hx)
  have hg : L.getLast? = some x := by rw [List.getLast?_eq_getElem?, hm]; exact hx
  unfold nextF
  rw [if_neg (by have := ho.1; have := ho.2.1; omega), hg]
  simp only
  rw [if_pos ⟨trivial, trivial⟩, hm]
  congr 1
end Go.Proofs.YtpmdlkogccojmaaGreatDoor
