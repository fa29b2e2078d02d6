/- Step FrG -/
import Derived.Test.YtlgeijbgkipliaaGreatDoorUSegmentsOpen16
import Derived.Test.YtlgeijbgkipliaaGreatDoorUSegmentsOpen21
import Derived.Test.YtlgeijbgkipliaaGreatDoorUSegmentsOpen31
import Derived.Test.YtlgeijbgkipliaaGreatDoorUSegmentsOpen10
import Derived.Test.YtlgeijbgkipliaaGreatDoorUSegmentsOpen19
import Derived.Test.YtlgeijbgkipliaaGreatDoorUSegmentsOpen29
set_option linter.unusedVariables false
set_option linter.unusedSimpArgs false
namespace Go.Proofs.YtlgeijbgkipliaaGreatDoor
open Go.RowKit
section
variable {w w' : World} {B : Nat → Prop} {d : Nat} {M M' : DiskM} {r : Int}
theorem delete_ap (h : Apart B d M w) (n : Int) (n0 : -9223372036854775808 ≤ n ∧ n ≤ 9223372036854775807) (he : M.delete n = (r, M')) :
    Calls Tryz.prog 95 #[.pointer (some ⟨d, 0, none⟩), .int .i64 n] w fun e w' => e = .returned (.int .i64 r) ∧ Apart B d M' w' ∧ Kept (fun k => ¬ B k) w w' := by
  obtain ⟨hl, hb, fp, h1, h2⟩ := h
  have hl' := DiskM.Live.delete hl n
  refine (delete_to w n n0 h1 hl).mono ?_
  rw [he] at hl' ⊢
  rintro e w' ⟨rfl, hto⟩
  exact ⟨rfl, Apart.next hl' hb h2 hto⟩
end
theorem crash_count (M : DiskM) (keep : Int) : (M.crash keep).files.length + (M.crash keep).loose.length ≤ M.files.length + M.loose.length := by
  have h1 := DiskM.crashed_len M.files (DiskM.gone M.loose keep)
  have h2 := DiskM.gone_len M.loose keep
  show (DiskM.crashed M.files (DiskM.gone M.loose keep)).length + 0 ≤ _
  omega
theorem sunk_count (M : DiskM) : M.sunk.files.length + M.sunk.loose.length ≤ M.files.length + M.loose.length := by
  have := crash_count M.tick M.keep
  rw [DiskM.tick_files, DiskM.tick_loose] at this
  exact this
theorem Chg.count (c : Chg) (M : DiskM) (hr : AM.Rise M.files) : (c.run M).2.files.length + (c.run M).2.loose.length ≤ M.files.length + M.loose.length + 1 := by
  have hs := sunk_count M
  cases c with
  | del n =>
    show (M.delete n).2.files.length + (M.delete n).2.loose.length ≤ _
    unfold DiskM.delete
    split
    · simp only; omega
    split
    · simp only; omega
    · show (AM.del M.tick.files n).length + (DiskM.dropL n M.tick.loose 0).length ≤ _
      rw [dropL_len, DiskM.tick_files, DiskM.tick_loose]
      have : (AM.del M.files n).length ≤ M.files.length := List.length_filter_le _ _
      omega
  | cut n size =>
    show (M.truncate n size).2.files.length + (M.truncate n size).2.loose.length ≤ _
    unfold DiskM.truncate
    split
    · simp only; omega
    split
    · simp only; omega
    split
    · simp only; omega
    · show (AM.set M.tick.files n _).length + (DiskM.dropL n M.tick.loose _).length ≤ _
      rw [dropL_len, DiskM.tick_files, DiskM.tick_loose]
      have := AM.length_set_le M.files n ((((AM.get M.files n).getD []).take size.toNat))
      omega
  | make n =>
    show (M.create n).2.files.length + (M.create n).2.loose.length ≤ _
    unfold DiskM.create
    split
    · simp only; omega
    split
    · simp only; omega
    split
    · simp only; omega
    split
    · simp only; omega
    split
    · simp only; omega
    · show (AM.set M.files n []).length + M.tick.loose.length ≤ _
      rw [DiskM.tick_loose]
      have := AM.length_set_le M.files n ([] : By)
      omega
  | app n b =>
    show (M.append n b).2.files.length + (M.append n b).2.loose.length ≤ _
    unfold DiskM.append
    split
    · simp only; omega
    split
    · simp only; omega
    · rename_i h0 _
      have hset : (AM.set M.files n (((AM.get M.files n).getD []) ++ b)).length = M.files.length := by
        rw [AM.length_set]
        have : M.has n = 0 := by simpa using h0
        unfold DiskM.has at this
        split at this
        · cases this
        · split at this
          · rename_i q
            obtain ⟨x, hx⟩ := Option.isSome_iff_exists.1 q
            exact AM.length_del_some hr hx
          · cases this
      have ha : (M.appended n b).files.length + (M.appended n b).loose.length = M.files.length + M.loose.length + 1 := by
        show (AM.set M.files n _).length + (M.loose ++ [_]).length = _
        rw [hset, List.length_append]
        simp only [List.length_singleton]
        omega
      split
      · have := sunk_count (M.appended n b)
        simp only; omega
      · simp only
        rw [DiskM.tick_files, DiskM.tick_loose]
        omega
  | sync =>
    show M.sync.2.files.length + M.sync.2.loose.length ≤ _
    unfold DiskM.sync
    split
    · simp only; omega
    split
    · simp only; omega
    · show M.tick.files.length + 0 ≤ _
      rw [DiskM.tick_files]
      omega
def IsStep (w : World) (d : Nat) (v : Value) (c : Chg) (R : Nat → Prop) (z : List Nat) : Prop :=
  ∃ f first caps, v = .func (.func f) first caps ∧ f ∈ [94, 51, 105, 106, 89, 55] ∧
    Hid (∀ (w' : World) (M : DiskM) (B : Nat → Prop), (∀ k, R k → w'.heap[k]? = w.heap[k]?) → (∀ k, R k → B k) → Apart B d M w' → M.files.length + M.loose.length < 300000000 →
      Calls Tryz.prog f (first ++ caps) w' fun e w'' => e = .returned (.int .i64 (c.run M).1) ∧ Apart B d (c.run M).2 w'' ∧ Kept (fun k => ¬ B k ∨ k ∈ z) w' w'')
theorem IsStep.kept {w w' : World} {d : Nat} {v : Value} {c : Chg} {R : Nat → Prop} {z : List Nat} (h : IsStep w d v c R z) (hk : ∀ k, R k → w'.heap[k]? = w.heap[k]?) : IsStep w' d v c R z := by
  obtain ⟨f, first, caps, h1, h2, h3⟩ := h
  exact ⟨f, first, caps, h1, h2, Lib.hid (fun w'' M B h4 => h3.out w'' M B (fun k q => (h4 k q).trans (hk k q)))⟩
def StepsOk (w : World) (d : Nat) : (Nat → Prop) → List Value → List Chg → List Nat → Prop
  | _, [], [], zs => zs = []
  | B, v :: vs, c :: cs, zs => ∃ z zr R, zs = z ++ zr ∧ IsStep w d v c R z ∧ (∀ k, R k → B k) ∧ StepsOk w d (fun k => B k ∧ k ∉ z) vs cs zr
  | _, _, _, _ => False
section
variable {w w' : World} {d : Nat}
theorem StepsOk.kept {vs : List Value} {cs : List Chg} {zs : List Nat} : ∀ {B : Nat → Prop}, StepsOk w d B vs cs zs → (∀ k, B k → w'.heap[k]? = w.heap[k]?) → StepsOk w' d B vs cs zs := by
  induction vs generalizing cs zs with
  | nil => intro B h _; cases cs with
    | nil => exact h
    | cons c cs => exact h.elim
  | cons v vs ih => intro B h hk; cases cs with
    | nil => exact h.elim
    | cons c cs =>
      obtain ⟨z, zr, R, h1, h2, h3, h4⟩ := h
      exact ⟨z, zr, R, h1, h2.kept (fun k q => hk k (h3 k q)), h3, ih h4 (fun k q => hk k q.1)⟩
theorem StepsOk.mono {vs : List Value} {cs : List Chg} {zs : List Nat} : ∀ {B B' : Nat → Prop}, StepsOk w d B vs cs zs → (∀ k, B k → B' k) → StepsOk w d B' vs cs zs := by
  induction vs generalizing cs zs with
  | nil => intro B B' h _; cases cs with
    | nil => exact h
    | cons c cs => exact h.elim
  | cons v vs ih => intro B B' h hB; cases cs with
    | nil => exact h.elim
    | cons c cs =>
      obtain ⟨z, zr, R, h1, h2, h3, h4⟩ := h
      exact ⟨z, zr, R, h1, h2, fun k q => hB k (h3 k q), ih h4 (fun k q => ⟨hB k q.1, q.2⟩)⟩
theorem StepsOk.append {vs vs' : List Value} {cs cs' : List Chg} {zs zs' : List Nat} : ∀ {B B' B'' : Nat → Prop}, StepsOk w d B vs cs zs → StepsOk w d B' vs' cs' zs' → (∀ k, B k → B'' k) → (∀ k, B' k → B'' k ∧ k ∉ zs) → StepsOk w d B'' (vs ++ vs') (cs ++ cs') (zs ++ zs') := by
  induction vs generalizing cs zs with
  | nil => intro B B' B'' h h' _ h2; cases cs with
    | nil =>
      obtain rfl : zs = [] := h
      exact h'.mono (fun k q => (h2 k q).1)
    | cons c cs => exact h.elim
  | cons v vs ih => intro B B' B'' h h' h1 h2; cases cs with
    | nil => exact h.elim
    | cons c cs =>
      obtain ⟨z, zr, R, rfl, g2, g3, g4⟩ := h
      refine ⟨z, zr ++ zs', R, by simp, g2, fun k q => h1 k (g3 k q), ih g4 h' (fun k q => ⟨h1 k q.1, q.2⟩) (fun k q => ?_)⟩
      obtain ⟨q1, q2⟩ := h2 k q
      simp only [List.mem_append, not_or] at q2
      exact ⟨⟨q1, q2.1⟩, q2.2⟩
theorem StepsOk.one {v : Value} {c : Chg} {R B : Nat → Prop} {z : List Nat} (h : IsStep w d v c R z) (hB : ∀ k, R k → B k) : StepsOk w d B [v] [c] z := ⟨z, [], R, by simp, h, hB, rfl⟩
theorem StepsOk.len {vs : List Value} {cs : List Chg} {zs : List Nat} : ∀ {B : Nat → Prop}, StepsOk w d B vs cs zs → vs.length = cs.length := by
  induction vs generalizing cs zs with
  | nil => intro B h; cases cs with
    | nil => rfl
    | cons c cs => exact h.elim
  | cons v vs ih => intro B h; cases cs with
    | nil => exact h.elim
    | cons c cs => obtain ⟨z, zr, R, h1, h2, h3, h4⟩ := h; simp [ih h4]
end
section
variable {w : World} {d : Nat}
theorem blk_of {w w' : World} {b : Nat} {c : List Value} {t : TypeId} (h : Blk w b c t) (he : w'.heap[b]? = w.heap[b]?) : Blk w' b c t := by unfold Blk; rw [he]; exact h
theorem step_sync (w : World) (d : Nat) : IsStep w d (.func (.func 55) #[.pointer (some ⟨d, 0, none⟩)] #[]) .sync (fun _ => False) [] := by
  refine ⟨_, _, _, rfl, by simp, Lib.hid (fun w' M B _ _ ha _ => ?_)⟩
  obtain ⟨r, M', he⟩ : ∃ r M', M.sync = (r, M') := ⟨_, _, rfl⟩
  show Calls _ _ _ _ fun e w'' => e = .returned (.int .i64 M.sync.1) ∧ Apart B d M.sync.2 w'' ∧ _
  rw [he]
  exact (sync_ap ha he).mono (fun e w'' q => ⟨q.1, q.2.1, q.2.2.mono (fun _ _ => Or.inl)⟩)
theorem step_del {a b : Nat} {n : Int} (ha : Blk w a [.pointer (some ⟨d, 0, none⟩)] 29) (hb : Blk w b [.int .i64 n] 3) (n0 : -9223372036854775808 ≤ n ∧ n ≤ 9223372036854775807) :
    IsStep w d (.func (.func 94) #[] #[.pointer (some ⟨a, 0, none⟩), .pointer (some ⟨b, 0, none⟩)]) (.del n) (fun k => k = a ∨ k = b) [] := by
  refine ⟨_, _, _, rfl, by simp, Lib.hid (fun w' M B hw _ hap _ => ?_)⟩
  obtain ⟨r, M', he⟩ : ∃ r M', M.delete n = (r, M') := ⟨_, _, rfl⟩
  show Calls _ _ #[.pointer (some ⟨a, 0, none⟩), .pointer (some ⟨b, 0, none⟩)] _ fun e w'' => e = .returned (.int .i64 (M.delete n).1) ∧ Apart B d (M.delete n).2 w'' ∧ _
  rw [he]
  have h1 := (blk_of ha (hw a (Or.inl rfl))).cell (i := 0) rfl
  have h2 := (blk_of hb (hw b (Or.inr rfl))).cell (i := 0) rfl
  have HD := Lib.hid (delete_ap hap n n0 he)
  clear he hw
  go_enter Tryz.func94, Tryz.ntmps94
  go_wp2_with (go_at_call 95; refine HD.out.mono ?_; rintro e w' ⟨rfl, ha1, hk1⟩)
  go_ret
  exact ⟨rfl, ha1, hk1.mono (fun _ _ => Or.inl)⟩
theorem step_torn {a b c : Nat} {n s : Int} (ha : Blk w a [.pointer (some ⟨d, 0, none⟩)] 29) (hb : Blk w b [.int .i64 n] 3) (hc : Blk w c [.int .i64 s] 3) (n0 : -9223372036854775808 ≤ n ∧ n ≤ 9223372036854775807) :
    IsStep w d (.func (.func 51) #[] #[.pointer (some ⟨a, 0, none⟩), .pointer (some ⟨b, 0, none⟩), .pointer (some ⟨c, 0, none⟩)]) (.cut n s) (fun k => k = a ∨ k = b ∨ k = c) [] := by
  refine ⟨_, _, _, rfl, by simp, Lib.hid (fun w' M B hw _ hap _ => ?_)⟩
  obtain ⟨r, M', he⟩ : ∃ r M', M.truncate n s = (r, M') := ⟨_, _, rfl⟩
  show Calls _ _ #[.pointer (some ⟨a, 0, none⟩), .pointer (some ⟨b, 0, none⟩), .pointer (some ⟨c, 0, none⟩)] _ fun e w'' => e = .returned (.int .i64 (M.truncate n s).1) ∧ Apart B d (M.truncate n s).2 w'' ∧ _
  rw [he]
  have h1 := (blk_of ha (hw a (Or.inl rfl))).cell (i := 0) rfl
  have h2 := (blk_of hb (hw b (Or.inr (Or.inl rfl)))).cell (i := 0) rfl
  have h3 := (blk_of hc (hw c (Or.inr (Or.inr rfl)))).cell (i := 0) rfl
  have HD := Lib.hid (truncate_ap hap n s n0 he)
  clear he hw
  go_enter Tryz.func51, Tryz.ntmps51
  go_wp2_with (go_at_call 52; refine HD.out.mono ?_; rintro e w' ⟨rfl, ha1, hk1⟩)
  go_ret
  exact ⟨rfl, ha1, hk1.mono (fun _ _ => Or.inl)⟩
end
section
variable {w : World} {d : Nat} {B : Nat → Prop} {M : DiskM}
def AllL (w : World) (d : Nat) (B : Nat → Prop) (vs : List Value) (cs : List Chg) (zs : List Nat) (M : DiskM) (k : Nat) (wr : World) : Prop :=
  ∃ cs2 zs2 B2 M2, StepsOk wr d B2 (vs.drop k) cs2 zs2 ∧ (∀ i, B2 i → B i) ∧ (∀ i ∈ zs2, i ∈ zs) ∧ Apart B d M2 wr ∧ runAll cs M = runAll cs2 M2 ∧ Kept (fun i => ¬ B i ∨ i ∈ zs) w wr ∧ M2.files.length + M2.loose.length + cs2.length < 300000000
theorem AllL.step {vs : List Value} {cs : List Chg} {zs : List Nat} {k : Nat} {wr : World} {v : Value} (h : AllL w d B vs cs zs M k wr) (hv : vs[k]? = some v) :
    ∃ f first caps, v = .func (.func f) first caps ∧ f ∈ [94, 51, 105, 106, 89, 55] ∧
      ∃ r, Hid (Calls Tryz.prog f (first ++ caps) wr fun e w'' => e = .returned (.int .i64 r) ∧ ((r = 0 ∧ AllL w d B vs cs zs M (k + 1) w'') ∨ (r ≠ 0 ∧ r = (runAll cs M).1 ∧ Apart B d (runAll cs M).2 w'' ∧ Kept (fun i => ¬ B i ∨ i ∈ zs) w w''))) := by
  obtain ⟨cs2, zs2, B2, M2, hs, hB, hz, ha, hr, hk, hc⟩ := h
  obtain ⟨hlt, he⟩ := List.getElem?_eq_some_iff.1 hv
  rw [List.drop_eq_getElem_cons hlt, he] at hs
  cases cs2 with
  | nil => exact hs.elim
  | cons c cs2 =>
    obtain ⟨z, zr, R, rfl, hst, hR, hrest⟩ := hs
    obtain ⟨f, first, caps, h1, h2, h3⟩ := hst
    simp only [List.length_cons] at hc
    have hcnt := c.count M2 ha.ok.rise
    refine ⟨f, first, caps, h1, h2, (c.run M2).1, Lib.hid ((h3.out wr M2 B (fun _ _ => rfl) (fun i q => hB i (hR i q)) ha (by omega)).mono ?_)⟩
    rintro e w2 ⟨rfl, ha2, hk2⟩
    refine ⟨rfl, ?_⟩
    have hk3 : Kept (fun i => ¬ B i ∨ i ∈ zs) w w2 := hk.then_ hk2 (fun i _ q => q.imp id (fun q => hz i (by simp [q])))
    by_cases h0 : (c.run M2).1 = 0
    · left
      refine ⟨h0, cs2, zr, _, _, hrest.kept (fun i q => hk2.block i (ha.lt (hB i q.1)) (fun n => n.elim (fun n => n (hB i q.1)) q.2)), fun i q => hB i q.1, fun i q => hz i (by simp [q]), ha2, by rw [hr, runAll_cons_ok h0], hk3, by omega⟩
    · right
      rw [hr, runAll_cons_no h0]
      exact ⟨h0, rfl, ha2, hk3⟩
theorem AllL.done {vs : List Value} {cs : List Chg} {zs : List Nat} {k : Nat} {wr : World} (h : AllL w d B vs cs zs M k wr) (hk : vs.length ≤ k) : (runAll cs M).1 = 0 ∧ Apart B d (runAll cs M).2 wr ∧ Kept (fun i => ¬ B i ∨ i ∈ zs) w wr := by
  obtain ⟨cs2, zs2, B2, M2, hs, hB, hz, ha, hr, hk', hc⟩ := h
  rw [List.drop_eq_nil_of_le hk] at hs
  cases cs2 with
  | nil => rw [hr]; exact ⟨rfl, ha, hk'⟩
  | cons c cs2 => exact hs.elim
def AllPost (B : Nat → Prop) (d : Nat) (w : World) (zs : List Nat) (r : Int × DiskM) (e : Ending) (w' : World) : Prop := e = .returned (.int .i64 r.1) ∧ Apart B d r.2 w' ∧ Kept (fun i => ¬ B i ∨ i ∈ zs) w w'
theorem all_end {vs : List Value} {cs : List Chg} {zs : List Nat} {k : Nat} {wr : World} (h : AllL w d B vs cs zs M k wr) (hk : vs.length ≤ k) : AllPost B d w zs (runAll cs M) (.returned (.int .i64 0)) wr := by
  obtain ⟨h1, h2, h3⟩ := h.done hk
  exact ⟨by rw [h1], h2, h3⟩
set_option maxRecDepth 100000 in
set_option maxHeartbeats 4000000 in
theorem all_any (h : Apart B d M w) {v : Value} {vs : List Value} {cs : List Chg} {zs : List Nat} (hrow : Row w 159 1 v vs) (hs : StepsOk w d B vs cs zs) (hv : ∀ k, v.ownBlock = some k → B k ∧ k ∉ zs) (hc : M.files.length + M.loose.length + cs.length < 300000000) :
    Calls Tryz.prog 54 #[v] w (AllPost B d w zs (runAll cs M)) := by
  have hlen := hs.len
  obtain ⟨a, m, cap, rfl, hm, hml, hcl⟩ := hrow.form (by omega)
  rw [Nat.mul_one] at hm
  unfold maxLen at hml
  have HL : AllL w d B vs cs zs M 0 w := ⟨cs, zs, B, M, by simpa using hs, fun _ => id, fun _ => id, h, rfl, Kept.refl _ _, hc⟩
  have HML := Lib.hid hml
  subst hm
  clear hs hlen hrow hc
  go_enter Tryz.func54, Tryz.ntmps54
  go_wp2_with fail
  go_loopw [8] (fun x wr => ∃ k : Nat, k ≤ vs.length ∧ x = .int .i64 (k : Int) ∧ AllL w d B vs cs zs M k wr) (fun x _ => vs.length - (intOf x).toNat)
  case atStart => exact ⟨0, Nat.zero_le _, rfl, HL⟩
  case round =>
    obtain ⟨k, hk, rfl, hL⟩ := hrel
    have hml := HML.out
    by_cases hlt : k < vs.length
    · obtain ⟨g, rfl, hg, hcell⟩ := hcl (by omega)
      obtain ⟨u, hu⟩ : ∃ u, vs[k]? = some u := ⟨_, List.getElem?_eq_getElem hlt⟩
      have hc0 := hcell k u hu
      have hgl : g < w.heap.size := h.lt (hv g hg).1
      have hc1 : wr.cell? ⟨g, k, none⟩ = some u := by
        obtain ⟨_, _, _, _, _, _, _, _, _, hkk, _⟩ := hL
        exact (hkk.cell hc0 (fun q => q.elim (fun q => q (hv g hg).1) (hv g hg).2))
      obtain ⟨f, first, caps, rfl, hf, r, HC⟩ := hL.step hu
      have y1 : decide (k < vs.length) = true := decide_eq_true hlt
      clear hcell hu hL hc0
      by_cases hr0 : r = 0
      · subst hr0
        have HC2 : Hid (Calls Tryz.prog f (first ++ caps) wr fun e w'' => e = .returned (.int .i64 0) ∧ AllL w d B vs cs zs M (k + 1) w'') := Lib.hid (HC.out.mono (fun e w'' q => ⟨q.1, q.2.elim (fun q => q.2) (fun q => absurd rfl q.1)⟩))
        clear HC
        simp only [List.mem_cons, List.not_mem_nil, or_false] at hf
        rcases hf with rfl | rfl | rfl | rfl | rfl | rfl
        all_goals
          go_wp2_with (refine HC2.out.mono ?_; rintro e w2 ⟨rfl, hL2⟩)
          go_roundw
          case rel => exact ⟨k + 1, by omega, by go_num, hL2⟩
          case measure => simp [intOf]; omega
      · have HC2 : Hid (Calls Tryz.prog f (first ++ caps) wr fun e w'' => e = .returned (.int .i64 r) ∧ AllPost B d w zs (runAll cs M) (.returned (.int .i64 r)) w'') := Lib.hid (HC.out.mono (fun e w'' q => ⟨q.1, q.2.elim (fun q => absurd q.1 hr0) (fun q => ⟨by rw [← q.2.1], q.2.2.1, q.2.2.2⟩)⟩))
        have z1 : (r == 0) = false := by simpa using hr0
        have z2 : decide (r = 0) = false := decide_eq_false hr0
        clear HC hr0
        simp only [List.mem_cons, List.not_mem_nil, or_false] at hf
        rcases hf with rfl | rfl | rfl | rfl | rfl | rfl
        all_goals
          go_wp2_with (refine HC2.out.mono ?_; rintro e w2 ⟨rfl, hP⟩)
          go_ret
          exact hP
    · have y1 : decide (k < vs.length) = false := decide_eq_false hlt
      have hP := all_end hL (by omega)
      clear hL
      go_wp2_with fail
      go_ret
      exact hP
end
end Go.Proofs.YtlgeijbgkipliaaGreatDoor

namespace Go.Proofs.YtlgeijbgkipliaaGreatDoor
open Go.RowKit
structure Og where
  own : Nat → Prop
  holds : World → Nat → Prop
  keep' : ∀ {w w' : World} {d : Nat} {Z : Nat → Prop}, holds w d → Kept Z w w' → (∀ k, own k → ¬ Z k) → holds w' d
  lt' : ∀ {w : World} {d k : Nat}, holds w d → own k → k < w.heap.size
theorem Og.keep {x : Og} {w w' : World} {d : Nat} {Z : Nat → Prop} (h : x.holds w d) (hk : Kept Z w w') (hZ : ∀ k, x.own k → ¬ Z k) : x.holds w' d := x.keep' h hk hZ
theorem Og.lt {x : Og} {w : World} {d : Nat} (h : x.holds w d) {k : Nat} (hk : x.own k) : k < w.heap.size := x.lt' h hk
structure FrG (w0 w : World) (d : Nat) (M : DiskM) (B : Nat → Prop) (Os : List Og) : Prop where
  ap : Apart B d M w
  old : ∀ k, k < w0.heap.size → B k
  tab0 : Tab w0
  kept : Kept (fun _ => False) w0 w
  obs : ∀ x ∈ Os, x.holds w d ∧ ∀ k, x.own k → B k ∧ w0.heap.size ≤ k
  apart : Os.Pairwise fun x y => ∀ k, x.own k → ¬ y.own k
def Owg (w0 w : World) (d : Nat) (M : DiskM) (Os : List Og) : Prop := ∃ B, FrG w0 w d M B Os
section
variable {w0 w w' : World} {d r s b : Nat} {M M' : DiskM} {B B' S Z : Nat → Prop} {Os Os' : List Og} {a x : Og} {c c' : List Value} {t : TypeId} {v : Value} {l : List By} {y : Int}
theorem FrG.tab (h : FrG w0 w d M B Os) : Tab w := h.tab0.same h.kept
theorem FrG.perm (h : FrG w0 w d M B Os) (hp : Os.Perm Os') : FrG w0 w d M B Os' :=
  ⟨h.ap, h.old, h.tab0, h.kept, fun x q => h.obs x (hp.mem_iff.2 q), h.apart.perm hp (fun h k q z => h k z q)⟩
theorem FrG.same (h : FrG w0 w d M B Os) (hk : Kept (fun _ => False) w w') : FrG w0 w' d M B Os :=
  ⟨h.ap.same hk, h.old, h.tab0, h.kept.trans hk, fun x q => ⟨Og.keep (h.obs x q).1 hk (fun _ _ => id), (h.obs x q).2⟩, h.apart⟩
theorem FrG.swap (h : FrG w0 w d M B (a :: Os)) (hk : Kept (fun k => ¬ B k ∨ a.own k) w w') (ha : Apart (fun k => B k ∨ x.own k) d M' w') (hx : x.holds w' d) (ho : ∀ k, x.own k → a.own k ∨ w.heap.size ≤ k) : FrG w0 w' d M' (fun k => B k ∨ x.own k) (x :: Os) := by
  obtain ⟨p1, p2⟩ := List.pairwise_cons.1 h.apart
  have h0 := h.obs a (List.mem_cons_self ..)
  refine ⟨ha, fun k q => Or.inl (h.old k q), h.tab0, h.kept.then_ hk (fun i hi z => ?_), fun y q => ?_, List.pairwise_cons.2 ⟨fun y q k e z => ?_, p2⟩⟩
  · rcases z with z | z
    · exact z (h.old i hi)
    · have := (h0.2 i z).2; omega
  · rcases List.mem_cons.1 q with rfl | q
    · refine ⟨hx, fun k e => ⟨Or.inr e, ?_⟩⟩
      rcases ho k e with z | z
      · exact (h0.2 k z).2
      · exact Nat.le_trans h.kept.size z
    · have hy := h.obs y (List.mem_cons_of_mem _ q)
      exact ⟨Og.keep hy.1 hk (fun k e z => z.elim (fun n => n (hy.2 k e).1) (fun z => p1 y q k z e)), fun k e => ⟨Or.inl (hy.2 k e).1, (hy.2 k e).2⟩⟩
  · rcases ho k e with n | n
    · exact p1 y q k n z
    · have := Og.lt (h.obs y (List.mem_cons_of_mem _ q)).1 z
      omega
theorem FrG.to (h : FrG w0 w d M B Os) (hk : Kept (fun k => ¬ B k) w w') (ha : Apart B d M' w') : FrG w0 w' d M' B Os :=
  ⟨ha, h.old, h.tab0, h.kept.then_ hk (fun i hi z => z (h.old i hi)), fun x q => ⟨Og.keep (h.obs x q).1 hk (fun k e z => z ((h.obs x q).2 k e).1), (h.obs x q).2⟩, h.apart⟩
theorem FrG.come (h : FrG w0 w d M B Os) (hk : Kept (fun k => ¬ B k) w w') (ha : Apart (fun k => B k ∨ x.own k) d M' w') (hx : x.holds w' d) (ho : ∀ k, x.own k → w.heap.size ≤ k) : FrG w0 w' d M' (fun k => B k ∨ x.own k) (x :: Os) := by
  refine ⟨ha, fun k q => Or.inl (h.old k q), h.tab0, h.kept.then_ hk (fun i hi z => z (h.old i hi)), fun y q => ?_, List.pairwise_cons.2 ⟨fun y q k e z => ?_, h.apart⟩⟩
  · rcases List.mem_cons.1 q with rfl | q
    · exact ⟨hx, fun k e => ⟨Or.inr e, Nat.le_trans h.kept.size (ho k e)⟩⟩
    · have hy := h.obs y q
      exact ⟨Og.keep hy.1 hk (fun k e z => z (hy.2 k e).1), fun k e => ⟨Or.inl (hy.2 k e).1, (hy.2 k e).2⟩⟩
  · have := Og.lt (h.obs y q).1 z
    have := ho k e
    omega
theorem FrG.add (h : FrG w0 w d M B Os) (hk : Kept (fun _ => False) w w') (hx : x.holds w' d) (ho : ∀ k, x.own k → w.heap.size ≤ k) : FrG w0 w' d M (fun k => B k ∨ x.own k) (x :: Os) :=
  h.come (hk.mono (fun _ _ => False.elim)) (h.ap.grow hk (fun _ _ => False.elim) (fun k q => q.imp id (fun q => ⟨ho k q, Og.lt hx q⟩))) hx ho
theorem Owg.same (h : Owg w0 w d M Os) (hk : Kept (fun _ => False) w w') : Owg w0 w' d M Os := by obtain ⟨B, h⟩ := h; exact ⟨_, h.same hk⟩
theorem Owg.add (h : Owg w0 w d M Os) (hk : Kept (fun _ => False) w w') (hx : x.holds w' d) (ho : ∀ k, x.own k → w.heap.size ≤ k) : Owg w0 w' d M (x :: Os) := by obtain ⟨B, h⟩ := h; exact ⟨_, h.add hk hx ho⟩
theorem Owg.perm (h : Owg w0 w d M Os) (hp : Os.Perm Os') : Owg w0 w d M Os' := by obtain ⟨B, h⟩ := h; exact ⟨_, h.perm hp⟩
theorem Owg.has (h : Owg w0 w d M Os) (hx : x ∈ Os) : x.holds w d := by obtain ⟨B, h⟩ := h; exact (h.obs x hx).1
theorem Owg.ge (h : Owg w0 w d M Os) (hx : x ∈ Os) {k : Nat} (hk : x.own k) : w0.heap.size ≤ k := by obtain ⟨B, h⟩ := h; exact ((h.obs x hx).2 k hk).2
theorem Owg.old (h : Owg w0 w d M Os) : Kept (fun _ => False) w0 w := by obtain ⟨B, h⟩ := h; exact h.kept
theorem Owg.two (h : Owg w0 w d M (a :: x :: Os)) : Owg w0 w d M (x :: a :: Os) := h.perm (List.Perm.swap _ _ _)
theorem Owg.made (hA : Apart (fun k => k < w0.heap.size) d M w) (ht : Tab w0) (hk : Kept (fun _ => False) w0 w) : Owg w0 w d M [] := ⟨_, hA, fun _ => id, ht, hk, fun x q => (List.not_mem_nil q).elim, List.Pairwise.nil⟩
theorem Owg.dcreate (h : Owg w0 w d M Os) (n : Int) (n0 : -9223372036854775808 ≤ n ∧ n ≤ 9223372036854775807) (hc : M.files.length + M.loose.length < 300000000) (he : M.create n = (y, M')) :
    Calls Tryz.prog 11 #[.pointer (some ⟨d, 0, none⟩), .int .i64 n] w fun e w' => e = .returned (.int .i64 y) ∧ Owg w0 w' d M' Os := by
  obtain ⟨B, h⟩ := h
  exact (create_ap h.ap n n0 hc he).mono fun e w' q => ⟨q.1, B, h.to q.2.2 q.2.1⟩
theorem Owg.dappend (h : Owg w0 w d M Os) (n : Int) (n0 : -9223372036854775808 ≤ n ∧ n ≤ 9223372036854775807) (s : ByteArray) (hc : M.files.length + M.loose.length < 300000000) (he : M.append n s.data.toList = (y, M')) :
    Calls Tryz.prog 13 #[.pointer (some ⟨d, 0, none⟩), .int .i64 n, .string s] w fun e w' => e = .returned (.int .i64 y) ∧ Owg w0 w' d M' Os := by
  obtain ⟨B, h⟩ := h
  exact (append_ap h.ap n n0 s hc he).mono fun e w' q => ⟨q.1, B, h.to q.2.2 q.2.1⟩
end
end Go.Proofs.YtlgeijbgkipliaaGreatDoor
