/- Package disk: one contract for each change, in one form; a disk of one's own. -/
import Derived.Test.YtahiimcdmojngaaDisk9
namespace Go.Proofs.Ytahiimcdmojngaa
open Go.RowKit

def DiskM.crashR (M : DiskM) (keep : Int) : Int × DiskM := if M.down = true then (61, M) else (0, M.crash keep)
def DiskM.startR (M : DiskM) : Int × DiskM := if M.down = true then (0, M.start) else (2, M)
def DiskM.failR (M : DiskM) (n keep : Int) : Int × DiskM := if M.down = true then (61, M) else if n < 0 then (2, M) else (0, M.fail n keep)

section
variable {M : DiskM}
theorem DiskM.Live.crash (keep : Int) : (M.crash keep).Live := fun h => by cases h
theorem DiskM.Live.sunk : M.sunk.Live := DiskM.Live.crash _
theorem DiskM.Live.tick (hl : M.Live) (h : M.sinks = false) : M.tick.Live := by
  intro hf
  unfold DiskM.tick at hf ⊢
  unfold DiskM.sinks at h
  split at hf
  · rename_i h1
    rw [if_pos h1]
    rw [h1] at h
    simp at h
    show 0 ≤ M.left - 1
    omega
  · rename_i h1
    exact absurd hf h1
theorem DiskM.Live.sync (hl : M.Live) : M.sync.2.Live := by
  unfold DiskM.sync
  split
  · exact hl
  · split
    · exact DiskM.Live.sunk
    · rename_i h
      exact DiskM.Live.tick hl (by simpa using h)
theorem DiskM.Live.create (hl : M.Live) (n : Int) : (M.create n).2.Live := by
  unfold DiskM.create
  split
  · exact hl
  split
  · exact hl
  split
  · exact hl
  split
  · exact hl
  split
  · exact DiskM.Live.sunk
  · rename_i h
    exact DiskM.Live.tick hl (by simpa using h)
theorem DiskM.Live.append (hl : M.Live) (n : Int) (s : List UInt8) : (M.append n s).2.Live := by
  unfold DiskM.append
  split
  · exact hl
  split
  · exact hl
  split
  · exact DiskM.Live.sunk
  · rename_i h
    exact DiskM.Live.tick (M := M.appended n s) hl (by have h2 : M.sinks = false := by simpa using h
                                                       exact h2)
theorem DiskM.Live.crashR (hl : M.Live) (keep : Int) : (M.crashR keep).2.Live := by
  unfold DiskM.crashR
  split
  · exact hl
  · exact DiskM.Live.crash _
theorem DiskM.Live.startR (hl : M.Live) : M.startR.2.Live := by
  unfold DiskM.startR
  split
  · exact hl
  · exact hl
theorem DiskM.Live.failR (hl : M.Live) (n keep : Int) : (M.failR n keep).2.Live := by
  unfold DiskM.failR
  split
  · exact hl
  split
  · exact hl
  · intro _; show 0 ≤ n; omega
end

section
variable {d : Nat} {fp : Nat → Prop} {M : DiskM}
theorem create_to (w : World) (n : Int) (n0 : -9223372036854775808 ≤ n ∧ n ≤ 9223372036854775807) (hd : IsDisk w d fp M) (hl : M.Live) (hc : M.files.length + M.loose.length < 300000000) :
    Calls Try.prog 47 #[.pointer (some ⟨d, 0, none⟩), .int .i64 n] w fun e w' => e = .returned (.int .i64 (M.create n).1) ∧ DiskTo d fp (M.create n).2 w w' := by
  by_cases he : M.down = true ∨ n < 0 ∨ (AM.get M.files n).isSome = true ∨ 100 ≤ M.files.length
  · refine (create_err w n n0 hd he).mono ?_
    rintro e w' ⟨rfl, h2, rfl⟩
    exact ⟨rfl, by rw [h2]; exact DiskTo.same hd⟩
  · have h1 : M.down = false := by simpa using fun h => he (Or.inl h)
    have h2 : ¬ n < 0 := fun h => he (Or.inr (Or.inl h))
    have h3 : AM.get M.files n = none := by
      cases hg : AM.get M.files n with
      | none => rfl
      | some b => exact absurd (Or.inr (Or.inr (Or.inl (by rw [hg]; rfl)))) he
    have h4 : ¬ 100 ≤ M.files.length := fun h => he (Or.inr (Or.inr (Or.inr h)))
    cases hs : M.sinks
    · have e : M.create n = (0, { M.tick with files := AM.set M.files n [] }) := by simp [DiskM.create, h1, h2, h3, h4, hs]
      rw [e]
      exact create_ok w n (by omega) hd hl h1 h3 (by omega) (by omega) hs
    · have e : M.create n = (61, M.sunk) := by simp [DiskM.create, h1, h2, h3, h4, hs]
      rw [e]
      refine (create_sinks w n (by omega) hd hl h1 h3 (by omega) hs).mono ?_
      rintro e w' ⟨rfl, h5, h6⟩
      exact ⟨rfl, fp, h5, h6, fun _ => Or.inl⟩
theorem append_to (w : World) (n : Int) (n0 : -9223372036854775808 ≤ n ∧ n ≤ 9223372036854775807) (s : ByteArray) (hd : IsDisk w d fp M) (hl : M.Live) (hc : M.files.length + M.loose.length < 300000000) :
    Calls Try.prog 49 #[.pointer (some ⟨d, 0, none⟩), .int .i64 n, .string s] w fun e w' => e = .returned (.int .i64 (M.append n s.data.toList).1) ∧ DiskTo d fp (M.append n s.data.toList).2 w w' := by
  rcases M.has_cases n with ⟨h0, hdn, b, hb⟩ | ⟨h0, _⟩ | ⟨h0, _⟩
  · by_cases hf : M.cap - M.total < s.size
    · have e : M.append n s.data.toList = (60, M) := by
        unfold DiskM.append
        rw [if_neg (by simp [h0]), if_pos (by simpa using hf)]
      rw [e]
      refine (append_full w n n0 s hd h0 hf).mono ?_
      rintro e w' ⟨rfl, hk⟩
      exact ⟨rfl, fp, hd.kept hk (fun _ _ => id), hk.mono (fun _ _ => False.elim), fun _ => Or.inl⟩
    · have hr : ((M.total + s.size : Nat) : Int) ≤ M.cap := by omega
      cases hs : M.sinks
      · have e : M.append n s.data.toList = (0, (M.appended n s.data.toList).tick) := by
          unfold DiskM.append
          rw [if_neg (by simp [h0]), if_neg (by simpa using hf), if_neg (by simp [hs])]
        rw [e]
        exact append_in w n s b hd hl hdn hb hr hc hs
      · have e : M.append n s.data.toList = (61, (M.appended n s.data.toList).sunk) := by
          unfold DiskM.append
          rw [if_neg (by simp [h0]), if_neg (by simpa using hf), if_pos hs]
        rw [e]
        exact append_sink w n s b hd hl hdn hb hr hc hs
  all_goals
    have e : M.append n s.data.toList = (M.has n, M) := by
      unfold DiskM.append
      rw [if_pos (by rw [h0]; decide)]
    rw [e]
    refine (append_err w n n0 s hd (by rw [h0]; decide)).mono ?_
    rintro e w' ⟨rfl, rfl⟩
    exact ⟨rfl, DiskTo.same hd⟩
theorem crash_to (w : World) (keep : Int) (k0 : -9223372036854775808 ≤ keep ∧ keep ≤ 9223372036854775807) (hd : IsDisk w d fp M) :
    Calls Try.prog 50 #[.pointer (some ⟨d, 0, none⟩), .int .i64 keep] w fun e w' => e = .returned (.int .i64 (M.crashR keep).1) ∧ DiskTo d fp (M.crashR keep).2 w w' := by
  cases hdn : M.down
  · have e : M.crashR keep = (0, M.crash keep) := by simp [DiskM.crashR, hdn]
    rw [e]
    refine (crash_up w keep k0 hd hdn).mono ?_
    rintro e w' ⟨rfl, h1, h2⟩
    exact ⟨rfl, fp, h1, h2, fun _ => Or.inl⟩
  · have e : M.crashR keep = (61, M) := by simp [DiskM.crashR, hdn]
    rw [e]
    refine (crash_down w keep hd hdn).mono ?_
    rintro e w' ⟨rfl, rfl⟩
    exact ⟨rfl, DiskTo.same hd⟩
theorem start_to (w : World) (hd : IsDisk w d fp M) (hs : 0 ≤ M.starts ∧ M.starts < 9223372036854775807) :
    Calls Try.prog 52 #[.pointer (some ⟨d, 0, none⟩)] w fun e w' => e = .returned (.int .i64 M.startR.1) ∧ DiskTo d fp M.startR.2 w w' := by
  cases hdn : M.down
  · have e : M.startR = (2, M) := by simp [DiskM.startR, hdn]
    rw [e]
    refine (start_up w hd hdn).mono ?_
    rintro e w' ⟨rfl, rfl⟩
    exact ⟨rfl, DiskTo.same hd⟩
  · have e : M.startR = (0, M.start) := by simp [DiskM.startR, hdn]
    rw [e]
    refine (start_down w hd hdn hs.1 hs.2).mono ?_
    rintro e w' ⟨rfl, h1, h2⟩
    exact ⟨rfl, fp, h1, h2.head hd.fpd, fun _ => Or.inl⟩
theorem fail_to (w : World) (n keep : Int) (n0 : -9223372036854775808 ≤ n ∧ n ≤ 9223372036854775807) (k0 : -9223372036854775808 ≤ keep ∧ keep ≤ 9223372036854775807) (hd : IsDisk w d fp M) :
    Calls Try.prog 67 #[.pointer (some ⟨d, 0, none⟩), .int .i64 n, .int .i64 keep] w fun e w' => e = .returned (.int .i64 (M.failR n keep).1) ∧ DiskTo d fp (M.failR n keep).2 w w' := by
  cases hdn : M.down
  · by_cases hn : n < 0
    · have e : M.failR n keep = (2, M) := by simp [DiskM.failR, hdn, hn]
      rw [e]
      refine (fail_neg w n keep hd hdn hn).mono ?_
      rintro e w' ⟨rfl, rfl⟩
      exact ⟨rfl, DiskTo.same hd⟩
    · have e : M.failR n keep = (0, M.fail n keep) := by simp [DiskM.failR, hdn, hn]
      rw [e]
      refine (fail_ok w n keep hd hdn (by omega) (by omega) k0).mono ?_
      rintro e w' ⟨rfl, h1, h2⟩
      exact ⟨rfl, fp, h1, h2.head hd.fpd, fun _ => Or.inl⟩
  · have e : M.failR n keep = (61, M) := by simp [DiskM.failR, hdn]
    rw [e]
    refine (fail_down w n keep hd hdn).mono ?_
    rintro e w' ⟨rfl, rfl⟩
    exact ⟨rfl, DiskTo.same hd⟩
end

/-- Since the world w0 no block of B has turned, and there is a disk that is made of other blocks. -/
def Own (w0 : World) (B : Nat → Prop) (d : Nat) (M : DiskM) (w : World) : Prop := ∃ fp, IsDisk w d fp M ∧ Kept (fun k => ¬ B k) w0 w ∧ (∀ k, fp k → ¬ B k) ∧ ∀ k, B k → k < w0.heap.size
section
variable {w0 w w' : World} {B : Nat → Prop} {d : Nat} {M M' : DiskM} {r : Int}
theorem Own.next {fp : Nat → Prop} (h0 : Kept (fun k => ¬ B k) w0 w ∧ (∀ k, fp k → ¬ B k) ∧ ∀ k, B k → k < w0.heap.size) (h : DiskTo d fp M' w w') : Own w0 B d M' w' := by
  obtain ⟨hk0, hf, hB⟩ := h0
  obtain ⟨fp', h1, h2, h3⟩ := h
  exact ⟨fp', h1, hk0.then_ h2 (fun i hi q => hf i q), fun k hk => (h3 k hk).elim (hf k) (fun q hb => by have := hB k hb; have := hk0.size; omega), hB⟩
theorem Own.kept (h : Own w0 B d M w) (hk : Kept (fun _ => False) w w') : Own w0 B d M w' := by
  obtain ⟨fp, h1, h2, h3⟩ := h
  exact ⟨fp, h1.kept hk (fun _ _ => id), h2.trans (hk.mono (fun _ _ => False.elim)), h3⟩
theorem Own.since (h : Own w0 B d M w) : Kept (fun k => ¬ B k) w0 w := by obtain ⟨fp, h1, h2, h3⟩ := h; exact h2
theorem Own.ok (h : Own w0 B d M w) : M.Ok := by obtain ⟨fp, h1, _⟩ := h; exact h1.ok
/-- Anew, from here on. -/
theorem Own.rebase (h : Own w0 B d M w) : Own w B d M w := by
  obtain ⟨fp, h1, h2, h3, h4⟩ := h
  exact ⟨fp, h1, Kept.refl _ _, h3, fun k hk => Nat.lt_of_lt_of_le (h4 k hk) h2.size⟩
/-- A block of B turns. -/
theorem Own.turn {S : Nat → Prop} (h : Own w0 B d M w) (hk : Kept S w w') (hS : ∀ k, S k → B k) : Own w' B d M w' := by
  obtain ⟨fp, h1, h2, h3, h4⟩ := h
  exact ⟨fp, h1.kept hk (fun x hx hs => h3 x hx (hS x hs)), Kept.refl _ _, h3, fun k hk' => Nat.lt_of_lt_of_le (h4 k hk') (Nat.le_trans h2.size hk.size)⟩
theorem IsDisk.low {fp : Nat → Prop} (h : IsDisk w d fp M) : IsDisk w d (fun k => fp k ∧ k < w.heap.size) M := by
  obtain ⟨mb, lv, fs, h⟩ := h
  exact ⟨mb, lv, fs, h.toDiskRaw.low, h.ok⟩
/-- A block of one's own comes. -/
theorem Own.alloc (h : Own w0 B d M w) (o : Obj) : Own (w.alloc o) (fun k => B k ∨ k = w.heap.size) d M (w.alloc o) := by
  obtain ⟨fp, h1, h2, h3, h4⟩ := h
  have hz : (w.alloc o).heap.size = w.heap.size + 1 := by show (w.heap.push _).size = _; rw [Array.size_push]
  refine ⟨fun k => fp k ∧ k < w.heap.size, h1.low.alloc o, Kept.refl _ _, ?_, ?_⟩
  · rintro k ⟨q, hk⟩ (b | b)
    · exact h3 k q b
    · omega
  · rintro k (b | b)
    · have := h4 k b; have := h2.size; omega
    · omega
theorem Own.fewer {B' : Nat → Prop} (h : Own w0 B d M w) (hB : ∀ k, B' k → B k) : Own w0 B' d M w := by
  obtain ⟨fp, h1, h2, h3, h4⟩ := h
  exact ⟨fp, h1, h2.mono (fun k _ q b => q (hB k b)), fun k q b => h3 k q (hB k b), fun k b => h4 k (hB k b)⟩
theorem create_own (h : Own w0 B d M w) (n : Int) (n0 : -9223372036854775808 ≤ n ∧ n ≤ 9223372036854775807) (hl : M.Live) (hc : M.files.length + M.loose.length < 300000000) (he : M.create n = (r, M')) :
    Calls Try.prog 47 #[.pointer (some ⟨d, 0, none⟩), .int .i64 n] w fun e w' => e = .returned (.int .i64 r) ∧ Own w0 B d M' w' := by
  obtain ⟨fp, h1, h2⟩ := h
  refine (create_to w n n0 h1 hl hc).mono ?_
  rw [he]
  rintro e w' ⟨rfl, hto⟩
  exact ⟨rfl, Own.next h2 hto⟩
theorem append_own (h : Own w0 B d M w) (n : Int) (n0 : -9223372036854775808 ≤ n ∧ n ≤ 9223372036854775807) (s : ByteArray) (hl : M.Live) (hc : M.files.length + M.loose.length < 300000000) (he : M.append n s.data.toList = (r, M')) :
    Calls Try.prog 49 #[.pointer (some ⟨d, 0, none⟩), .int .i64 n, .string s] w fun e w' => e = .returned (.int .i64 r) ∧ Own w0 B d M' w' := by
  obtain ⟨fp, h1, h2⟩ := h
  refine (append_to w n n0 s h1 hl hc).mono ?_
  rw [he]
  rintro e w' ⟨rfl, hto⟩
  exact ⟨rfl, Own.next h2 hto⟩
theorem sync_own (h : Own w0 B d M w) (hl : M.Live) (he : M.sync = (r, M')) :
    Calls Try.prog 48 #[.pointer (some ⟨d, 0, none⟩)] w fun e w' => e = .returned (.int .i64 r) ∧ Own w0 B d M' w' := by
  obtain ⟨fp, h1, h2⟩ := h
  refine (sync_any w h1 hl).mono ?_
  rw [he]
  rintro e w' ⟨rfl, hto⟩
  exact ⟨rfl, Own.next h2 hto⟩
theorem crash_own (h : Own w0 B d M w) (keep : Int) (k0 : -9223372036854775808 ≤ keep ∧ keep ≤ 9223372036854775807) (he : M.crashR keep = (r, M')) :
    Calls Try.prog 50 #[.pointer (some ⟨d, 0, none⟩), .int .i64 keep] w fun e w' => e = .returned (.int .i64 r) ∧ Own w0 B d M' w' := by
  obtain ⟨fp, h1, h2⟩ := h
  refine (crash_to w keep k0 h1).mono ?_
  rw [he]
  rintro e w' ⟨rfl, hto⟩
  exact ⟨rfl, Own.next h2 hto⟩
theorem start_own (h : Own w0 B d M w) (hs : 0 ≤ M.starts ∧ M.starts < 9223372036854775807) (he : M.startR = (r, M')) :
    Calls Try.prog 52 #[.pointer (some ⟨d, 0, none⟩)] w fun e w' => e = .returned (.int .i64 r) ∧ Own w0 B d M' w' := by
  obtain ⟨fp, h1, h2⟩ := h
  refine (start_to w h1 hs).mono ?_
  rw [he]
  rintro e w' ⟨rfl, hto⟩
  exact ⟨rfl, Own.next h2 hto⟩
theorem fail_own (h : Own w0 B d M w) (n keep : Int) (n0 : -9223372036854775808 ≤ n ∧ n ≤ 9223372036854775807) (k0 : -9223372036854775808 ≤ keep ∧ keep ≤ 9223372036854775807) (he : M.failR n keep = (r, M')) :
    Calls Try.prog 67 #[.pointer (some ⟨d, 0, none⟩), .int .i64 n, .int .i64 keep] w fun e w' => e = .returned (.int .i64 r) ∧ Own w0 B d M' w' := by
  obtain ⟨fp, h1, h2⟩ := h
  refine (fail_to w n keep n0 k0 h1).mono ?_
  rw [he]
  rintro e w' ⟨rfl, hto⟩
  exact ⟨rfl, Own.next h2 hto⟩
theorem loose_own (h : Own w0 B d M w) (he : (DiskM.looseAll M.loose : Int) = r) :
    Calls Try.prog 53 #[.pointer (some ⟨d, 0, none⟩)] w fun e w' => e = .returned (.int .i64 r) ∧ Own w0 B d M w' := by
  obtain ⟨fp, h1, h2⟩ := h
  refine (loose_any w h1).mono ?_
  rw [he]
  rintro e w' ⟨rfl, hk⟩
  exact ⟨rfl, Own.kept ⟨fp, h1, h2⟩ hk⟩
theorem free_own (h : Own w0 B d M w) (he : M.cap - M.total = r) :
    Calls Try.prog 80 #[.pointer (some ⟨d, 0, none⟩)] w fun e w' => e = .returned (.int .i64 r) ∧ Own w0 B d M w' := by
  obtain ⟨fp, h1, h2⟩ := h
  refine (free_any w h1).mono ?_
  rw [he]
  rintro e w' ⟨rfl, hk⟩
  exact ⟨rfl, Own.kept ⟨fp, h1, h2⟩ hk⟩
theorem up_own (h : Own w0 B d M w) {b : Bool} (he : (!M.down) = b) :
    Calls Try.prog 51 #[.pointer (some ⟨d, 0, none⟩)] w fun e w' => e = .returned (.bool b) ∧ w = w' := by
  obtain ⟨fp, h1, h2⟩ := h
  rw [← he]
  exact up_any w h1
theorem Own.made (w : World) {e : Ending} {cap : Int} (h : NewDisk cap w e w') : ∃ d, e = .returned (.tuple #[.pointer (some ⟨d, 0, none⟩), .int .i64 0]) ∧ Own w (fun k => k < w.heap.size) d (DiskM.new cap) w' := by
  obtain ⟨d, fp, h1, h2, h3, h4⟩ := h
  exact ⟨d, h1, fp, h2, h3.mono (fun _ _ => False.elim), fun k q => by have := h4 k q; omega, fun _ => id⟩
end
end Go.Proofs.Ytahiimcdmojngaa
