/- Contracts of package peers. -/
import Derived.Test.YtahiimcdmojngaaHeap
import Derived.Test.YtahiimcdmojngaaBackoff
namespace Go.Proofs.Ytahiimcdmojngaa
open Go.RowKit

/-- How one peer is. -/
structure Pr where
  tries : Int
  strikes : Int
  until_ : Int
  barred : Bool

namespace Pr
def cells (p : Pr) : List Value := [.int .i64 p.tries, .int .i64 p.strikes, .int .i64 p.until_, .bool p.barred]
def flat (l : List Pr) : List Value := l.flatMap cells
def ok (p : Pr) : Prop := 0 ≤ p.tries ∧ p.tries ≤ 1048576 ∧ 0 ≤ p.strikes ∧ p.strikes ≤ 1048576 ∧ 0 ≤ p.until_ ∧ p.until_ ≤ 1099511628800
def zero : Pr := ⟨0, 0, 0, false⟩
theorem ok_zero : zero.ok := by simp [ok, zero]

theorem flat_len (l : List Pr) : (flat l).length = 4 * l.length := by
  induction l with
  | nil => rfl
  | cons a l ih => simp only [flat, List.flatMap_cons, List.length_append, List.length_cons] at *; simp only [ih]; simp [cells]; omega
theorem flat_get (l : List Pr) (r : List Value) (i : Nat) (p : Pr) (h : l[i]? = some p) (j : Nat) (hj : j < 4) : (flat l ++ r)[i * 4 + j]? = p.cells[j]? := by
  induction l generalizing i with
  | nil => simp at h
  | cons a l ih =>
    have e : flat (a :: l) ++ r = a.cells ++ (flat l ++ r) := by simp [flat]
    rw [e]
    cases i with
    | zero => simp at h; subst h; rw [List.getElem?_append_left (by simp [cells]; omega)]; simp
    | succ i =>
      rw [List.getElem?_append_right (by simp [cells]; omega)]
      have : (i + 1) * 4 + j - a.cells.length = i * 4 + j := by simp [cells]; omega
      rw [this]
      exact ih i (by simpa using h)
theorem flat_set (l : List Pr) (r : List Value) (i : Nat) (p p' : Pr) (h : l[i]? = some p) (j : Nat) (hj : j < 4) (v : Value) (hp : p.cells.set j v = p'.cells) : (flat l ++ r).set (i * 4 + j) v = flat (l.set i p') ++ r := by
  induction l generalizing i with
  | nil => simp at h
  | cons a l ih =>
    have e : flat (a :: l) ++ r = a.cells ++ (flat l ++ r) := by simp [flat]
    rw [e]
    cases i with
    | zero =>
      simp at h; subst h
      rw [List.set_append_left _ _ (by simp [cells]; omega)]
      simp [hp, flat]
    | succ i =>
      rw [List.set_append_right _ _ (by simp [cells]; omega)]
      have : (i + 1) * 4 + j - a.cells.length = i * 4 + j := by simp [cells]; omega
      rw [this, ih i (by simpa using h)]
      simp [flat]
end Pr

/-- Peers at block b, whose list lies in block bl; T, E: the numbers of the two struct types. -/
structure IsPeers (T E : TypeId) (w : World) (b bl cap : Nat) (rest : List Value) (l : List Pr) (last : Nat) : Prop where
  head : Blk w b [.slice (some ⟨bl, 0, none⟩) l.length cap, .int .i64 last] T
  row : Blk w bl (Pr.flat l ++ rest) E
  ne : b ≠ bl
  last : last < l.length
  few : l.length ≤ 8
  ok : ∀ p ∈ l, p.ok

theorem none_nil (w : World) : Calls Try.prog 75 #[.pointer none] w fun e w' => e = .returned (.bool true) ∧ w = w' := by
  go_enter Try.func75, Try.ntmps75
  go_wp2
  go_ret
  exact ⟨rfl, rfl⟩
theorem none_empty (w : World) (b : Nat) (h : w.cell? ⟨b, 0, none⟩ = some (.slice none 0 0)) : Calls Try.prog 75 #[.pointer (some ⟨b, 0, none⟩)] w fun e w' => e = .returned (.bool true) ∧ w = w' := by
  go_enter Try.func75, Try.ntmps75
  go_wp2
  go_ret
  exact ⟨rfl, rfl⟩
theorem none_some (w : World) (b bl n cap : Nat) (hn : 0 < n) (h : w.cell? ⟨b, 0, none⟩ = some (.slice (some ⟨bl, 0, none⟩) n cap)) : Calls Try.prog 75 #[.pointer (some ⟨b, 0, none⟩)] w fun e w' => e = .returned (.bool false) ∧ w = w' := by
  have hb : ((n : Int) == 0) = false := by simp; omega
  go_enter Try.func75, Try.ntmps75
  go_wp2
  go_ret
  exact ⟨rfl, rfl⟩

theorem check_nil (w : World) (i : Int) : Calls Try.prog 73 #[.pointer none, .int .i64 i] w fun e w' => e = .returned (.int .i64 1) ∧ w = w' := by
  go_enter Try.func73, Try.ntmps73
  go_wp2_with (go_at_call 75; refine (none_nil _).mono ?_; rintro e w' ⟨rfl, rfl⟩)
  go_ret
  exact ⟨rfl, rfl⟩
theorem check_empty (w : World) (b : Nat) (i : Int) (h : w.cell? ⟨b, 0, none⟩ = some (.slice none 0 0)) : Calls Try.prog 73 #[.pointer (some ⟨b, 0, none⟩), .int .i64 i] w fun e w' => e = .returned (.int .i64 1) ∧ w = w' := by
  go_enter Try.func73, Try.ntmps73
  go_wp2_with (go_at_call 75; refine (none_empty _ _ h).mono ?_; rintro e w' ⟨rfl, rfl⟩)
  go_ret
  exact ⟨rfl, rfl⟩
theorem check_out (w : World) (b bl n cap : Nat) (i : Int) (hn : 0 < n) (h : w.cell? ⟨b, 0, none⟩ = some (.slice (some ⟨bl, 0, none⟩) n cap)) (hi : i < 0 ∨ n ≤ i) :
    Calls Try.prog 73 #[.pointer (some ⟨b, 0, none⟩), .int .i64 i] w fun e w' => e = .returned (.int .i64 4) ∧ w = w' := by
  by_cases h0 : i < 0
  · go_enter Try.func73, Try.ntmps73
    go_wp2_with (go_at_call 75; refine (none_some _ _ _ _ _ hn h).mono ?_; rintro e w' ⟨rfl, rfl⟩)
    go_ret
    exact ⟨rfl, rfl⟩
  · have h1 : (n : Int) ≤ i := by omega
    clear hi
    go_enter Try.func73, Try.ntmps73
    go_wp2_with (go_at_call 75; refine (none_some _ _ _ _ _ hn h).mono ?_; rintro e w' ⟨rfl, rfl⟩)
    go_ret
    exact ⟨rfl, rfl⟩
theorem check_in (w : World) (b bl n cap : Nat) (i : Int) (h : w.cell? ⟨b, 0, none⟩ = some (.slice (some ⟨bl, 0, none⟩) n cap)) (h0 : 0 ≤ i) (h1 : i < n) :
    Calls Try.prog 73 #[.pointer (some ⟨b, 0, none⟩), .int .i64 i] w fun e w' => e = .returned (.int .i64 0) ∧ w = w' := by
  go_enter Try.func73, Try.ntmps73
  go_wp2_with (go_at_call 75; refine (none_some _ _ _ _ _ (by omega) h).mono ?_; rintro e w' ⟨rfl, rfl⟩)
  go_ret
  exact ⟨rfl, rfl⟩

def nearZ (t : Int) : Int := if t < 0 then 0 else if 1099511627776 < t then 1099511627776 else t
theorem nearZ_bd (t : Int) : 0 ≤ nearZ t ∧ nearZ t ≤ 1099511627776 := by unfold nearZ; split <;> (try split) <;> omega
theorem near_any (t : Int) (w : World) : Calls Try.prog 74 #[.int .i64 t] w fun e w' => e = .returned (.int .i64 (nearZ t)) ∧ w = w' := by
  by_cases h0 : t < 0
  · have e : nearZ t = 0 := by simp [nearZ, h0]
    rw [e]; clear e
    go_enter Try.func74, Try.ntmps74
    go_wp2
    go_ret
    exact ⟨rfl, rfl⟩
  · by_cases h1 : 1099511627776 < t
    · have e : nearZ t = 1099511627776 := by simp [nearZ, h0, h1]
      rw [e]; clear e
      go_enter Try.func74, Try.ntmps74
      go_wp2
      go_ret
      exact ⟨rfl, rfl⟩
    · have e : nearZ t = t := by simp [nearZ, h0, h1]
      rw [e]; clear e
      go_enter Try.func74, Try.ntmps74
      go_wp2
      all_goals
        go_ret
        exact ⟨ret_int (by omega), rfl⟩

section
variable {w : World} {b bl cap : Nat} {rest : List Value} {l : List Pr} {last : Nat} {T E : TypeId}
theorem IsPeers.c0 (h : IsPeers T E w b bl cap rest l last) : w.cell? ⟨b, 0, none⟩ = some (.slice (some ⟨bl, 0, none⟩) l.length cap) := h.head.cell rfl
theorem IsPeers.c1 (h : IsPeers T E w b bl cap rest l last) : w.cell? ⟨b, 1, none⟩ = some (.int .i64 last) := h.head.cell rfl
theorem IsPeers.at_ (h : IsPeers T E w b bl cap rest l last) {i : Nat} (hi : i < l.length) : ∃ p : Pr, l[i]? = some p ∧ p.ok ∧ w.cell? ⟨bl, i * 4, none⟩ = some (.int .i64 p.tries) ∧ w.cell? ⟨bl, i * 4 + 1, none⟩ = some (.int .i64 p.strikes) ∧ w.cell? ⟨bl, i * 4 + 2, none⟩ = some (.int .i64 p.until_) ∧ w.cell? ⟨bl, i * 4 + 3, none⟩ = some (.bool p.barred) := by
  have hg : l[i]? = some l[i] := List.getElem?_eq_getElem hi
  refine ⟨l[i], hg, h.ok _ (List.getElem_mem hi), h.row.cell (i := i * 4) ?_, h.row.cell ?_, h.row.cell ?_, h.row.cell ?_⟩
  · rw [← Nat.add_zero (i * 4), Pr.flat_get l rest i _ hg 0 (by omega)]; rfl
  · rw [Pr.flat_get l rest i _ hg 1 (by omega)]; rfl
  · rw [Pr.flat_get l rest i _ hg 2 (by omega)]; rfl
  · rw [Pr.flat_get l rest i _ hg 3 (by omega)]; rfl
theorem IsPeers.set1 (h : IsPeers T E w b bl cap rest l last) {i j : Nat} {p p' : Pr} (hi : l[i]? = some p) (hj : j < 4) {v : Value} (hp : p.cells.set j v = p'.cells) (hok : p'.ok) : IsPeers T E (w.setCell ⟨bl, i * 4 + j, none⟩ v) b bl cap rest (l.set i p') last := by
  refine ⟨?_, ?_, h.ne, by simpa using h.last, by simpa using h.few, ?_⟩
  · have := h.head.other (p := ⟨bl, i * 4 + j, none⟩) (fun e => h.ne e.symm) v
    simpa using this
  · have := h.row.set (i * 4 + j) v
    rwa [Pr.flat_set l rest i p p' hi j hj v hp] at this
  · intro q hq
    rcases List.mem_or_eq_of_mem_set hq with hq | rfl
    · exact h.ok q hq
    · exact hok
theorem IsPeers.drew (h : IsPeers T E w b bl cap rest l last) : IsPeers T E w.drew b bl cap rest l last := ⟨h.head, h.row, h.ne, h.last, h.few, h.ok⟩
theorem IsPeers.drewN (h : IsPeers T E w b bl cap rest l last) (n : Nat) : IsPeers T E (w.drewN n) b bl cap rest l last := ⟨h.head, h.row, h.ne, h.last, h.few, h.ok⟩
theorem IsPeers.alloc (h : IsPeers T E w b bl cap rest l last) (o : Obj) : IsPeers T E (w.alloc o) b bl cap rest l last := ⟨h.head.alloc o, h.row.alloc o, h.ne, h.last, h.few, h.ok⟩
theorem IsPeers.kept {S : Nat → Prop} {w' : World} (h : IsPeers T E w b bl cap rest l last) (k : Kept S w w') (n1 : ¬ S b) (n2 : ¬ S bl) : IsPeers T E w' b bl cap rest l last := ⟨h.head.kept k n1, h.row.kept k n2, h.ne, h.last, h.few, h.ok⟩
end

/-- What Good makes of one. -/
def Pr.good (p : Pr) : Pr := ⟨0, p.strikes, p.until_, false⟩

set_option maxHeartbeats 1000000 in
theorem good_in (w : World) (b bl cap : Nat) (rest : List Value) (l : List Pr) (last i : Nat) (p : Pr) (hs : IsPeers 65 52 w b bl cap rest l last) (hi : l[i]? = some p) :
    Calls Try.prog 29 #[.pointer (some ⟨b, 0, none⟩), .int .i64 i] w fun e w' => e = .returned (.int .i64 0) ∧ IsPeers 65 52 w' b bl cap rest (l.set i p.good) last ∧ Kept (· = bl) w w' := by
  obtain ⟨hlt, hg⟩ := List.getElem?_eq_some_iff.1 hi
  obtain ⟨q, hq, hok, q0, q1, q2, q3⟩ := hs.at_ hlt
  obtain rfl : q = p := by rw [hi] at hq; exact (Option.some.inj hq).symm
  have c0 := hs.c0
  have few := hs.few
  have z0 := hs.row.free (i * 4)
  have z3 := hs.row.free (i * 4 + 3)
  have HI := Lib.hid hi
  clear hi hg hq
  have hle : (i : Int) < (l.length : Int) := by omega
  go_enter Try.func29, Try.ntmps29
  go_wp2_with (go_at_call 73; refine (check_in _ _ _ _ _ _ c0 (by omega) (by omega)).mono ?_; rintro e w' ⟨rfl, rfl⟩)
  go_region
  go_wp2
  go_ret
  have h1 := hs.set1 (j := 0) (p' := ⟨0, q.strikes, q.until_, q.barred⟩) HI.out (by omega) (v := .int .i64 0) rfl (by simp [Pr.ok] at hok ⊢; omega)
  have h2 := h1.set1 (i := i) (j := 3) (p := ⟨0, q.strikes, q.until_, q.barred⟩) (p' := q.good) (by simp [hlt]) (by omega) (v := .bool false) rfl (by simp [Pr.ok, Pr.good] at hok ⊢; omega)
  rw [List.set_set] at h2
  exact ⟨rfl, h2.drew, by repeat (first | exact Kept.refl _ _ | (refine Kept.drew ?_) | (refine Kept.setCell ?_ (fun _ => by rfl) _))⟩

theorem good_out (w : World) (b bl cap : Nat) (rest : List Value) (l : List Pr) (last : Nat) (i : Int) (hs : IsPeers 65 52 w b bl cap rest l last) (hi : i < 0 ∨ l.length ≤ i) :
    Calls Try.prog 29 #[.pointer (some ⟨b, 0, none⟩), .int .i64 i] w fun e w' => e = .returned (.int .i64 4) ∧ w = w' := by
  have c0 := hs.c0
  have h0 := hs.last
  go_enter Try.func29, Try.ntmps29
  go_wp2_with (go_at_call 73; refine (check_out _ _ _ _ _ _ (by omega) c0 hi).mono ?_; rintro e w' ⟨rfl, rfl⟩)
  go_ret
  exact ⟨rfl, rfl⟩

def minT (t : Int) : Int := if 1048576 < t + 1 then 1048576 else t + 1
theorem minT_bd (t : Int) (h : 0 ≤ t) : 0 ≤ minT t ∧ minT t ≤ 1048576 := by unfold minT; split <;> omega
/-- What Late makes of one. -/
def Pr.late (p : Pr) (now d : Int) : Pr := ⟨minT p.tries, p.strikes, nearZ now + gapZ (minT p.tries) d, p.barred⟩

set_option maxRecDepth 100000 in
set_option maxHeartbeats 1000000 in
theorem late_in (w : World) (b bl cap : Nat) (rest : List Value) (l : List Pr) (last i : Nat) (now d : Int) (p : Pr) (hs : IsPeers 65 52 w b bl cap rest l last) (hi : l[i]? = some p) (d0 : 0 ≤ d) (d1 : d ≤ 255) :
    Calls Try.prog 30 #[.pointer (some ⟨b, 0, none⟩), .int .i64 i, .int .i64 now, .int .u8 d] w fun e w' => e = .returned (.int .i64 0) ∧ IsPeers 65 52 w' b bl cap rest (l.set i (p.late now d)) last ∧ Kept (· = bl) w w' := by
  obtain ⟨hlt, hg⟩ := List.getElem?_eq_some_iff.1 hi
  obtain ⟨q, hq, hok, q0, q1, q2, q3⟩ := hs.at_ hlt
  obtain rfl : q = p := by rw [hi] at hq; exact (Option.some.inj hq).symm
  have c0 := hs.c0
  have few := hs.few
  have z0 := hs.row.free (i * 4)
  have z1 := hs.row.free (i * 4 + 1)
  have z2 := hs.row.free (i * 4 + 2)
  have z3 := hs.row.free (i * 4 + 3)
  have HI := Lib.hid hi
  clear hi hg hq
  have hle : (i : Int) < (l.length : Int) := by omega
  have hok' := hok
  obtain ⟨o1, o2, o3, o4, o5, o6⟩ := hok
  obtain ⟨n1, n2⟩ := nearZ_bd now
  obtain ⟨g1, g2⟩ := gapZ_bd (minT q.tries) d
  obtain ⟨T, HT, t1, t2⟩ : ∃ T, Hid (minT q.tries = T) ∧ 0 ≤ T ∧ T ≤ 1048576 := ⟨minT q.tries, rfl, (minT_bd _ o1).1, (minT_bd _ o1).2⟩
  rw [HT.out] at g1 g2
  have hfin : Hid (Pr.late q now d = ⟨T, q.strikes, nearZ now + gapZ T d, q.barred⟩) := by rw [← HT.out]; exact rfl
  have hcase : (1048576 < q.tries + 1 ∧ T = 1048576) ∨ (q.tries + 1 ≤ 1048576 ∧ T = q.tries + 1) := by
    have := HT.out; unfold minT at this; split at this <;> omega
  clear HT
  rcases hcase with ⟨k1, k2⟩ | ⟨k1, k2⟩
  · subst k2
    go_enter Try.func30, Try.ntmps30
    go_wp2_with (go_at_call 73; refine (check_in _ _ _ _ _ _ c0 (by omega) (by omega)).mono ?_; rintro e w' ⟨rfl, rfl⟩)
    refine wp_region_tail 12 (by kernel_rfl) (by kernel_rfl) ?_
    simp only [List.take_succ_cons, List.take_zero, List.drop_succ_cons, List.drop_zero]
    repeat still_step
    still_call (calls_pure (near_any _ _))
    repeat still_step
    still_call (calls_pure (gap_any _ _ _ (by omega) (by omega) (by omega)))
    repeat still_step
    refine wpStill_nil ?_
    go_wp2
    go_ret
    have h1 := hs.set1 (j := 0) (p' := ⟨1048576, q.strikes, q.until_, q.barred⟩) HI.out (by omega) (v := .int .i64 (1048576)) rfl ⟨t1, t2, o3, o4, o5, o6⟩
    have h2 := h1.set1 (i := i) (j := 2) (p := ⟨1048576, q.strikes, q.until_, q.barred⟩) (p' := q.late now d) (by simp [hlt]) (by omega) (v := .int .i64 (nearZ now + gapZ (1048576) d)) (by rw [hfin.out]; rfl) (by rw [hfin.out]; exact ⟨t1, t2, o3, o4, by show 0 ≤ _ + _; omega, by show _ + _ ≤ _; omega⟩)
    rw [List.set_set] at h2
    exact ⟨rfl, h2.drew, by repeat (first | exact Kept.refl _ _ | (refine Kept.drew ?_) | (refine Kept.setCell ?_ (fun _ => by rfl) _))⟩
  · subst k2
    go_enter Try.func30, Try.ntmps30
    go_wp2_with (go_at_call 73; refine (check_in _ _ _ _ _ _ c0 (by omega) (by omega)).mono ?_; rintro e w' ⟨rfl, rfl⟩)
    refine wp_region_tail 12 (by kernel_rfl) (by kernel_rfl) ?_
    simp only [List.take_succ_cons, List.take_zero, List.drop_succ_cons, List.drop_zero]
    repeat still_step
    still_call (calls_pure (near_any _ _))
    repeat still_step
    still_call (calls_pure (gap_any _ _ _ (by omega) (by omega) (by omega)))
    repeat still_step
    refine wpStill_nil ?_
    go_wp2
    go_ret
    have h1 := hs.set1 (j := 0) (p' := ⟨q.tries + 1, q.strikes, q.until_, q.barred⟩) HI.out (by omega) (v := .int .i64 (q.tries + 1)) rfl ⟨t1, t2, o3, o4, o5, o6⟩
    have h2 := h1.set1 (i := i) (j := 2) (p := ⟨q.tries + 1, q.strikes, q.until_, q.barred⟩) (p' := q.late now d) (by simp [hlt]) (by omega) (v := .int .i64 (nearZ now + gapZ (q.tries + 1) d)) (by rw [hfin.out]; rfl) (by rw [hfin.out]; exact ⟨t1, t2, o3, o4, by show 0 ≤ _ + _; omega, by show _ + _ ≤ _; omega⟩)
    rw [List.set_set] at h2
    exact ⟨rfl, h2.drew, by repeat (first | exact Kept.refl _ _ | (refine Kept.drew ?_) | (refine Kept.setCell ?_ (fun _ => by rfl) _))⟩

theorem late_out (w : World) (b bl cap : Nat) (rest : List Value) (l : List Pr) (last : Nat) (i : Int) (now d : Int) (hs : IsPeers 65 52 w b bl cap rest l last) (hi : i < 0 ∨ l.length ≤ i) :
    Calls Try.prog 30 #[.pointer (some ⟨b, 0, none⟩), .int .i64 i, .int .i64 now, .int .u8 d] w fun e w' => e = .returned (.int .i64 4) ∧ w = w' := by
  have c0 := hs.c0
  have h0 := hs.last
  go_enter Try.func30, Try.ntmps30
  go_wp2_with (go_at_call 73; refine (check_out _ _ _ _ _ _ (by omega) c0 hi).mono ?_; rintro e w' ⟨rfl, rfl⟩)
  go_ret
  exact ⟨rfl, rfl⟩

/-- How long a quarantine is. -/
def paroleZ (s : Int) : Int := if s < 1 then 64 else if s < 2 then 128 else if s < 3 then 256 else if s < 4 then 512 else 1024
theorem paroleZ_bd (s : Int) : 64 ≤ paroleZ s ∧ paroleZ s ≤ 1024 := by unfold paroleZ; split <;> (try split) <;> (try split) <;> (try split) <;> omega
theorem paroleZ_big (s : Int) (h : 4 ≤ s) : paroleZ s = 1024 := by
  unfold paroleZ; rw [if_neg (by omega), if_neg (by omega), if_neg (by omega), if_neg (by omega)]
/-- What Bad makes of one. -/
def Pr.bad (p : Pr) (now : Int) : Pr := ⟨0, minT p.strikes, nearZ now + paroleZ p.strikes, true⟩

/-- The four stores of Bad, one behind the other. -/
theorem IsPeers.bads {T E : TypeId} {w : World} {b bl cap : Nat} {rest : List Value} {l : List Pr} {last i : Nat} {q : Pr} (hs : IsPeers T E w b bl cap rest l last) (hi : l[i]? = some q) (u s : Int) (hu : 0 ≤ u ∧ u ≤ 1099511628800) (hs2 : 0 ≤ s ∧ s ≤ 1048576) :
    IsPeers T E ((((w.setCell ⟨bl, i * 4 + 2, none⟩ (.int .i64 u)).setCell ⟨bl, i * 4 + 1, none⟩ (.int .i64 s)).setCell ⟨bl, i * 4, none⟩ (.int .i64 0)).setCell ⟨bl, i * 4 + 3, none⟩ (.bool true)) b bl cap rest (l.set i ⟨0, s, u, true⟩) last := by
  obtain ⟨hlt, hg⟩ := List.getElem?_eq_some_iff.1 hi
  obtain ⟨o1, o2, o3, o4, o5, o6⟩ := hs.ok q (hg ▸ List.getElem_mem hlt)
  have h1 := hs.set1 (j := 2) (p' := ⟨q.tries, q.strikes, u, q.barred⟩) hi (by omega) (v := .int .i64 u) rfl ⟨o1, o2, o3, o4, hu.1, hu.2⟩
  have h2 := h1.set1 (i := i) (j := 1) (p := ⟨q.tries, q.strikes, u, q.barred⟩) (p' := ⟨q.tries, s, u, q.barred⟩) (by simp [hlt]) (by omega) (v := .int .i64 s) rfl ⟨o1, o2, hs2.1, hs2.2, hu.1, hu.2⟩
  have h3 := h2.set1 (i := i) (j := 0) (p := ⟨q.tries, s, u, q.barred⟩) (p' := ⟨0, s, u, q.barred⟩) (by simp [hlt]) (by omega) (v := .int .i64 0) rfl ⟨by show (0 : Int) ≤ 0; omega, by show (0 : Int) ≤ 1048576; omega, hs2.1, hs2.2, hu.1, hu.2⟩
  have h4 := h3.set1 (i := i) (j := 3) (p := ⟨0, s, u, q.barred⟩) (p' := ⟨0, s, u, true⟩) (by simp [hlt]) (by omega) (v := .bool true) rfl ⟨by show (0 : Int) ≤ 0; omega, by show (0 : Int) ≤ 1048576; omega, hs2.1, hs2.2, hu.1, hu.2⟩
  simp only [List.set_set] at h4
  exact h4

set_option maxRecDepth 100000 in
set_option maxHeartbeats 1000000 in
theorem bad_in0 (w : World) (b bl cap : Nat) (rest : List Value) (l : List Pr) (last i : Nat) (now : Int) (p : Pr) (hs : IsPeers 65 52 w b bl cap rest l last) (hi : l[i]? = some p) (hst : p.strikes = 0) :
    Calls Try.prog 31 #[.pointer (some ⟨b, 0, none⟩), .int .i64 i, .int .i64 now] w fun e w' => e = .returned (.int .i64 0) ∧ IsPeers 65 52 w' b bl cap rest (l.set i (p.bad now)) last ∧ Kept (· = bl) w w' := by
  obtain ⟨hlt, hg⟩ := List.getElem?_eq_some_iff.1 hi
  obtain ⟨q, hq, hok, q0, q1, q2, q3⟩ := hs.at_ hlt
  obtain rfl : q = p := by rw [hi] at hq; exact (Option.some.inj hq).symm
  have c0 := hs.c0
  have few := hs.few
  have z0 := hs.row.free (i * 4)
  have z1 := hs.row.free (i * 4 + 1)
  have z2 := hs.row.free (i * 4 + 2)
  have z3 := hs.row.free (i * 4 + 3)
  have HI := Lib.hid hi
  clear hi hg hq
  have hle : (i : Int) < (l.length : Int) := by omega
  have hok' := hok
  obtain ⟨o1, o2, o3, o4, o5, o6⟩ := hok
  obtain ⟨n1, n2⟩ := nearZ_bd now
  have hfin : Hid (Pr.bad q now = ⟨0, 1, nearZ now + 64, true⟩) := by unfold Pr.bad; rw [hst]; exact rfl
  rw [hst] at q1
  clear hst o3 o4
  go_enter Try.func31, Try.ntmps31
  go_wp2_with (go_at_call 73; refine (check_in _ _ _ _ _ _ c0 (by omega) (by omega)).mono ?_; rintro e w' ⟨rfl, rfl⟩)
  refine wp_region_tail 12 (by kernel_rfl) (by kernel_rfl) ?_
  simp only [List.take_succ_cons, List.take_zero, List.drop_succ_cons, List.drop_zero]
  repeat still_step
  still_call (calls_pure (near_any _ _))
  repeat still_step
  refine wpStill_nil ?_
  go_wp2
  go_ret
  have h4 := hs.bads HI.out (nearZ now + 64) 1 (by omega) (by omega)
  refine ⟨rfl, ?_, ?_⟩
  · rw [hfin.out]
    try rw [IntWalk.wrap64_in 1024 ⟨by omega, by omega⟩, IntWalk.wrap64_in (nearZ now + 1024) ⟨by omega, by omega⟩]
    exact h4.drew
  · repeat (first | exact Kept.refl _ _ | (refine Kept.drew ?_) | (refine Kept.setCell ?_ (fun _ => by rfl) _))

set_option maxRecDepth 100000 in
set_option maxHeartbeats 1000000 in
theorem bad_in1 (w : World) (b bl cap : Nat) (rest : List Value) (l : List Pr) (last i : Nat) (now : Int) (p : Pr) (hs : IsPeers 65 52 w b bl cap rest l last) (hi : l[i]? = some p) (hst : p.strikes = 1) :
    Calls Try.prog 31 #[.pointer (some ⟨b, 0, none⟩), .int .i64 i, .int .i64 now] w fun e w' => e = .returned (.int .i64 0) ∧ IsPeers 65 52 w' b bl cap rest (l.set i (p.bad now)) last ∧ Kept (· = bl) w w' := by
  obtain ⟨hlt, hg⟩ := List.getElem?_eq_some_iff.1 hi
  obtain ⟨q, hq, hok, q0, q1, q2, q3⟩ := hs.at_ hlt
  obtain rfl : q = p := by rw [hi] at hq; exact (Option.some.inj hq).symm
  have c0 := hs.c0
  have few := hs.few
  have z0 := hs.row.free (i * 4)
  have z1 := hs.row.free (i * 4 + 1)
  have z2 := hs.row.free (i * 4 + 2)
  have z3 := hs.row.free (i * 4 + 3)
  have HI := Lib.hid hi
  clear hi hg hq
  have hle : (i : Int) < (l.length : Int) := by omega
  have hok' := hok
  obtain ⟨o1, o2, o3, o4, o5, o6⟩ := hok
  obtain ⟨n1, n2⟩ := nearZ_bd now
  have hfin : Hid (Pr.bad q now = ⟨0, 2, nearZ now + 128, true⟩) := by unfold Pr.bad; rw [hst]; exact rfl
  rw [hst] at q1
  clear hst o3 o4
  go_enter Try.func31, Try.ntmps31
  go_wp2_with (go_at_call 73; refine (check_in _ _ _ _ _ _ c0 (by omega) (by omega)).mono ?_; rintro e w' ⟨rfl, rfl⟩)
  refine wp_region_tail 12 (by kernel_rfl) (by kernel_rfl) ?_
  simp only [List.take_succ_cons, List.take_zero, List.drop_succ_cons, List.drop_zero]
  repeat still_step
  still_call (calls_pure (near_any _ _))
  repeat still_step
  refine wpStill_nil ?_
  go_wp2
  go_ret
  have h4 := hs.bads HI.out (nearZ now + 128) 2 (by omega) (by omega)
  refine ⟨rfl, ?_, ?_⟩
  · rw [hfin.out]
    try rw [IntWalk.wrap64_in 1024 ⟨by omega, by omega⟩, IntWalk.wrap64_in (nearZ now + 1024) ⟨by omega, by omega⟩]
    exact h4.drew
  · repeat (first | exact Kept.refl _ _ | (refine Kept.drew ?_) | (refine Kept.setCell ?_ (fun _ => by rfl) _))

set_option maxRecDepth 100000 in
set_option maxHeartbeats 1000000 in
theorem bad_in2 (w : World) (b bl cap : Nat) (rest : List Value) (l : List Pr) (last i : Nat) (now : Int) (p : Pr) (hs : IsPeers 65 52 w b bl cap rest l last) (hi : l[i]? = some p) (hst : p.strikes = 2) :
    Calls Try.prog 31 #[.pointer (some ⟨b, 0, none⟩), .int .i64 i, .int .i64 now] w fun e w' => e = .returned (.int .i64 0) ∧ IsPeers 65 52 w' b bl cap rest (l.set i (p.bad now)) last ∧ Kept (· = bl) w w' := by
  obtain ⟨hlt, hg⟩ := List.getElem?_eq_some_iff.1 hi
  obtain ⟨q, hq, hok, q0, q1, q2, q3⟩ := hs.at_ hlt
  obtain rfl : q = p := by rw [hi] at hq; exact (Option.some.inj hq).symm
  have c0 := hs.c0
  have few := hs.few
  have z0 := hs.row.free (i * 4)
  have z1 := hs.row.free (i * 4 + 1)
  have z2 := hs.row.free (i * 4 + 2)
  have z3 := hs.row.free (i * 4 + 3)
  have HI := Lib.hid hi
  clear hi hg hq
  have hle : (i : Int) < (l.length : Int) := by omega
  have hok' := hok
  obtain ⟨o1, o2, o3, o4, o5, o6⟩ := hok
  obtain ⟨n1, n2⟩ := nearZ_bd now
  have hfin : Hid (Pr.bad q now = ⟨0, 3, nearZ now + 256, true⟩) := by unfold Pr.bad; rw [hst]; exact rfl
  rw [hst] at q1
  clear hst o3 o4
  go_enter Try.func31, Try.ntmps31
  go_wp2_with (go_at_call 73; refine (check_in _ _ _ _ _ _ c0 (by omega) (by omega)).mono ?_; rintro e w' ⟨rfl, rfl⟩)
  refine wp_region_tail 12 (by kernel_rfl) (by kernel_rfl) ?_
  simp only [List.take_succ_cons, List.take_zero, List.drop_succ_cons, List.drop_zero]
  repeat still_step
  still_call (calls_pure (near_any _ _))
  repeat still_step
  refine wpStill_nil ?_
  go_wp2
  go_ret
  have h4 := hs.bads HI.out (nearZ now + 256) 3 (by omega) (by omega)
  refine ⟨rfl, ?_, ?_⟩
  · rw [hfin.out]
    try rw [IntWalk.wrap64_in 1024 ⟨by omega, by omega⟩, IntWalk.wrap64_in (nearZ now + 1024) ⟨by omega, by omega⟩]
    exact h4.drew
  · repeat (first | exact Kept.refl _ _ | (refine Kept.drew ?_) | (refine Kept.setCell ?_ (fun _ => by rfl) _))

set_option maxRecDepth 100000 in
set_option maxHeartbeats 1000000 in
theorem bad_in3 (w : World) (b bl cap : Nat) (rest : List Value) (l : List Pr) (last i : Nat) (now : Int) (p : Pr) (hs : IsPeers 65 52 w b bl cap rest l last) (hi : l[i]? = some p) (hst : p.strikes = 3) :
    Calls Try.prog 31 #[.pointer (some ⟨b, 0, none⟩), .int .i64 i, .int .i64 now] w fun e w' => e = .returned (.int .i64 0) ∧ IsPeers 65 52 w' b bl cap rest (l.set i (p.bad now)) last ∧ Kept (· = bl) w w' := by
  obtain ⟨hlt, hg⟩ := List.getElem?_eq_some_iff.1 hi
  obtain ⟨q, hq, hok, q0, q1, q2, q3⟩ := hs.at_ hlt
  obtain rfl : q = p := by rw [hi] at hq; exact (Option.some.inj hq).symm
  have c0 := hs.c0
  have few := hs.few
  have z0 := hs.row.free (i * 4)
  have z1 := hs.row.free (i * 4 + 1)
  have z2 := hs.row.free (i * 4 + 2)
  have z3 := hs.row.free (i * 4 + 3)
  have HI := Lib.hid hi
  clear hi hg hq
  have hle : (i : Int) < (l.length : Int) := by omega
  have hok' := hok
  obtain ⟨o1, o2, o3, o4, o5, o6⟩ := hok
  obtain ⟨n1, n2⟩ := nearZ_bd now
  have hfin : Hid (Pr.bad q now = ⟨0, 4, nearZ now + 512, true⟩) := by unfold Pr.bad; rw [hst]; exact rfl
  rw [hst] at q1
  clear hst o3 o4
  go_enter Try.func31, Try.ntmps31
  go_wp2_with (go_at_call 73; refine (check_in _ _ _ _ _ _ c0 (by omega) (by omega)).mono ?_; rintro e w' ⟨rfl, rfl⟩)
  refine wp_region_tail 12 (by kernel_rfl) (by kernel_rfl) ?_
  simp only [List.take_succ_cons, List.take_zero, List.drop_succ_cons, List.drop_zero]
  repeat still_step
  still_call (calls_pure (near_any _ _))
  repeat still_step
  refine wpStill_nil ?_
  go_wp2
  go_ret
  have h4 := hs.bads HI.out (nearZ now + 512) 4 (by omega) (by omega)
  refine ⟨rfl, ?_, ?_⟩
  · rw [hfin.out]
    try rw [IntWalk.wrap64_in 1024 ⟨by omega, by omega⟩, IntWalk.wrap64_in (nearZ now + 1024) ⟨by omega, by omega⟩]
    exact h4.drew
  · repeat (first | exact Kept.refl _ _ | (refine Kept.drew ?_) | (refine Kept.setCell ?_ (fun _ => by rfl) _))

set_option maxRecDepth 100000 in
set_option maxHeartbeats 1000000 in
theorem bad_in4 (w : World) (b bl cap : Nat) (rest : List Value) (l : List Pr) (last i : Nat) (now : Int) (p : Pr) (hs : IsPeers 65 52 w b bl cap rest l last) (hi : l[i]? = some p) (hst : p.strikes = 4) :
    Calls Try.prog 31 #[.pointer (some ⟨b, 0, none⟩), .int .i64 i, .int .i64 now] w fun e w' => e = .returned (.int .i64 0) ∧ IsPeers 65 52 w' b bl cap rest (l.set i (p.bad now)) last ∧ Kept (· = bl) w w' := by
  obtain ⟨hlt, hg⟩ := List.getElem?_eq_some_iff.1 hi
  obtain ⟨q, hq, hok, q0, q1, q2, q3⟩ := hs.at_ hlt
  obtain rfl : q = p := by rw [hi] at hq; exact (Option.some.inj hq).symm
  have c0 := hs.c0
  have few := hs.few
  have z0 := hs.row.free (i * 4)
  have z1 := hs.row.free (i * 4 + 1)
  have z2 := hs.row.free (i * 4 + 2)
  have z3 := hs.row.free (i * 4 + 3)
  have HI := Lib.hid hi
  clear hi hg hq
  have hle : (i : Int) < (l.length : Int) := by omega
  have hok' := hok
  obtain ⟨o1, o2, o3, o4, o5, o6⟩ := hok
  obtain ⟨n1, n2⟩ := nearZ_bd now
  have hfin : Hid (Pr.bad q now = ⟨0, 5, nearZ now + 1024, true⟩) := by unfold Pr.bad; rw [hst]; exact rfl
  rw [hst] at q1
  clear hst o3 o4
  go_enter Try.func31, Try.ntmps31
  go_wp2_with (go_at_call 73; refine (check_in _ _ _ _ _ _ c0 (by omega) (by omega)).mono ?_; rintro e w' ⟨rfl, rfl⟩)
  refine wp_region_tail 12 (by kernel_rfl) (by kernel_rfl) ?_
  simp only [List.take_succ_cons, List.take_zero, List.drop_succ_cons, List.drop_zero]
  repeat still_step
  still_call (calls_pure (near_any _ _))
  repeat still_step
  refine wpStill_nil ?_
  go_wp2
  go_ret
  have h4 := hs.bads HI.out (nearZ now + 1024) 5 (by omega) (by omega)
  refine ⟨rfl, ?_, ?_⟩
  · rw [hfin.out]
    try rw [IntWalk.wrap64_in 1024 ⟨by omega, by omega⟩, IntWalk.wrap64_in (nearZ now + 1024) ⟨by omega, by omega⟩]
    exact h4.drew
  · repeat (first | exact Kept.refl _ _ | (refine Kept.drew ?_) | (refine Kept.setCell ?_ (fun _ => by rfl) _))

set_option maxRecDepth 100000 in
set_option maxHeartbeats 1000000 in
theorem bad_in5 (w : World) (b bl cap : Nat) (rest : List Value) (l : List Pr) (last i : Nat) (now : Int) (p : Pr) (hs : IsPeers 65 52 w b bl cap rest l last) (hi : l[i]? = some p) (hst : 4 < p.strikes) (hst2 : p.strikes + 1 ≤ 1048576) :
    Calls Try.prog 31 #[.pointer (some ⟨b, 0, none⟩), .int .i64 i, .int .i64 now] w fun e w' => e = .returned (.int .i64 0) ∧ IsPeers 65 52 w' b bl cap rest (l.set i (p.bad now)) last ∧ Kept (· = bl) w w' := by
  obtain ⟨hlt, hg⟩ := List.getElem?_eq_some_iff.1 hi
  obtain ⟨q, hq, hok, q0, q1, q2, q3⟩ := hs.at_ hlt
  obtain rfl : q = p := by rw [hi] at hq; exact (Option.some.inj hq).symm
  have c0 := hs.c0
  have few := hs.few
  have z0 := hs.row.free (i * 4)
  have z1 := hs.row.free (i * 4 + 1)
  have z2 := hs.row.free (i * 4 + 2)
  have z3 := hs.row.free (i * 4 + 3)
  have HI := Lib.hid hi
  clear hi hg hq
  have hle : (i : Int) < (l.length : Int) := by omega
  have hok' := hok
  obtain ⟨o1, o2, o3, o4, o5, o6⟩ := hok
  obtain ⟨n1, n2⟩ := nearZ_bd now
  have hfin : Hid (Pr.bad q now = ⟨0, q.strikes + 1, nearZ now + 1024, true⟩) := by unfold Pr.bad minT; rw [paroleZ_big _ (by omega), if_neg (by omega)]; exact rfl
  go_enter Try.func31, Try.ntmps31
  go_wp2_with (go_at_call 73; refine (check_in _ _ _ _ _ _ c0 (by omega) (by omega)).mono ?_; rintro e w' ⟨rfl, rfl⟩)
  refine wp_region_tail 12 (by kernel_rfl) (by kernel_rfl) ?_
  simp only [List.take_succ_cons, List.take_zero, List.drop_succ_cons, List.drop_zero]
  repeat still_step
  still_call (calls_pure (near_any _ _))
  repeat still_step
  refine wpStill_nil ?_
  go_wp2
  go_ret
  have h4 := hs.bads HI.out (nearZ now + 1024) (q.strikes + 1) (by omega) (by omega)
  refine ⟨rfl, ?_, ?_⟩
  · rw [hfin.out]
    try rw [IntWalk.wrap64_in 1024 ⟨by omega, by omega⟩, IntWalk.wrap64_in (nearZ now + 1024) ⟨by omega, by omega⟩]
    exact h4.drew
  · repeat (first | exact Kept.refl _ _ | (refine Kept.drew ?_) | (refine Kept.setCell ?_ (fun _ => by rfl) _))

set_option maxRecDepth 100000 in
set_option maxHeartbeats 1000000 in
theorem bad_in6 (w : World) (b bl cap : Nat) (rest : List Value) (l : List Pr) (last i : Nat) (now : Int) (p : Pr) (hs : IsPeers 65 52 w b bl cap rest l last) (hi : l[i]? = some p) (hst : 4 < p.strikes) (hst2 : 1048576 < p.strikes + 1) :
    Calls Try.prog 31 #[.pointer (some ⟨b, 0, none⟩), .int .i64 i, .int .i64 now] w fun e w' => e = .returned (.int .i64 0) ∧ IsPeers 65 52 w' b bl cap rest (l.set i (p.bad now)) last ∧ Kept (· = bl) w w' := by
  obtain ⟨hlt, hg⟩ := List.getElem?_eq_some_iff.1 hi
  obtain ⟨q, hq, hok, q0, q1, q2, q3⟩ := hs.at_ hlt
  obtain rfl : q = p := by rw [hi] at hq; exact (Option.some.inj hq).symm
  have c0 := hs.c0
  have few := hs.few
  have z0 := hs.row.free (i * 4)
  have z1 := hs.row.free (i * 4 + 1)
  have z2 := hs.row.free (i * 4 + 2)
  have z3 := hs.row.free (i * 4 + 3)
  have HI := Lib.hid hi
  clear hi hg hq
  have hle : (i : Int) < (l.length : Int) := by omega
  have hok' := hok
  obtain ⟨o1, o2, o3, o4, o5, o6⟩ := hok
  obtain ⟨n1, n2⟩ := nearZ_bd now
  have hfin : Hid (Pr.bad q now = ⟨0, 1048576, nearZ now + 1024, true⟩) := by unfold Pr.bad minT; rw [paroleZ_big _ (by omega), if_pos hst2]; exact rfl
  go_enter Try.func31, Try.ntmps31
  go_wp2_with (go_at_call 73; refine (check_in _ _ _ _ _ _ c0 (by omega) (by omega)).mono ?_; rintro e w' ⟨rfl, rfl⟩)
  refine wp_region_tail 12 (by kernel_rfl) (by kernel_rfl) ?_
  simp only [List.take_succ_cons, List.take_zero, List.drop_succ_cons, List.drop_zero]
  repeat still_step
  still_call (calls_pure (near_any _ _))
  repeat still_step
  refine wpStill_nil ?_
  go_wp2
  go_ret
  have h4 := hs.bads HI.out (nearZ now + 1024) 1048576 (by omega) (by omega)
  refine ⟨rfl, ?_, ?_⟩
  · rw [hfin.out]
    try rw [IntWalk.wrap64_in 1024 ⟨by omega, by omega⟩, IntWalk.wrap64_in (nearZ now + 1024) ⟨by omega, by omega⟩]
    exact h4.drew
  · repeat (first | exact Kept.refl _ _ | (refine Kept.drew ?_) | (refine Kept.setCell ?_ (fun _ => by rfl) _))

theorem bad_in (w : World) (b bl cap : Nat) (rest : List Value) (l : List Pr) (last i : Nat) (now : Int) (p : Pr) (hs : IsPeers 65 52 w b bl cap rest l last) (hi : l[i]? = some p) :
    Calls Try.prog 31 #[.pointer (some ⟨b, 0, none⟩), .int .i64 i, .int .i64 now] w fun e w' => e = .returned (.int .i64 0) ∧ IsPeers 65 52 w' b bl cap rest (l.set i (p.bad now)) last ∧ Kept (· = bl) w w' := by
  have hk := hs.ok p (List.mem_of_getElem? hi)
  obtain ⟨o1, o2, o3, o4, o5, o6⟩ := hk
  by_cases h0 : p.strikes = 0
  · exact bad_in0 _ _ _ _ _ _ _ _ _ _ hs hi h0
  by_cases h1 : p.strikes = 1
  · exact bad_in1 _ _ _ _ _ _ _ _ _ _ hs hi h1
  by_cases h2 : p.strikes = 2
  · exact bad_in2 _ _ _ _ _ _ _ _ _ _ hs hi h2
  by_cases h3 : p.strikes = 3
  · exact bad_in3 _ _ _ _ _ _ _ _ _ _ hs hi h3
  by_cases h4 : p.strikes = 4
  · exact bad_in4 _ _ _ _ _ _ _ _ _ _ hs hi h4
  by_cases h5 : p.strikes + 1 ≤ 1048576
  · exact bad_in5 _ _ _ _ _ _ _ _ _ _ hs hi (by omega) h5
  · exact bad_in6 _ _ _ _ _ _ _ _ _ _ hs hi (by omega) (by omega)

theorem bad_out (w : World) (b bl cap : Nat) (rest : List Value) (l : List Pr) (last : Nat) (i : Int) (now : Int) (hs : IsPeers 65 52 w b bl cap rest l last) (hi : i < 0 ∨ l.length ≤ i) :
    Calls Try.prog 31 #[.pointer (some ⟨b, 0, none⟩), .int .i64 i, .int .i64 now] w fun e w' => e = .returned (.int .i64 4) ∧ w = w' := by
  have c0 := hs.c0
  have h0 := hs.last
  go_enter Try.func31, Try.ntmps31
  go_wp2_with (go_at_call 73; refine (check_out _ _ _ _ _ _ (by omega) c0 hi).mono ?_; rintro e w' ⟨rfl, rfl⟩)
  go_ret
  exact ⟨rfl, rfl⟩

/-- What Idle makes of one. -/
def Pr.idle (p : Pr) (now : Int) : Pr := ⟨p.tries, p.strikes, nearZ now + 4, p.barred⟩
set_option maxRecDepth 100000 in
set_option maxHeartbeats 1000000 in
theorem idle_in (w : World) (b bl cap : Nat) (rest : List Value) (l : List Pr) (last i : Nat) (now : Int) (p : Pr) (hs : IsPeers 65 52 w b bl cap rest l last) (hi : l[i]? = some p) :
    Calls Try.prog 32 #[.pointer (some ⟨b, 0, none⟩), .int .i64 i, .int .i64 now] w fun e w' => e = .returned (.int .i64 0) ∧ IsPeers 65 52 w' b bl cap rest (l.set i (p.idle now)) last ∧ Kept (· = bl) w w' := by
  obtain ⟨hlt, hg⟩ := List.getElem?_eq_some_iff.1 hi
  obtain ⟨q, hq, hok, q0, q1, q2, q3⟩ := hs.at_ hlt
  obtain rfl : q = p := by rw [hi] at hq; exact (Option.some.inj hq).symm
  have c0 := hs.c0
  have few := hs.few
  have z0 := hs.row.free (i * 4)
  have z1 := hs.row.free (i * 4 + 1)
  have z2 := hs.row.free (i * 4 + 2)
  have z3 := hs.row.free (i * 4 + 3)
  have HI := Lib.hid hi
  clear hi hg hq
  have hle : (i : Int) < (l.length : Int) := by omega
  have hok' := hok
  obtain ⟨o1, o2, o3, o4, o5, o6⟩ := hok
  obtain ⟨n1, n2⟩ := nearZ_bd now
  go_enter Try.func32, Try.ntmps32
  go_wp2_with (go_at_call 73; refine (check_in _ _ _ _ _ _ c0 (by omega) (by omega)).mono ?_; rintro e w' ⟨rfl, rfl⟩)
  refine wp_region_tail 10 (by kernel_rfl) (by kernel_rfl) ?_
  simp only [List.take_succ_cons, List.take_zero, List.drop_succ_cons, List.drop_zero]
  repeat still_step
  still_call (calls_pure (near_any _ _))
  repeat still_step
  refine wpStill_nil ?_
  go_wp2
  go_ret
  have h1 := hs.set1 (j := 2) (p' := q.idle now) HI.out (by omega) (v := .int .i64 (nearZ now + 4)) rfl ⟨o1, o2, o3, o4, by show 0 ≤ _ + _; omega, by show _ + _ ≤ _; omega⟩
  exact ⟨rfl, h1.drew, by repeat (first | exact Kept.refl _ _ | (refine Kept.drew ?_) | (refine Kept.setCell ?_ (fun _ => by rfl) _))⟩

theorem idle_out (w : World) (b bl cap : Nat) (rest : List Value) (l : List Pr) (last : Nat) (i : Int) (now : Int) (hs : IsPeers 65 52 w b bl cap rest l last) (hi : i < 0 ∨ l.length ≤ i) :
    Calls Try.prog 32 #[.pointer (some ⟨b, 0, none⟩), .int .i64 i, .int .i64 now] w fun e w' => e = .returned (.int .i64 4) ∧ w = w' := by
  have c0 := hs.c0
  have h0 := hs.last
  go_enter Try.func32, Try.ntmps32
  go_wp2_with (go_at_call 73; refine (check_out _ _ _ _ _ _ (by omega) c0 hi).mono ?_; rintro e w' ⟨rfl, rfl⟩)
  go_ret
  exact ⟨rfl, rfl⟩

set_option maxRecDepth 100000 in
set_option maxHeartbeats 1000000 in
theorem state_in (w : World) (b bl cap : Nat) (rest : List Value) (l : List Pr) (last i : Nat) (p : Pr) (hs : IsPeers 65 52 w b bl cap rest l last) (hi : l[i]? = some p) :
    Calls Try.prog 34 #[.pointer (some ⟨b, 0, none⟩), .int .i64 i] w fun e w' => e = .returned (.tuple #[.agg #[.int .i64 p.tries, .int .i64 p.strikes, .int .i64 p.until_, .bool p.barred], .int .i64 0]) ∧ w.alloc (.cells #[.int .i64 p.tries, .int .i64 p.strikes, .int .i64 p.until_, .bool p.barred] 52) = w' := by
  obtain ⟨hlt, hg⟩ := List.getElem?_eq_some_iff.1 hi
  obtain ⟨q, hq, hok, q0, q1, q2, q3⟩ := hs.at_ hlt
  obtain rfl : q = p := by rw [hi] at hq; exact (Option.some.inj hq).symm
  have c0 := hs.c0
  have few := hs.few
  have z0 := hs.row.free (i * 4)
  have z1 := hs.row.free (i * 4 + 1)
  have z2 := hs.row.free (i * 4 + 2)
  have z3 := hs.row.free (i * 4 + 3)
  have HI := Lib.hid hi
  clear hi hg hq
  have hle : (i : Int) < (l.length : Int) := by omega
  have hok' := hok
  obtain ⟨o1, o2, o3, o4, o5, o6⟩ := hok
  have hbl := hs.head.lt
  have hbl2 := hs.row.lt
  go_enter Try.func34, Try.ntmps34
  go_wp2_with (go_at_call 73; refine (check_in _ _ _ _ _ _ ((World.cell?_alloc_past _ _ _ hbl).trans c0) (by omega) (by omega)).mono ?_; rintro e w' ⟨rfl, rfl⟩)
  exact bodyPost_ret (v := .tuple #[.agg #[.int .i64 q.tries, .int .i64 q.strikes, .int .i64 q.until_, .bool q.barred], .int .i64 0]) (by simp [results, Try.results34, go_sem]) rfl ⟨rfl, rfl⟩

set_option maxRecDepth 100000 in
set_option maxHeartbeats 1000000 in
theorem state_out (w : World) (b bl cap : Nat) (rest : List Value) (l : List Pr) (last : Nat) (i : Int) (hs : IsPeers 65 52 w b bl cap rest l last) (hi : i < 0 ∨ l.length ≤ i) :
    Calls Try.prog 34 #[.pointer (some ⟨b, 0, none⟩), .int .i64 i] w fun e w' => e = .returned (.tuple #[.agg #[.int .i64 0, .int .i64 0, .int .i64 0, .bool false], .int .i64 4]) ∧ w.alloc (.cells #[.int .i64 0, .int .i64 0, .int .i64 0, .bool false] 52) = w' := by
  have c0 := hs.c0
  have h0 := hs.last
  have hbl := hs.head.lt
  go_enter Try.func34, Try.ntmps34
  go_wp2_with (go_at_call 73; refine (check_out _ _ _ _ _ _ (by omega) ((World.cell?_alloc_past _ _ _ hbl).trans c0) hi).mono ?_; rintro e w' ⟨rfl, rfl⟩)
  exact bodyPost_ret (v := .tuple #[.agg #[.int .i64 0, .int .i64 0, .int .i64 0, .bool false], .int .i64 4]) (by simp [results, Try.results34, go_sem]) rfl ⟨rfl, rfl⟩

end Go.Proofs.Ytahiimcdmojngaa
