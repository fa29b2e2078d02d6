/- Contracts of the reference of package peers, second part. -/
import Derived.Test.YtahiimcdmojngaaPeersRef
namespace Go.Proofs.Ytahiimcdmojngaa
open Go.RowKit

/-- With's answer, handed on from a world that has new blocks only. -/
theorem WithPost.after {T E : TypeId} {w w1 : World} {b : Nat} {l : List Pr} {last : Nat} {e : Ending} {w' : World} (h : WithPost T E w1 b l last e w') (k : Kept (fun _ => False) w w1) : WithPost T E w b l last e w' := by
  obtain ⟨bl, cap, rest, he, hs, hb, hk⟩ := h
  exact ⟨bl, cap, rest, he, hs, Nat.le_trans k.size hb, (k.mono (fun _ _ q => q.elim)).then_ hk (fun _ _ q => q)⟩

set_option maxRecDepth 100000 in
set_option maxHeartbeats 1000000 in
theorem refGood_in (w : World) (b bl cap : Nat) (rest : List Value) (l : List Pr) (last i : Nat) (p : Pr) (hs : IsPeers 115 116 w b bl cap rest l last) (hi : l[i]? = some p) :
    Calls Try.prog 37 #[.pointer (some ⟨b, 0, none⟩), .int .i64 i] w (WithPost 115 116 w b (l.set i p.good) last) := by
  obtain ⟨hlt, hg⟩ := List.getElem?_eq_some_iff.1 hi
  obtain ⟨q, hq, hok, q0, q1, q2, q3⟩ := hs.at_ hlt
  obtain rfl : q = p := by rw [hi] at hq; exact (Option.some.inj hq).symm
  have c0 := hs.c0
  have few := hs.few
  have hbw := hs.head.lt
  have hblw := hs.row.lt
  have HI := Lib.hid hi
  clear hi hg hq
  have hle : (i : Int) < (l.length : Int) := by omega
  have hok' := hok
  obtain ⟨o1, o2, o3, o4, o5, o6⟩ := hok
  have gok : q.good.ok := ⟨by show (0 : Int) ≤ 0; omega, by show (0 : Int) ≤ _; omega, o3, o4, o5, o6⟩
  go_enter Try.func37, Try.ntmps37
  go_wp2_with (go_at_call 76; refine (is_in _ _ _ _ _ _ c0 (by omega) (by omega)).mono ?_; rintro e w' ⟨rfl, rfl⟩)
  refine wp_region_tail 19 (by kernel_rfl) (by kernel_rfl) ?_
  simp only [List.take_succ_cons, List.take_zero, List.drop_succ_cons, List.drop_zero]
  repeat still_step
  refine wpStill_nil ?_
  go_wp2_with fail
  refine (with_any _ _ _ _ _ _ _ i q.good hs.drew hlt gok).mono ?_
  rintro e w1 hp
  have hp' := hp.after (w := w) (Kept.refl _ _).drew
  clear hp
  obtain ⟨bl', cap', rest', rfl, hs', hb', hk'⟩ := hp'
  go_wp2
  go_ret
  exact ⟨bl', cap', rest', rfl, hs', hb', hk'⟩

theorem refGood_out (w : World) (b bl cap : Nat) (rest : List Value) (l : List Pr) (last : Nat) (i : Int) (hs : IsPeers 115 116 w b bl cap rest l last) (hi : i < 0 ∨ l.length ≤ i) :
    Calls Try.prog 37 #[.pointer (some ⟨b, 0, none⟩), .int .i64 i] w fun e w' => e = .returned (.int .i64 4) ∧ w = w' := by
  have c0 := hs.c0
  go_enter Try.func37, Try.ntmps37
  go_wp2_with (go_at_call 76; refine (is_out _ _ _ _ _ _ c0 hi).mono ?_; rintro e w' ⟨rfl, rfl⟩)
  go_ret
  exact ⟨rfl, rfl⟩

set_option maxRecDepth 100000 in
set_option maxHeartbeats 1000000 in
theorem refLate_in (w : World) (b bl cap : Nat) (rest : List Value) (l : List Pr) (last i : Nat) (now d : Int) (p : Pr) (hs : IsPeers 115 116 w b bl cap rest l last) (hi : l[i]? = some p) (d0 : 0 ≤ d) (d1 : d ≤ 255) :
    Calls Try.prog 38 #[.pointer (some ⟨b, 0, none⟩), .int .i64 i, .int .i64 now, .int .u8 d] w (WithPost 115 116 w b (l.set i (p.late now d)) last) := by
  obtain ⟨hlt, hg⟩ := List.getElem?_eq_some_iff.1 hi
  obtain ⟨q, hq, hok, q0, q1, q2, q3⟩ := hs.at_ hlt
  obtain rfl : q = p := by rw [hi] at hq; exact (Option.some.inj hq).symm
  have c0 := hs.c0
  have few := hs.few
  have hbw := hs.head.lt
  have hblw := hs.row.lt
  have HI := Lib.hid hi
  clear hi hg hq
  have hle : (i : Int) < (l.length : Int) := by omega
  have hok' := hok
  obtain ⟨o1, o2, o3, o4, o5, o6⟩ := hok
  obtain ⟨n1, n2⟩ := nearZ_bd now
  obtain ⟨g1, g2⟩ := gapZ_bd (minT q.tries) d
  obtain ⟨T, HT, t1, t2⟩ : ∃ T, Hid (minT q.tries = T) ∧ 0 ≤ T ∧ T ≤ 1048576 := ⟨minT q.tries, rfl, (minT_bd _ o1).1, (minT_bd _ o1).2⟩
  rw [HT.out] at g1 g2
  have hfin : Hid (Pr.late q now d = ⟨T, q.strikes, nearZ now + gapZ T d, q.barred⟩) := by rw [← HT.out]; exact rfl
  have hcase : (1048576 < q.tries + 1 ∧ T = 1048576) ∨ (q.tries + 1 ≤ 1048576 ∧ T = q.tries + 1) := by
    have := HT.out; unfold minT at this; split at this <;> omega
  clear HT
  rcases hcase with ⟨k1, k2⟩ | ⟨k1, k2⟩
  · subst k2
    go_enter Try.func38, Try.ntmps38
    go_wp2_with (go_at_call 76; refine (is_in _ _ _ _ _ _ c0 (by omega) (by omega)).mono ?_; rintro e w' ⟨rfl, rfl⟩)
    refine wp_region_tail 8 (by kernel_rfl) (by kernel_rfl) ?_
    simp only [List.take_succ_cons, List.take_zero, List.drop_succ_cons, List.drop_zero]
    repeat still_step
    still_call (calls_pure (refNear_any _ _))
    repeat still_step
    still_call (calls_pure (refGap_any _ _ _ (by omega) (by omega) (by omega)))
    repeat still_step
    refine wpStill_nil ?_
    go_wp2_with fail
    have hk1 : Kept (fun _ => False) w ((w.alloc (.cells #[.int .i64 (1048576), .int .i64 q.strikes, .int .i64 (nearZ now + gapZ (1048576) d), .bool q.barred] 116)).drew) := ((Kept.refl _ _).alloc _).drew
    refine (with_any _ _ _ _ _ _ _ i ⟨1048576, q.strikes, nearZ now + gapZ (1048576) d, q.barred⟩ (hs.kept hk1 id id) hlt ⟨t1, t2, o3, o4, by show 0 ≤ _ + _; omega, by show _ + _ ≤ _; omega⟩).mono ?_
    rintro e w1 hp
    have hp' := hp.after (w := w) hk1
    clear hp hk1
    obtain ⟨bl', cap', rest', rfl, hs', hb', hk'⟩ := hp'
    go_wp2
    go_ret
    rw [hfin.out]
    exact ⟨bl', cap', rest', rfl, hs', hb', hk'⟩
  · subst k2
    go_enter Try.func38, Try.ntmps38
    go_wp2_with (go_at_call 76; refine (is_in _ _ _ _ _ _ c0 (by omega) (by omega)).mono ?_; rintro e w' ⟨rfl, rfl⟩)
    refine wp_region_tail 8 (by kernel_rfl) (by kernel_rfl) ?_
    simp only [List.take_succ_cons, List.take_zero, List.drop_succ_cons, List.drop_zero]
    repeat still_step
    still_call (calls_pure (refNear_any _ _))
    repeat still_step
    still_call (calls_pure (refGap_any _ _ _ (by omega) (by omega) (by omega)))
    repeat still_step
    refine wpStill_nil ?_
    go_wp2_with fail
    have hk1 : Kept (fun _ => False) w ((w.alloc (.cells #[.int .i64 (q.tries + 1), .int .i64 q.strikes, .int .i64 (nearZ now + gapZ (q.tries + 1) d), .bool q.barred] 116)).drew) := ((Kept.refl _ _).alloc _).drew
    refine (with_any _ _ _ _ _ _ _ i ⟨q.tries + 1, q.strikes, nearZ now + gapZ (q.tries + 1) d, q.barred⟩ (hs.kept hk1 id id) hlt ⟨t1, t2, o3, o4, by show 0 ≤ _ + _; omega, by show _ + _ ≤ _; omega⟩).mono ?_
    rintro e w1 hp
    have hp' := hp.after (w := w) hk1
    clear hp hk1
    obtain ⟨bl', cap', rest', rfl, hs', hb', hk'⟩ := hp'
    go_wp2
    go_ret
    rw [hfin.out]
    exact ⟨bl', cap', rest', rfl, hs', hb', hk'⟩

theorem refLate_out (w : World) (b bl cap : Nat) (rest : List Value) (l : List Pr) (last : Nat) (i : Int) (now d : Int) (hs : IsPeers 115 116 w b bl cap rest l last) (hi : i < 0 ∨ l.length ≤ i) :
    Calls Try.prog 38 #[.pointer (some ⟨b, 0, none⟩), .int .i64 i, .int .i64 now, .int .u8 d] w fun e w' => e = .returned (.int .i64 4) ∧ w = w' := by
  have c0 := hs.c0
  go_enter Try.func38, Try.ntmps38
  go_wp2_with (go_at_call 76; refine (is_out _ _ _ _ _ _ c0 hi).mono ?_; rintro e w' ⟨rfl, rfl⟩)
  go_ret
  exact ⟨rfl, rfl⟩

set_option maxRecDepth 100000 in
set_option maxHeartbeats 1000000 in
theorem refIdle_in (w : World) (b bl cap : Nat) (rest : List Value) (l : List Pr) (last i : Nat) (now : Int) (p : Pr) (hs : IsPeers 115 116 w b bl cap rest l last) (hi : l[i]? = some p) :
    Calls Try.prog 40 #[.pointer (some ⟨b, 0, none⟩), .int .i64 i, .int .i64 now] w (WithPost 115 116 w b (l.set i (p.idle now)) last) := by
  obtain ⟨hlt, hg⟩ := List.getElem?_eq_some_iff.1 hi
  obtain ⟨q, hq, hok, q0, q1, q2, q3⟩ := hs.at_ hlt
  obtain rfl : q = p := by rw [hi] at hq; exact (Option.some.inj hq).symm
  have c0 := hs.c0
  have few := hs.few
  have hbw := hs.head.lt
  have hblw := hs.row.lt
  have HI := Lib.hid hi
  clear hi hg hq
  have hle : (i : Int) < (l.length : Int) := by omega
  have hok' := hok
  obtain ⟨o1, o2, o3, o4, o5, o6⟩ := hok
  obtain ⟨n1, n2⟩ := nearZ_bd now
  have hk1 : Kept (fun _ => False) w (w.alloc (.cells #[.int .i64 q.tries, .int .i64 q.strikes, .int .i64 (nearZ now + 4), .bool q.barred] 116)) := (Kept.refl _ _).alloc _
  go_enter Try.func40, Try.ntmps40
  go_wp2_with (go_at_call 76; refine (is_in _ _ _ _ _ _ c0 (by omega) (by omega)).mono ?_; rintro e w' ⟨rfl, rfl⟩)
  refine (refNear_any _ _).mono ?_
  rintro e w' ⟨rfl, rfl⟩
  go_wp2_with fail
  refine (with_any _ _ _ _ _ _ _ i (q.idle now) (hs.kept hk1 id id) hlt ⟨o1, o2, o3, o4, by show 0 ≤ _ + _; omega, by show _ + _ ≤ _; omega⟩).mono ?_
  rintro e w1 hp
  have hp' := hp.after (w := w) hk1
  clear hp hk1
  obtain ⟨bl', cap', rest', rfl, hs', hb', hk'⟩ := hp'
  go_wp2
  go_ret
  exact ⟨bl', cap', rest', rfl, hs', hb', hk'⟩

theorem refIdle_out (w : World) (b bl cap : Nat) (rest : List Value) (l : List Pr) (last : Nat) (i : Int) (now : Int) (hs : IsPeers 115 116 w b bl cap rest l last) (hi : i < 0 ∨ l.length ≤ i) :
    Calls Try.prog 40 #[.pointer (some ⟨b, 0, none⟩), .int .i64 i, .int .i64 now] w fun e w' => e = .returned (.int .i64 4) ∧ w = w' := by
  have c0 := hs.c0
  go_enter Try.func40, Try.ntmps40
  go_wp2_with (go_at_call 76; refine (is_out _ _ _ _ _ _ c0 hi).mono ?_; rintro e w' ⟨rfl, rfl⟩)
  go_ret
  exact ⟨rfl, rfl⟩

set_option maxRecDepth 100000 in
set_option maxHeartbeats 1000000 in
theorem refBad_in0 (w : World) (b bl cap : Nat) (rest : List Value) (l : List Pr) (last i : Nat) (now : Int) (p : Pr) (hs : IsPeers 115 116 w b bl cap rest l last) (hi : l[i]? = some p) (hst : p.strikes = 0) :
    Calls Try.prog 39 #[.pointer (some ⟨b, 0, none⟩), .int .i64 i, .int .i64 now] w (WithPost 115 116 w b (l.set i (p.bad now)) last) := by
  obtain ⟨hlt, hg⟩ := List.getElem?_eq_some_iff.1 hi
  obtain ⟨q, hq, hok, q0, q1, q2, q3⟩ := hs.at_ hlt
  obtain rfl : q = p := by rw [hi] at hq; exact (Option.some.inj hq).symm
  have c0 := hs.c0
  have few := hs.few
  have hbw := hs.head.lt
  have hblw := hs.row.lt
  have HI := Lib.hid hi
  clear hi hg hq
  have hle : (i : Int) < (l.length : Int) := by omega
  have hok' := hok
  obtain ⟨o1, o2, o3, o4, o5, o6⟩ := hok
  obtain ⟨n1, n2⟩ := nearZ_bd now
  have hfin : Hid (Pr.bad q now = ⟨0, 1, nearZ now + 64, true⟩) := by unfold Pr.bad; rw [hst]; exact rfl
  rw [hst] at q1
  clear hst o3 o4
  have hk1 : Kept (fun _ => False) w (((w.alloc (.cells #[.int .i64 64, .int .i64 128, .int .i64 256, .int .i64 512, .int .i64 1024] 119)).alloc (.cells #[.int .i64 q.tries, .int .i64 0, .int .i64 q.until_, .bool q.barred] 116)).drew) := (((Kept.refl _ _).alloc _).alloc _).drew
  go_enter Try.func39, Try.ntmps39
  go_wp2_with (go_at_call 76; refine (is_in _ _ _ _ _ _ c0 (by omega) (by omega)).mono ?_; rintro e w' ⟨rfl, rfl⟩)
  refine wp_region_tail 15 (by kernel_rfl) (by kernel_rfl) ?_
  simp only [List.take_succ_cons, List.take_zero, List.drop_succ_cons, List.drop_zero]
  repeat still_step
  still_call (calls_pure (refNear_any _ _))
  repeat still_step
  refine wpStill_nil ?_
  go_wp2_with fail
  refine (with_any _ _ _ _ _ _ _ i ⟨0, 1, nearZ now + 64, true⟩ (hs.kept hk1 id id) hlt ⟨by show (0 : Int) ≤ 0; omega, by show (0 : Int) ≤ _; omega, by show (0 : Int) ≤ 1; omega, by show 1 ≤ (1048576 : Int); omega, by show 0 ≤ _ + _; omega, by show _ + _ ≤ _; omega⟩).mono ?_
  rintro e w1 hp
  have hp' := hp.after (w := w) hk1
  clear hp hk1
  obtain ⟨bl', cap', rest', rfl, hs', hb', hk'⟩ := hp'
  go_wp2
  go_ret
  rw [hfin.out]
  exact ⟨bl', cap', rest', rfl, hs', hb', hk'⟩

set_option maxRecDepth 100000 in
set_option maxHeartbeats 1000000 in
theorem refBad_in1 (w : World) (b bl cap : Nat) (rest : List Value) (l : List Pr) (last i : Nat) (now : Int) (p : Pr) (hs : IsPeers 115 116 w b bl cap rest l last) (hi : l[i]? = some p) (hst : p.strikes = 1) :
    Calls Try.prog 39 #[.pointer (some ⟨b, 0, none⟩), .int .i64 i, .int .i64 now] w (WithPost 115 116 w b (l.set i (p.bad now)) last) := by
  obtain ⟨hlt, hg⟩ := List.getElem?_eq_some_iff.1 hi
  obtain ⟨q, hq, hok, q0, q1, q2, q3⟩ := hs.at_ hlt
  obtain rfl : q = p := by rw [hi] at hq; exact (Option.some.inj hq).symm
  have c0 := hs.c0
  have few := hs.few
  have hbw := hs.head.lt
  have hblw := hs.row.lt
  have HI := Lib.hid hi
  clear hi hg hq
  have hle : (i : Int) < (l.length : Int) := by omega
  have hok' := hok
  obtain ⟨o1, o2, o3, o4, o5, o6⟩ := hok
  obtain ⟨n1, n2⟩ := nearZ_bd now
  have hfin : Hid (Pr.bad q now = ⟨0, 2, nearZ now + 128, true⟩) := by unfold Pr.bad; rw [hst]; exact rfl
  rw [hst] at q1
  clear hst o3 o4
  have hk1 : Kept (fun _ => False) w (((w.alloc (.cells #[.int .i64 64, .int .i64 128, .int .i64 256, .int .i64 512, .int .i64 1024] 119)).alloc (.cells #[.int .i64 q.tries, .int .i64 1, .int .i64 q.until_, .bool q.barred] 116)).drew) := (((Kept.refl _ _).alloc _).alloc _).drew
  go_enter Try.func39, Try.ntmps39
  go_wp2_with (go_at_call 76; refine (is_in _ _ _ _ _ _ c0 (by omega) (by omega)).mono ?_; rintro e w' ⟨rfl, rfl⟩)
  refine wp_region_tail 15 (by kernel_rfl) (by kernel_rfl) ?_
  simp only [List.take_succ_cons, List.take_zero, List.drop_succ_cons, List.drop_zero]
  repeat still_step
  still_call (calls_pure (refNear_any _ _))
  repeat still_step
  refine wpStill_nil ?_
  go_wp2_with fail
  refine (with_any _ _ _ _ _ _ _ i ⟨0, 2, nearZ now + 128, true⟩ (hs.kept hk1 id id) hlt ⟨by show (0 : Int) ≤ 0; omega, by show (0 : Int) ≤ _; omega, by show (0 : Int) ≤ 2; omega, by show 2 ≤ (1048576 : Int); omega, by show 0 ≤ _ + _; omega, by show _ + _ ≤ _; omega⟩).mono ?_
  rintro e w1 hp
  have hp' := hp.after (w := w) hk1
  clear hp hk1
  obtain ⟨bl', cap', rest', rfl, hs', hb', hk'⟩ := hp'
  go_wp2
  go_ret
  rw [hfin.out]
  exact ⟨bl', cap', rest', rfl, hs', hb', hk'⟩

set_option maxRecDepth 100000 in
set_option maxHeartbeats 1000000 in
theorem refBad_in2 (w : World) (b bl cap : Nat) (rest : List Value) (l : List Pr) (last i : Nat) (now : Int) (p : Pr) (hs : IsPeers 115 116 w b bl cap rest l last) (hi : l[i]? = some p) (hst : p.strikes = 2) :
    Calls Try.prog 39 #[.pointer (some ⟨b, 0, none⟩), .int .i64 i, .int .i64 now] w (WithPost 115 116 w b (l.set i (p.bad now)) last) := by
  obtain ⟨hlt, hg⟩ := List.getElem?_eq_some_iff.1 hi
  obtain ⟨q, hq, hok, q0, q1, q2, q3⟩ := hs.at_ hlt
  obtain rfl : q = p := by rw [hi] at hq; exact (Option.some.inj hq).symm
  have c0 := hs.c0
  have few := hs.few
  have hbw := hs.head.lt
  have hblw := hs.row.lt
  have HI := Lib.hid hi
  clear hi hg hq
  have hle : (i : Int) < (l.length : Int) := by omega
  have hok' := hok
  obtain ⟨o1, o2, o3, o4, o5, o6⟩ := hok
  obtain ⟨n1, n2⟩ := nearZ_bd now
  have hfin : Hid (Pr.bad q now = ⟨0, 3, nearZ now + 256, true⟩) := by unfold Pr.bad; rw [hst]; exact rfl
  rw [hst] at q1
  clear hst o3 o4
  have hk1 : Kept (fun _ => False) w (((w.alloc (.cells #[.int .i64 64, .int .i64 128, .int .i64 256, .int .i64 512, .int .i64 1024] 119)).alloc (.cells #[.int .i64 q.tries, .int .i64 2, .int .i64 q.until_, .bool q.barred] 116)).drew) := (((Kept.refl _ _).alloc _).alloc _).drew
  go_enter Try.func39, Try.ntmps39
  go_wp2_with (go_at_call 76; refine (is_in _ _ _ _ _ _ c0 (by omega) (by omega)).mono ?_; rintro e w' ⟨rfl, rfl⟩)
  refine wp_region_tail 15 (by kernel_rfl) (by kernel_rfl) ?_
  simp only [List.take_succ_cons, List.take_zero, List.drop_succ_cons, List.drop_zero]
  repeat still_step
  still_call (calls_pure (refNear_any _ _))
  repeat still_step
  refine wpStill_nil ?_
  go_wp2_with fail
  refine (with_any _ _ _ _ _ _ _ i ⟨0, 3, nearZ now + 256, true⟩ (hs.kept hk1 id id) hlt ⟨by show (0 : Int) ≤ 0; omega, by show (0 : Int) ≤ _; omega, by show (0 : Int) ≤ 3; omega, by show 3 ≤ (1048576 : Int); omega, by show 0 ≤ _ + _; omega, by show _ + _ ≤ _; omega⟩).mono ?_
  rintro e w1 hp
  have hp' := hp.after (w := w) hk1
  clear hp hk1
  obtain ⟨bl', cap', rest', rfl, hs', hb', hk'⟩ := hp'
  go_wp2
  go_ret
  rw [hfin.out]
  exact ⟨bl', cap', rest', rfl, hs', hb', hk'⟩

set_option maxRecDepth 100000 in
set_option maxHeartbeats 1000000 in
theorem refBad_in3 (w : World) (b bl cap : Nat) (rest : List Value) (l : List Pr) (last i : Nat) (now : Int) (p : Pr) (hs : IsPeers 115 116 w b bl cap rest l last) (hi : l[i]? = some p) (hst : p.strikes = 3) :
    Calls Try.prog 39 #[.pointer (some ⟨b, 0, none⟩), .int .i64 i, .int .i64 now] w (WithPost 115 116 w b (l.set i (p.bad now)) last) := by
  obtain ⟨hlt, hg⟩ := List.getElem?_eq_some_iff.1 hi
  obtain ⟨q, hq, hok, q0, q1, q2, q3⟩ := hs.at_ hlt
  obtain rfl : q = p := by rw [hi] at hq; exact (Option.some.inj hq).symm
  have c0 := hs.c0
  have few := hs.few
  have hbw := hs.head.lt
  have hblw := hs.row.lt
  have HI := Lib.hid hi
  clear hi hg hq
  have hle : (i : Int) < (l.length : Int) := by omega
  have hok' := hok
  obtain ⟨o1, o2, o3, o4, o5, o6⟩ := hok
  obtain ⟨n1, n2⟩ := nearZ_bd now
  have hfin : Hid (Pr.bad q now = ⟨0, 4, nearZ now + 512, true⟩) := by unfold Pr.bad; rw [hst]; exact rfl
  rw [hst] at q1
  clear hst o3 o4
  have hk1 : Kept (fun _ => False) w (((w.alloc (.cells #[.int .i64 64, .int .i64 128, .int .i64 256, .int .i64 512, .int .i64 1024] 119)).alloc (.cells #[.int .i64 q.tries, .int .i64 3, .int .i64 q.until_, .bool q.barred] 116)).drew) := (((Kept.refl _ _).alloc _).alloc _).drew
  go_enter Try.func39, Try.ntmps39
  go_wp2_with (go_at_call 76; refine (is_in _ _ _ _ _ _ c0 (by omega) (by omega)).mono ?_; rintro e w' ⟨rfl, rfl⟩)
  refine wp_region_tail 15 (by kernel_rfl) (by kernel_rfl) ?_
  simp only [List.take_succ_cons, List.take_zero, List.drop_succ_cons, List.drop_zero]
  repeat still_step
  still_call (calls_pure (refNear_any _ _))
  repeat still_step
  refine wpStill_nil ?_
  go_wp2_with fail
  refine (with_any _ _ _ _ _ _ _ i ⟨0, 4, nearZ now + 512, true⟩ (hs.kept hk1 id id) hlt ⟨by show (0 : Int) ≤ 0; omega, by show (0 : Int) ≤ _; omega, by show (0 : Int) ≤ 4; omega, by show 4 ≤ (1048576 : Int); omega, by show 0 ≤ _ + _; omega, by show _ + _ ≤ _; omega⟩).mono ?_
  rintro e w1 hp
  have hp' := hp.after (w := w) hk1
  clear hp hk1
  obtain ⟨bl', cap', rest', rfl, hs', hb', hk'⟩ := hp'
  go_wp2
  go_ret
  rw [hfin.out]
  exact ⟨bl', cap', rest', rfl, hs', hb', hk'⟩

set_option maxRecDepth 100000 in
set_option maxHeartbeats 1000000 in
theorem refBad_in4 (w : World) (b bl cap : Nat) (rest : List Value) (l : List Pr) (last i : Nat) (now : Int) (p : Pr) (hs : IsPeers 115 116 w b bl cap rest l last) (hi : l[i]? = some p) (hst : p.strikes = 4) :
    Calls Try.prog 39 #[.pointer (some ⟨b, 0, none⟩), .int .i64 i, .int .i64 now] w (WithPost 115 116 w b (l.set i (p.bad now)) last) := by
  obtain ⟨hlt, hg⟩ := List.getElem?_eq_some_iff.1 hi
  obtain ⟨q, hq, hok, q0, q1, q2, q3⟩ := hs.at_ hlt
  obtain rfl : q = p := by rw [hi] at hq; exact (Option.some.inj hq).symm
  have c0 := hs.c0
  have few := hs.few
  have hbw := hs.head.lt
  have hblw := hs.row.lt
  have HI := Lib.hid hi
  clear hi hg hq
  have hle : (i : Int) < (l.length : Int) := by omega
  have hok' := hok
  obtain ⟨o1, o2, o3, o4, o5, o6⟩ := hok
  obtain ⟨n1, n2⟩ := nearZ_bd now
  have hfin : Hid (Pr.bad q now = ⟨0, 5, nearZ now + 1024, true⟩) := by unfold Pr.bad; rw [hst]; exact rfl
  rw [hst] at q1
  clear hst o3 o4
  have hk1 : Kept (fun _ => False) w (((w.alloc (.cells #[.int .i64 64, .int .i64 128, .int .i64 256, .int .i64 512, .int .i64 1024] 119)).alloc (.cells #[.int .i64 q.tries, .int .i64 4, .int .i64 q.until_, .bool q.barred] 116)).drew) := (((Kept.refl _ _).alloc _).alloc _).drew
  go_enter Try.func39, Try.ntmps39
  go_wp2_with (go_at_call 76; refine (is_in _ _ _ _ _ _ c0 (by omega) (by omega)).mono ?_; rintro e w' ⟨rfl, rfl⟩)
  refine wp_region_tail 15 (by kernel_rfl) (by kernel_rfl) ?_
  simp only [List.take_succ_cons, List.take_zero, List.drop_succ_cons, List.drop_zero]
  repeat still_step
  still_call (calls_pure (refNear_any _ _))
  repeat still_step
  refine wpStill_nil ?_
  go_wp2_with fail
  refine (with_any _ _ _ _ _ _ _ i ⟨0, 5, nearZ now + 1024, true⟩ (hs.kept hk1 id id) hlt ⟨by show (0 : Int) ≤ 0; omega, by show (0 : Int) ≤ _; omega, by show (0 : Int) ≤ 5; omega, by show 5 ≤ (1048576 : Int); omega, by show 0 ≤ _ + _; omega, by show _ + _ ≤ _; omega⟩).mono ?_
  rintro e w1 hp
  have hp' := hp.after (w := w) hk1
  clear hp hk1
  obtain ⟨bl', cap', rest', rfl, hs', hb', hk'⟩ := hp'
  go_wp2
  go_ret
  rw [hfin.out]
  exact ⟨bl', cap', rest', rfl, hs', hb', hk'⟩

set_option maxRecDepth 100000 in
set_option maxHeartbeats 1000000 in
theorem refBad_in5 (w : World) (b bl cap : Nat) (rest : List Value) (l : List Pr) (last i : Nat) (now : Int) (p : Pr) (hs : IsPeers 115 116 w b bl cap rest l last) (hi : l[i]? = some p) (hst : 4 < p.strikes) (hst2 : p.strikes + 1 ≤ 1048576) :
    Calls Try.prog 39 #[.pointer (some ⟨b, 0, none⟩), .int .i64 i, .int .i64 now] w (WithPost 115 116 w b (l.set i (p.bad now)) last) := by
  obtain ⟨hlt, hg⟩ := List.getElem?_eq_some_iff.1 hi
  obtain ⟨q, hq, hok, q0, q1, q2, q3⟩ := hs.at_ hlt
  obtain rfl : q = p := by rw [hi] at hq; exact (Option.some.inj hq).symm
  have c0 := hs.c0
  have few := hs.few
  have hbw := hs.head.lt
  have hblw := hs.row.lt
  have HI := Lib.hid hi
  clear hi hg hq
  have hle : (i : Int) < (l.length : Int) := by omega
  have hok' := hok
  obtain ⟨o1, o2, o3, o4, o5, o6⟩ := hok
  obtain ⟨n1, n2⟩ := nearZ_bd now
  have hfin : Hid (Pr.bad q now = ⟨0, q.strikes + 1, nearZ now + 1024, true⟩) := by unfold Pr.bad minT; rw [paroleZ_big _ (by omega), if_neg (by omega)]; exact rfl
  have hw : IntKind.i64.wrap (q.strikes + 1) = q.strikes + 1 := IntWalk.i64_in _ (by omega)
  have hk1 : Kept (fun _ => False) w (((w.alloc (.cells #[.int .i64 64, .int .i64 128, .int .i64 256, .int .i64 512, .int .i64 1024] 119)).alloc (.cells #[.int .i64 q.tries, .int .i64 q.strikes, .int .i64 q.until_, .bool q.barred] 116)).drew) := (((Kept.refl _ _).alloc _).alloc _).drew
  go_enter Try.func39, Try.ntmps39
  go_wp2_with (go_at_call 76; refine (is_in _ _ _ _ _ _ c0 (by omega) (by omega)).mono ?_; rintro e w' ⟨rfl, rfl⟩)
  refine wp_region_tail 15 (by kernel_rfl) (by kernel_rfl) ?_
  simp only [List.take_succ_cons, List.take_zero, List.drop_succ_cons, List.drop_zero]
  repeat still_step
  still_call (calls_pure (refNear_any _ _))
  repeat still_step
  refine wpStill_nil ?_
  go_wp2_with fail
  refine (with_any _ _ _ _ _ _ _ i ⟨0, (q.strikes + 1), nearZ now + 1024, true⟩ (hs.kept hk1 id id) hlt ⟨by show (0 : Int) ≤ 0; omega, by show (0 : Int) ≤ _; omega, by show (0 : Int) ≤ (q.strikes + 1); omega, by show (q.strikes + 1) ≤ (1048576 : Int); omega, by show 0 ≤ _ + _; omega, by show _ + _ ≤ _; omega⟩).mono ?_
  rintro e w1 hp
  have hp' := hp.after (w := w) hk1
  clear hp hk1
  obtain ⟨bl', cap', rest', rfl, hs', hb', hk'⟩ := hp'
  go_wp2
  go_ret
  rw [hfin.out]
  exact ⟨bl', cap', rest', rfl, hs', hb', hk'⟩

set_option maxRecDepth 100000 in
set_option maxHeartbeats 1000000 in
theorem refBad_in6 (w : World) (b bl cap : Nat) (rest : List Value) (l : List Pr) (last i : Nat) (now : Int) (p : Pr) (hs : IsPeers 115 116 w b bl cap rest l last) (hi : l[i]? = some p) (hst : 4 < p.strikes) (hst2 : 1048576 < p.strikes + 1) :
    Calls Try.prog 39 #[.pointer (some ⟨b, 0, none⟩), .int .i64 i, .int .i64 now] w (WithPost 115 116 w b (l.set i (p.bad now)) last) := by
  obtain ⟨hlt, hg⟩ := List.getElem?_eq_some_iff.1 hi
  obtain ⟨q, hq, hok, q0, q1, q2, q3⟩ := hs.at_ hlt
  obtain rfl : q = p := by rw [hi] at hq; exact (Option.some.inj hq).symm
  have c0 := hs.c0
  have few := hs.few
  have hbw := hs.head.lt
  have hblw := hs.row.lt
  have HI := Lib.hid hi
  clear hi hg hq
  have hle : (i : Int) < (l.length : Int) := by omega
  have hok' := hok
  obtain ⟨o1, o2, o3, o4, o5, o6⟩ := hok
  obtain ⟨n1, n2⟩ := nearZ_bd now
  have hfin : Hid (Pr.bad q now = ⟨0, 1048576, nearZ now + 1024, true⟩) := by unfold Pr.bad minT; rw [paroleZ_big _ (by omega), if_pos hst2]; exact rfl
  have hw : IntKind.i64.wrap (q.strikes + 1) = q.strikes + 1 := IntWalk.i64_in _ (by omega)
  have hk1 : Kept (fun _ => False) w (((w.alloc (.cells #[.int .i64 64, .int .i64 128, .int .i64 256, .int .i64 512, .int .i64 1024] 119)).alloc (.cells #[.int .i64 q.tries, .int .i64 q.strikes, .int .i64 q.until_, .bool q.barred] 116)).drew) := (((Kept.refl _ _).alloc _).alloc _).drew
  go_enter Try.func39, Try.ntmps39
  go_wp2_with (go_at_call 76; refine (is_in _ _ _ _ _ _ c0 (by omega) (by omega)).mono ?_; rintro e w' ⟨rfl, rfl⟩)
  refine wp_region_tail 15 (by kernel_rfl) (by kernel_rfl) ?_
  simp only [List.take_succ_cons, List.take_zero, List.drop_succ_cons, List.drop_zero]
  repeat still_step
  still_call (calls_pure (refNear_any _ _))
  repeat still_step
  refine wpStill_nil ?_
  go_wp2_with fail
  refine (with_any _ _ _ _ _ _ _ i ⟨0, 1048576, nearZ now + 1024, true⟩ (hs.kept hk1 id id) hlt ⟨by show (0 : Int) ≤ 0; omega, by show (0 : Int) ≤ _; omega, by show (0 : Int) ≤ 1048576; omega, by show 1048576 ≤ (1048576 : Int); omega, by show 0 ≤ _ + _; omega, by show _ + _ ≤ _; omega⟩).mono ?_
  rintro e w1 hp
  have hp' := hp.after (w := w) hk1
  clear hp hk1
  obtain ⟨bl', cap', rest', rfl, hs', hb', hk'⟩ := hp'
  go_wp2
  go_ret
  rw [hfin.out]
  exact ⟨bl', cap', rest', rfl, hs', hb', hk'⟩

theorem refBad_in (w : World) (b bl cap : Nat) (rest : List Value) (l : List Pr) (last i : Nat) (now : Int) (p : Pr) (hs : IsPeers 115 116 w b bl cap rest l last) (hi : l[i]? = some p) :
    Calls Try.prog 39 #[.pointer (some ⟨b, 0, none⟩), .int .i64 i, .int .i64 now] w (WithPost 115 116 w b (l.set i (p.bad now)) last) := by
  have hk := hs.ok p (List.mem_of_getElem? hi)
  obtain ⟨o1, o2, o3, o4, o5, o6⟩ := hk
  by_cases h0 : p.strikes = 0
  · exact refBad_in0 _ _ _ _ _ _ _ _ _ _ hs hi h0
  by_cases h1 : p.strikes = 1
  · exact refBad_in1 _ _ _ _ _ _ _ _ _ _ hs hi h1
  by_cases h2 : p.strikes = 2
  · exact refBad_in2 _ _ _ _ _ _ _ _ _ _ hs hi h2
  by_cases h3 : p.strikes = 3
  · exact refBad_in3 _ _ _ _ _ _ _ _ _ _ hs hi h3
  by_cases h4 : p.strikes = 4
  · exact refBad_in4 _ _ _ _ _ _ _ _ _ _ hs hi h4
  by_cases h5 : p.strikes + 1 ≤ 1048576
  · exact refBad_in5 _ _ _ _ _ _ _ _ _ _ hs hi (by omega) h5
  · exact refBad_in6 _ _ _ _ _ _ _ _ _ _ hs hi (by omega) (by omega)

theorem refBad_out (w : World) (b bl cap : Nat) (rest : List Value) (l : List Pr) (last : Nat) (i : Int) (now : Int) (hs : IsPeers 115 116 w b bl cap rest l last) (hi : i < 0 ∨ l.length ≤ i) :
    Calls Try.prog 39 #[.pointer (some ⟨b, 0, none⟩), .int .i64 i, .int .i64 now] w fun e w' => e = .returned (.int .i64 4) ∧ w = w' := by
  have c0 := hs.c0
  go_enter Try.func39, Try.ntmps39
  go_wp2_with (go_at_call 76; refine (is_out _ _ _ _ _ _ c0 hi).mono ?_; rintro e w' ⟨rfl, rfl⟩)
  go_ret
  exact ⟨rfl, rfl⟩

end Go.Proofs.Ytahiimcdmojngaa
