/- Contracts of package peers, second part: Barred, Next, New, Copy. -/
import Derived.Test.YtahiimcdmojngaaPeers
namespace Go.Proofs.Ytahiimcdmojngaa
open Go.RowKit

/-- Whether one is in quarantine. -/
def Pr.isBarred (p : Pr) (now : Int) : Bool := p.barred && decide (nearZ now < p.until_)

set_option maxRecDepth 100000 in
set_option maxHeartbeats 1000000 in
theorem barred_in (w : World) (b bl cap : Nat) (rest : List Value) (l : List Pr) (last i : Nat) (now : Int) (p : Pr) (hs : IsPeers 65 52 w b bl cap rest l last) (hi : l[i]? = some p) :
    Calls Try.prog 35 #[.pointer (some ⟨b, 0, none⟩), .int .i64 i, .int .i64 now] w fun e w' => e = .returned (.bool (p.isBarred now)) ∧ Kept (fun _ => False) w w' := by
  obtain ⟨tr, st, un, ba⟩ := p
  cases ba
  · have hf : Pr.isBarred ⟨tr, st, un, false⟩ now = false := rfl
    rw [hf]
    go_enter Try.func35, Try.ntmps35
    go_wp2_with (go_at_call 34; refine (state_in _ _ _ _ _ _ _ _ _ hs hi).mono ?_; rintro e w' ⟨rfl, rfl⟩)
    go_quiet ((go_at_call 74; exact Calls.quiet_of_same (calls_pure (near_any _ _))))
    go_wp2
    go_ret
    exact ⟨rfl, by repeat (first | exact Kept.refl _ _ | (refine Kept.drewN ?_ _) | (refine Kept.alloc ?_ _))⟩
  · by_cases hn : nearZ now < un
    · have hf : Pr.isBarred ⟨tr, st, un, true⟩ now = true := by simp [Pr.isBarred, hn]
      rw [hf]
      go_enter Try.func35, Try.ntmps35
      go_wp2_with (go_at_call 34; refine (state_in _ _ _ _ _ _ _ _ _ hs hi).mono ?_; rintro e w' ⟨rfl, rfl⟩)
      go_quiet ((go_at_call 74; exact Calls.quiet_of_same (calls_pure (near_any _ _))))
      go_wp2
      go_ret
      exact ⟨rfl, by repeat (first | exact Kept.refl _ _ | (refine Kept.drewN ?_ _) | (refine Kept.alloc ?_ _))⟩
    · have hf : Pr.isBarred ⟨tr, st, un, true⟩ now = false := by simp [Pr.isBarred, hn]
      rw [hf]
      go_enter Try.func35, Try.ntmps35
      go_wp2_with (go_at_call 34; refine (state_in _ _ _ _ _ _ _ _ _ hs hi).mono ?_; rintro e w' ⟨rfl, rfl⟩)
      go_quiet ((go_at_call 74; exact Calls.quiet_of_same (calls_pure (near_any _ _))))
      go_wp2
      go_ret
      exact ⟨by simp [hn], by repeat (first | exact Kept.refl _ _ | (refine Kept.drewN ?_ _) | (refine Kept.alloc ?_ _))⟩

set_option maxRecDepth 100000 in
set_option maxHeartbeats 1000000 in
theorem barred_out (w : World) (b bl cap : Nat) (rest : List Value) (l : List Pr) (last : Nat) (i now : Int) (hs : IsPeers 65 52 w b bl cap rest l last) (hi : i < 0 ∨ l.length ≤ i) :
    Calls Try.prog 35 #[.pointer (some ⟨b, 0, none⟩), .int .i64 i, .int .i64 now] w fun e w' => e = .returned (.bool false) ∧ Kept (fun _ => False) w w' := by
  go_enter Try.func35, Try.ntmps35
  go_wp2_with (go_at_call 34; refine (state_out _ _ _ _ _ _ _ _ hs hi).mono ?_; rintro e w' ⟨rfl, rfl⟩)
  go_quiet ((go_at_call 74; exact Calls.quiet_of_same (calls_pure (near_any _ _))))
  go_wp2
  go_ret
  exact ⟨rfl, by repeat (first | exact Kept.refl _ _ | (refine Kept.drewN ?_ _) | (refine Kept.alloc ?_ _))⟩

/-- Whether one may be asked at a tick. -/
def Pr.due (l : List Pr) (t : Int) (i : Nat) : Bool := match l[i]? with
  | some p => decide (p.until_ ≤ t)
  | none => false
/-- Who is asked next. -/
def Pr.next (l : List Pr) (last : Nat) (t : Int) : Option Nat := ((List.range l.length).find? fun k => Pr.due l t ((last + (k + 1)) % l.length)).map fun k => (last + (k + 1)) % l.length
theorem Pr.next_some (l : List Pr) (last : Nat) (t : Int) (k : Nat) (hk : k < l.length) (hb : ∀ j, j < k → Pr.due l t ((last + (j + 1)) % l.length) = false) (hd : Pr.due l t ((last + (k + 1)) % l.length) = true) : Pr.next l last t = some ((last + (k + 1)) % l.length) := by
  have : (List.range l.length).find? (fun k => Pr.due l t ((last + (k + 1)) % l.length)) = some k := by
    rw [List.find?_eq_some_iff_getElem]
    refine ⟨hd, k, by simpa using hk, by simp, fun j hj => ?_⟩
    simp [hb j hj]
  rw [Pr.next, this]; rfl
theorem Pr.next_none (l : List Pr) (last : Nat) (t : Int) (hb : ∀ j, j < l.length → Pr.due l t ((last + (j + 1)) % l.length) = false) : Pr.next l last t = none := by
  have : (List.range l.length).find? (fun k => Pr.due l t ((last + (k + 1)) % l.length)) = none := by
    rw [List.find?_eq_none]
    intro k hk
    simp [hb k (by simpa using hk)]
  rw [Pr.next, this]; rfl
theorem Pr.next_lt {l : List Pr} {last : Nat} {t : Int} {i : Nat} (h : Pr.next l last t = some i) : i < l.length := by
  rw [Pr.next, Option.map_eq_some_iff] at h
  obtain ⟨k, hk, rfl⟩ := h
  have := List.mem_of_find?_eq_some hk
  exact Nat.mod_lt _ (by simp at this; omega)

/-- What Next answers and leaves: the answer, and who was asked last. -/
def NextPost (T E : TypeId) (w : World) (b bl cap : Nat) (rest : List Value) (l : List Pr) (last : Nat) (now : Int) (e : Ending) (w' : World) : Prop :=
  match Pr.next l last (nearZ now) with
  | some i => e = .returned (.tuple #[.int .i64 i, .bool true]) ∧ IsPeers T E w' b bl cap rest l i ∧ Kept (· = b) w w'
  | none => e = .returned (.tuple #[.int .i64 0, .bool false]) ∧ IsPeers T E w' b bl cap rest l last ∧ Kept (· = b) w w'

theorem IsPeers.setLast {T E : TypeId} {w : World} {b bl cap : Nat} {rest : List Value} {l : List Pr} {last : Nat} (h : IsPeers T E w b bl cap rest l last) (i : Nat) (hi : i < l.length) : IsPeers T E (w.setCell ⟨b, 1, none⟩ (.int .i64 i)) b bl cap rest l i :=
  ⟨h.head.set 1 (.int .i64 i), h.row.other (p := ⟨b, 1, none⟩) h.ne _, h.ne, hi, h.few, h.ok⟩

set_option maxRecDepth 100000 in
set_option maxHeartbeats 1000000 in
theorem next_any (w : World) (b bl cap : Nat) (rest : List Value) (l : List Pr) (last : Nat) (now : Int) (hs : IsPeers 65 52 w b bl cap rest l last) :
    Calls Try.prog 33 #[.pointer (some ⟨b, 0, none⟩), .int .i64 now] w (NextPost 65 52 w b bl cap rest l last now) := by
  have c0 := hs.c0
  have c1 := hs.c1
  have few := hs.few
  have hlast := hs.last
  have hpos : 0 < l.length := by omega
  have z1 := hs.head.free 1
  go_enter Try.func33, Try.ntmps33
  go_wp2_with (go_at_call 75; refine (none_some _ _ _ _ _ hpos c0).mono ?_; rintro e w' ⟨rfl, rfl⟩)
  go_loopw [6] (fun i wr => ∃ k m : Nat, k ≤ l.length ∧ i = .int .i64 ((k : Int) + 1) ∧ wr = w.drewN m ∧ Hid (∀ j, j < k → Pr.due l (nearZ now) ((last + (j + 1)) % l.length) = false)) (fun i _ => l.length + 1 - (intOf i).toNat)
  case atStart => exact ⟨0, 0, by omega, rfl, rfl, fun j hj => by omega⟩
  case round =>
    obtain ⟨k, m, hk, rfl, rfl, hno⟩ := hrel
    by_cases hlt : k < l.length
    · obtain ⟨i, hi⟩ : ∃ i, i = (last + (k + 1)) % l.length := ⟨_, rfl⟩
      have hil : i < l.length := by rw [hi]; exact Nat.mod_lt _ hpos
      obtain ⟨q, hq, hok, q0, q1, q2, q3⟩ := hs.at_ hil
      have him : ((last : Int) + ((k : Int) + 1)) % (l.length : Int) = (i : Int) := by rw [hi]; simp
      have hle : (i : Int) < (l.length : Int) := by omega
      have HI := Lib.hid hi
      have HQ := Lib.hid hq
      clear hi hq q0 q1 q3
      by_cases hd : q.until_ ≤ nearZ now
      · have hnx : Hid (Pr.next l last (nearZ now) = some i) := by
          rw [HI.out]
          exact Pr.next_some l last (nearZ now) k hlt hno.out (by rw [← HI.out]; simp [Pr.due, HQ.out, hd])
        go_wp2_with fail
        go_quiet (fail)
        go_wp2_with fail
        go_quiet ((go_at_call 74; exact quiet_on (near_any _ _)))
        go_wp2_with fail
        go_ret2
        unfold NextPost
        rw [hnx.out]
        try simp only [him]
        exact ⟨rfl, (hs.setLast i hil).drewN _, by repeat (first | exact Kept.refl _ _ | (refine Kept.drewN ?_ _) | (refine Kept.setCell ?_ (fun _ => by rfl) _))⟩
      · have hno' : Hid (∀ j, j < k + 1 → Pr.due l (nearZ now) ((last + (j + 1)) % l.length) = false) := by
          intro j hj
          rcases Nat.lt_succ_iff_lt_or_eq.1 hj with hj | rfl
          · exact hno.out j hj
          · rw [← HI.out]; simp [Pr.due, HQ.out]; omega
        go_wp2_with fail
        go_quiet (fail)
        go_wp2_with fail
        go_quiet ((go_at_call 74; exact quiet_on (near_any _ _)))
        go_wp2_with fail
        go_roundw
        case rel => exact ⟨k + 1, _, by omega, by go_num, rfl, hno'⟩
        case measure => simp [intOf]; omega
    · have hnx : Hid (Pr.next l last (nearZ now) = none) := Pr.next_none l last (nearZ now) (fun j hj => hno.out j (by omega))
      go_wp2_with fail
      go_ret2
      unfold NextPost
      rw [hnx.out]
      exact ⟨rfl, hs.drewN _, (Kept.refl _ _).drewN _⟩

theorem run_mkPeers1 (w : World) : (Instr.makeSlice 63 (.int .i64 1) (.int .i64 1)).run Try.prog w = .ok (.slice (some ⟨w.heap.size, 0, none⟩) 1 1) (w.alloc (.cells (Pr.flat (List.replicate 1 Pr.zero)).toArray 52)) := by kernel_rfl
theorem run_mkPeers2 (w : World) : (Instr.makeSlice 63 (.int .i64 2) (.int .i64 2)).run Try.prog w = .ok (.slice (some ⟨w.heap.size, 0, none⟩) 2 2) (w.alloc (.cells (Pr.flat (List.replicate 2 Pr.zero)).toArray 52)) := by kernel_rfl
theorem run_mkPeers3 (w : World) : (Instr.makeSlice 63 (.int .i64 3) (.int .i64 3)).run Try.prog w = .ok (.slice (some ⟨w.heap.size, 0, none⟩) 3 3) (w.alloc (.cells (Pr.flat (List.replicate 3 Pr.zero)).toArray 52)) := by kernel_rfl
theorem run_mkPeers4 (w : World) : (Instr.makeSlice 63 (.int .i64 4) (.int .i64 4)).run Try.prog w = .ok (.slice (some ⟨w.heap.size, 0, none⟩) 4 4) (w.alloc (.cells (Pr.flat (List.replicate 4 Pr.zero)).toArray 52)) := by kernel_rfl
theorem run_mkPeers5 (w : World) : (Instr.makeSlice 63 (.int .i64 5) (.int .i64 5)).run Try.prog w = .ok (.slice (some ⟨w.heap.size, 0, none⟩) 5 5) (w.alloc (.cells (Pr.flat (List.replicate 5 Pr.zero)).toArray 52)) := by kernel_rfl
theorem run_mkPeers6 (w : World) : (Instr.makeSlice 63 (.int .i64 6) (.int .i64 6)).run Try.prog w = .ok (.slice (some ⟨w.heap.size, 0, none⟩) 6 6) (w.alloc (.cells (Pr.flat (List.replicate 6 Pr.zero)).toArray 52)) := by kernel_rfl
theorem run_mkPeers7 (w : World) : (Instr.makeSlice 63 (.int .i64 7) (.int .i64 7)).run Try.prog w = .ok (.slice (some ⟨w.heap.size, 0, none⟩) 7 7) (w.alloc (.cells (Pr.flat (List.replicate 7 Pr.zero)).toArray 52)) := by kernel_rfl
theorem run_mkPeers8 (w : World) : (Instr.makeSlice 63 (.int .i64 8) (.int .i64 8)).run Try.prog w = .ok (.slice (some ⟨w.heap.size, 0, none⟩) 8 8) (w.alloc (.cells (Pr.flat (List.replicate 8 Pr.zero)).toArray 52)) := by kernel_rfl
theorem run_mkPeers (n : Nat) (h1 : 1 ≤ n) (h2 : n ≤ 8) (w : World) :
    (Instr.makeSlice 63 (.int .i64 n) (.int .i64 n)).run Try.prog w = .ok (.slice (some ⟨w.heap.size, 0, none⟩) n n) (w.alloc (.cells (Pr.flat (List.replicate n Pr.zero)).toArray 52)) := by
  have h : n = 1 ∨ n = 2 ∨ n = 3 ∨ n = 4 ∨ n = 5 ∨ n = 6 ∨ n = 7 ∨ n = 8 := by omega
  rcases h with rfl | rfl | rfl | rfl | rfl | rfl | rfl | rfl
  · exact run_mkPeers1 w
  · exact run_mkPeers2 w
  · exact run_mkPeers3 w
  · exact run_mkPeers4 w
  · exact run_mkPeers5 w
  · exact run_mkPeers6 w
  · exact run_mkPeers7 w
  · exact run_mkPeers8 w

set_option maxRecDepth 100000 in
set_option maxHeartbeats 1000000 in
theorem new_ok (n : Nat) (h1 : 1 ≤ n) (h2 : n ≤ 8) (w : World) :
    Calls Try.prog 28 #[.int .i64 n] w fun e w' => e = .returned (.tuple #[.pointer (some ⟨w.heap.size + 1, 0, none⟩), .int .i64 0]) ∧ IsPeers 65 52 w' (w.heap.size + 1) w.heap.size n [] (List.replicate n Pr.zero) (n - 1) ∧ Kept (fun _ => False) w w' := by
  have hmk := run_mkPeers n h1 h2
  obtain ⟨R, hR⟩ : ∃ R, Hid (R = Pr.flat (List.replicate n Pr.zero)) := ⟨_, rfl⟩
  rw [← hR.out] at hmk
  have e1 : decide ((n : Int) < 1) = false := by simp; omega
  have e2 : decide ((8 : Int) < (n : Int)) = false := by simp; omega
  go_enter Try.func28, Try.ntmps28
  go_wp2
  go_ret2
  refine ⟨rfl, ⟨?_, ?_, by omega, by simp; omega, by simp; omega, ?_⟩, by repeat (first | exact Kept.refl _ _ | (refine Kept.alloc ?_ _))⟩
  · have := Blk.new (w.alloc (.cells R.toArray 52)) [.slice (some ⟨w.heap.size, 0, none⟩) n n, .int .i64 ((n : Int) - 1)] 65
    rw [show ((n - 1 : Nat) : Int) = (n : Int) - 1 from by omega]
    simpa using this
  · have := (Blk.new w R 52).alloc (.cells #[.slice (some ⟨w.heap.size, 0, none⟩) n n, .int .i64 ((n : Int) - 1)] 65)
    rw [List.append_nil, ← hR.out]
    exact this
  · intro p hp
    rw [List.eq_of_mem_replicate hp]
    exact Pr.ok_zero

set_option maxHeartbeats 1000000 in
theorem new_no (n : Int) (h : n < 1 ∨ 8 < n) (w : World) :
    Calls Try.prog 28 #[.int .i64 n] w fun e w' => e = .returned (.tuple #[.pointer none, .int .i64 2]) ∧ w = w' := by
  by_cases h1 : n < 1
  · go_enter Try.func28, Try.ntmps28
    go_wp2
    go_ret2
    exact ⟨rfl, rfl⟩
  · have h2 : 8 < n := by omega
    clear h
    go_enter Try.func28, Try.ntmps28
    go_wp2
    go_ret2
    exact ⟨rfl, rfl⟩

theorem Try.infoPeer : (Try.prog.info? 52).map (fun i => (i.zero, i.size, i.bytes)) = some (some (.agg #[.int .i64 0, .int .i64 0, .int .i64 0, .bool false]), 4, 32) := by kernel_rfl

/-- An owned row is a block. -/
theorem ownsRow_blk {w : World} {base size n : Nat} {e : TypeId} {v : Value} {xs : List Value} (h : w.ownsRow base e size v n xs) (hn : 0 < n) : ∃ g cap rest, v = .slice (some ⟨g, 0, none⟩) n cap ∧ base ≤ g ∧ Blk w g (xs ++ rest) e := by
  obtain ⟨hl, h⟩ := h
  rcases h with ⟨_, h0⟩ | ⟨g, cap, cur, hv, hb, hh, hc, hm, hs, ht⟩
  · omega
  · refine ⟨g, cap, cur.toList.drop (n * size), hv, hb, ?_⟩
    unfold Blk
    rw [hh, ← ht, List.take_append_drop]

/-- What Clone answers. -/
def ClonePost (E : TypeId) (w : World) (l : List Pr) (e : Ending) (w' : World) : Prop :=
  ∃ g cap rest, e = .returned (.slice (some ⟨g, 0, none⟩) l.length cap) ∧ w.heap.size ≤ g ∧ Blk w' g (Pr.flat l ++ rest) E ∧ Kept (fun _ => False) w w'

set_option maxRecDepth 100000 in
set_option maxHeartbeats 1000000 in
theorem clone_any (w : World) (bl cap : Nat) (rest : List Value) (l : List Pr) (hr : Blk w bl (Pr.flat l ++ rest) 52) (h1 : 0 < l.length) (h2 : l.length ≤ 8) :
    Calls Try.prog 79 #[.slice (some ⟨bl, 0, none⟩) l.length cap] w (ClonePost 52 w l) := by
  have hnil := fun w => Lib.run_eql_slice_nil (P := Try.prog) w 63 52 (some ⟨bl, 0, none⟩) l.length cap 0 0 Try.underlying63
  obtain ⟨i0, hi, hz0, hz1, hz2⟩ := info_parts Try.infoPeer
  have hown := World.ownsRow_made (base := w.heap.size) (e := 52) (size := 4) w #[] 0 (Nat.le_refl _) (Nat.zero_le _) rfl
  have hnews : ∀ (j : Nat) (u : Value), (Pr.flat l)[j]? = some u → (w.alloc (.cells #[] 52)).cell? ((⟨bl, 0, none⟩ : Addr).add j) = some u := by
    intro j u hu
    have hadd : (⟨bl, 0, none⟩ : Addr).add j = ⟨bl, j, none⟩ := by unfold Addr.add; split <;> simp_all
    rw [hadd]
    refine (hr.alloc _).cell ?_
    rw [List.getElem?_append_left (List.getElem?_eq_some_iff.1 hu).1]
    exact hu
  have hone : ∀ u ∈ Pr.flat l, u.oneCell' = true := by
    intro u hu
    obtain ⟨p, _, hp⟩ := List.mem_flatMap.1 hu
    simp [Pr.cells] at hp
    rcases hp with rfl | rfl | rfl | rfl <;> rfl
  have hlen := Pr.flat_len l
  have hlen' : (Pr.flat l).length = l.length * 4 := by omega
  go_enter Try.func79, Try.ntmps79
  go_wp2_with (at_builtin; refine wpList_append_own _ rfl _ _ 63 rfl w.heap.size 52 i0 _ 4 32 Try.underlying63 hi hz0 hz1 hz2 rfl (by decide) _ _ _ rfl hown ⟨bl, 0, none⟩ l.length cap (Pr.flat l) rfl hlen' hnews hone ?c3 ?c4 ?c5 ?_)
  case c3 => unfold maxLen; omega
  case c4 => omega
  case c5 => simp
  intro v' w1 hown' hgrow _
  have hb := ownsRow_blk hown' (by omega)
  obtain ⟨g, cap', rest', hv, hg, hblk⟩ := hb
  try simp only [Nat.zero_add] at hv
  try simp only [List.nil_append] at hblk
  rw [hv]
  go_wp2
  go_ret
  exact ⟨g, cap', rest', rfl, hg, hblk, ((Kept.refl _ _).alloc _).grown hgrow (fun k hk hlt => by simp [Value.ownBlock] at hk; omega)⟩

/-- What Copy answers: others like them, in new blocks. -/
def CopyPost (T E : TypeId) (w : World) (l : List Pr) (last : Nat) (e : Ending) (w' : World) : Prop :=
  ∃ b bl cap rest, e = .returned (.pointer (some ⟨b, 0, none⟩)) ∧ w.heap.size ≤ b ∧ w.heap.size ≤ bl ∧ IsPeers T E w' b bl cap rest l last ∧ Kept (fun _ => False) w w'

set_option maxRecDepth 100000 in
set_option maxHeartbeats 1000000 in
theorem copy_any (w : World) (b bl cap : Nat) (rest : List Value) (l : List Pr) (last : Nat) (hs : IsPeers 65 52 w b bl cap rest l last) :
    Calls Try.prog 41 #[.pointer (some ⟨b, 0, none⟩)] w (CopyPost 65 52 w l last) := by
  have c0 := hs.c0
  have c1 := hs.c1
  have hlast := hs.last
  have few := hs.few
  have hpos : 0 < l.length := by omega
  have hbl := hs.head.lt
  go_enter Try.func41, Try.ntmps41
  go_wp2_with (go_at_call 75; refine (none_some _ _ _ _ _ hpos c0).mono ?_; rintro e w' ⟨rfl, rfl⟩)
  go_region_with (go_at_call 79; refine (clone_any _ _ _ _ _ (Blk.drew hs.row) hpos few).mono ?_; rintro e w1 ⟨g, cap', rest', rfl, hg, hblk, hk⟩; have d0 := (Blk.kept (Blk.drew hs.head) hk id).cell (i := 0) rfl; have d1 := (Blk.kept (Blk.drew hs.head) hk id).cell (i := 1) rfl)
  all_goals
    go_wp2
    go_ret
    have hlt := hblk.lt
    have hg' : w.heap.size ≤ g := hg
    refine ⟨w1.heap.size, g, cap', rest', rfl, hk.size, hg', ⟨?_, hblk.alloc _, by omega, hlast, few, hs.ok⟩, ?_⟩
    · exact Blk.new w1 [.slice (some ⟨g, 0, none⟩) l.length cap', .int .i64 last] 65
    · exact (((Kept.refl _ _).drew).trans hk).alloc _
end Go.Proofs.Ytahiimcdmojngaa
