/- Contracts of the reference of package peers, third part: Barred, Next, New. -/
import Derived.Test.YtahiimcdmojngaaPeersRef2
namespace Go.Proofs.Ytahiimcdmojngaa
open Go.RowKit

set_option maxRecDepth 100000 in
set_option maxHeartbeats 1000000 in
theorem refBarred_in (w : World) (b bl cap : Nat) (rest : List Value) (l : List Pr) (last i : Nat) (now : Int) (p : Pr) (hs : IsPeers 115 116 w b bl cap rest l last) (hi : l[i]? = some p) :
    Calls Try.prog 44 #[.pointer (some ⟨b, 0, none⟩), .int .i64 i, .int .i64 now] w fun e w' => e = .returned (.bool (p.isBarred now)) ∧ Kept (fun _ => False) w w' := by
  obtain ⟨hlt, hg⟩ := List.getElem?_eq_some_iff.1 hi
  obtain ⟨q, hq, hok, q0, q1, q2, q3⟩ := hs.at_ hlt
  obtain rfl : q = p := by rw [hi] at hq; exact (Option.some.inj hq).symm
  have c0 := hs.c0
  have few := hs.few
  clear hi hg hq q0 q1
  have hle : (i : Int) < (l.length : Int) := by omega
  obtain ⟨tr, st, un, ba⟩ := q
  cases ba
  · have hf : Pr.isBarred ⟨tr, st, un, false⟩ now = false := rfl
    rw [hf]
    go_enter Try.func44, Try.ntmps44
    go_wp2_with fail
    go_quiet (first | (go_at_call 76; exact Calls.quiet_of_same (calls_pure (is_in _ _ _ _ _ _ c0 (by omega) (by omega)))) | (go_at_call 78; exact Calls.quiet_of_same (calls_pure (refNear_any _ _))))
    go_wp2
    go_ret
    exact ⟨rfl, (Kept.refl _ _).drewN _⟩
  · by_cases hn : nearZ now < un
    · have hf : Pr.isBarred ⟨tr, st, un, true⟩ now = true := by simp [Pr.isBarred, hn]
      rw [hf]
      go_enter Try.func44, Try.ntmps44
      go_wp2_with fail
      go_quiet (first | (go_at_call 76; exact Calls.quiet_of_same (calls_pure (is_in _ _ _ _ _ _ c0 (by omega) (by omega)))) | (go_at_call 78; exact Calls.quiet_of_same (calls_pure (refNear_any _ _))))
      go_wp2
      go_ret
      exact ⟨rfl, (Kept.refl _ _).drewN _⟩
    · have hf : Pr.isBarred ⟨tr, st, un, true⟩ now = false := by simp [Pr.isBarred, hn]
      rw [hf]
      go_enter Try.func44, Try.ntmps44
      go_wp2_with fail
      go_quiet (first | (go_at_call 76; exact Calls.quiet_of_same (calls_pure (is_in _ _ _ _ _ _ c0 (by omega) (by omega)))) | (go_at_call 78; exact Calls.quiet_of_same (calls_pure (refNear_any _ _))))
      go_wp2
      go_ret
      exact ⟨by simp [hn], (Kept.refl _ _).drewN _⟩

set_option maxRecDepth 100000 in
set_option maxHeartbeats 1000000 in
theorem refBarred_out (w : World) (b bl cap : Nat) (rest : List Value) (l : List Pr) (last : Nat) (i now : Int) (hs : IsPeers 115 116 w b bl cap rest l last) (hi : i < 0 ∨ l.length ≤ i) :
    Calls Try.prog 44 #[.pointer (some ⟨b, 0, none⟩), .int .i64 i, .int .i64 now] w fun e w' => e = .returned (.bool false) ∧ Kept (fun _ => False) w w' := by
  have c0 := hs.c0
  go_enter Try.func44, Try.ntmps44
  go_wp2_with fail
  go_quiet (first | (go_at_call 76; exact Calls.quiet_of_same (calls_pure (is_out _ _ _ _ _ _ c0 hi))) | (go_at_call 78; exact Calls.quiet_of_same (calls_pure (refNear_any _ _))))
  go_wp2
  go_ret
  exact ⟨rfl, (Kept.refl _ _).drewN _⟩

set_option maxRecDepth 100000 in
set_option maxHeartbeats 1000000 in
theorem refNext_any (w : World) (b bl cap : Nat) (rest : List Value) (l : List Pr) (last : Nat) (now : Int) (hs : IsPeers 115 116 w b bl cap rest l last) :
    Calls Try.prog 42 #[.pointer (some ⟨b, 0, none⟩), .int .i64 now] w (NextPost 115 116 w b bl cap rest l last now) := by
  have c0 := hs.c0
  have c1 := hs.c1
  have few := hs.few
  have hlast := hs.last
  have hpos : 0 < l.length := by omega
  have z1 := hs.head.free 1
  go_enter Try.func42, Try.ntmps42
  go_wp2_with fail
  go_loopw [6, 7] (fun x i wr => ∃ k m t : Nat, k ≤ l.length ∧ t < l.length ∧ Hid (t = (last + k) % l.length) ∧ x = .int .i64 t ∧ i = .int .i64 k ∧ wr = w.drewN m ∧ Hid (∀ j, j < k → Pr.due l (nearZ now) ((last + (j + 1)) % l.length) = false)) (fun _ i _ => l.length - (intOf i).toNat)
  case atStart => exact ⟨0, 0, last, by omega, hlast, by show last = (last + 0) % l.length; rw [Nat.add_zero, Nat.mod_eq_of_lt hlast], rfl, rfl, rfl, fun j hj => by omega⟩
  case round =>
    obtain ⟨k, m, t, hk, ht, hmod, rfl, rfl, rfl, hno⟩ := hrel
    by_cases hlt : k < l.length
    · obtain ⟨i, hil, HI, hcase⟩ : ∃ i, i < l.length ∧ Hid (i = (last + (k + 1)) % l.length) ∧ ((t + 1 = l.length ∧ i = 0) ∨ (t + 1 < l.length ∧ i = t + 1)) := by
        refine ⟨(last + (k + 1)) % l.length, Nat.mod_lt _ hpos, rfl, ?_⟩
        have h1 := hmod.out
        rw [← Nat.add_assoc, Nat.add_mod, ← h1]
        by_cases hone : l.length = 1
        · left; refine ⟨by omega, ?_⟩; rw [hone]; exact Nat.mod_one _
        · rw [Nat.mod_eq_of_lt (show 1 < l.length by omega)]
          by_cases he : t + 1 = l.length
          · left; refine ⟨he, ?_⟩; rw [he]; exact Nat.mod_self _
          · right; exact ⟨by omega, Nat.mod_eq_of_lt (by omega)⟩
      obtain ⟨q, hq, hok, q0, q1, q2, q3⟩ := hs.at_ hil
      have hle : (i : Int) < (l.length : Int) := by omega
      have HQ := Lib.hid hq
      clear hq q0 q1 q3
      by_cases hd : q.until_ ≤ nearZ now
      · have hnx : Hid (Pr.next l last (nearZ now) = some i) := by
          rw [HI.out]
          exact Pr.next_some l last (nearZ now) k hlt hno.out (by rw [← HI.out]; simp [Pr.due, HQ.out, hd])
        rcases hcase with ⟨hc, rfl⟩ | ⟨hc, rfl⟩
        · have e1 : ((t : Int) + 1 == (l.length : Int)) = true := by simp; omega
          clear hc
          go_wp2_with fail
          go_quiet ((go_at_call 78; exact quiet_on (refNear_any _ _)))
          go_wp2_with fail
          go_ret2
          unfold NextPost
          rw [hnx.out]
          exact ⟨rfl, (hs.setLast 0 hil).drewN _, by repeat (first | exact Kept.refl _ _ | (refine Kept.drewN ?_ _) | (refine Kept.setCell ?_ (fun _ => by rfl) _))⟩
        · have e1 : ((t : Int) + 1 == (l.length : Int)) = false := by simp; omega
          clear hc
          go_wp2_with fail
          go_quiet ((go_at_call 78; exact quiet_on (refNear_any _ _)))
          go_wp2_with fail
          go_ret2
          unfold NextPost
          rw [hnx.out]
          exact ⟨rfl, (hs.setLast (t + 1) hil).drewN _, by repeat (first | exact Kept.refl _ _ | (refine Kept.drewN ?_ _) | (refine Kept.setCell ?_ (fun _ => by rfl) _))⟩
      · have hno' : Hid (∀ j, j < k + 1 → Pr.due l (nearZ now) ((last + (j + 1)) % l.length) = false) := by
          intro j hj
          rcases Nat.lt_succ_iff_lt_or_eq.1 hj with hj | rfl
          · exact hno.out j hj
          · rw [← HI.out]; simp [Pr.due, HQ.out]; omega
        rcases hcase with ⟨hc, rfl⟩ | ⟨hc, rfl⟩
        · have e1 : ((t : Int) + 1 == (l.length : Int)) = true := by simp; omega
          clear hc
          go_wp2_with fail
          go_quiet ((go_at_call 78; exact quiet_on (refNear_any _ _)))
          go_wp2_with fail
          go_roundw
          case rel => exact ⟨k + 1, _, 0, by omega, hil, HI, rfl, by go_num, rfl, hno'⟩
          case measure => simp [intOf]; omega
        · have e1 : ((t : Int) + 1 == (l.length : Int)) = false := by simp; omega
          clear hc
          go_wp2_with fail
          go_quiet ((go_at_call 78; exact quiet_on (refNear_any _ _)))
          go_wp2_with fail
          go_roundw
          case rel => exact ⟨k + 1, _, t + 1, by omega, hil, HI, by go_num, by go_num, rfl, hno'⟩
          case measure => simp [intOf]; omega
    · have hnx : Hid (Pr.next l last (nearZ now) = none) := Pr.next_none l last (nearZ now) (fun j hj => hno.out j (by omega))
      go_wp2_with fail
      go_ret2
      unfold NextPost
      rw [hnx.out]
      exact ⟨rfl, hs.drewN _, (Kept.refl _ _).drewN _⟩

theorem flat_snoc (k : Nat) : Pr.flat (List.replicate k Pr.zero) ++ Pr.zero.cells = Pr.flat (List.replicate (k + 1) Pr.zero) := by
  rw [List.replicate_succ']
  simp [Pr.flat]

/-- What the reference's New answers. -/
def RefNewPost (T E : TypeId) (w : World) (n : Nat) (e : Ending) (w' : World) : Prop :=
  ∃ b bl cap rest, e = .returned (.tuple #[.pointer (some ⟨b, 0, none⟩), .int .i64 0]) ∧ w.heap.size ≤ b ∧ w.heap.size ≤ bl ∧ IsPeers T E w' b bl cap rest (List.replicate n Pr.zero) (n - 1) ∧ Kept (fun _ => False) w w'

set_option maxRecDepth 100000 in
set_option maxHeartbeats 1000000 in
theorem refNew_ok (n : Nat) (h1 : 1 ≤ n) (h2 : n ≤ 8) (w : World) :
    Calls Try.prog 36 #[.int .i64 n] w (RefNewPost 115 116 w n) := by
  have e1 : decide ((n : Int) < 1) = false := by simp; omega
  have e2 : decide ((8 : Int) < (n : Int)) = false := by simp; omega
  obtain ⟨i0, hinf, hz0, hz1, hz2⟩ := info_parts Try.infoRefPeer
  go_enter Try.func36, Try.ntmps36
  go_wp2_with fail
  go_loopw [5] (fun i wr => ∃ (k : Nat) (v : Value), k ≤ n ∧ i = .int .i64 k ∧ Blk wr w.heap.size [v, .int .i64 ((n : Int) - 1)] 115 ∧ wr.ownsRow (w.heap.size + 1) 116 4 v k (Pr.flat (List.replicate k Pr.zero)) ∧ Kept (fun x => x = w.heap.size) w wr) (fun i _ => n - (intOf i).toNat)
  case atStart => exact ⟨0, .slice none 0 0, by omega, rfl, Blk.new w [.slice none 0 0, .int .i64 ((n : Int) - 1)] 115, World.ownsRow_nil _ _ _ _, (Kept.refl _ _).alloc _⟩
  case round =>
    obtain ⟨k, v, hk, rfl, hhead, hown, hkept⟩ := hrel
    have hlt := hhead.lt
    by_cases hkn : k < n
    · have c0 := hhead.cell (i := 0) rfl
      have hown1 := hown.alloc (.cells #[.int .i64 0, .int .i64 0, .int .i64 0, .bool false] 116)
      have hhead1 := hhead.alloc (.cells #[.int .i64 0, .int .i64 0, .int .i64 0, .bool false] 116)
      have hkept1 := hkept.alloc (.cells #[.int .i64 0, .int .i64 0, .int .i64 0, .bool false] 116)
      have hnew := Blk.new wr [.int .i64 0, .int .i64 0, .int .i64 0, .bool false] 116
      have hnews : ∀ (j : Nat) (u : Value), Pr.zero.cells[j]? = some u → (wr.alloc (.cells #[.int .i64 0, .int .i64 0, .int .i64 0, .bool false] 116)).cell? ((⟨wr.heap.size, 0, none⟩ : Addr).add j) = some u := by
        intro j u hu
        have hadd : (⟨wr.heap.size, 0, none⟩ : Addr).add j = ⟨wr.heap.size, j, none⟩ := by unfold Addr.add; split <;> simp_all
        rw [hadd]
        exact hnew.cell hu
      have HN := Lib.hid hnews
      have hob := hown.lt
      have HOB := Lib.hid hob
      clear hnews hob
      go_wp2_with (at_builtin; refine wpList_append_own _ rfl _ _ 113 rfl (w.heap.size + 1) 116 i0 _ 4 32 Try.underlying113 hinf hz0 hz1 hz2 rfl (by decide) _ _ _ rfl hown1 ⟨wr.heap.size, 0, none⟩ 1 1 Pr.zero.cells rfl rfl HN.out ?c2 ?c3 ?c4 ?c5 ?_)
      case c2 => simp [Pr.cells, Pr.zero, Value.oneCell']
      case c3 => unfold maxLen; omega
      case c4 => omega
      case c5 => simp; omega
      intro v' w1 hown' hgrow _
      rw [flat_snoc] at hown'
      have hbk := ownsRow_blk hown' (by omega)
      obtain ⟨g, cap', rest', hv, hg, hblk⟩ := hbk
      have hno : ∀ kb, v.ownBlock = some kb → kb < w.heap.size → kb = w.heap.size := fun kb hkb hlt2 => by have := HOB.out kb hkb; omega
      have hkk : Kept (fun x => x = w.heap.size) w w1 := hkept1.grown hgrow hno
      have hhead2 : Blk w1 w.heap.size [v, .int .i64 ((n : Int) - 1)] 115 := by
        refine hhead1.kept (S := fun x => v.ownBlock = some x) ((Kept.refl _ _).grown hgrow (fun kb hkb _ => hkb)) (fun hx => ?_)
        have := HOB.out _ hx
        omega
      have c1 := hhead2.cell (i := 0) rfl
      have y0 := hhead2.free 0
      have hbg : w.heap.size ≠ g := by omega
      rw [hv] at hown' ⊢
      clear hown hown1 hhead hhead1 HN HOB hgrow hno hkept hkept1 hnew
      go_wp2
      go_roundw
      case rel =>
        refine ⟨k + 1, .slice (some ⟨g, 0, none⟩) (k + 1) cap', by omega, by go_num, hhead2.set 0 _, ?_, hkk.setCell (fun h => by simp only at h; omega) _⟩
        obtain ⟨ho1, ho2⟩ := hown'
        refine ⟨ho1, ?_⟩
        rcases ho2 with ⟨h, _⟩ | ⟨g2, cap2, cur2, hv2, hg2, hh2, r2⟩
        · cases h
        · refine Or.inr ⟨g2, cap2, cur2, hv2, hg2, ?_, r2⟩
          rw [Below.heap_setCell _ _ _ _ (by show g2 ≠ w.heap.size; omega)]
          exact hh2
      case measure => simp [intOf]; omega
    · obtain rfl : k = n := by omega
      obtain ⟨g, cap', rest', rfl, hg, hblk⟩ := ownsRow_blk hown (by omega)
      go_wp2
      go_ret2
      refine ⟨w.heap.size, g, cap', rest', rfl, Nat.le_refl _, by omega, ⟨?_, hblk, by omega, by simp; omega, by simpa using h2, ?_⟩, hkept.mono (fun x hx he => by omega)⟩
      · rw [List.length_replicate, show ((k - 1 : Nat) : Int) = (k : Int) - 1 from by omega]; exact hhead
      · intro p hp; rw [List.eq_of_mem_replicate hp]; exact Pr.ok_zero

set_option maxHeartbeats 1000000 in
theorem refNew_no (n : Int) (h : n < 1 ∨ 8 < n) (w : World) :
    Calls Try.prog 36 #[.int .i64 n] w fun e w' => e = .returned (.tuple #[.pointer none, .int .i64 2]) ∧ w = w' := by
  by_cases h1 : n < 1
  · go_enter Try.func36, Try.ntmps36
    go_wp2
    go_ret2
    exact ⟨rfl, rfl⟩
  · have h2 : 8 < n := by omega
    clear h
    go_enter Try.func36, Try.ntmps36
    go_wp2
    go_ret2
    exact ⟨rfl, rfl⟩
end Go.Proofs.Ytahiimcdmojngaa
