/- The program's peers and the reference's, side by side. -/
import Derived.Test.YtahiimcdmojngaaPeersAsks
import Derived.Test.YtahiimcdmojngaaPeersRef3
import Derived.Test.YtahiimcdmojngaaPeersActs
namespace Go.Proofs.Ytahiimcdmojngaa
open Go.RowKit

theorem Blk.ne {w : World} {b b' : Nat} {c c' : List Value} {t t' : TypeId} (h : Blk w b c t) (h' : Blk w b' c' t') (ht : t ≠ t') : b ≠ b' := by
  rintro rfl
  unfold Blk at h h'
  rw [h] at h'
  simp at h'
  exact ht h'.2

/-- One of them made another, if there is one of that number. -/
def Pr.upd (l : List Pr) (i : Int) (f : Pr → Pr) : List Pr := if 0 ≤ i then l.modify i.toNat f else l
/-- The answer to a number. -/
def errZ (i : Int) (n : Nat) : Int := if 0 ≤ i ∧ i < n then 0 else 4
theorem Pr.upd_in {l : List Pr} {i : Nat} {p : Pr} (h : l[i]? = some p) (f : Pr → Pr) : Pr.upd l i f = l.set i (f p) := by
  rw [Pr.upd, if_pos (by omega), Int.toNat_natCast]
  apply List.ext_getElem?
  intro j
  rw [List.getElem?_modify, List.getElem?_set]
  by_cases e : i = j
  · subst e
    obtain ⟨h1, h2⟩ := List.getElem?_eq_some_iff.1 h
    simp [h1, h2]
  · simp [e]
theorem Pr.upd_out {l : List Pr} {i : Int} (h : i < 0 ∨ l.length ≤ i) (f : Pr → Pr) : Pr.upd l i f = l := by
  unfold Pr.upd
  split
  · apply List.ext_getElem?
    intro j
    rw [List.getElem?_modify]
    split
    · rw [List.getElem?_eq_none (by omega)]; rfl
    · simp
  · rfl
theorem errZ_in {i : Int} {n : Nat} (h0 : 0 ≤ i) (h1 : i < n) : errZ i n = 0 := by rw [errZ, if_pos ⟨h0, h1⟩]
theorem errZ_out {i : Int} {n : Nat} (h : i < 0 ∨ n ≤ i) : errZ i n = 4 := by rw [errZ, if_neg (by omega)]

theorem good_all (w : World) (b bl cap : Nat) (rest : List Value) (l : List Pr) (last : Nat) (i : Int) (hs : IsPeers 65 52 w b bl cap rest l last) :
    Calls Try.prog 29 #[.pointer (some ⟨b, 0, none⟩), .int .i64 i] w fun e w' => e = .returned (.int .i64 (errZ i l.length)) ∧ IsPeers 65 52 w' b bl cap rest (Pr.upd l i Pr.good) last ∧ Kept (· = bl) w w' := by
  by_cases h : 0 ≤ i ∧ i < l.length
  · obtain ⟨k, rfl⟩ := Int.eq_ofNat_of_zero_le h.1
    obtain ⟨p, hp⟩ : ∃ p, l[k]? = some p := ⟨_, List.getElem?_eq_getElem (by omega)⟩
    rw [errZ_in h.1 h.2, Pr.upd_in hp]
    exact good_in w b bl cap rest l last k p hs hp
  · have h' : i < 0 ∨ (l.length : Int) ≤ i := by omega
    rw [errZ_out h', Pr.upd_out h']
    refine (good_out w b bl cap rest l last i hs h').mono ?_
    rintro e w' ⟨rfl, rfl⟩
    exact ⟨rfl, hs, Kept.refl _ _⟩
theorem refGood_all (w : World) (b bl cap : Nat) (rest : List Value) (l : List Pr) (last : Nat) (i : Int) (hs : IsPeers 115 116 w b bl cap rest l last) :
    Calls Try.prog 37 #[.pointer (some ⟨b, 0, none⟩), .int .i64 i] w fun e w' => ∃ bl' cap' rest', e = .returned (.int .i64 (errZ i l.length)) ∧ IsPeers 115 116 w' b bl' cap' rest' (Pr.upd l i Pr.good) last ∧ (bl' = bl ∨ w.heap.size ≤ bl') ∧ Kept (· = b) w w' := by
  by_cases h : 0 ≤ i ∧ i < l.length
  · obtain ⟨k, rfl⟩ := Int.eq_ofNat_of_zero_le h.1
    obtain ⟨p, hp⟩ : ∃ p, l[k]? = some p := ⟨_, List.getElem?_eq_getElem (by omega)⟩
    rw [errZ_in h.1 h.2, Pr.upd_in hp]
    refine (refGood_in w b bl cap rest l last k p hs hp).mono ?_
    rintro e w' ⟨bl', cap', rest', h1, h2, h3, h4⟩
    exact ⟨bl', cap', rest', h1, h2, Or.inr h3, h4⟩
  · have h' : i < 0 ∨ (l.length : Int) ≤ i := by omega
    rw [errZ_out h', Pr.upd_out h']
    refine (refGood_out w b bl cap rest l last i hs h').mono ?_
    rintro e w' ⟨rfl, rfl⟩
    exact ⟨bl, cap, rest, rfl, hs, Or.inl rfl, Kept.refl _ _⟩

theorem late_all (w : World) (b bl cap : Nat) (rest : List Value) (l : List Pr) (last : Nat) (i : Int) (now d : Int) (hs : IsPeers 65 52 w b bl cap rest l last) (d0 : 0 ≤ d) (d1 : d ≤ 255) :
    Calls Try.prog 30 #[.pointer (some ⟨b, 0, none⟩), .int .i64 i, .int .i64 now, .int .u8 d] w fun e w' => e = .returned (.int .i64 (errZ i l.length)) ∧ IsPeers 65 52 w' b bl cap rest (Pr.upd l i (fun p => p.late now d)) last ∧ Kept (· = bl) w w' := by
  by_cases h : 0 ≤ i ∧ i < l.length
  · obtain ⟨k, rfl⟩ := Int.eq_ofNat_of_zero_le h.1
    obtain ⟨p, hp⟩ : ∃ p, l[k]? = some p := ⟨_, List.getElem?_eq_getElem (by omega)⟩
    rw [errZ_in h.1 h.2, Pr.upd_in hp]
    exact late_in w b bl cap rest l last k now d p hs hp d0 d1
  · have h' : i < 0 ∨ (l.length : Int) ≤ i := by omega
    rw [errZ_out h', Pr.upd_out h']
    refine (late_out w b bl cap rest l last i now d hs h').mono ?_
    rintro e w' ⟨rfl, rfl⟩
    exact ⟨rfl, hs, Kept.refl _ _⟩
theorem refLate_all (w : World) (b bl cap : Nat) (rest : List Value) (l : List Pr) (last : Nat) (i : Int) (now d : Int) (hs : IsPeers 115 116 w b bl cap rest l last) (d0 : 0 ≤ d) (d1 : d ≤ 255) :
    Calls Try.prog 38 #[.pointer (some ⟨b, 0, none⟩), .int .i64 i, .int .i64 now, .int .u8 d] w fun e w' => ∃ bl' cap' rest', e = .returned (.int .i64 (errZ i l.length)) ∧ IsPeers 115 116 w' b bl' cap' rest' (Pr.upd l i (fun p => p.late now d)) last ∧ (bl' = bl ∨ w.heap.size ≤ bl') ∧ Kept (· = b) w w' := by
  by_cases h : 0 ≤ i ∧ i < l.length
  · obtain ⟨k, rfl⟩ := Int.eq_ofNat_of_zero_le h.1
    obtain ⟨p, hp⟩ : ∃ p, l[k]? = some p := ⟨_, List.getElem?_eq_getElem (by omega)⟩
    rw [errZ_in h.1 h.2, Pr.upd_in hp]
    refine (refLate_in w b bl cap rest l last k now d p hs hp d0 d1).mono ?_
    rintro e w' ⟨bl', cap', rest', h1, h2, h3, h4⟩
    exact ⟨bl', cap', rest', h1, h2, Or.inr h3, h4⟩
  · have h' : i < 0 ∨ (l.length : Int) ≤ i := by omega
    rw [errZ_out h', Pr.upd_out h']
    refine (refLate_out w b bl cap rest l last i now d hs h').mono ?_
    rintro e w' ⟨rfl, rfl⟩
    exact ⟨bl, cap, rest, rfl, hs, Or.inl rfl, Kept.refl _ _⟩

theorem bad_all (w : World) (b bl cap : Nat) (rest : List Value) (l : List Pr) (last : Nat) (i : Int) (now : Int) (hs : IsPeers 65 52 w b bl cap rest l last) :
    Calls Try.prog 31 #[.pointer (some ⟨b, 0, none⟩), .int .i64 i, .int .i64 now] w fun e w' => e = .returned (.int .i64 (errZ i l.length)) ∧ IsPeers 65 52 w' b bl cap rest (Pr.upd l i (fun p => p.bad now)) last ∧ Kept (· = bl) w w' := by
  by_cases h : 0 ≤ i ∧ i < l.length
  · obtain ⟨k, rfl⟩ := Int.eq_ofNat_of_zero_le h.1
    obtain ⟨p, hp⟩ : ∃ p, l[k]? = some p := ⟨_, List.getElem?_eq_getElem (by omega)⟩
    rw [errZ_in h.1 h.2, Pr.upd_in hp]
    exact bad_in w b bl cap rest l last k now p hs hp
  · have h' : i < 0 ∨ (l.length : Int) ≤ i := by omega
    rw [errZ_out h', Pr.upd_out h']
    refine (bad_out w b bl cap rest l last i now hs h').mono ?_
    rintro e w' ⟨rfl, rfl⟩
    exact ⟨rfl, hs, Kept.refl _ _⟩
theorem refBad_all (w : World) (b bl cap : Nat) (rest : List Value) (l : List Pr) (last : Nat) (i : Int) (now : Int) (hs : IsPeers 115 116 w b bl cap rest l last) :
    Calls Try.prog 39 #[.pointer (some ⟨b, 0, none⟩), .int .i64 i, .int .i64 now] w fun e w' => ∃ bl' cap' rest', e = .returned (.int .i64 (errZ i l.length)) ∧ IsPeers 115 116 w' b bl' cap' rest' (Pr.upd l i (fun p => p.bad now)) last ∧ (bl' = bl ∨ w.heap.size ≤ bl') ∧ Kept (· = b) w w' := by
  by_cases h : 0 ≤ i ∧ i < l.length
  · obtain ⟨k, rfl⟩ := Int.eq_ofNat_of_zero_le h.1
    obtain ⟨p, hp⟩ : ∃ p, l[k]? = some p := ⟨_, List.getElem?_eq_getElem (by omega)⟩
    rw [errZ_in h.1 h.2, Pr.upd_in hp]
    refine (refBad_in w b bl cap rest l last k now p hs hp).mono ?_
    rintro e w' ⟨bl', cap', rest', h1, h2, h3, h4⟩
    exact ⟨bl', cap', rest', h1, h2, Or.inr h3, h4⟩
  · have h' : i < 0 ∨ (l.length : Int) ≤ i := by omega
    rw [errZ_out h', Pr.upd_out h']
    refine (refBad_out w b bl cap rest l last i now hs h').mono ?_
    rintro e w' ⟨rfl, rfl⟩
    exact ⟨bl, cap, rest, rfl, hs, Or.inl rfl, Kept.refl _ _⟩

theorem idle_all (w : World) (b bl cap : Nat) (rest : List Value) (l : List Pr) (last : Nat) (i : Int) (now : Int) (hs : IsPeers 65 52 w b bl cap rest l last) :
    Calls Try.prog 32 #[.pointer (some ⟨b, 0, none⟩), .int .i64 i, .int .i64 now] w fun e w' => e = .returned (.int .i64 (errZ i l.length)) ∧ IsPeers 65 52 w' b bl cap rest (Pr.upd l i (fun p => p.idle now)) last ∧ Kept (· = bl) w w' := by
  by_cases h : 0 ≤ i ∧ i < l.length
  · obtain ⟨k, rfl⟩ := Int.eq_ofNat_of_zero_le h.1
    obtain ⟨p, hp⟩ : ∃ p, l[k]? = some p := ⟨_, List.getElem?_eq_getElem (by omega)⟩
    rw [errZ_in h.1 h.2, Pr.upd_in hp]
    exact idle_in w b bl cap rest l last k now p hs hp
  · have h' : i < 0 ∨ (l.length : Int) ≤ i := by omega
    rw [errZ_out h', Pr.upd_out h']
    refine (idle_out w b bl cap rest l last i now hs h').mono ?_
    rintro e w' ⟨rfl, rfl⟩
    exact ⟨rfl, hs, Kept.refl _ _⟩
theorem refIdle_all (w : World) (b bl cap : Nat) (rest : List Value) (l : List Pr) (last : Nat) (i : Int) (now : Int) (hs : IsPeers 115 116 w b bl cap rest l last) :
    Calls Try.prog 40 #[.pointer (some ⟨b, 0, none⟩), .int .i64 i, .int .i64 now] w fun e w' => ∃ bl' cap' rest', e = .returned (.int .i64 (errZ i l.length)) ∧ IsPeers 115 116 w' b bl' cap' rest' (Pr.upd l i (fun p => p.idle now)) last ∧ (bl' = bl ∨ w.heap.size ≤ bl') ∧ Kept (· = b) w w' := by
  by_cases h : 0 ≤ i ∧ i < l.length
  · obtain ⟨k, rfl⟩ := Int.eq_ofNat_of_zero_le h.1
    obtain ⟨p, hp⟩ : ∃ p, l[k]? = some p := ⟨_, List.getElem?_eq_getElem (by omega)⟩
    rw [errZ_in h.1 h.2, Pr.upd_in hp]
    refine (refIdle_in w b bl cap rest l last k now p hs hp).mono ?_
    rintro e w' ⟨bl', cap', rest', h1, h2, h3, h4⟩
    exact ⟨bl', cap', rest', h1, h2, Or.inr h3, h4⟩
  · have h' : i < 0 ∨ (l.length : Int) ≤ i := by omega
    rw [errZ_out h', Pr.upd_out h']
    refine (refIdle_out w b bl cap rest l last i now hs h').mono ?_
    rintro e w' ⟨rfl, rfl⟩
    exact ⟨bl, cap, rest, rfl, hs, Or.inl rfl, Kept.refl _ _⟩

/-- Whether one of a number is in quarantine. -/
def barZ (l : List Pr) (i now : Int) : Bool := if 0 ≤ i then (match l[i.toNat]? with | some p => p.isBarred now | none => false) else false
theorem barZ_in {l : List Pr} {i : Nat} {p : Pr} (h : l[i]? = some p) (now : Int) : barZ l i now = p.isBarred now := by
  rw [barZ, if_pos (by omega), Int.toNat_natCast, h]
theorem barZ_out {l : List Pr} {i : Int} (h : i < 0 ∨ l.length ≤ i) (now : Int) : barZ l i now = false := by
  unfold barZ
  split
  · rw [List.getElem?_eq_none (by omega)]
  · rfl
theorem barred_all (w : World) (b bl cap : Nat) (rest : List Value) (l : List Pr) (last : Nat) (i now : Int) (hs : IsPeers 65 52 w b bl cap rest l last) :
    Calls Try.prog 35 #[.pointer (some ⟨b, 0, none⟩), .int .i64 i, .int .i64 now] w fun e w' => e = .returned (.bool (barZ l i now)) ∧ Kept (fun _ => False) w w' := by
  by_cases h : 0 ≤ i ∧ i < l.length
  · obtain ⟨k, rfl⟩ := Int.eq_ofNat_of_zero_le h.1
    obtain ⟨p, hp⟩ : ∃ p, l[k]? = some p := ⟨_, List.getElem?_eq_getElem (by omega)⟩
    rw [barZ_in hp]
    exact barred_in w b bl cap rest l last k now p hs hp
  · have h' : i < 0 ∨ (l.length : Int) ≤ i := by omega
    rw [barZ_out h']
    exact barred_out w b bl cap rest l last i now hs h'
theorem refBarred_all (w : World) (b bl cap : Nat) (rest : List Value) (l : List Pr) (last : Nat) (i now : Int) (hs : IsPeers 115 116 w b bl cap rest l last) :
    Calls Try.prog 44 #[.pointer (some ⟨b, 0, none⟩), .int .i64 i, .int .i64 now] w fun e w' => e = .returned (.bool (barZ l i now)) ∧ Kept (fun _ => False) w w' := by
  by_cases h : 0 ≤ i ∧ i < l.length
  · obtain ⟨k, rfl⟩ := Int.eq_ofNat_of_zero_le h.1
    obtain ⟨p, hp⟩ : ∃ p, l[k]? = some p := ⟨_, List.getElem?_eq_getElem (by omega)⟩
    rw [barZ_in hp]
    exact refBarred_in w b bl cap rest l last k now p hs hp
  · have h' : i < 0 ∨ (l.length : Int) ≤ i := by omega
    rw [barZ_out h']
    exact refBarred_out w b bl cap rest l last i now hs h'

set_option maxRecDepth 100000 in
set_option maxHeartbeats 2000000 in
theorem alike_true (w : World) (b bl cap : Nat) (rest : List Value) (b2 bl2 cap2 : Nat) (rest2 : List Value) (l : List Pr) (last last2 : Nat) (hs : IsPeers 65 52 w b bl cap rest l last) (hr : IsPeers 115 116 w b2 bl2 cap2 rest2 l last2) :
    Calls Try.prog 43 #[.pointer (some ⟨b, 0, none⟩), .pointer (some ⟨b2, 0, none⟩)] w fun e w' => e = .returned (.bool true) ∧ Kept (fun _ => False) w w' := by
  have few := hs.few
  go_enter Try.func43, Try.ntmps43
  go_wp2_with fail
  go_loopw [5] (fun i wr => ∃ k : Nat, k ≤ l.length ∧ i = .int .i64 k ∧ Kept (fun _ => False) w wr) (fun i _ => l.length - (intOf i).toNat)
  case atStart => exact ⟨0, by omega, rfl, Kept.refl _ _⟩
  case round =>
    obtain ⟨k, hk, rfl, hkept⟩ := hrel
    have hs1 := hs.kept hkept id id
    have hr1 := hr.kept hkept id id
    have d0 := hr1.c0
    have l1 := hr1.head.lt
    have l2 := hr1.row.lt
    by_cases hlt : k < l.length
    · obtain ⟨p, hp, pok, p0, p1, p2, p3⟩ := hr1.at_ hlt
      have HP := Lib.hid hp
      clear hp
      have hle : (k : Int) < (l.length : Int) := by omega
      go_wp2_with fail
      refine (state_in _ _ _ _ _ _ _ k p hs1 HP.out).mono ?_
      rintro e w5 ⟨rfl, rfl⟩
      go_wp2_with fail
      go_quiet (fail)
      go_wp2_with fail
      go_roundw
      case rel => exact ⟨k + 1, by omega, by go_num, by repeat (first | exact hkept | (refine Kept.drewN ?_ _) | (refine Kept.alloc ?_ _))⟩
      case measure => simp [intOf]; omega
    · go_wp2_with fail
      refine (state_out _ _ _ _ _ _ _ _ hs1 (by omega)).mono ?_
      rintro e w5 ⟨rfl, rfl⟩
      go_wp2_with fail
      refine (state_out _ _ _ _ _ _ _ _ ((hs1.alloc _).alloc _) (by omega)).mono ?_
      rintro e w6 ⟨rfl, rfl⟩
      go_wp2_with fail
      go_ret
      exact ⟨rfl, by repeat (first | exact hkept | (refine Kept.alloc ?_ _))⟩
end Go.Proofs.Ytahiimcdmojngaa
