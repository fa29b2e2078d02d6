/- Contracts of package disk: Loose. -/
import Derived.Test.YtahiimcdmojngaaDisk4
namespace Go.Proofs.Ytahiimcdmojngaa
open Go.RowKit

theorem looseAll_le {M : DiskM} (h : M.Ok) : DiskM.looseAll M.loose ≤ M.total := by
  have key : ∀ (l : List (Int × Nat)) (F : List (Int × List UInt8)), AM.Rise F → (∀ n, DiskM.looseOf l n ≤ ((AM.get F n).getD []).length) → DiskM.looseAll l ≤ AM.sum List.length F := by
    intro l
    induction l with
    | nil => intro F _ _; simp [DiskM.looseAll]
    | cons p r ih =>
      intro F hF hl
      have hp := hl p.1
      simp only [DiskM.looseOf, if_true] at hp
      have e : DiskM.looseAll (p :: r) = p.2 + DiskM.looseAll r := by simp [DiskM.looseAll]
      rw [e]
      cases hg : AM.get F p.1 with
      | none =>
        rw [hg] at hp
        simp at hp
        have := ih F hF (fun n => by have := hl n; simp only [DiskM.looseOf] at this; omega)
        omega
      | some b =>
        rw [hg] at hp
        simp only [Option.getD_some] at hp
        have hF2 := AM.rise_set hF p.1 (b.take (b.length - p.2))
        have := ih (AM.set F p.1 (b.take (b.length - p.2))) hF2 (fun n => by
          by_cases hn : n = p.1
          · subst hn
            rw [AM.get_set_same hF]
            simp; omega
          · rw [AM.get_set_other hF _ hn]
            have := hl n
            simp only [DiskM.looseOf] at this
            omega)
        rw [AM.sum_set] at this
        rw [AM.sum_del List.length hF hg]
        simp at this
        omega
  exact key M.loose M.files h.rise h.lo

section
variable {d : Nat} {fp : Nat → Prop} {M : DiskM}
theorem looseAll_take (l : List (Int × Nat)) (i : Nat) (p : Int × Nat) (h : l[i]? = some p) : DiskM.looseAll (l.take (i + 1)) = DiskM.looseAll (l.take i) + p.2 := by
  rw [List.take_add_one, h]
  simp [DiskM.looseAll]
theorem looseAll_take_le (l : List (Int × Nat)) (i : Nat) : DiskM.looseAll (l.take i) ≤ DiskM.looseAll l := by
  have e : DiskM.looseAll l = DiskM.looseAll (l.take i) + DiskM.looseAll (l.drop i) := by
    conv => lhs; rw [← List.take_append_drop i l]
    simp only [DiskM.looseAll, List.map_append, List.sum_append]
  omega
theorem Row.cellsAt {w : World} {e : TypeId} {size g n cap : Nat} {xs : List Value} (h : Row w e size (.slice (some ⟨g, 0, none⟩) n cap) xs) {j : Nat} {u : Value} (hj : xs[j]? = some u) : w.cell? ⟨g, j, none⟩ = some u := by
  rcases h with ⟨h, _⟩ | ⟨g', n', cap', rest, hv, _, hb, _⟩
  · cases h
  · simp only [Value.slice.injEq, Option.some.injEq, Addr.mk.injEq, and_true] at hv
    obtain ⟨rfl, rfl, rfl⟩ := hv
    refine hb.cell ?_
    rw [List.getElem?_append_left (List.getElem?_eq_some_iff.1 hj).1]
    exact hj

set_option maxRecDepth 100000 in
set_option maxHeartbeats 1000000 in
theorem loose_any (w : World) (hd : IsDisk w d fp M) : Calls Try.prog 53 #[.pointer (some ⟨d, 0, none⟩)] w fun e w' => e = .returned (.int .i64 (DiskM.looseAll M.loose)) ∧ Kept (fun _ => False) w w' := by
  obtain ⟨mb, lv, fs, h⟩ := hd
  have c0 := h.head.cell (i := 0) rfl
  have c1 := h.head.cell (i := 1) rfl
  have hrow := h.loose
  have k1 := h.ok.cap1
  have k2 := h.ok.room
  have k3 := looseAll_le h.ok
  obtain ⟨a, m, cap, rfl, hm, hml, hcell⟩ := hrow.form (by omega)
  rw [pcells_len] at hm
  have hml' : maxLen = 9223372036854775807 := rfl
  have hlen : M.loose.length = m := by omega
  clear hm
  go_enter Try.func53, Try.ntmps53
  go_wp2_with (go_at_call 85; refine (disk_none_some _ _ _ c0).mono ?_; rintro e w' ⟨rfl, rfl⟩)
  go_loopw [3, 13] (fun x y wr => ∃ i : Nat, y = .int .i64 i ∧ i ≤ m ∧ x = .int .i64 (DiskM.looseAll (M.loose.take i)) ∧ Kept (fun _ => False) w wr) (fun _ y _ => m - (intOf y).toNat)
  case atStart => exact ⟨0, rfl, Nat.zero_le _, by simp [DiskM.looseAll], Kept.refl _ _⟩
  case round =>
    obtain ⟨i, rfl, hi, rfl, hk⟩ := hrel
    have hrow' := hrow.kept hk (fun _ _ => id)
    have HL := Lib.hid (looseAll_take M.loose i)
    have hle := looseAll_take_le M.loose i
    by_cases hlt : i < m
    · obtain ⟨g, rfl, hown, hcs⟩ := hcell (by omega)
      obtain ⟨p, hp⟩ : ∃ p, M.loose[i]? = some p := ⟨M.loose[i], List.getElem?_eq_getElem (by omega)⟩
      obtain ⟨hp0, hp1⟩ := pcells_get M.loose i p hp
      have q0 := hrow'.cellsAt hp0
      have q1 := hrow'.cellsAt hp1
      have hle1 := looseAll_take_le M.loose (i + 1)
      have hst := looseAll_take M.loose i p hp
      have HST := Lib.hid hst
      have hx : decide (i < m) = true := decide_eq_true hlt
      have hle2 : DiskM.looseAll (M.loose.take i) + p.2 ≤ 1048576 := by omega
      clear hst hp0 hp1 hp hcs hcell
      go_wp2_with fail
      go_roundw
      case rel => exact ⟨i + 1, by go_num, hlt, by rw [HST.out]; go_num, hk.alloc _⟩
      case measure => simp [intOf]; omega
    · have hx : decide (i < m) = false := by simp; omega
      have : i = m := by omega
      subst this
      have hall : M.loose.take i = M.loose := List.take_of_length_le (by omega)
      clear hcell
      go_wp2_with fail
      go_ret
      exact ⟨ret_int (by rw [hall]), hk⟩
end
end Go.Proofs.Ytahiimcdmojngaa
