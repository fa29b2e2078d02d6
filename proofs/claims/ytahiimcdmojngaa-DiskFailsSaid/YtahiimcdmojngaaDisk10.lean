/- Contracts of package disk: of, drop. -/
import Derived.Test.YtahiimcdmojngaaDiskP
namespace Go.Proofs.Ytahiimcdmojngaa
open Go.RowKit

section
variable {d : Nat} {fp : Nat → Prop} {M : DiskM}
theorem looseOf_le_all (l : List (Int × Nat)) (n : Int) : DiskM.looseOf l n ≤ DiskM.looseAll l := by
  induction l with
  | nil => simp [DiskM.looseOf, DiskM.looseAll]
  | cons p r ih =>
    have e : DiskM.looseAll (p :: r) = p.2 + DiskM.looseAll r := by simp [DiskM.looseAll]
    rw [e, looseOf_cons]; split <;> omega
set_option maxRecDepth 100000 in
set_option maxHeartbeats 1000000 in
theorem of_any (w : World) (n : Int) (n0 : -9223372036854775808 ≤ n ∧ n ≤ 9223372036854775807) (hd : IsDisk w d fp M) : Calls Try.prog 96 #[.pointer (some ⟨d, 0, none⟩), .int .i64 n] w fun e w' => e = .returned (.int .i64 (DiskM.looseOf M.loose n)) ∧ Kept (fun _ => False) w w' := by
  obtain ⟨mb, lv, fs, h⟩ := hd
  have c1 := h.head.cell (i := 1) rfl
  have hrow := h.loose
  have k1 := h.ok.cap1
  have k2 := h.ok.room
  have k3 := looseAll_le h.ok
  have k4 := looseOf_le_all M.loose n
  obtain ⟨a, m, cap, rfl, hm, hml, hcell⟩ := hrow.form (by omega)
  rw [pcells_len] at hm
  have hml' : maxLen = 9223372036854775807 := rfl
  have hlen : M.loose.length = m := by omega
  clear hm
  go_enter Try.func96, Try.ntmps96
  go_wp2
  go_loopw [5, 13] (fun x y wr => ∃ i : Nat, y = .int .i64 i ∧ i ≤ m ∧ x = .int .i64 (DiskM.looseOf (M.loose.take i) n) ∧ Kept (fun _ => False) w wr) (fun _ y _ => m - (intOf y).toNat)
  case atStart => exact ⟨0, rfl, Nat.zero_le _, by simp [DiskM.looseOf], Kept.refl _ _⟩
  case round =>
    obtain ⟨i, rfl, hi, rfl, hk⟩ := hrel
    have hrow' := hrow.kept hk (fun _ _ => id)
    have hle := looseOf_take_le M.loose n i
    by_cases hlt : i < m
    · obtain ⟨g, rfl, hown, hcs⟩ := hcell (by omega)
      obtain ⟨p, hp⟩ : ∃ p, M.loose[i]? = some p := ⟨M.loose[i], List.getElem?_eq_getElem (by omega)⟩
      obtain ⟨hp0, hp1⟩ := pcells_get M.loose i p hp
      have q0 := hrow'.cellsAt hp0
      have q1 := hrow'.cellsAt hp1
      have hle1 := looseOf_take_le M.loose n (i + 1)
      have hst := looseOf_take M.loose n i p hp
      have HST := Lib.hid hst
      have hx : decide (i < m) = true := decide_eq_true hlt
      by_cases hpn : p.1 = n
      · have hx2 : (p.1 == n) = true := by simpa using hpn
        rw [if_pos hpn] at hst
        have hle2 : DiskM.looseOf (M.loose.take i) n + p.2 ≤ 1048576 := by omega
        have HPN := Lib.hid hpn
        clear hst hp0 hp1 hp hcs hcell hpn
        go_wp2_with fail
        go_roundw
        case rel => exact ⟨i + 1, by go_num, hlt, by rw [HST.out, if_pos HPN.out]; go_num, hk.alloc _⟩
        case measure => simp [intOf]; omega
      · have hx2 : (p.1 == n) = false := by simpa using hpn
        have HPN := Lib.hid hpn
        clear hst hp0 hp1 hp hcs hcell hpn
        go_wp2_with fail
        go_roundw
        case rel => exact ⟨i + 1, by go_num, hlt, by rw [HST.out, if_neg HPN.out]; go_num, hk.alloc _⟩
        case measure => simp [intOf]; omega
    · have hx : decide (i < m) = false := by simp; omega
      have : i = m := by omega
      subst this
      have hall : M.loose.take i = M.loose := List.take_of_length_le (by omega)
      clear hcell
      go_wp2_with fail
      go_ret
      exact ⟨ret_int (by rw [hall]), hk⟩

/-- One of the loose pieces has another size. -/
theorem pcells_set (l : List (Int × Nat)) (i : Nat) (p : Int × Nat) (s : Nat) (h : l[i]? = some p) : (pcells l).set (i * 2 + 1) (.int .i64 (s : Int)) = pcells (l.set i (p.1, s)) := by
  induction l generalizing i with
  | nil => simp at h
  | cons a r ih =>
    have e : ∀ a r, pcells (a :: r) = [.int .i64 a.1, .int .i64 (a.2 : Int)] ++ pcells r := fun a r => by simp [pcells]
    cases i with
    | zero => simp at h; subst h; simp [pcells]
    | succ i =>
      have := ih i (by simpa using h)
      rw [List.set_cons_succ, e, e, ← this, List.set_append_right _ _ (by simp; omega)]
      congr 2
      simp; omega
theorem Row.setAt {w : World} {e : TypeId} {size g n cap : Nat} {xs : List Value} (h : Row w e size (.slice (some ⟨g, 0, none⟩) n cap) xs) {j : Nat} (hj : j < xs.length) (u : Value) : Row (w.setCell ⟨g, j, none⟩ u) e size (.slice (some ⟨g, 0, none⟩) n cap) (xs.set j u) := by
  rcases h with ⟨h, _⟩ | ⟨g', n', cap', rest, hv, h1, hb, h2, h3, h4⟩
  · cases h
  · simp only [Value.slice.injEq, Option.some.injEq, Addr.mk.injEq, and_true] at hv
    obtain ⟨rfl, rfl, rfl⟩ := hv
    refine Or.inr ⟨g, n, cap, rest, rfl, by rw [List.length_set]; exact h1, ?_, h2, by rw [List.length_set]; exact h3, h4⟩
    have := hb.set j u
    rwa [List.set_append_left _ _ hj] at this
theorem DiskRaw.setPiece {w : World} {mb g m cap : Nat} {fs : List (Int × Value)} (h : DiskRaw w d fp M mb (.slice (some ⟨g, 0, none⟩) m cap) fs) {i : Nat} {p : Int × Nat} (hp : M.loose[i]? = some p) (s : Nat) :
    DiskRaw (w.setCell ⟨g, i * 2 + 1, none⟩ (.int .i64 (s : Int))) d fp { M with loose := M.loose.set i (p.1, s) } mb (.slice (some ⟨g, 0, none⟩) m cap) fs := by
  have hown : (Value.slice (some ⟨g, 0, none⟩) m cap).ownBlock = some g := rfl
  have hi := (List.getElem?_eq_some_iff.1 hp).1
  refine ⟨h.head.other (fun e => h.loose.ne_blk hown h.head (by decide) e) _, h.map.other (fun e => h.map.ne_row h.loose hown e) _, h.keys, fun n x b h1 h2 => (h.rows n x b h1 h2).other (fun e => ?_) _, h.apart, ?_, h.fpd, h.fpm, h.fpl, h.fpf⟩
  · obtain ⟨c, hc⟩ := h.loose.blk hown
    exact (h.rows n x b h1 h2).ne_blk e hc (by decide) rfl
  · have := h.loose.setAt (j := i * 2 + 1) (by rw [pcells_len]; omega) (.int .i64 (s : Int))
    rwa [pcells_set M.loose i p s hp] at this

set_option maxRecDepth 100000 in
set_option maxHeartbeats 1000000 in
theorem drop_any (w : World) (n : Int) (stay : Nat) (n0 : -9223372036854775808 ≤ n ∧ n ≤ 9223372036854775807) (hs : stay ≤ 9223372036854775807) (hd : IsDisk w d fp M) :
    Calls Try.prog 95 #[.pointer (some ⟨d, 0, none⟩), .int .i64 n, .int .i64 (stay : Int)] w fun e w' => e = .returned (.tuple #[]) ∧ IsDisk w' d fp { M with loose := DiskM.dropL n M.loose stay } ∧ Kept fp w w' := by
  obtain ⟨mb, lv, fs, h⟩ := hd
  have c1 := h.head.cell (i := 1) rfl
  have hrow := h.loose
  have hcap := DiskM.loose_le h.ok
  have hcap1 := h.ok.cap1
  obtain ⟨a, m, cap, rfl, hm, hml, hcell⟩ := hrow.form (by omega)
  rw [pcells_len] at hm
  have hml' : maxLen = 9223372036854775807 := rfl
  have hlen : M.loose.length = m := by omega
  have hokF : ({ M with loose := DiskM.dropL n M.loose stay } : DiskM).Ok := by
    refine ⟨h.ok.rise, h.ok.keys, h.ok.cap0, h.ok.cap1, h.ok.room, fun k => ?_, fun p hp => ?_, h.ok.left1, h.ok.left2, ?_, h.ok.keepk⟩
    · have := h.ok.lo k
      show DiskM.looseOf (DiskM.dropL n M.loose stay) k ≤ ((AM.get M.files k).getD []).length
      by_cases e : k = n
      · subst e; rw [looseOf_dropL]; omega
      · rw [looseOf_dropL_other e]; exact this
    · obtain ⟨q, h1, h2⟩ := dropL_mem hp
      rw [← h2]; exact h.ok.loks q h1
    · show M.files.length + (DiskM.dropL n M.loose stay).length ≤ _
      rw [dropL_len]; exact h.ok.count
  have HOK := Lib.hid hokF
  clear hm hokF
  have hraw := h.toDiskRaw
  have HC := Lib.hid hcell
  clear hcell
  go_enter Try.func95, Try.ntmps95
  go_wp2
  go_loopw [2, 13] (fun x y wr => ∃ i : Nat, y = .int .i64 i ∧ i ≤ m ∧ x = .int .i64 ((stay - DiskM.looseOf (M.loose.take i) n : Nat) : Int) ∧ DiskRaw wr d fp { M with loose := dropTo n M.loose stay i } mb (.slice a m cap) fs ∧ Kept fp w wr) (fun _ y _ => m - (intOf y).toNat)
  case atStart => exact ⟨0, rfl, Nat.zero_le _, by simp [DiskM.looseOf], by rw [dropTo_zero]; exact hraw, Kept.refl _ _⟩
  case round =>
    obtain ⟨i, rfl, hi, rfl, hr, hk⟩ := hrel
    have c1 := hr.head.cell (i := 1) rfl
    by_cases hlt : i < m
    · obtain ⟨g, rfl, hown, hcs⟩ := HC.out (by omega)
      obtain ⟨p, hp⟩ : ∃ p, M.loose[i]? = some p := ⟨M.loose[i], List.getElem?_eq_getElem (by omega)⟩
      have hp' := dropTo_get n M.loose stay i p hp
      obtain ⟨hp0, hp1⟩ := pcells_get _ i p hp'
      have q0 := hr.loose.cellsAt hp0
      have q1 := hr.loose.cellsAt hp1
      have q2 : wr.frozen? ⟨g, i * 2 + 1, none⟩ = false := hr.loose.free hown _
      have hx : decide (i < m) = true := decide_eq_true hlt
      have hpc : (p.2 : Int) ≤ 1048576 := by have := hcap p (List.mem_of_getElem? hp); omega
      have hst := looseOf_take M.loose n i p hp
      have HST := Lib.hid hst
      by_cases hpn : p.1 = n
      · have hx2 : (p.1 == n) = true := by simpa using hpn
        have hset := hr.setPiece hp' (min p.2 (stay - DiskM.looseOf (M.loose.take i) n))
        have HS := Lib.hid (dropTo_succ_same n M.loose stay i p hp hpn)
        have HPN := Lib.hid hpn
        have hq0 : stay - DiskM.looseOf (M.loose.take i) n ≤ 9223372036854775807 := by omega
        clear hst hp0 hp1 hp hp' hcs hpn
        generalize hq : stay - DiskM.looseOf (M.loose.take i) n = q at hset hq0 HS ⊢
        have HQ := Lib.hid hq
        clear hq
        by_cases hm : q < p.2
        · have hm2 : decide (q < p.2) = true := decide_eq_true hm
          rw [Nat.min_eq_right (Nat.le_of_lt hm)] at hset HS
          go_wp2_with fail
          go_roundw
          case rel =>
            refine ⟨i + 1, by go_num, hlt, ?_, ?_, ?_⟩
            · rw [HST.out, if_pos HPN.out]; have := HQ.out; congr 1; omega
            · rw [HS.out]; exact hset
            · exact hk.setCell (fun _ => hr.fpl g rfl) _
          case measure => simp [intOf]; omega
        · have hm2 : decide (q < p.2) = false := by simpa using hm
          rw [Nat.min_eq_left (Nat.le_of_not_lt hm)] at hset HS
          go_wp2_with fail
          go_roundw
          case rel =>
            refine ⟨i + 1, by go_num, hlt, ?_, ?_, ?_⟩
            · rw [HST.out, if_pos HPN.out]; have := HQ.out; congr 1; omega
            · rw [HS.out]; exact hset
            · exact hk.setCell (fun _ => hr.fpl g rfl) _
          case measure => simp [intOf]; omega
      · have hx2 : (p.1 == n) = false := by simpa using hpn
        have HS := Lib.hid (dropTo_succ_other n M.loose stay i p hp hpn)
        have HPN := Lib.hid hpn
        clear hst hp0 hp1 hp hp' hcs hpn
        go_wp2_with fail
        go_roundw
        case rel => exact ⟨i + 1, by go_num, hlt, by rw [HST.out, if_neg HPN.out]; go_num, by rw [HS.out]; exact hr, hk⟩
        case measure => simp [intOf]; omega
    · have hx : decide (i < m) = false := by simp; omega
      have : i = m := by omega
      subst this
      go_wp2_with fail
      go_end0
      rw [dropTo_all n M.loose stay i (by omega)] at hr
      exact ⟨rfl, ⟨mb, _, fs, hr, HOK.out⟩, hk⟩
end
end Go.Proofs.Ytahiimcdmojngaa
