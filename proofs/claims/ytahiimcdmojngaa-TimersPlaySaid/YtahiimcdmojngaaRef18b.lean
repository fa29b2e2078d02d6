/- Timers: the document's answers (Clear, Set, Due), and same. -/
import Derived.Test.YtahiimcdmojngaaRef18
import Derived.Test.YtahiimcdmojngaaOpen
import Derived.Deep.Upon
namespace Go.Proofs.Ytahiimcdmojngaa
open Go.RowKit

theorem info136 : (Try.prog.info? 136).map (fun i => (i.zero, i.size, i.bytes)) = some (some (.agg #[.int .i64 0, .int .i64 0, .int .i64 0]), 3, 24) := by kernel_rfl
theorem info84 : (Try.prog.info? 84).map (fun i => (i.zero, i.size, i.bytes)) = some (some (.agg #[.int .i64 0, .int .i64 0]), 2, 16) := by kernel_rfl
/-- One timer more. -/
theorem timAppend {w : World} {v : Value} {L : Tim} (p : (Int × Int) × Int) (hL : L.length < 1000000) (hrow : Row w 136 3 v (tcells L)) :
    ∃ sa n cap w3, (Builtin.append_ #[92, 92] 92 #[v, .slice (some ⟨w.heap.size, 0, none⟩) 1 1]).run Try.prog (w.alloc (.cells #[.int .i64 p.1.1, .int .i64 p.1.2, .int .i64 p.2] 136)) = .ok (.slice sa n cap) w3 ∧
      Row w3 136 3 (.slice sa n cap) (tcells (L ++ [p])) ∧ Kept (fun x => v.ownBlock = some x) w w3 ∧ ∀ k, (Value.slice sa n cap).ownBlock = some k → v.ownBlock = some k ∨ w.heap.size ≤ k := by
  obtain ⟨i0, hi, hz0, hz1, hz2⟩ := info_parts info136
  have hnew := Blk.new w [.int .i64 p.1.1, .int .i64 p.1.2, .int .i64 p.2] 136
  have hal : Kept (fun _ => False) w (w.alloc (.cells #[.int .i64 p.1.1, .int .i64 p.1.2, .int .i64 p.2] 136)) := (Kept.refl _ _).alloc _
  have hkl : (tcells L).length = L.length * 3 := tcells_len L
  obtain ⟨v', w3, hrun, hrow3, hk3, hf3⟩ := Row.append_cells (P := Try.prog) (t := 92) (hrow.kept hal (fun _ _ => id)) Try.underlying92 hi hz0 hz1 rfl (by decide) (by rw [hz2]; decide) ⟨w.heap.size, 0, none⟩ 1 1 [.int .i64 p.1.1, .int .i64 p.1.2, .int .i64 p.2] rfl
    (fun j u hu => by rw [addr0_add]; exact hnew.cell hu) (fun u hu => by simp at hu; rcases hu with rfl | rfl | rfl <;> rfl) (by decide) (by simp; omega) 92
  obtain ⟨sa, n, cap, rfl, _⟩ := hrow3.form (by omega)
  refine ⟨sa, n, cap, w3, hrun, ?_, (hal.mono (fun _ _ => False.elim)).trans hk3, fun k hk => (hf3 k hk).imp id (fun q => by have := hal.size; omega)⟩
  rw [tcells_append]
  exact hrow3

theorem del_take {r : Tim} {k : Int × Int} {i : Nat} {p : (Int × Int) × Int} (hp : r[i]? = some p) : PM.del (r.take (i + 1)) k = if p.1 = k then PM.del (r.take i) k else PM.del (r.take i) k ++ [p] := by
  unfold PM.del
  rw [List.take_add_one, hp, List.filter_append]
  by_cases e : p.1 = k <;> simp [List.filter_cons, e]

def ClearR (w : World) (v0 : Value) (r : Tim) (k : Int × Int) (v : Value) (i : Nat) (wr : World) : Prop :=
  Row wr 136 3 v (tcells (PM.del (r.take i) k)) ∧ (∀ x, v.ownBlock = some x → w.heap.size ≤ x) ∧ Blk wr w.heap.size [.int .i64 k.1, .int .i64 k.2] 84 ∧ Kept (fun _ => False) w wr
theorem ClearR.step {w wr w' : World} {v0 v : Value} {r : Tim} {k : Int × Int} {i : Nat} {p : (Int × Int) × Int} (h : ClearR w v0 r k v i wr) (hp : r[i]? = some p) (hpk : p.1 = k) (hk : Kept (fun _ => False) wr w') : ClearR w v0 r k v (i + 1) w' := by
  obtain ⟨h1, h2, h3, h4⟩ := h
  refine ⟨?_, h2, h3.kept hk id, h4.trans hk⟩
  rw [del_take hp, if_pos hpk]
  exact h1.kept hk (fun _ _ => id)
theorem ClearR.drewN {w wr : World} {v0 v : Value} {r : Tim} {k : Int × Int} {i : Nat} (h : ClearR w v0 r k v i wr) (n : Nat) : ClearR w v0 r k v i (wr.drewN n) := ⟨h.1.drewN n, h.2.1, h.2.2.1.drewN n, h.2.2.2.drewN n⟩
theorem ClearR.app {w wr : World} {v0 v : Value} {r : Tim} {k : Int × Int} {i : Nat} {p : (Int × Int) × Int} (hr : r.length < 1000000) (h : ClearR w v0 r k v i wr) (hp : r[i]? = some p) (hpk : p.1 ≠ k) :
    ∃ sa n cap w3, (Builtin.append_ #[92, 92] 92 #[v, .slice (some ⟨wr.heap.size, 0, none⟩) 1 1]).run Try.prog (wr.alloc (.cells #[.int .i64 p.1.1, .int .i64 p.1.2, .int .i64 p.2] 136)) = .ok (.slice sa n cap) w3 ∧ ClearR w v0 r k (.slice sa n cap) (i + 1) w3 := by
  obtain ⟨h1, h2, h3, h4⟩ := h
  have hl : (PM.del (r.take i) k).length < 1000000 := by
    have q1 := List.length_filter_le (fun p : (Int × Int) × Int => !decide (p.1 = k)) (r.take i)
    have q2 := List.length_take_le i r
    have q3 : (r.take i).length ≤ r.length := by rw [List.length_take]; omega
    unfold PM.del; omega
  obtain ⟨sa, n, cap, w3, hrun, g1, g2, g3⟩ := timAppend p hl h1
  refine ⟨sa, n, cap, w3, hrun, ?_, fun x hx => (g3 x hx).elim (h2 x) (fun q => by have := h4.size; omega), h3.kept g2 (fun e => h1.ne_blk e h3 (by decide) rfl), h4.then_ g2 (fun x hx e => by have := h2 x e; omega)⟩
  rw [del_take hp, if_neg hpk]
  exact g1
/-- A new list of timers. -/
def NewTims (w : World) (r : Tim) (e : Ending) (w' : World) : Prop := ∃ sa n cap, e = .returned (.slice sa n cap) ∧ Row w' 136 3 (.slice sa n cap) (tcells r) ∧ (∀ x, (Value.slice sa n cap).ownBlock = some x → w.heap.size ≤ x) ∧ Kept (fun _ => False) w w'

set_option maxRecDepth 100000 in
set_option maxHeartbeats 1000000 in
theorem ref_clear (w : World) (v : Value) (r : Tim) (k : Int × Int) (hr : r.length < 1000000) (h : View w 3 v (tcells r)) :
    Calls Try.prog 61 #[v, .agg #[.int .i64 k.1, .int .i64 k.2]] w (NewTims w (PM.del r k)) := by
  obtain ⟨a, n, cap, rfl, hn, hcap, hml, _⟩ := h.tim
  have hml' : maxLen = 9223372036854775807 := rfl
  have HN := Lib.hid hn
  have hn1 : n < 1000000 := by omega
  clear hn
  go_enter Try.func61, Try.ntmps61
  go_wp2_with fail
  go_loopw [5, 6] (fun z y wr => ∃ (i : Nat) (sa : Option Addr) (sn scap : Nat), z = .slice sa sn scap ∧ y = .int .i64 (i : Int) ∧ i ≤ n ∧ ClearR w (.slice a n cap) r k (.slice sa sn scap) i wr) (fun _ y _ => n - (intOf y).toNat)
  case atStart => exact ⟨0, _, _, _, rfl, rfl, Nat.zero_le _, Row.nil _ _ _, (fun x hx => by simp [Value.ownBlock] at hx), Blk.new _ _ _, (Kept.refl _ _).alloc _⟩
  case round =>
    obtain ⟨i, sa, sn, scap, rfl, rfl, hi, hC⟩ := hrel
    by_cases hlt : i < n
    · have x : decide (i < n) = true := decide_eq_true hlt
      obtain ⟨p, hp⟩ : ∃ p, r[i]? = some p := ⟨r[i]'(by have := HN.out; omega), List.getElem?_eq_getElem (by have := HN.out; omega)⟩
      have hq := Lib.hid (h.same (hC.2.2.2.drew) (by omega))
      obtain ⟨a', n', cap', hv, -, -, -, hcells⟩ := (h.same hC.2.2.2 (by omega)).tim
      cases hv
      obtain ⟨g, off, rfl, hg, q0, q1, q2⟩ := hcells i p hp
      have b0 := hC.2.2.1.cell (i := 0) rfl
      have b1 := hC.2.2.1.cell (i := 1) rfl
      have heq := fun w => neq_pair p.1.1 p.1.2 k.1 k.2 w
      rw [pair_dec] at heq
      clear hcells
      by_cases hpk : p.1 = k
      · rw [decide_eq_true hpk] at heq
        have HC := Lib.hid hC
        have HP := Lib.hid (And.intro hp hpk)
        clear hC hp hpk
        go_wp2_with fail
        go_quiet (fail)
        go_wp2_with fail
        go_roundw
        case rel => exact ⟨i + 1, _, _, _, rfl, by go_num, hlt, HC.out.step HP.out.1 HP.out.2 ((Kept.refl _ _).drewN _)⟩
        case measure => simp [intOf]; omega
      · rw [decide_eq_false hpk] at heq
        have HC := Lib.hid hC
        have HP := Lib.hid (And.intro hp hpk)
        clear hC hp hpk
        go_wp2_with fail
        go_quiet (fail)
        obtain ⟨sb, m, cb, w3, hap, hC3⟩ := (HC.out.drewN nq).app hr HP.out.1 HP.out.2
        have HD := Lib.hid hC3
        clear hC3 HC
        go_wp2_with (at_builtin; refine Lib.wpList_append_run _ rfl _ _ 92 92 rfl _ _ rfl rfl _ _ hap ?_)
        go_roundw
        case rel => exact ⟨i + 1, _, _, _, rfl, by go_num, hlt, HD.out⟩
        case measure => simp [intOf]; omega
    · have x : decide (i < n) = false := by simp; omega
      have he : Row wr 136 3 (.slice sa sn scap) (tcells (PM.del r k)) ∧ (∀ x, (Value.slice sa sn scap).ownBlock = some x → w.heap.size ≤ x) ∧ Kept (fun _ => False) w wr := by
        have := HN.out
        have h1 := hC.1
        rw [List.take_of_length_le (by omega)] at h1
        exact ⟨h1, hC.2.1, hC.2.2.2⟩
      have HE := Lib.hid he
      clear he hC
      go_wp2_with fail
      go_ret
      exact ⟨_, _, _, rfl, HE.out.1, HE.out.2.1, HE.out.2.2⟩

/-- Where a timer is set: behind those that are told ahead of it. -/
def setR (r : Tim) (k : Int × Int) (at' : Int) : Tim := (PM.del r k).takeWhile (fun p => aheadB p (k, at')) ++ (k, at') :: (PM.del r k).dropWhile (fun p => aheadB p (k, at'))
theorem takeWhile_at {l : Tim} {f : (Int × Int) × Int → Bool} {i : Nat} (h1 : ∀ j p, j < i → l[j]? = some p → f p = true) (h2 : ∀ p, l[i]? = some p → f p = false) (hi : i ≤ l.length) : l.takeWhile f = l.take i ∧ l.dropWhile f = l.drop i := by
  induction l generalizing i with
  | nil => simp
  | cons a l ih =>
    cases i with
    | zero =>
      have := h2 a rfl
      simp [List.takeWhile_cons, List.dropWhile_cons, this]
    | succ i =>
      have h0 := h1 0 a (by omega) rfl
      obtain ⟨g1, g2⟩ := ih (i := i) (fun j p hj hp => h1 (j + 1) p (by omega) (by simpa using hp)) (fun p hp => h2 p (by simpa using hp)) (by simpa using hi)
      simp [List.takeWhile_cons, List.dropWhile_cons, h0, g1, g2]
/-- 'append(l, m...)' of timers. -/
theorem timAppendAll {w : World} {v u : Value} {L M : Tim} (hL : L.length + M.length < 1000000) (hrow : Row w 136 3 v (tcells L)) (hview : View w 3 u (tcells M)) :
    ∃ sa n cap w3, (Builtin.append_ #[92, 92] 92 #[v, u]).run Try.prog w = .ok (.slice sa n cap) w3 ∧
      Row w3 136 3 (.slice sa n cap) (tcells (L ++ M)) ∧ Kept (fun x => v.ownBlock = some x) w w3 ∧ ∀ k, (Value.slice sa n cap).ownBlock = some k → v.ownBlock = some k ∨ w.heap.size ≤ k := by
  obtain ⟨i0, hi, hz0, hz1, hz2⟩ := info_parts info136
  have hkl : (tcells L).length = L.length * 3 := tcells_len L
  have hkm : (tcells M).length = M.length * 3 := tcells_len M
  obtain ⟨a, m, c, rfl, h1, h2, h3, h4, h5⟩ := hview
  by_cases hm : 0 < m
  · obtain ⟨g, off, rfl, hg, hc⟩ := h5 hm
    obtain ⟨v', w3, hrun, hrow3, hk3, hf3⟩ := Row.append_cells (P := Try.prog) (t := 92) hrow Try.underlying92 hi hz0 hz1 rfl (by decide) (by rw [hz2]; decide) ⟨g, off, none⟩ m c (tcells M) h1.symm
      (fun j u hu => by rw [addr_add _ rfl]; exact hc j u hu) (fun u hu => by
        unfold tcells at hu
        simp only [List.mem_flatMap, List.mem_cons, List.not_mem_nil, or_false] at hu
        obtain ⟨p, _, rfl | rfl | rfl⟩ := hu <;> rfl) hm (by omega) 92
    obtain ⟨sa, n, cap, rfl, _⟩ := hrow3.form (by omega)
    refine ⟨sa, n, cap, w3, hrun, ?_, hk3, hf3⟩
    rw [tcells_append]
    exact hrow3
  · have hm0 : m = 0 := by omega
    subst hm0
    have hM : M = [] := List.eq_nil_of_length_eq_zero (by omega)
    subst hM
    obtain ⟨sa, n, cap, rfl, _⟩ := hrow.form (by omega)
    have hle : n ≤ cap := by
      rcases hrow with ⟨q, _⟩ | ⟨g, n', cap', rest, hv, _, _, q, _⟩
      · cases q; omega
      · simp only [Value.slice.injEq] at hv; omega
    have hsrc : Src Try.prog i0.size 92 (.slice a 0 c) 0 [] w := by
      cases a with
      | none => exact Src.ofNil w Try.underlying92 c
      | some a => exact Src.ofSlice w Try.underlying92 a 0 c [] (by simp) (fun j u hu => by simp at hu) (fun u hu => by simp at hu)
    have hrun := run_append_nothing (P := Try.prog) w 92 92 92 136 i0 Try.underlying92 hi sa n cap hle _ hsrc
    refine ⟨sa, n, cap, w, hrun, by rw [List.append_nil]; exact hrow, Kept.refl _ _, fun k hk => Or.inl hk⟩
end Go.Proofs.Ytahiimcdmojngaa
