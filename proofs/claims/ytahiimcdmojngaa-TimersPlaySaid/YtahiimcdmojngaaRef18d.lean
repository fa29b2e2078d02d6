/- Timers: the document's answer of Due; same. -/
import Derived.Test.YtahiimcdmojngaaRef18c
namespace Go.Proofs.Ytahiimcdmojngaa
open Go.RowKit

/-- One key more. -/
theorem keyAppend {w : World} {v : Value} {L : List (Int × Int)} (p : Int × Int) (hL : L.length < 1000000) (hrow : Row w 84 2 v (kcells L)) :
    ∃ sa n cap w3, (Builtin.append_ #[97, 97] 97 #[v, .slice (some ⟨w.heap.size, 0, none⟩) 1 1]).run Try.prog (w.alloc (.cells #[.int .i64 p.1, .int .i64 p.2] 84)) = .ok (.slice sa n cap) w3 ∧
      Row w3 84 2 (.slice sa n cap) (kcells (L ++ [p])) ∧ Kept (fun x => v.ownBlock = some x) w w3 ∧ ∀ k, (Value.slice sa n cap).ownBlock = some k → v.ownBlock = some k ∨ w.heap.size ≤ k := by
  obtain ⟨i0, hi, hz0, hz1, hz2⟩ := info_parts info84
  have hnew := Blk.new w [.int .i64 p.1, .int .i64 p.2] 84
  have hal : Kept (fun _ => False) w (w.alloc (.cells #[.int .i64 p.1, .int .i64 p.2] 84)) := (Kept.refl _ _).alloc _
  have hkl : (kcells L).length = L.length * 2 := kcells_len L
  obtain ⟨v', w3, hrun, hrow3, hk3, hf3⟩ := Row.append_cells (P := Try.prog) (t := 97) (hrow.kept hal (fun _ _ => id)) Try.underlying97 hi hz0 hz1 rfl (by decide) (by rw [hz2]; decide) ⟨w.heap.size, 0, none⟩ 1 1 [.int .i64 p.1, .int .i64 p.2] rfl
    (fun j u hu => by rw [addr0_add]; exact hnew.cell hu) (fun u hu => by simp at hu; rcases hu with rfl | rfl <;> rfl) (by decide) (by simp; omega) 97
  obtain ⟨sa, n, cap, rfl, _⟩ := hrow3.form (by omega)
  refine ⟨sa, n, cap, w3, hrun, ?_, (hal.mono (fun _ _ => False.elim)).trans hk3, fun k hk => (hf3 k hk).imp id (fun q => by have := hal.size; omega)⟩
  rw [kcells_append]
  exact hrow3

def slen : Value → Nat
  | .slice _ n _ => n
  | _ => 0
def DueRefR (w : World) (r : Tim) (now : Int) (l out : Value) (i : Nat) (wr : World) : Prop :=
  View wr 3 l (tcells (r.drop i)) ∧ Row wr 84 2 out (kcells ((r.take i).map (·.1))) ∧ (∀ x, out.ownBlock = some x → w.heap.size ≤ x) ∧ (∀ j p, j < i → r[j]? = some p → p.2 ≤ now) ∧ i ≤ r.length ∧ Kept (fun _ => False) w wr ∧ (∀ x, l.ownBlock = some x → x < w.heap.size)
/-- What the document's Due gives. -/
def DueRef (w : World) (r : Tim) (now : Int) (e : Ending) (w' : World) : Prop :=
  ∃ ua un uc la ln lc, e = .returned (.tuple #[.slice ua un uc, .slice la ln lc]) ∧ View w' 2 (.slice ua un uc) (kcells ((r.takeWhile fun p => decide (p.2 ≤ now)).map (·.1))) ∧ View w' 3 (.slice la ln lc) (tcells (r.dropWhile fun p => decide (p.2 ≤ now))) ∧ (∀ x, (Value.slice la ln lc).ownBlock = some x → x < w.heap.size) ∧ Kept (fun _ => False) w w'
theorem DueRefR.done {w wr : World} {r : Tim} {now : Int} {ua la : Option Addr} {un uc ln lc i : Nat} (h : DueRefR w r now (.slice la ln lc) (.slice ua un uc) i wr) (hi : ∀ p, r[i]? = some p → ¬ p.2 ≤ now) : DueRef w r now (.returned (.tuple #[.slice ua un uc, .slice la ln lc])) wr := by
  obtain ⟨h1, h2, h3, h4, h5, h6, h7⟩ := h
  obtain ⟨e1, e2⟩ := takeWhile_at (l := r) (f := fun p => decide (p.2 ≤ now)) (i := i) (fun j p hj hp => by simpa using h4 j p hj hp) (fun p hp => by simpa using hi p hp) h5
  refine ⟨ua, un, uc, la, ln, lc, rfl, ?_, ?_, h7, h6⟩
  · rw [e1]; exact h2.view
  · rw [e2]; exact h1

theorem DueRefR.take {w wr : World} {r : Tim} {now : Int} {ua : Option Addr} {un uc ln lc i g off : Nat} {p : (Int × Int) × Int} (hr : r.length < 1000000) (h : DueRefR w r now (.slice (some ⟨g, off, none⟩) ln lc) (.slice ua un uc) i wr) (hp : r[i]? = some p) (hpn : p.2 ≤ now) :
    ∃ sa sn sc w3, (Builtin.append_ #[97, 97] 97 #[.slice ua un uc, .slice (some ⟨wr.heap.size, 0, none⟩) 1 1]).run Try.prog (wr.alloc (.cells #[.int .i64 p.1.1, .int .i64 p.1.2] 84)).drew = .ok (.slice sa sn sc) w3 ∧
      DueRefR w r now (.slice (if lc = 1 then some ⟨g, off, none⟩ else (some ⟨g, off, none⟩ : Option Addr).map (·.add (1 * 3))) (ln - 1) (lc - 1)) (.slice sa sn sc) (i + 1) w3 ∧
      (wr.alloc (.cells #[.int .i64 p.1.1, .int .i64 p.1.2] 84)).drew.cell? ⟨g, off, none⟩ = some (.int .i64 p.1.1) ∧ (wr.alloc (.cells #[.int .i64 p.1.1, .int .i64 p.1.2] 84)).drew.cell? ⟨g, off + 1, none⟩ = some (.int .i64 p.1.2) ∧
      w3.cell? ⟨g, off, none⟩ = some (.int .i64 p.1.1) ∧ w3.cell? ⟨g, off + 1, none⟩ = some (.int .i64 p.1.2) := by
  obtain ⟨h1, h2, h3, h4, h5, h6, h7⟩ := h
  have hil := (List.getElem?_eq_some_iff.1 hp).1
  obtain ⟨sa, sn, sc, w3, hrun, g1, g2, g3⟩ := keyAppend p.1 (w := wr.drew) (by rw [List.length_map, List.length_take]; omega) h2.drew
  have hk3 : Kept (fun _ => False) w w3 := h6.then_ (((Kept.refl (fun x => (Value.slice ua un uc).ownBlock = some x) wr).drew).trans g2) (fun x hx e => by have := h3 x e; omega)
  have hrow := h2
  have hg : g < w.heap.size := h7 g rfl
  have hv3 : View w3 3 (.slice (some ⟨g, off, none⟩) ln lc) (tcells (r.drop i)) := h1.kept (((Kept.refl (fun x => (Value.slice ua un uc).ownBlock = some x) wr).drew).trans g2) (fun x c t f _ hx e => by have e1 := h3 x e; have e2 := h7 x hx; omega) (by omega)
  have hd0 : (r.drop i)[0]? = some p := by rw [List.getElem?_drop]; simpa using hp
  have hln : ln = r.length - i := by
    obtain ⟨_, _, _, hv, q, _⟩ := h1.tim
    cases hv
    rw [List.length_drop] at q; exact q
  have cells : ∀ {W : World}, View W 3 (.slice (some ⟨g, off, none⟩) ln lc) (tcells (r.drop i)) → W.cell? ⟨g, off, none⟩ = some (.int .i64 p.1.1) ∧ W.cell? ⟨g, off + 1, none⟩ = some (.int .i64 p.1.2) := by
    intro W hW
    obtain ⟨_, _, _, hv, _, _, _, hc⟩ := hW.tim
    cases hv
    obtain ⟨g', off', e, _, q0, q1, _⟩ := hc 0 p hd0
    cases e
    rw [Nat.zero_mul, Nat.add_zero] at q0 q1
    exact ⟨q0, q1⟩
  have hva : View (wr.alloc (.cells #[.int .i64 p.1.1, .int .i64 p.1.2] 84)).drew 3 (.slice (some ⟨g, off, none⟩) ln lc) (tcells (r.drop i)) := h1.same (((Kept.refl _ _).alloc _).drew) (by omega)
  refine ⟨sa, sn, sc, w3, hrun, ⟨?_, ?_, fun x hx => ?_, fun j q hj hq => ?_, hil, hk3, fun x hx => ?_⟩, (cells hva).1, (cells hva).2, (cells hv3).1, (cells hv3).2⟩
  · have := hv3.tail 1 (by omega)
    have e : (tcells (r.drop i)).drop (1 * 3) = tcells (r.drop (i + 1)) := by
      rw [List.drop_eq_getElem_cons hil]
      rfl
    rw [e] at this
    exact this
  · rw [List.take_add_one, hp, List.map_append]
    exact g1
  · rcases g3 x hx with q | q
    · exact h3 x q
    · have := h6.size
      have e : wr.drew.heap.size = wr.heap.size := rfl
      omega
  · by_cases e : j = i
    · subst e; rw [hp] at hq; cases hq; exact hpn
    · exact h4 j q (by omega) hq
  · have : x = g := by
      have add' : (⟨g, off, none⟩ : Addr).add (1 * 3) = ⟨g, off + 3, none⟩ := by unfold Addr.add; split <;> simp_all
      by_cases e : lc = 1
      · simp [Value.ownBlock, e] at hx; exact hx.symm
      · simp [Value.ownBlock, e, Addr.add] at hx; exact hx.symm
    omega

set_option maxRecDepth 100000 in
set_option maxHeartbeats 1000000 in
theorem ref_due (w : World) (v : Value) (r : Tim) (now : Int) (hr : r.length < 1000000) (h : View w 3 v (tcells r)) (hlow : ∀ x, v.ownBlock = some x → x < w.heap.size) :
    Calls Try.prog 62 #[v, .int .i64 now] w (DueRef w r now) := by
  obtain ⟨a, n, cap, rfl, hn, hcap, hml, _⟩ := h.tim
  have hml' : maxLen = 9223372036854775807 := rfl
  have hstart : DueRefR w r now (.slice a n cap) (.slice none 0 0) 0 w := ⟨by simpa using h, (by rw [List.take_zero]; exact Row.nil _ _ _), (fun x hx => by simp [Value.ownBlock] at hx), (fun j p hj => by omega), Nat.zero_le _, Kept.refl _ _, hlow⟩
  have HS := Lib.hid hstart
  clear hstart h hn hlow
  go_enter Try.func62, Try.ntmps62
  go_wp2_with fail
  go_loopw [0, 6] (fun x y wr => ∃ (i : Nat) (la : Option Addr) (ln lc : Nat) (ua : Option Addr) (un uc : Nat), x = .slice la ln lc ∧ y = .slice ua un uc ∧ DueRefR w r now (.slice la ln lc) (.slice ua un uc) i wr) (fun x _ _ => slen x)
  case atStart => exact ⟨0, _, _, _, _, _, _, rfl, rfl, HS.out⟩
  case round =>
    clear HS hcap hml
    obtain ⟨i, la, ln, lc, ua, un, uc, rfl, rfl, hD⟩ := hrel
    obtain ⟨_, _, _, hv, hln, hle, hlm, hcells⟩ := hD.1.tim
    cases hv
    rw [List.length_drop] at hln
    cases hp : r[i]? with
    | none =>
      have hl0 : ln = 0 := by have := List.getElem?_eq_none_iff.1 hp; omega
      subst hl0
      have HE := Lib.hid (hD.done (fun p q => by rw [hp] at q; cases q))
      clear hD hcells hp hln hle hlm
      go_wp2_with fail
      exact bodyPost_ret (v := .tuple #[.slice ua un uc, .slice la 0 lc]) (by simp [results, Try.results62, go_sem]) rfl HE.out
    | some p =>
      have hil := (List.getElem?_eq_some_iff.1 hp).1
      have hd0 : (r.drop i)[0]? = some p := by rw [List.getElem?_drop]; simpa using hp
      obtain ⟨g, off, rfl, hg, q0, q1, q2⟩ := hcells 0 p hd0
      rw [Nat.zero_mul, Nat.add_zero] at q0 q1 q2
      have hl1 : 0 < ln := by omega
      have x1 : decide (0 < ln) = true := decide_eq_true hl1
      have x2 : decide ((0 : Int) < (ln : Int)) = true := by simp; omega
      by_cases hpn : p.2 ≤ now
      · have x3 : decide (p.2 ≤ now) = true := decide_eq_true hpn
        have hz : ∀ w0, (Instr.slice 92 (.slice (some ⟨g, off, none⟩) ln lc) (some (.int .i64 1)) none none).run Try.prog w0 = .ok (.slice (if lc = 1 then some ⟨g, off, none⟩ else (some ⟨g, off, none⟩ : Option Addr).map (·.add (1 * 3))) (ln - 1) (lc - 1)) w0 := fun w0 => hD.1.run_tail (P := Try.prog) (t := 92) (by kernel_rfl) (fun _ => by kernel_rfl) 1 (by omega) w0
        obtain ⟨sa, sn, sc, w3, hap, hD3⟩ := hD.take hr hp hpn
        have s0 := hD3.2.1
        have s1 := hD3.2.2.1
        have t0 := hD3.2.2.2.1
        have t1 := hD3.2.2.2.2
        have HD := Lib.hid hD3.1
        generalize (if lc = 1 then some ⟨g, off, none⟩ else (some ⟨g, off, none⟩ : Option Addr).map (·.add (1 * 3))) = sx at hz HD
        clear hD3 hD hcells hp hln hd0
        go_wp2_with fail
        go_region_held3 (fun w' => w'.cell? ⟨g, off, none⟩ = some (.int .i64 p.1.1) ∧ w'.cell? ⟨g, off + 1, none⟩ = some (.int .i64 p.1.2)) (first | with_reducible exact ⟨q0, q1⟩ | exact ⟨s0, s1⟩ | exact ⟨t0, t1⟩ | exact ⟨q0, q1⟩) (first | ((with_reducible refine step_append_run' ?_ ?_ ?_ 97 97 ?_ _ _ ?_ ?_ _ _ hap ?_); exact rfl; rotate_left 2; exact rfl; exact rfl; exact rfl))
        go_wp2_with fail
        go_roundw
        case rel => exact ⟨i + 1, _, _, _, _, _, _, rfl, rfl, HD.out⟩
        case measure => simp [slen]; omega
      · have x3 : decide (p.2 ≤ now) = false := by simpa using hpn
        have HE := Lib.hid (hD.done (fun p' q => by rw [hp] at q; cases q; exact hpn))
        clear hD hcells hp hln hle hlm hd0 hpn
        go_wp2_with fail
        exact bodyPost_ret (v := .tuple #[.slice ua un uc, .slice (some ⟨g, off, none⟩) ln lc]) (by simp [results, Try.results62, go_sem]) rfl HE.out

set_option maxRecDepth 100000 in
set_option maxHeartbeats 1000000 in
theorem same_true (w : World) (u v : Value) (ks : List (Int × Int)) (hk : ks.length < 1000000) (hu : View w 2 u (kcells ks)) (hv : View w 2 v (kcells ks)) :
    Calls Try.prog 63 #[u, v] w fun e w' => e = .returned (.bool true) ∧ Kept (fun _ => False) w w' := by
  have hu' := hu
  have hv' := hv
  obtain ⟨a, n, cap, rfl, h1, h2, h3, _, -⟩ := hu
  obtain ⟨b, m, cb, rfl, g1, g2, g3, _, -⟩ := hv
  rw [kcells_len] at h1 g1
  have hnm : m = n := by omega
  subst hnm
  have hml : maxLen = 9223372036854775807 := rfl
  have HN : Hid (m = ks.length) := Lib.hid (by omega)
  have hm1 : m < 1000000 := by omega
  clear h1 g1
  go_enter Try.func63, Try.ntmps63
  go_wp2_with fail
  go_loopw [5] (fun y wr => ∃ i : Nat, y = .int .i64 (i : Int) ∧ i ≤ m ∧ Kept (fun _ => False) w wr) (fun y _ => m - (intOf y).toNat)
  case atStart => exact ⟨0, rfl, Nat.zero_le _, Kept.refl _ _⟩
  case round =>
    obtain ⟨i, rfl, hi, hk⟩ := hrel
    by_cases hlt : i < m
    · have x : decide (i < m) = true := decide_eq_true hlt
      obtain ⟨p, hp⟩ : ∃ p, ks[i]? = some p := ⟨ks[i]'(by have := HN.out; omega), List.getElem?_eq_getElem (by have := HN.out; omega)⟩
      obtain ⟨k0, k1⟩ := kcells_get ks i p hp
      obtain ⟨_, _, _, e1, _, _, _, _, hc1⟩ := hu'.same hk (by omega)
      cases e1
      obtain ⟨ga, oa, rfl, _, hc1⟩ := hc1 (by omega)
      obtain ⟨_, _, _, e2, _, _, _, _, hc2⟩ := hv'.same hk (by omega)
      cases e2
      obtain ⟨gb, ob, rfl, _, hc2⟩ := hc2 (by omega)
      have p0 := hc1 _ _ k0
      have p1 := hc1 _ _ k1
      have r0 := hc2 _ _ k0
      have r1 := hc2 _ _ k1
      rw [← Nat.add_assoc] at p1 r1
      have heq := fun w => neq_key p.1 p.2 p.1 p.2 w
      rw [pair_dec, decide_eq_true rfl] at heq
      clear hc1 hc2 k0 k1 hp
      go_wp2_with fail
      go_quiet (fail)
      go_wp2_with fail
      go_roundw
      case rel => exact ⟨i + 1, by go_num, hlt, hk.drewN _⟩
      case measure => simp [intOf]; omega
    · have x : decide (i < m) = false := by simp; omega
      go_wp2_with fail
      go_ret
      exact ⟨rfl, hk⟩

/-- A copy. -/
def CopyPost (T : Tim) (w : World) (e : Ending) (w' : World) : Prop := ∃ t mb, e = .returned (.pointer (some ⟨t, 0, none⟩)) ∧ IsTim w' t mb T ∧ w.heap.size ≤ t ∧ w.heap.size ≤ mb ∧ Kept (fun _ => False) w w'
theorem tim_copy {t mb : Nat} {T : Tim} (w : World) (h : IsTim w t mb T) : Calls Try.prog 64 #[.pointer (some ⟨t, 0, none⟩)] w (CopyPost T w) := by
  have c0 := h.head.cell (i := 0) rfl
  have hmap := h.map
  have hlt := h.map.lt
  obtain ⟨T0, p1, p2, p3, es, clock, hb, F, hs, hD⟩ := hmap
  have hcl := AnyW.maps_Clone Try.cloneTim mb es clock w hb
  change Calls Try.prog 93 _ _ _ at hcl
  have hnew : MapP Try.prog 85 (w.alloc (.map es clock)) w.heap.size T.length (tvals T) := ⟨T0, p1, p2, p3, es, clock, heap_alloc_new _ _, F, hs, hD⟩
  have HM := Lib.hid hnew
  clear p1 p2 p3 hb F hs hD hnew
  go_enter Try.func64, Try.ntmps64
  go_wp2_with (first | (go_at_call 88; refine (tim_none_some _ _ _ c0).mono ?_; rintro e w' ⟨rfl, rfl⟩) | (go_at_call 93; refine hcl.mono ?_; rintro e w' ⟨rfl, rfl⟩))
  go_ret
  refine ⟨w.heap.size + 1, w.heap.size, rfl, ⟨?_, HM.out.alloc _, h.vals⟩, by omega, Nat.le_refl _, ((Kept.refl _ _).alloc _).alloc _⟩
  have hb := Blk.new (w.alloc (.map es clock)) [.map (some w.heap.size)] 106
  simp only [World.size_alloc] at hb
  exact hb
end Go.Proofs.Ytahiimcdmojngaa
