/- Contracts: slices.Equal of the same hashes; heads.Same of the same signed heads. '==' of two heads. -/
import Derived.Laws.StructEq
import Derived.ChangeKeysEq
import Derived.Test.YtaimokclhcfohaaDoorUKeyringNone22
set_option linter.unusedVariables false
set_option linter.unusedSimpArgs false
namespace Go.Proofs.YtaimokclhcfohaaDoor
open Go.RowKit

set_option maxRecDepth 100000 in
set_option maxHeartbeats 1000000 in
theorem equal_ok (w : World) (u v : Value) (L : List By) (hu : View w 32 u (hcells L)) (hv : View w 32 v (hcells L)) (h32 : ∀ x ∈ L, x.length = 32) (hL : L.length ≤ 1000000) :
    Calls Tryd.prog 53 #[u, v] w fun e w' => e = .returned (.bool true) ∧ Kept (fun _ => False) w w' := by
  obtain ⟨a, n, c, rfl, q1, q2, q3, q4, q5⟩ := id hu
  obtain ⟨a', n', c', rfl, q1', q2', q3', q4', q5'⟩ := id hv
  rw [hcells_len h32] at q1 q1'
  obtain rfl : n = L.length := by omega
  obtain rfl : n' = L.length := by omega
  clear q1 q2 q3 q4 q1' q2' q3' q4' hu hv
  go_enter Tryd.func53, Tryd.ntmps53
  go_wp2_with fail
  go_loopw [13] (fun x wr => ∃ k : Nat, x = .int .i64 (k : Int) ∧ k ≤ L.length ∧ Kept (fun _ => False) w wr) (fun x _ => L.length - (intOf x).toNat)
  case atStart => exact ⟨0, rfl, Nat.zero_le _, Kept.refl _ _⟩
  case round =>
    obtain ⟨k, rfl, hk, hkw⟩ := hrel
    by_cases hlt : k < L.length
    · have z1 : decide ((k : Int) < (L.length : Int)) = true := decide_eq_true (by omega)
      have z2 : decide (k < L.length) = true := decide_eq_true hlt
      obtain ⟨g, off, rfl, hg, hrg⟩ := q5 (by omega)
      obtain ⟨g', off', rfl, hg', hrg'⟩ := q5' (by omega)
      obtain ⟨h, hh⟩ : ∃ h, L[k]? = some h := ⟨_, List.getElem?_eq_getElem hlt⟩
      have hh32 := h32 h (List.mem_of_getElem? hh)
      have r1 := rangeAt_mid (rangeAt_kept hrg hkw hg id) (k * 32) 32
      have r2 := rangeAt_mid (rangeAt_kept hrg' hkw hg' id) (k * 32) 32
      rw [hcells_at h32 k h hh] at r1 r2
      have S0 : wr.drew.rangeAt g (off + k * 32) (bytes8 h) ∧ wr.drew.rangeAt g' (off' + k * 32) (bytes8 h) := ⟨r1, r2⟩
      have ih := Lib.hid (show (Tryd.prog.info? 23).map (·.size) = some (bytes8 h).length by rw [bytes8_len, hh32]; exact info_h32)
      have neq := fun w' => neq_hash w' h h hh32 hh32
      have i0 : (k : Int) < (L.length : Int) := by omega
      have i1 : (0 : Int) ≤ (k : Int) := by omega
      have HL := Lib.hid hlt
      clear q5 q5' hrg hrg' r1 r2 hh hh32 h32
      go_wp2_with fail
      refine wp_region_held_drew (S := (fun w' => w'.rangeAt g (off + k * 32) (bytes8 h) ∧ w'.rangeAt g' (off' + k * 32) (bytes8 h))) (by kernel_rfl) S0 (fun hH0 => ?_)
      refine wpAnyH_take (i := 0) (oi := ⟨some 16, .move (.tmp 0), 27, "slices.go:25", #[], none⟩) (v := .slice (some ⟨g, off, none⟩) L.length c) rfl (by kernel_rfl) (by kernel_rfl) (by kernel_rfl) (fun _ _ _ h => h) (Or.inl ⟨by rfl, fun w hSw => ?_⟩) hH0 ?_
      · clear hSw; go_simp
      try simp only [Act.put, List.setIfInBounds_toArray, List.set_cons_zero, List.set_cons_succ]
      refine wpAnyH_take (i := 1) (oi := ⟨some 17, .move (.tmp 5), 3, "slices.go:25", #[], none⟩) (v := .int .i64 (k : Int)) rfl (by kernel_rfl) (by kernel_rfl) (by kernel_rfl) (fun _ _ _ h => h) (Or.inl ⟨by rfl, fun w hSw => ?_⟩) hH0 ?_
      · clear hSw; go_simp
      try simp only [Act.put, List.setIfInBounds_toArray, List.set_cons_zero, List.set_cons_succ]
      refine wpAnyH_take (i := 2) (oi := ⟨some 18, .indexAddr 27 (.tmp 16) (.tmp 17), 0, "slices.go:25", #[⟨0, .data⟩, ⟨1, .data⟩], none⟩) (v := .pointer (some ⟨g, off + k * 32, none⟩)) rfl (by kernel_rfl) (by kernel_rfl) (by kernel_rfl) (fun _ _ _ h => h) (Or.inl ⟨by rfl, fun w hSw => ?_⟩) hH0 ?_
      · clear hSw; go_simp
      try simp only [Act.put, List.setIfInBounds_toArray, List.set_cons_zero, List.set_cons_succ]
      refine wpAnyH_take (i := 3) (oi := ⟨some 19, .load 23 (.tmp 18), 23, "slices.go:25", #[⟨2, .data⟩], none⟩) (v := .agg (bytes8 h).toArray) rfl (by kernel_rfl) (by kernel_rfl) (by kernel_rfl) (fun _ _ _ h => h) (yieldsIf_load_mid (by rfl) _ _ rfl g (off + k * 32) rfl (bytes8 h) _ (fun w q => q.1) Tryd.underlying23 rfl ih.out) hH0 ?_
      try simp only [Act.put, List.setIfInBounds_toArray, List.set_cons_zero, List.set_cons_succ]
      refine wpAnyH_take (i := 4) (oi := ⟨some 20, .move (.tmp 1), 27, "slices.go:25", #[], none⟩) (v := .slice (some ⟨g', off', none⟩) L.length c') rfl (by kernel_rfl) (by kernel_rfl) (by kernel_rfl) (fun _ _ _ h => h) (Or.inl ⟨by rfl, fun w hSw => ?_⟩) hH0 ?_
      · clear hSw; go_simp
      try simp only [Act.put, List.setIfInBounds_toArray, List.set_cons_zero, List.set_cons_succ]
      refine wpAnyH_take (i := 5) (oi := ⟨some 21, .move (.tmp 5), 3, "slices.go:25", #[], none⟩) (v := .int .i64 (k : Int)) rfl (by kernel_rfl) (by kernel_rfl) (by kernel_rfl) (fun _ _ _ h => h) (Or.inl ⟨by rfl, fun w hSw => ?_⟩) hH0 ?_
      · clear hSw; go_simp
      try simp only [Act.put, List.setIfInBounds_toArray, List.set_cons_zero, List.set_cons_succ]
      refine wpAnyH_take (i := 6) (oi := ⟨some 22, .indexAddr 27 (.tmp 20) (.tmp 21), 0, "slices.go:25", #[⟨4, .data⟩, ⟨5, .data⟩], none⟩) (v := .pointer (some ⟨g', off' + k * 32, none⟩)) rfl (by kernel_rfl) (by kernel_rfl) (by kernel_rfl) (fun _ _ _ h => h) (Or.inl ⟨by rfl, fun w hSw => ?_⟩) hH0 ?_
      · clear hSw; go_simp
      try simp only [Act.put, List.setIfInBounds_toArray, List.set_cons_zero, List.set_cons_succ]
      refine wpAnyH_take (i := 7) (oi := ⟨some 23, .load 23 (.tmp 22), 23, "slices.go:25", #[⟨6, .data⟩], none⟩) (v := .agg (bytes8 h).toArray) rfl (by kernel_rfl) (by kernel_rfl) (by kernel_rfl) (fun _ _ _ h => h) (yieldsIf_load_mid (by rfl) _ _ rfl g' (off' + k * 32) rfl (bytes8 h) _ (fun w q => q.2) Tryd.underlying23 rfl ih.out) hH0 ?_
      try simp only [Act.put, List.setIfInBounds_toArray, List.set_cons_zero, List.set_cons_succ]
      refine wpAnyH_take (i := 8) (oi := ⟨some 24, .binOp .neq 23 (.tmp 19) (.tmp 23) 23, 4, "slices.go:25", #[⟨3, .data⟩, ⟨7, .data⟩], none⟩) (v := .bool false) rfl (by kernel_rfl) (by kernel_rfl) (by kernel_rfl) (fun _ _ _ h => h) (Or.inl ⟨by rfl, fun w hSw => ?_⟩) hH0 ?_
      · clear hSw; go_simp
      try simp only [Act.put, List.setIfInBounds_toArray, List.set_cons_zero, List.set_cons_succ]
      refine wpAnyH_done (by kernel_rfl) ?_ _
      go_wp2_with fail
      exact ⟨⟨k + 1, rfl, HL.out, hkw.drew⟩, check_meas0 HL.out⟩
    · have z1 : decide ((k : Int) < (L.length : Int)) = false := decide_eq_false (by omega)
      have z2 : decide (k < L.length) = false := decide_eq_false hlt
      go_wp2_with fail
      go_ret
      exact ⟨rfl, hkw⟩
end Go.Proofs.YtaimokclhcfohaaDoor

namespace Go.Proofs.YtaimokclhcfohaaDoor
open Go.RowKit

theorem eqFields_two {P : Program} (w : World) (d : Nat) (xs ys : Array Value) (f1 f2 : Field) (n1 : f1.name ≠ "_") (n2 : f2.name ≠ "_") {a1 b1 a2 b2 : Value} {r1 r2 : Bool}
    (p1 : (part f1.type xs f1.offset).run P w = .ok a1 w) (q1 : (part f1.type ys f1.offset).run P w = .ok b1 w) (e1 : (Op.equalIn d f1.type a1 b1).run P w = .ok r1 w)
    (p2 : (part f2.type xs f2.offset).run P w = .ok a2 w) (q2 : (part f2.type ys f2.offset).run P w = .ok b2 w) (e2 : (Op.equalIn d f2.type a2 b2).run P w = .ok r2 w) :
    (Op.eqFields d xs ys [f1, f2]).run P w = .ok (r1 && r2) w := by
  cases r1 <;> cases r2 <;> simp [Op.eqFields, n1, n2, Sem.run_bind, p1, q1, e1, p2, q2, e2, Result.andThen_ok]
theorem head_fields : (Tryd.prog.fieldsOf 25).toList.map (fun f => (f.name, f.type, f.offset)) = [("Size", 3, 0), ("Root", 23, 1)] := by kernel_rfl
theorem part_int (w : World) (size : Int) (root : By) : (part 3 (headC size root).toArray 0).run Tryd.prog w = .ok (.int .i64 size) w :=
  run_part_plain w (by kernel_rfl) (by simp)
theorem part_hash (w : World) (size : Int) (root : By) (hr : root.length = 32) : (part 23 (headC size root).toArray 1).run Tryd.prog w = .ok (.agg (bytes8 root).toArray) w := by
  have h1 := Tryd.isAgg23 w
  have h2 := Tryd.sizeOf23 w
  have e : (headC size root).toArray.extract 1 (1 + 32) = (bytes8 root).toArray := by
    apply Array.ext'
    simp only [Array.toList_extract, List.extract_eq_take_drop, List.drop_succ_cons, List.drop_zero]
    rw [List.take_of_length_le (by rw [bytes8_len]; omega)]
  unfold part
  simp only [Sem.run_bind, h1, h2, Result.andThen_ok, if_true, Sem.run_pure, e]
theorem equalIn_hash (w : World) (d : Nat) (a b : By) (ha : a.length = 32) (hb : b.length = 32) : (Op.equalIn (d + 2) 23 (.agg (bytes8 a).toArray) (.agg (bytes8 b).toArray)).run Tryd.prog w = .ok (decide (a = b)) w := by
  obtain ⟨i, hi, _⟩ := info_parts info_u8
  rw [bytes8_ints, bytes8_ints, run_equalIn_ints w d hash_under Tryd.underlying5 hi (by kernel_rfl) (ints8 a) (ints8 b) (by simp [ints8, ha]) (by simp [ints8, hb])]
  simp only [ints8_inj]
theorem equalIn_head (w : World) (d : Nat) (x y : Int) (a b : By) (ha : a.length = 32) (hb : b.length = 32) :
    (Op.equalIn (d + 3) 25 (headV x a) (headV y b)).run Tryd.prog w = .ok (decide (x = y ∧ a = b)) w := by
  rw [run_equalIn_struct w (d + 2) 25 _ _ (by kernel_rfl) (by kernel_rfl)]
  have hf := head_fields
  generalize (Tryd.prog.fieldsOf 25).toList = fs at hf
  rcases fs with _ | ⟨f1, _ | ⟨f2, _ | ⟨f3, r⟩⟩⟩
  · simp at hf
  · simp at hf
  · simp only [List.map_cons, List.map_nil, List.cons.injEq, Prod.mk.injEq, and_true] at hf
    obtain ⟨⟨m1, t1, o1⟩, m2, t2, o2⟩ := hf
    rw [eqFields_two (P := Tryd.prog) w (d + 2) _ _ f1 f2 (by rw [m1]; simp) (by rw [m2]; simp) (by rw [t1, o1]; exact part_int w x a) (by rw [t1, o1]; exact part_int w y b) (by rw [t1]; exact run_equalIn_int (P := Tryd.prog) w (d + 1) 3 .i64 .i64 x y Tryd.underlying3)
      (by rw [t2, o2]; exact part_hash w x a ha) (by rw [t2, o2]; exact part_hash w y b hb) (by rw [t2]; exact equalIn_hash w d a b ha hb)]
    congr 1
    by_cases h1 : x = y <;> by_cases h2 : a = b <;> simp [h1, h2]
  · simp at hf
theorem eql_head (w : World) (x y : Int) (a b : By) (ha : a.length = 32) (hb : b.length = 32) :
    (binOp .eql 25 (headV x a) (headV y b)).run Tryd.prog w = .ok (.bool (decide (x = y ∧ a = b))) w := by
  rw [run_eql_struct, equalIn_head (d := 9997) w x y a b ha hb]
  rfl
theorem neq_head (w : World) (x y : Int) (a b : By) (ha : a.length = 32) (hb : b.length = 32) :
    (binOp .neq 25 (headV x a) (headV y b)).run Tryd.prog w = .ok (.bool (!decide (x = y ∧ a = b))) w := by
  rw [run_neq_struct, equalIn_head (d := 9997) w x y a b ha hb]
  rfl
end Go.Proofs.YtaimokclhcfohaaDoor
