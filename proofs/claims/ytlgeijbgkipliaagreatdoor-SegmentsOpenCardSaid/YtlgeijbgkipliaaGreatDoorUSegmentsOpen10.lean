/- Iter -/
import Derived.RangeFuncNested
import Derived.RangeFuncBound
import Derived.RangeFuncCalls
import Derived.RangeFuncLeaves
import Derived.Shelf.Abstract
import Derived.Shelf.RegionOpen
import Derived.OwnWalkIn
import Derived.TacticsInMore
import Derived.LoopNIn
import Derived.LoopIn
import Derived.Test.YtlgeijbgkipliaaGreatDoorUSegmentsOpen06
set_option linter.unusedVariables false
set_option linter.unusedSimpArgs false
namespace Go.Proofs.YtlgeijbgkipliaaGreatDoor
open Go.RowKit Go.Shelf
attribute [local go_sem] Oper.semAt_some
structure KeptB (S : Nat → Prop) (n₀ : Nat) (w w' : World) : Prop where
  size : w.heap.size ≤ w'.heap.size
  block : ∀ k, k < n₀ → ¬ S k → w'.heap[k]? = w.heap[k]?
section
variable {S : Nat → Prop} {n₀ : Nat} {w w' w'' : World}
theorem KeptB.refl (S : Nat → Prop) (n₀ : Nat) (w : World) : KeptB S n₀ w w := ⟨Nat.le_refl _, fun _ _ _ => rfl⟩
theorem KeptB.trans (h : KeptB S n₀ w w') (k : KeptB S n₀ w' w'') : KeptB S n₀ w w'' := ⟨Nat.le_trans h.size k.size, fun i hi hs => (k.block i hi hs).trans (h.block i hi hs)⟩
theorem KeptB.cell (h : KeptB S n₀ w w') {p : Addr} (hp : p.block < n₀) (hs : ¬ S p.block) : w'.cell? p = w.cell? p := by
  have := h.block p.block hp hs
  simp only [World.cell?, this]
theorem Kept.keptB {Z : Nat → Prop} (h : Kept Z w w') (hn : n₀ ≤ w.heap.size) (hZ : ∀ k, k < n₀ → Z k → S k) : KeptB S n₀ w w' := ⟨h.size, fun k hk hs => h.block k (by omega) (fun z => hs (hZ k hk z))⟩
theorem KeptB.putObj (S : Nat → Prop) (w : World) (l : Nat) (o' : Obj) (hl : n₀ ≤ l) : KeptB S n₀ w (w.putObj l o') :=
  ⟨(grownBy_putObj' w l o').size, fun k hk _ => by
    by_cases hlt : k < w.heap.size
    · exact (grownBy_putObj' w l o').block k hlt (fun e => by cases e; omega)
    · have h1 : w.heap.size ≤ k := by omega
      rw [Array.getElem?_eq_none h1]
      rw [Array.getElem?_eq_none (by simpa [World.putObj] using h1)]⟩
end
abbrev I64x := {x : Nat × Int // x.1 ≤ 1000000000 ∧ -9223372036854775808 ≤ x.2 ∧ x.2 ≤ 9223372036854775807}
def backsI : List Int → List (Nat × Int)
  | [] => []
  | n :: r => (backsI r).map (fun p => (p.1 + 1, p.2)) ++ [(0, n)]
theorem backsI_len (ns : List Int) : (backsI ns).length = ns.length := by
  induction ns with
  | nil => rfl
  | cons n r ih => simp [backsI, ih]
theorem backsI_at (ns : List Int) : ∀ k, k < ns.length → (backsI ns)[k]? = some (ns.length - 1 - k, (ns[ns.length - 1 - k]?).getD 0) := by
  induction ns with
  | nil => intro k hk; simp at hk
  | cons n r ih =>
    intro k hk
    simp only [List.length_cons] at hk
    unfold backsI
    by_cases hlt : k < r.length
    · rw [List.getElem?_append_left (by simp [backsI_len]; exact hlt), List.getElem?_map, ih k hlt]
      simp only [Option.map_some, List.length_cons, Option.some.injEq, Prod.mk.injEq]
      refine ⟨by omega, ?_⟩
      rw [show r.length + 1 - 1 - k = (r.length - 1 - k) + 1 by omega, List.getElem?_cons_succ]
    · obtain rfl : k = r.length := by omega
      rw [List.getElem?_append_right (by simp [backsI_len])]
      simp [backsI_len]
theorem backsI_map (ns : List Int) : (backsI ns).map (·.2) = ns.reverse := by
  induction ns with
  | nil => rfl
  | cons n r ih => simp only [backsI, List.map_append, List.map_map, List.reverse_cons, List.map_cons, List.map_nil]; rw [← ih]; rfl
abbrev encX (x : I64x) : Array Value := #[.int .i64 (x.1.1 : Int), .int .i64 x.1.2]
def intsV (ns : List Int) : List Value := ns.map fun n => .int .i64 n
theorem intsV_len (ns : List Int) : (intsV ns).length = ns.length := by simp [intsV]
set_option maxHeartbeats 1000000 in
theorem backward_any (a : Option Addr) (m c : Nat) (w : World) : Calls Tryz.prog 79 #[.slice a m c] w fun e w' => e = .returned (.func (.func 119) #[] #[.pointer (some ⟨w.heap.size, 0, none⟩)]) ∧ w' = w.alloc (.cells #[.slice a m c] 83) := by
  go_enter Tryz.func79, Tryz.ntmps79
  have hmf : ∀ (fn : Fn) (first cap : Array Value) (w : World), (Instr.makeFunc fn first cap).run Tryz.prog w = .ok (.func fn first cap) w := fun _ _ _ _ => rfl
  go_wp2
  go_ret
  exact ⟨rfl, rfl⟩
set_option maxRecDepth 100000 in
set_option maxHeartbeats 2000000 in
theorem back1_in (F : Fence) (n : Nat) (hF : F.fn 119) (hro : F.round = none) (hn : 1 ≤ n) (l Bs n₀ : Nat) (S : Nat → Prop) (v : Value) (ns : List Int) (hns : ∀ x ∈ ns, -9223372036854775808 ≤ x ∧ x ≤ 9223372036854775807) (hlen : ns.length ≤ 1000000000) (J Jx : List I64x → World → Prop)
    (hY : ∀ pre x W, J pre W → pre.length < ns.length → YieldAt F (n - 1) Tryz.prog l (encX x) W fun e W' =>
      (e = .returned (.bool true) ∧ J (pre ++ [x]) W' ∧ KeptB S n₀ W W') ∨ (e = .returned (.bool false) ∧ Jx (pre ++ [x]) W'))
    (W : World) (hBs : W.cell? ⟨Bs, 0, none⟩ = some v) (hB0 : Bs < n₀ ∧ ¬ S Bs) (hrow : Row W 3 1 v (intsV ns)) (hown : ∀ k, v.ownBlock = some k → k < n₀ ∧ ¬ S k) (h0 : J [] W) :
    CallsIn F n Tryz.prog 119 #[.func (.yield l) #[] #[], .pointer (some ⟨Bs, 0, none⟩)] W fun e W' => (∃ v, e = .returned v) ∧
      ((∃ ys : List I64x, ys.map (·.1) = backsI ns ∧ J ys W') ∨ (∃ pre : List I64x, pre.map (·.1) <+: backsI ns ∧ Jx pre W')) := by
  obtain ⟨a, m, c, rfl, hm, hml, hcl⟩ := hrow.form (by omega)
  rw [intsV_len, Nat.mul_one] at hm
  subst hm
  unfold maxLen at hml
  refine callsIn_of_wp Tryz.func119 rfl hF ?_ hro
  simp only [Tryz.ntmps119, List.size_toArray, List.length_cons, List.length_nil, Nat.reduceAdd, Nat.reduceSub, Array.replicate_succ, Array.replicate_zero, List.push_toArray, List.append_toArray, List.nil_append, List.cons_append]
  gi_wp2
  gi_loopw [3] (fun i wr => ∃ (k : Nat) (pre : List I64x), k ≤ ns.length ∧ i = .int .i64 ((ns.length : Int) - 1 - (k : Int)) ∧ pre.length = k ∧ pre.map (·.1) = (backsI ns).take k ∧ J pre wr ∧ KeptB S n₀ W wr) (fun i _ => (intOf i + 1).toNat)
  case atStart => exact ⟨0, [], Nat.zero_le _, by simp, rfl, by simp, h0, KeptB.refl _ _ _⟩
  case round =>
    obtain ⟨k, pre, hk, rfl, hpl, hpre, hJ, hkb⟩ := hrel
    have hcs := (hkb.cell (p := ⟨Bs, 0, none⟩) hB0.1 hB0.2).trans hBs
    by_cases hlt : k < ns.length
    · obtain ⟨g, rfl, hg, hcl2⟩ := hcl (by omega)
      have hx : (ns[ns.length - 1 - k]?) = some ((ns[ns.length - 1 - k]?).getD 0) := by rw [List.getElem?_eq_getElem (by omega)]; rfl
      have hb := hns _ (List.mem_of_getElem? hx)
      have hat := backsI_at ns k hlt
      have hc1 := hcl2 (ns.length - 1 - k) (.int .i64 ((ns[ns.length - 1 - k]?).getD 0)) (by unfold intsV; rw [List.getElem?_map, hx]; rfl)
      have hc2 := (hkb.cell (p := ⟨g, ns.length - 1 - k, none⟩) (hown g hg).1 (hown g hg).2).trans hc1
      generalize (ns[ns.length - 1 - k]?).getD 0 = z at *
      obtain ⟨q, hq⟩ : ∃ q, ns.length - 1 - k = q := ⟨_, rfl⟩
      have hqi : (ns.length : Int) - 1 - (k : Int) = (q : Int) := by omega
      rw [hq] at hc2 hat
      rw [hqi]
      have hq2 : q < ns.length := by omega
      obtain ⟨X, hX⟩ : ∃ X : I64x, X.1 = (q, z) := ⟨⟨(q, z), by simp only; omega, hb⟩, rfl⟩
      obtain ⟨fn, tmps, assign, body, hy, hR⟩ := hY pre X wr hJ (by omega)
      dsimp only [encX] at hy
      rw [hX] at hy
      have HX := Lib.hid hX
      have HQ := Lib.hid hqi
      have HK := Lib.hid hq
      have HAT := Lib.hid hat
      have HP := Lib.hid hpre
      have HPL := Lib.hid hpl
      clear hqi hq hat hpre hx hpl hX
      gi_wp2
      refine hR.mono ?_
      rintro e W3 (⟨rfl, hJ3, hk3⟩ | ⟨rfl, hJx3⟩)
      · gi_wp2
        go_roundw
        case rel =>
          have h1 := HQ.out
          have h2 := HPL.out
          refine ⟨k + 1, pre ++ [X], by omega, ?_, by simp [h2], ?_, hJ3, hkb.trans hk3⟩
          · simp only [Value.int.injEq, true_and]; omega
          · rw [List.map_append, HP.out, List.take_add_one, HAT.out, List.map_singleton, HX.out]
            rfl
        case measure => simp [intOf]
      · gi_wp2
        refine bodyPost_ret (results_none rfl _ _ _) rfl ?_
        refine ⟨⟨_, rfl⟩, .inr ⟨_, ?_, hJx3⟩⟩
        rw [List.map_append, HP.out, List.map_singleton, HX.out]
        have : (backsI ns).take (k + 1) = (backsI ns).take k ++ [(q, z)] := by rw [List.take_add_one, HAT.out]; rfl
        rw [← this]
        exact List.take_prefix _ _
    · obtain rfl : k = ns.length := by omega
      have hz : (ns.length : Int) - 1 - (ns.length : Int) = -1 := by omega
      rw [hz]
      have HP := Lib.hid hpre
      clear hpre hz hpl
      gi_wp2
      go_end0
      refine ⟨⟨_, rfl⟩, .inl ⟨pre, ?_, hJ⟩⟩
      rw [HP.out, List.take_of_length_le (by rw [backsI_len]; omega)]
theorem back_stops (F : Fence) (n : Nat) (hF : F.fn 119) (hro : F.round = none) (hn : 1 ≤ n) (Bs n₀ : Nat) (S : Nat → Prop) (v : Value) (ns : List Int) (hns : ∀ x ∈ ns, -9223372036854775808 ≤ x ∧ x ≤ 9223372036854775807) (hlen : ns.length ≤ 1000000000) (w : World)
    (hBs : w.cell? ⟨Bs, 0, none⟩ = some v) (hB1 : Bs < w.heap.size) (hB0 : Bs < n₀ ∧ ¬ S Bs) (hrow : Row w 3 1 v (intsV ns)) (hown : ∀ k, v.ownBlock = some k → k < n₀ ∧ ¬ S k) :
    SeqStopsK F n Tryz.prog 119 #[.pointer (some ⟨Bs, 0, none⟩)] encX (KeptB S n₀) (fun ys => ys.map (·.1) = backsI ns) (fun pre => pre.map (·.1) <+: backsI ns) ns.length w := fun l J Jx W hW _ _ hY h0 =>
  back1_in F n hF hro hn l Bs n₀ S v ns hns hlen J Jx hY W ((hW.cell (p := ⟨Bs, 0, none⟩) hB1).trans hBs) hB0 (hrow.kept (S := fun _ => False) (Kept.of_below hW) (fun _ _ => id)) hown h0
end Go.Proofs.YtlgeijbgkipliaaGreatDoor
