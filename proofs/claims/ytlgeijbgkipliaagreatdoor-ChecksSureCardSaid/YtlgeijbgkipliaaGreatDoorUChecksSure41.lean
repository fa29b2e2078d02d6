/- BackH Rng1 Hashes HPut BackB -/
import Derived.Sort.CutIn
import Derived.Test.YtlgeijbgkipliaaGreatDoorUChecksSure13
import Derived.Test.YtlgeijbgkipliaaGreatDoorUChecksSure39
import Derived.Test.YtlgeijbgkipliaaGreatDoorUChecksSure32
import Derived.Test.YtlgeijbgkipliaaGreatDoorUChecksSure26
import Derived.Test.YtlgeijbgkipliaaGreatDoorUChecksSure18
import Derived.Test.YtlgeijbgkipliaaGreatDoorUChecksSure36
import Derived.Test.YtlgeijbgkipliaaGreatDoorUChecksSure14
import Derived.Test.YtlgeijbgkipliaaGreatDoorUChecksSure20
import Derived.Test.YtlgeijbgkipliaaGreatDoorUChecksSure25
import Derived.Test.YtlgeijbgkipliaaGreatDoorUChecksSure29
set_option linter.unusedVariables false
set_option linter.unusedSimpArgs false
namespace Go.Proofs.YtlgeijbgkipliaaGreatDoor
open Go.RowKit Go.Shelf
attribute [local go_sem] Oper.semAt_some
theorem wpListIn_load_mid {F : Fence} {n : Nat} {P : Program} {w : World} {ops : Array Oper} {rest : List Oper} {o : Oper} {a : Act} {Q : Exit → Act → World → Prop} (hg : o.guard = none) (ty : TypeId) (x : Operand)
    (hop : o.op = .load ty x) (b off : Nat) (hx : a.eval x = .pointer (some ⟨b, off, none⟩)) (cs : List Value) (d : TypeDesc) (hc : w.rangeAt b off cs)
    (hu : P.underlying ty = some d) (hd : d.isRow = true) (hi : (P.info? ty).map (·.size) = some cs.length) (h : wpListIn F n P ops Q rest (a.put o.dst (.agg cs.toArray)) w) : wpListIn F n P ops Q (o :: rest) a w := by
  have hr := run_loadAt_mid (P := P) w b off ty cs d hc hu hd hi
  refine wpListIn_plain hg fun K hK' => ?_
  unfold Oper.wpIn
  refine ⟨by simp [Oper.about, hop], ?_⟩
  rw [Oper.semAt_plain F _ _ (by rw [hop]; intro c hc'; cases hc')]
  simp [execOp, hop, hx, hr, Result.andThen]
  exact hK' _ _ h
theorem wpListIn_store_row {F : Fence} {n : Nat} {P : Program} {w : World} {ops : Array Oper} {rest : List Oper} {o : Oper} {a : Act} {Q : Exit → Act → World → Prop} (hg : o.guard = none) (ty : TypeId) (x y : Operand)
    (hop : o.op = .store ty x y) (b off : Nat) (cells : Array Value) (hx : a.eval x = .pointer (some ⟨b, off, none⟩)) (hy : a.eval y = .agg cells)
    (ht : w.there b off cells.size) (hi : (P.info? ty).map (·.size) = some cells.size) (h1 : cells.all (·.oneCell') = true) (h : wpListIn F n P ops Q rest (a.put o.dst undef) (w.setCells b off cells.toList)) : wpListIn F n P ops Q (o :: rest) a w := by
  have hr := run_storeAt_mid (P := P) w b off ty cells ht hi h1
  refine wpListIn_plain hg fun K hK' => ?_
  unfold Oper.wpIn
  refine ⟨by simp [Oper.about, hop], ?_⟩
  rw [Oper.semAt_plain F _ _ (by rw [hop]; intro c hc'; cases hc')]
  simp [execOp, hop, hx, hy, hr, Result.andThen]
  exact hK' _ _ h
def backs {α : Type} : List α → List (Nat × α)
  | [] => []
  | n :: r => (backs r).map (fun p => (p.1 + 1, p.2)) ++ [(0, n)]
section
variable {α : Type}
theorem backs_len (ns : List α) : (backs ns).length = ns.length := by
  induction ns with
  | nil => rfl
  | cons n r ih => simp [backs, ih]
theorem backs_at (ns : List α) : ∀ k x, k < ns.length → ns[ns.length - 1 - k]? = some x → (backs ns)[k]? = some (ns.length - 1 - k, x) := by
  induction ns with
  | nil => intro k x hk; simp at hk
  | cons n r ih =>
    intro k x hk hx
    simp only [List.length_cons] at hk hx
    unfold backs
    by_cases hlt : k < r.length
    · rw [show r.length + 1 - 1 - k = (r.length - 1 - k) + 1 by omega, List.getElem?_cons_succ] at hx
      rw [List.getElem?_append_left (by simp [backs_len]; exact hlt), List.getElem?_map, ih k x hlt hx]
      simp only [Option.map_some, List.length_cons, Option.some.injEq, Prod.mk.injEq, and_true]
      omega
    · obtain rfl : k = r.length := by omega
      rw [List.getElem?_append_right (by simp [backs_len])]
      simp [backs_len] at hx ⊢
      exact hx
theorem backs_map (ns : List α) : (backs ns).map (·.2) = ns.reverse := by
  induction ns with
  | nil => rfl
  | cons n r ih => simp only [backs, List.map_append, List.map_map, List.reverse_cons, List.map_cons, List.map_nil]; rw [← ih]; rfl
theorem backs_mem {ns : List α} {x : Nat × α} (h : x ∈ backs ns) : x.2 ∈ ns := by
  have : x.2 ∈ (backs ns).map (·.2) := List.mem_map_of_mem h
  rw [backs_map] at this
  exact List.mem_reverse.1 this
end
theorem hcells_nth {L : List By} (h : ∀ x ∈ L, x.length = 32) (q r : Nat) (hr : r < 32) (a : By) (hq : L[q]? = some a) : (hcells L)[q * 32 + r]? = (bytes8 a)[r]? := by
  rw [← hcells_at h q a hq, List.getElem?_take_of_lt hr, List.getElem?_drop]
abbrev BkH (ns : List By) := {x : Nat × By // x ∈ backs ns}
abbrev encH {ns : List By} (x : BkH ns) : Array Value := #[.int .i64 (x.1.1 : Int), hashV x.1.2]
theorem hash_range {w : World} {g off : Nat} {L : List By} (h32 : ∀ x ∈ L, x.length = 32) (h : ∀ j u, (hcells L)[j]? = some u → w.cell? ⟨g, off + j, none⟩ = some u) {q : Nat} {x : By} (hx : L[q]? = some x) : w.rangeAt g (off + q * 32) (bytes8 x) := by
  intro j v hv
  have hj : j < 32 := by
    have := (List.getElem?_eq_some_iff.1 hv).1
    rw [bytes8_len, h32 x (List.mem_of_getElem? hx)] at this
    exact this
  have := h (q * 32 + j) v (by rw [hcells_nth h32 q j hj x hx]; exact hv)
  rw [Nat.add_assoc]
  exact this
set_option maxHeartbeats 1000000 in
theorem backwardH_any (a : Option Addr) (m c : Nat) (w : World) : Calls Tryz.prog 142 #[.slice a m c] w fun e w' => e = .returned (.func (.func 160) #[] #[.pointer (some ⟨w.heap.size, 0, none⟩)]) ∧ w' = w.alloc (.cells #[.slice a m c] 53) := by
  go_enter Tryz.func142, Tryz.ntmps142
  have hmf : ∀ (fn : Fn) (first cap : Array Value) (w : World), (Instr.makeFunc fn first cap).run Tryz.prog w = .ok (.func fn first cap) w := fun _ _ _ _ => rfl
  go_wp2
  go_ret
  exact ⟨rfl, rfl⟩
set_option maxRecDepth 100000 in
set_option maxHeartbeats 2000000 in
theorem backH_in (F : Fence) (n : Nat) (hF : F.fn 160) (hro : F.round = none) (hn : 1 ≤ n) (l Bs n₀ : Nat) (S : Nat → Prop) (a : Option Addr) (c : Nat) (ns : List By) (h32 : ∀ x ∈ ns, x.length = 32) (hlen : ns.length ≤ 1000000000) (J Jx : List (BkH ns) → World → Prop)
    (hY : ∀ pre x W, J pre W → pre.length < ns.length → YieldAt F (n - 1) Tryz.prog l (encH x) W fun e W' =>
      (e = .returned (.bool true) ∧ J (pre ++ [x]) W' ∧ KeptB S n₀ W W') ∨ (e = .returned (.bool false) ∧ Jx (pre ++ [x]) W'))
    (W : World) (hBs : W.cell? ⟨Bs, 0, none⟩ = some (.slice a ns.length c)) (hB0 : Bs < n₀ ∧ ¬ S Bs) (hrow : View W 32 (.slice a ns.length c) (hcells ns)) (hown : ns ≠ [] → ∀ k, (Value.slice a ns.length c).ownBlock = some k → k < n₀ ∧ ¬ S k) (h0 : J [] W) :
    CallsIn F n Tryz.prog 160 #[.func (.yield l) #[] #[], .pointer (some ⟨Bs, 0, none⟩)] W fun e W' => (∃ v, e = .returned v) ∧
      ((∃ ys : List (BkH ns), ys.map (·.1) = backs ns ∧ J ys W') ∨ (∃ pre : List (BkH ns), pre.map (·.1) <+: backs ns ∧ Jx pre W')) := by
  obtain ⟨_, _, _, ev, hm, hml, hcl, _, hcl2⟩ := hrow
  cases ev
  unfold maxLen at hcl
  refine callsIn_of_wp Tryz.func160 rfl hF ?_ hro
  simp only [Tryz.ntmps160, List.size_toArray, List.length_cons, List.length_nil, Nat.reduceAdd, Nat.reduceSub, Array.replicate_succ, Array.replicate_zero, List.push_toArray, List.append_toArray, List.nil_append, List.cons_append]
  gi_wp2
  gi_loopw [3] (fun i wr => ∃ (k : Nat) (pre : List (BkH ns)), k ≤ ns.length ∧ i = .int .i64 ((ns.length : Int) - 1 - (k : Int)) ∧ pre.length = k ∧ pre.map (·.1) = (backs ns).take k ∧ J pre wr ∧ KeptB S n₀ W wr) (fun i _ => (intOf i + 1).toNat)
  case atStart => exact ⟨0, [], Nat.zero_le _, by simp, rfl, by simp, h0, KeptB.refl _ _ _⟩
  case round =>
    obtain ⟨k, pre, hk, rfl, hpl, hpre, hJ, hkb⟩ := hrel
    have hcs := (hkb.cell (p := ⟨Bs, 0, none⟩) hB0.1 hB0.2).trans hBs
    by_cases hlt : k < ns.length
    · obtain ⟨g, off, rfl, _, hcc⟩ := hcl2 (by omega)
      have hgo := hown (fun e => by rw [e] at hlt; simp at hlt) g rfl
      obtain ⟨z, hx⟩ : ∃ z, ns[ns.length - 1 - k]? = some z := ⟨_, List.getElem?_eq_getElem (by omega)⟩
      have hat := backs_at ns k z hlt hx
      have hrg := hash_range (w := wr) h32 (fun j u hu => (hkb.cell (p := ⟨g, off + j, none⟩) hgo.1 hgo.2).trans (hcc j u hu)) hx
      obtain ⟨q, hq⟩ : ∃ q, ns.length - 1 - k = q := ⟨_, rfl⟩
      have hqi : (ns.length : Int) - 1 - (k : Int) = (q : Int) := by omega
      rw [hq] at hrg hat
      rw [hqi]
      have hq2 : q < ns.length := by omega
      obtain ⟨X, hX⟩ : ∃ X : BkH ns, X.1 = (q, z) := ⟨⟨(q, z), List.mem_of_getElem? hat⟩, rfl⟩
      obtain ⟨fn, tmps, assign, body, hy, hR⟩ := hY pre X wr hJ (by omega)
      dsimp only [encH] at hy
      rw [hX] at hy
      have hz32 := h32 z (List.mem_of_getElem? hx)
      have hsz : (Tryz.prog.info? 57).map (·.size) = some (bytes8 z).length := by rw [bytes8_len, hz32]; exact info_h32
      have HX := Lib.hid hX
      have HQ := Lib.hid hqi
      have HK := Lib.hid hq
      have HAT := Lib.hid hat
      have HP := Lib.hid hpre
      have HPL := Lib.hid hpl
      have HRG := Lib.hid (And.intro hrg hsz)
      clear hqi hq hat hpre hx hpl hX hrg hsz hz32 hcc hcl2
      gi_wp2_with ((with_reducible show wpListIn _ _ _ _ _ (⟨some 16, _, _, _, _, _⟩ :: _) _ _); refine wpListIn_load_mid rfl 57 _ rfl g (off + q * 32) rfl (bytes8 z) _ HRG.out.1 Tryz.underlying57 rfl HRG.out.2 ?_)
      refine hR.mono ?_
      rintro e W3 (⟨rfl, hJ3, hk3⟩ | ⟨rfl, hJx3⟩)
      · gi_wp2
        go_roundw
        case rel =>
          have h1 := HQ.out
          have h2 := HPL.out
          refine ⟨k + 1, pre ++ [X], by omega, ?_, by simp [h2], ?_, hJ3, hkb.trans hk3⟩
          · simp only [Value.int.injEq, true_and]; omega
          · rw [List.map_append, HP.out, List.take_add_one, HAT.out, List.map_singleton, HX.out]
            rfl
        case measure => simp [intOf]
      · gi_wp2
        refine bodyPost_ret (results_none rfl _ _ _) rfl ?_
        refine ⟨⟨_, rfl⟩, .inr ⟨_, ?_, hJx3⟩⟩
        rw [List.map_append, HP.out, List.map_singleton, HX.out]
        have : (backs ns).take (k + 1) = (backs ns).take k ++ [(q, z)] := by rw [List.take_add_one, HAT.out]; rfl
        rw [← this]
        exact List.take_prefix _ _
    · obtain rfl : k = ns.length := by omega
      have hz : (ns.length : Int) - 1 - (ns.length : Int) = -1 := by omega
      rw [hz]
      have HP := Lib.hid hpre
      clear hpre hz hpl hcl2
      gi_wp2
      go_end0
      refine ⟨⟨_, rfl⟩, .inl ⟨pre, ?_, hJ⟩⟩
      rw [HP.out, List.take_of_length_le (by rw [backs_len]; omega)]
theorem backH_stops (F : Fence) (n : Nat) (hF : F.fn 160) (hro : F.round = none) (hn : 1 ≤ n) (Bs n₀ : Nat) (S : Nat → Prop) (a : Option Addr) (c : Nat) (ns : List By) (h32 : ∀ x ∈ ns, x.length = 32) (hlen : ns.length ≤ 1000000000) (w : World)
    (hBs : w.cell? ⟨Bs, 0, none⟩ = some (.slice a ns.length c)) (hB1 : Bs < w.heap.size) (hB0 : Bs < n₀ ∧ ¬ S Bs) (hrow : View w 32 (.slice a ns.length c) (hcells ns)) (hown : ns ≠ [] → ∀ k, (Value.slice a ns.length c).ownBlock = some k → k < n₀ ∧ ¬ S k) :
    SeqStopsK F n Tryz.prog 160 #[.pointer (some ⟨Bs, 0, none⟩)] (encH (ns := ns)) (KeptB S n₀) (fun ys => ys.map (·.1) = backs ns) (fun pre => pre.map (·.1) <+: backs ns) ns.length w := fun l J Jx W hW _ _ hY h0 =>
  backH_in F n hF hro hn l Bs n₀ S a c ns h32 hlen J Jx hY W ((hW.cell (p := ⟨Bs, 0, none⟩) hB1).trans hBs) hB0 (hrow.kept (S := fun _ => False) (Kept.of_below hW) (fun _ _ _ _ _ _ => id) (by omega)) hown h0
end Go.Proofs.YtlgeijbgkipliaaGreatDoor

namespace Go.Proofs.YtlgeijbgkipliaaGreatDoor
open Go.RowKit Go.Shelf
attribute [local go_sem] Oper.semAt_some
abbrev rngV (size : Int) (v : Value) : Value := .agg #[.int .i64 size, v]
def rngOk (size : Int) (n : Nat) : Prop := 0 ≤ size ∧ size ≤ 4096 ∧ n = ones size.toNat
instance (size : Int) (n : Nat) : Decidable (rngOk size n) := by unfold rngOk; infer_instance
theorem beq_cast (n o : Nat) : ((n : Int) == (o : Int)) = decide (n = o) := by
  by_cases q : n = o
  · subst q; simp
  · rw [decide_eq_false q]
    exact beq_eq_false_iff_ne.2 (by omega)
theorem kept_drewN (w : World) (o : Obj) (n : Nat) : Kept (fun _ => False) w ((w.alloc o).drewN n) := ((Kept.refl _ _).alloc _).drewN n
set_option maxRecDepth 100000 in
set_option maxHeartbeats 2000000 in
theorem rngValid_any (w : World) (size : Int) (a : Option Addr) (n c : Nat) (hn : n ≤ 1000000) (hs : -9223372036854775808 ≤ size ∧ size ≤ 9223372036854775807) :
    Calls Tryz.prog 140 #[rngV size (.slice a n c)] w fun e w' => e = .returned (.bool (decide (rngOk size n))) ∧ Kept (fun _ => False) w w' := by
  by_cases h0 : 0 ≤ size
  · have x1 : decide (0 ≤ size) = true := decide_eq_true h0
    by_cases h1 : size ≤ 4096
    · have x2 : decide (size ≤ 4096) = true := decide_eq_true h1
      obtain ⟨k, rfl⟩ : ∃ k : Nat, size = (k : Int) := ⟨size.toNat, by omega⟩
      have hk : k ≤ 4096 := by omega
      have HO := Lib.hid (fun w' => ones_any w' k hk)
      have HE := Lib.hid (show decide (rngOk (k : Int) n) = decide (n = ones k) from by
        rw [decide_eq_decide]; unfold rngOk; rw [Int.toNat_natCast]; omega)
      rw [HE.out]
      generalize ones k = o at *
      clear h0 h1 hs hk HE
      go_enter Tryz.func140, Tryz.ntmps140
      go_wp2_with fail
      go_quiet ((first | (go_at_call 157; with_reducible exact quiet_on (HO.out _)) | (go_at_call 157; with_reducible exact quiet_at (HO.out _))))
      go_wp2_with fail
      go_ret
      exact ⟨by simp [beq_cast], kept_drewN _ _ _⟩
    · have x2 : decide (size ≤ 4096) = false := decide_eq_false h1
      have HE := Lib.hid (show decide (rngOk size n) = false from decide_eq_false (fun q => h1 q.2.1))
      rw [HE.out]
      clear h0 h1 hs
      go_enter Tryz.func140, Tryz.ntmps140
      go_wp2_with fail
      go_quiet (fail)
      go_wp2_with fail
      go_ret
      exact ⟨by simp, kept_drewN _ _ _⟩
  · have x1 : decide (0 ≤ size) = false := decide_eq_false h0
    have HE := Lib.hid (show decide (rngOk size n) = false from decide_eq_false (fun q => h0 q.1))
    rw [HE.out]
    clear h0 hs
    go_enter Tryz.func140, Tryz.ntmps140
    go_wp2_with fail
    go_quiet (fail)
    go_wp2_with fail
    go_ret
    exact ⟨by simp, kept_drewN _ _ _⟩
def rootH : List By → By
  | [] => shaF []
  | [h] => h
  | h :: h' :: r => nodeF h (rootH (h' :: r))
theorem rootH_snoc (l : List By) (x : By) : rootH (l ++ [x]) = l.foldr nodeF x := by
  induction l with
  | nil => rfl
  | cons a r ih =>
    cases r with
    | nil => rfl
    | cons b r => simp only [List.cons_append, rootH, List.foldr_cons] at ih ⊢; rw [ih]
theorem rootH_len {l : List By} (h : ∀ x ∈ l, x.length = 32) : (rootH l).length = 32 := by
  match l with
  | [] => exact shaF_len _
  | [a] => exact h a (by simp)
  | a :: b :: r => exact nodeF_len _ _
def foldN {ns : List By} (o : By) (pre : List (BkH ns)) : By := pre.foldl (fun o x => nodeF x.1.2 o) o
theorem foldN_snoc {ns : List By} (o : By) (pre : List (BkH ns)) (x : BkH ns) : foldN o (pre ++ [x]) = nodeF x.1.2 (foldN o pre) := by simp [foldN]
theorem foldN_len {ns : List By} {o : By} (ho : o.length = 32) (pre : List (BkH ns)) : (foldN o pre).length = 32 := by
  induction pre generalizing o with
  | nil => exact ho
  | cons x r ih => exact ih (nodeF_len _ _)
theorem foldN_all {ns : List By} (o : By) (ys : List (BkH ns)) (h : ys.map (·.1) = backs ns) : foldN o ys = rootH (ns ++ [o]) := by
  have e : ys.map (fun x => x.1.2) = ns.reverse := by
    have := congrArg (List.map (·.2)) h
    rw [backs_map, List.map_map] at this
    exact this
  rw [rootH_snoc, ← List.foldl_reverse, ← e, List.foldl_map]
  rfl
abbrev rootW (w : World) (size : Int) (v : Value) : World := (w.alloc (.cells #[.int .i64 size, v] 55)).alloc (.cells (zeros 32).toArray 57)
theorem root_start (w : World) (size : Int) (v : Value) {W1 W2 : World} (hW : W1 = rootW w size v) (hk : Kept (fun _ => False) W1 W2) : Blk W2 w.heap.size [.int .i64 size, v] 55 ∧ Blk W2 (w.heap.size + 1) (zeros 32) 57 ∧ Kept (fun _ => False) w W2 := by
  have b1 := (Blk.new w [.int .i64 size, v] 55).alloc (.cells (zeros 32).toArray 57)
  have b2 := Blk.new (w.alloc (.cells #[.int .i64 size, v] 55)) (zeros 32) 57
  simp only [World.size_alloc] at b2
  have k1 : Kept (fun _ => False) w W1 := by rw [hW]; exact ((Kept.refl _ _).alloc _).alloc _
  refine ⟨Blk.kept ?_ hk id, Blk.kept ?_ hk id, k1.trans hk⟩
  · rw [hW]; exact b1
  · rw [hW]; exact b2
structure RootJ (w : World) (ob sb z : Nat) (v : Value) (la : By) {ns : List By} (pre : List (BkH ns)) (W : World) : Prop where
  out : Blk W ob (bytes8 (foldN la pre)) 57
  res : Blk W (w.heap.size + 1) (zeros 32) 57
  bs : Blk W sb [v] 53
  kept : Kept (fun _ => False) w W
  low : z ≤ W.heap.size ∧ w.heap.size + 1 < ob ∧ ob < sb ∧ sb < z
theorem RootJ.turn {w W W' : World} {ob sb z : Nat} {v : Value} {la : By} {ns : List By} {pre : List (BkH ns)} {Z : Nat → Prop} (h : RootJ w ob sb z v la pre W) (hk : Kept Z W W') (hZ : ∀ k, k < W.heap.size → Z k → w.heap.size ≤ k ∧ ¬ IsCells W k) : RootJ w ob sb z v la pre W' := by
  have nc : ∀ k, IsCells W k → ¬ Z k := fun k q z => (hZ k (by obtain ⟨_, _, _, q⟩ := q; exact (Array.getElem?_eq_some_iff.1 q).1) z).2 q
  exact ⟨h.out.kept hk (nc _ h.out.cells), h.res.kept hk (nc _ h.res.cells), h.bs.kept hk (nc _ h.bs.cells), h.kept.then_ hk (fun i hi z => by have := (hZ i (Nat.lt_of_lt_of_le hi h.kept.size) z).1; omega), Nat.le_trans h.low.1 hk.size, h.low.2⟩
theorem RootJ.next {w W W1 : World} {ob sb z : Nat} {v : Value} {la : By} {ns : List By} {pre : List (BkH ns)} {x : BkH ns} (h : RootJ w ob sb z v la pre W) (hla : la.length = 32) (hk : Kept (fun _ => False) W W1) :
    W1.there ob 0 (bytes8 (nodeF x.1.2 (foldN la pre))).toArray.size ∧ RootJ w ob sb z v la (pre ++ [x]) (W1.setCells ob 0 (bytes8 (nodeF x.1.2 (foldN la pre)))) ∧ Kept (· = ob) W (W1.setCells ob 0 (bytes8 (nodeF x.1.2 (foldN la pre)))) := by
  have h1 := h.turn hk (fun _ _ => False.elim)
  have e1 : (bytes8 (nodeF x.1.2 (foldN la pre))).length = 32 := by rw [bytes8_len, nodeF_len]
  have e2 : (bytes8 (foldN la pre)).length = 32 := by rw [bytes8_len, foldN_len hla]
  have hs := h1.out.setCells 0 (bytes8 (nodeF x.1.2 (foldN la pre))) (by omega)
  rw [splice_whole (by omega), ← foldN_snoc] at hs
  have k2 := kept_setCells W1 ob 0 (bytes8 (nodeF x.1.2 (foldN la pre)))
  have hl := h.low
  refine ⟨h1.out.there 0 _ (by rw [List.size_toArray]; omega), ⟨?_, h1.res.kept k2 (by omega), h1.bs.kept k2 (by omega), h1.kept.then_ k2 (fun i hi e => by omega), Nat.le_trans h1.low.1 k2.size, hl.2⟩, (hk.mono (fun _ _ => False.elim)).trans k2⟩
  rw [foldN_snoc] at hs ⊢
  exact hs
set_option maxRecDepth 100000 in
set_option maxHeartbeats 8000000 in
theorem rngRootS (w : World) (size : Int) (a : Option Addr) (c : Nat) (ini : List By) (la : By) (hv : View w 32 (.slice a (ini.length + 1) c) (hcells (ini ++ [la]))) (h32 : ∀ x ∈ ini ++ [la], x.length = 32) (hlen : ini.length ≤ 100000) (hok : rngOk size (ini.length + 1)) (ht : Tab w) :
    Calls Tryz.prog 112 #[rngV size (.slice a (ini.length + 1) c)] w fun e w' => e = .returned (.tuple #[hashV (rootH (ini ++ [la])), .int .i64 0]) ∧ Kept (fun _ => False) w w' := by
  refine (callsIn_wide (n := 6)).1 ?_
  obtain ⟨W1, hW1⟩ : ∃ W1, W1 = rootW w size (.slice a (ini.length + 1) c) := ⟨_, rfl⟩
  obtain ⟨i1, i2, i3⟩ := root_start w size (.slice a (ini.length + 1) c) hW1 (Kept.refl _ _)
  have c0 := i1.cell (i := 0) rfl
  have c1 := i1.cell (i := 1) rfl
  have hV := rngValid_any W1 size a (ini.length + 1) c (by omega) (by obtain ⟨q1, q2, _⟩ : 0 ≤ size ∧ size ≤ 4096 ∧ ini.length + 1 = ones size.toNat := hok; omega)
  rw [decide_eq_true hok] at hV
  have HV := Lib.hid (callsIn_wide (n := 5) |>.2 hV)
  have HBK := Lib.hid (fun a m c w' => callsIn_wide (n := 5) |>.2 (backwardH_any a m c w'))
  have hfV : Fence.wide.fn 140 := trivial
  have hfB : Fence.wide.fn 142 := trivial
  have hs0 : ¬ size = 0 := by
    intro e
    have h1 := hok.2.2
    rw [e] at h1
    have : ones (Int.toNat 0) = 0 := by decide
    omega
  have y1 : decide (size = 0) = false := decide_eq_false hs0
  have y2 : (size == 0) = false := beq_eq_false_iff_ne.2 hs0
  have hv0 := hv
  obtain ⟨_, _, _, ev, hm, hml, hcl, _, hcl2⟩ := hv
  cases ev
  obtain ⟨g, off, rfl, hg, hcc⟩ := hcl2 (Nat.succ_pos _)
  have hrl := hash_range (w := w) h32 hcc (q := ini.length) (x := la) (by simp)
  have hla : la.length = 32 := h32 la (by simp)
  have HI := Lib.hid (And.intro i1 (And.intro i2 i3))
  have HH := Lib.hid (And.intro hv0 (And.intro h32 (And.intro ht (And.intro hrl (And.intro hla hg)))))
  have hL : (Tryz.prog.info? 57).map (·.size) = some (bytes8 la).length := by rw [bytes8_len, hla]; exact info_h32
  have HL := Lib.hid hL
  have z1 : decide (((ini.length + 1 : Nat) : Int) - 1 < 0) = false := decide_eq_false (by omega)
  clear i1 i2 i3 hv0 h32 ht hok hs0 hV hcc hcl2 hm hrl hla hg hL
  refine callsIn_of_wp_marks Tryz.func112 rfl trivial ?_ rfl
  simp only [Tryz.ntmps112, List.size_toArray, List.length_cons, List.length_nil, Nat.reduceAdd, Nat.reduceSub, Array.replicate_succ, Array.replicate_zero, List.push_toArray, List.append_toArray, List.nil_append, List.cons_append]
  gi_upto_region 1 with (fail)
  generalize hWx : World.alloc _ _ = Wx
  obtain rfl : W1 = Wx := by rw [hW1, ← hWx]; rfl
  clear hW1 hWx
  gi_upto_region 6 with (gi_at_call 140; refine HV.out.mono ?_; rintro e w1 ⟨rfl, hk1⟩; have c01 := hk1.cell c0 id; have c11 := hk1.cell c1 id; have HK1 := Lib.hid hk1; clear hk1)
  have k1 := HI.out.2.2.trans HK1.out
  have hrl1 : w1.rangeAt g (off + ini.length * 32) (bytes8 la) := fun j v hv => k1.cell (HH.out.2.2.2.1 j v hv) id
  have hbo := Blk.new w1 (zeros 32) 57
  have HB := Lib.hid (And.intro hrl1 (And.intro (hbo.there 0 32 (by simp [zeros_len])) (show Blk ((w1.alloc (.cells (zeros 32).toArray 57)).setCells w1.heap.size 0 (bytes8 la)) w1.heap.size (bytes8 la) 57 from by
    have h1 := hbo.setCells 0 (bytes8 la) (by rw [bytes8_len, HH.out.2.2.2.2.1, zeros_len]; omega)
    rw [splice_whole (by rw [bytes8_len, HH.out.2.2.2.2.1, zeros_len])] at h1
    exact h1)))
  clear hrl1 hbo k1
  gi_upto_region 7 with (first
    | ((with_reducible show wpListIn _ _ _ _ _ (⟨some 26, _, _, _, _, _⟩ :: _) _ _); refine wpListIn_load_mid rfl 57 _ rfl g (off + ini.length * 32) rfl (bytes8 la) _ HB.out.1 Tryz.underlying57 rfl HL.out ?_)
    | ((with_reducible show wpListIn _ _ _ _ _ (⟨none, .store _ (.tmp 5) _, _, _, _, _⟩ :: _) _ _); refine wpListIn_store_row rfl 57 _ _ rfl w1.heap.size 0 (bytes8 la).toArray rfl rfl ?ht1 ?hi1 ?h11 ?_))
  case ht1 =>
    have e : (bytes8 la).toArray.size = 32 := by rw [List.size_toArray, bytes8_len]; exact HH.out.2.2.2.2.1
    rw [e]
    exact HB.out.2.1
  case hi1 => exact (by rw [List.size_toArray]; exact HL.out)
  case h11 => exact all_oneCell_toArray u8_oneCell
  generalize hW2 : World.setCells _ w1.heap.size 0 _ = W2
  have b5 : Blk W2 w1.heap.size (bytes8 la) 57 := by rw [← hW2]; exact HB.out.2.2
  have k2 : Kept (fun _ => False) w1 W2 := by
    rw [← hW2]
    exact ((Kept.refl (fun _ => False) w1).alloc _).then_ (kept_setCells _ _ _ _) (fun i hi e => by omega)
  clear hW2 HB
  have c12 := k2.cell c11 id
  gi_wp2_with (gi_at_call 142; refine (HBK.out _ _ _ _).mono ?_; rintro e w' ⟨rfl, rfl⟩)
  have hz0 := HI.out.2.1.lt
  have hz1 := HK1.out.size
  have hz2 : w1.heap.size < W2.heap.size := b5.lt
  have hbs : Blk (W2.alloc (.cells #[.slice (some ⟨g, off, none⟩) ini.length c] 53)) W2.heap.size [.slice (some ⟨g, off, none⟩) ini.length c] 53 := Blk.new W2 [.slice (some ⟨g, off, none⟩) ini.length c] 53
  have hzz : W2.heap.size < (W2.alloc (.cells #[.slice (some ⟨g, off, none⟩) ini.length c] 53)).heap.size := by rw [World.size_alloc]; omega
  have hJ0 : RootJ w w1.heap.size W2.heap.size (W2.alloc (.cells #[.slice (some ⟨g, off, none⟩) ini.length c] 53)).heap.size (.slice (some ⟨g, off, none⟩) ini.length c) la ([] : List (BkH ini)) (W2.alloc (.cells #[.slice (some ⟨g, off, none⟩) ini.length c] 53)) :=
    ⟨b5.alloc _, ((HI.out.2.1.kept HK1.out id).kept k2 id).alloc _, hbs, ((HI.out.2.2.trans HK1.out).trans k2).alloc _, Nat.le_refl _, by omega, hz2, hzz⟩
  have hvm : View (W2.alloc (.cells #[.slice (some ⟨g, off, none⟩) ini.length c] 53)) 32 (.slice (some ⟨g, off, none⟩) ini.length c) (hcells ini) := by
    have h1 := (HH.out.1.same (((HI.out.2.2.trans HK1.out).trans k2).alloc (.cells #[.slice (some ⟨g, off, none⟩) ini.length c] 53)) (by omega)).head ini.length (by omega)
    have e : (hcells (ini ++ [la])).take (ini.length * 32) = hcells ini := by
      have hl2 : (hcells ini).length = ini.length * 32 := hcells_len (fun x hx => HH.out.2.1 x (by simp [hx]))
      rw [show hcells (ini ++ [la]) = hcells ini ++ bytes8 la by simp [hcells, bytes8], List.take_append_of_le_length (by omega), List.take_of_length_le (by omega)]
    rw [e] at h1
    exact h1
  have h32i : ∀ x ∈ ini, x.length = 32 := fun x hx => HH.out.2.1 x (by simp [hx])
  have hgl : g < W2.heap.size := by have := HH.out.2.2.2.2.2; omega
  obtain ⟨W0, hW0⟩ : ∃ W0, W2.alloc (.cells #[.slice (some ⟨g, off, none⟩) ini.length c] 53) = W0 := ⟨_, rfl⟩
  rw [hW0] at hbs hzz hJ0 hvm ⊢
  have hIown : OwnFrom W0.heap.size (fun (pre : List (BkH ini)) W => RootJ w w1.heap.size W2.heap.size W0.heap.size (.slice (some ⟨g, off, none⟩) ini.length c) la pre W) := fun pre X Y row h hg hr =>
    h.turn (grown_kept hg) (fun k _ e => by obtain ⟨h1, o, ho, hc⟩ := hr k e; exact ⟨by omega, nonCells ho hc⟩)
  clear hW0 c12 b5 k2 HI HK1 HV HBK c01 c11 c0 c1
  refine wpIn_rangeFunc_ownH rfl (by omega) (gf := 160) (lb := #[.pointer (some ⟨W2.heap.size, 0, none⟩)]) rfl trivial (enters_of Tryz.func160 (by kernel_rfl) rfl)
    (backH_stops Fence.wide _ trivial rfl (by omega) W2.heap.size W0.heap.size (fun k => ¬ (k = W2.heap.size ∨ k = g)) (some ⟨g, off, none⟩) c ini h32i (by omega) W0 (hbs.cell (i := 0) rfl) hzz ⟨hzz, fun q => q (Or.inl rfl)⟩ hvm (fun _ k q => ⟨by simp [Value.ownBlock] at q; omega, fun n => n (Or.inr (by simp [Value.ownBlock] at q; exact q.symm))⟩))
    (fun h1 h2 => h1.trans h2) (fun W l o o' hl _ _ _ => KeptB.putObj _ W l o' hl) (Below.refl _ _) (fun _ => rfl)
    (fun pre W => RootJ w w1.heap.size W2.heap.size W0.heap.size (.slice (some ⟨g, off, none⟩) ini.length c) la pre W)
    (fun _ _ _ => False) hIown (fun _ _ _ _ _ hs _ _ => hs) hJ0
    (fun x a' W => ∃ b, Blk W b (bytes8 x.1.2) 57 ∧ W0.heap.size ≤ b ∧ a' = { tmps := #[rngV size (.slice (some ⟨g, off, none⟩) (ini.length + 1) c), .pointer (some ⟨w.heap.size, 0, none⟩), .pointer (some ⟨w.heap.size + 1, 0, none⟩), .int .i64 0, .int .i64 (ini.length : Int), .pointer (some ⟨w1.heap.size, 0, none⟩), undef, .pointer (some ⟨b, 0, none⟩), .bool false, .agg #[.int .i64 size, .slice (some ⟨g, off, none⟩) (ini.length + 1) c], .bool true, .bool false, undef, .bool false, .pointer (some ⟨w.heap.size, 0, none⟩), .int .i64 size, .bool false, undef, .pointer (some ⟨w.heap.size, 1, none⟩), .slice (some ⟨g, off, none⟩) (ini.length + 1) c, .int .i64 ((ini.length : Int) + 1), .int .i64 (ini.length : Int), .pointer (some ⟨w.heap.size, 1, none⟩), .slice (some ⟨g, off, none⟩) (ini.length + 1) c, .int .i64 (ini.length : Int), .pointer (some ⟨g, off + ini.length * 32, none⟩), hashV la, .pointer (some ⟨w.heap.size, 1, none⟩), .slice (some ⟨g, off, none⟩) (ini.length + 1) c, .int .i64 (ini.length : Int), .slice (some ⟨g, off, none⟩) ini.length c, .func (.func 160) #[] #[.pointer (some ⟨W2.heap.size, 0, none⟩)], .int .i64 (x.1.1 : Int), hashV x.1.2, undef, undef, undef, undef], defers := [] })
    ?hAx ?assign ?body ?done ?stop
  case hAx =>
    rintro x a' u X Y row ⟨b, hb, hb2, e⟩ hg hr
    exact ⟨b, hb.kept (grown_kept hg) (fun e => by obtain ⟨_, o, ho, hc⟩ := hr _ e; exact nonCells ho hc hb.cells), hb2, e⟩
  case assign =>
    intro l pre x W K hi hK
    have hx32 := h32i x.1.2 (backs_mem x.2)
    have hbn := Blk.new W (zeros 32) 57
    have HS := Lib.hid (And.intro (hbn.there 0 32 (by simp [zeros_len])) (show Blk ((W.alloc (.cells (zeros 32).toArray 57)).setCells W.heap.size 0 (bytes8 x.1.2)) W.heap.size (bytes8 x.1.2) 57 ∧ Kept (fun _ => False) W ((W.alloc (.cells (zeros 32).toArray 57)).setCells W.heap.size 0 (bytes8 x.1.2)) from by
      have h1 := hbn.setCells 0 (bytes8 x.1.2) (by rw [bytes8_len, hx32, zeros_len]; omega)
      rw [splice_whole (by rw [bytes8_len, hx32, zeros_len])] at h1
      exact ⟨h1, ((Kept.refl (fun _ => False) W).alloc _).then_ (kept_setCells _ _ _ _) (fun i hi e => by omega)⟩))
    have hsz : (Tryz.prog.info? 57).map (·.size) = some (bytes8 x.1.2).length := by rw [bytes8_len, hx32]; exact info_h32
    have HZ := Lib.hid (And.intro hsz hx32)
    have HII := Lib.hid hi
    clear hbn hsz hx32 hi
    gi_wp2_with ((with_reducible show wpListIn _ _ _ _ _ (⟨none, .store _ (.tmp 7) _, _, _, _, _⟩ :: _) _ _); refine wpListIn_store_row rfl 57 _ _ rfl W.heap.size 0 (bytes8 x.1.2).toArray rfl rfl ?hta ?hia ?h1a ?_)
    case hta =>
      have e : (bytes8 x.1.2).toArray.size = 32 := by rw [List.size_toArray, bytes8_len]; exact HZ.out.2
      first
      | (rw [e]; exact HS.out.1)
      | (rw [List.size_toArray] at e; rw [e]; exact HS.out.1)
    case hia => first
      | exact (by rw [List.size_toArray]; exact HZ.out.1)
      | simpa using HZ.out.1
    case h1a => first
      | exact all_oneCell_toArray u8_oneCell
      | exact fun v hv => u8_oneCell v hv
    exact hK _ _ (CellsT.keepsFrom HS.out.2.2 (fun _ _ => False.elim) _) (HS.out.2.2.keptB HII.out.low.1 (fun _ _ => False.elim)) (HII.out.turn HS.out.2.2 (fun _ _ => False.elim)) ⟨W.heap.size, HS.out.2.1, HII.out.low.1, rfl⟩
  case body =>
    rintro l pre x a' W hl ⟨r, hr⟩ hI ⟨b, hb, hb2, rfl⟩ hlt
    have hx32 := h32i x.1.2 (backs_mem x.2)
    have hla := HH.out.2.2.2.2.1
    have hf32 : (foldN la pre).length = 32 := foldN_len hla pre
    have HN := Lib.hid (((callsIn_wide (n := 3)).2 (node_any W x.1.2 (foldN la pre) hx32 hf32 (HH.out.2.2.1.same hI.kept))).inRound l)
    have HP := Lib.hid (And.intro hb.range0 (And.intro hI.out.range0 (And.intro (show (Tryz.prog.info? 57).map (·.size) = some (bytes8 x.1.2).length by rw [bytes8_len, hx32]; exact info_h32) (And.intro (show (Tryz.prog.info? 57).map (·.size) = some (bytes8 (foldN la pre)).length by rw [bytes8_len, hf32]; exact info_h32) (show (Tryz.prog.info? 57).map (·.size) = some (bytes8 (nodeF x.1.2 (foldN la pre))).toArray.size by rw [List.size_toArray, bytes8_len, nodeF_len]; exact info_h32)))))
    have HNX := Lib.hid (fun Wx (hk : Kept (fun _ => False) W Wx) => hI.next (x := x) hla hk)
    have HIC := Lib.hid hI
    have hfN : Fence.wide.fn 143 := trivial
    clear hr hI hb hx32 hla hf32 hJ0 hIown hvm hbs h32i
    gi_wp2_with (first
      | ((with_reducible show wpListIn _ _ _ _ _ (⟨some 34, _, _, _, _, _⟩ :: _) _ _); refine wpListIn_load_mid rfl 57 _ rfl b 0 rfl (bytes8 x.1.2) _ HP.out.1 Tryz.underlying57 rfl HP.out.2.2.1 ?_)
      | ((with_reducible show wpListIn _ _ _ _ _ (⟨some 35, _, _, _, _, _⟩ :: _) _ _); refine wpListIn_load_mid rfl 57 _ rfl w1.heap.size 0 rfl (bytes8 (foldN la pre)) _ HP.out.2.1 Tryz.underlying57 rfl HP.out.2.2.2.1 ?_)
      | (gi_at_call 143; refine HN.out.mono ?_; rintro e W3 ⟨rfl, hk3⟩; have HK3 := Lib.hid hk3; clear hk3)
      | ((with_reducible show wpListIn _ _ _ _ _ (⟨none, .store _ (.tmp 5) _, _, _, _, _⟩ :: _) _ _); refine wpListIn_store_row rfl 57 _ _ rfl w1.heap.size 0 (bytes8 (nodeF x.1.2 (foldN la pre))).toArray rfl rfl ?htb ?hib ?h1b ?_))
    case htb => exact (HNX.out W3 HK3.out).1
    case hib => exact HP.out.2.2.2.2
    case h1b => exact all_oneCell_toArray u8_oneCell
    obtain ⟨-, hJ2, hk2⟩ := HNX.out W3 HK3.out
    refine ⟨CellsT.keepsFrom hk2 (fun k hl z => by subst z; exact HIC.out.out.cells) _, hk2.keptB HIC.out.low.1 (fun k _ z q => ?_), hJ2⟩
    have := HH.out.2.2.2.2.2
    rcases q with e | e
    · omega
    · omega
  case done =>
    rintro D ys W hD hy hI hK
    have hf32 : (foldN la ys).length = 32 := foldN_len HH.out.2.2.2.2.1 ys
    have HY := Lib.hid (foldN_all la ys hy)
    have hs := hI.res.setCells 0 (bytes8 (foldN la ys)) (by rw [bytes8_len, hf32, zeros_len]; omega)
    rw [splice_whole (by rw [bytes8_len, hf32, zeros_len])] at hs
    have HP := Lib.hid (And.intro hI.out.range0 (And.intro (show (Tryz.prog.info? 57).map (·.size) = some (bytes8 (foldN la ys)).length by rw [bytes8_len, hf32]; exact info_h32) (And.intro (hI.res.there 0 (bytes8 (foldN la ys)).toArray.size (by rw [List.size_toArray, bytes8_len, hf32, zeros_len]; omega)) hs)))
    have HIC := Lib.hid hI
    clear hy hI hf32 hs hJ0 hIown hvm hbs h32i
    generalize foldN la ys = Q at *
    gi_wp2_with (first
      | ((with_reducible show wpListIn _ _ _ _ _ (⟨some 37, _, _, _, _, _⟩ :: _) _ _); refine wpListIn_load_mid rfl 57 _ rfl w1.heap.size 0 rfl (bytes8 Q) _ HP.out.1 Tryz.underlying57 rfl HP.out.2.1 ?_)
      | ((with_reducible show wpListIn _ _ _ _ _ (⟨none, .store _ (.tmp 2) _, _, _, _, _⟩ :: _) _ _); refine wpListIn_store_row rfl 57 _ _ rfl (w.heap.size + 1) 0 (bytes8 Q).toArray rfl rfl HP.out.2.2.1 (by rw [List.size_toArray]; exact HP.out.2.1) (all_oneCell_toArray u8_oneCell) ?_))
    have k5 : Kept (fun k => k = w.heap.size + 1) W (W.setCells (w.heap.size + 1) 0 (bytes8 Q)) := kept_setCells _ _ _ _
    have hK4 : (W.setCells (w.heap.size + 1) 0 (bytes8 Q)).heap[D]? = some (.deferred (some [])) := by
      rw [k5.block D (Array.getElem?_eq_some_iff.1 hK).1 (by have := HIC.out.low; omega)]; exact hK
    refine ⟨by simp, .inl ⟨_, _, rfl, run_takeDeferred hK4, ?_⟩⟩
    have kD := grown_kept (grownBy_putObj' (W.setCells (w.heap.size + 1) 0 (bytes8 Q)) D (.deferred none))
    have hr5 := HP.out.2.2.2.kept kD (fun e => by cases e; have := HIC.out.low; omega)
    refine ⟨.tuple #[hashV (rootH (ini ++ [la])), .int .i64 0], ?_, rfl, (HIC.out.kept.then_ k5 (fun i hi e => by omega)).then_ kD (fun i hi e => by cases e; have := HIC.out.kept.size; have := HIC.out.low; omega)⟩
    rw [← HY.out]
    exact hr5.result2 (p := 2) (u := 3) rfl rfl Tryz.underlying57 rfl HP.out.2.1
  case stop =>
    rintro D c pre W _ _ h _
    exact h.elim
set_option maxRecDepth 100000 in
set_option maxHeartbeats 2000000 in
theorem rngRoot0 (w : World) (a : Option Addr) (c : Nat) (ht : Tab w) :
    Calls Tryz.prog 112 #[rngV 0 (.slice a 0 c)] w fun e w' => e = .returned (.tuple #[hashV (rootH []), .int .i64 0]) ∧ Kept (fun _ => False) w w' := by
  refine (callsIn_wide (n := 6)).1 ?_
  obtain ⟨W1, hW1⟩ : ∃ W1, W1 = rootW w 0 (.slice a 0 c) := ⟨_, rfl⟩
  obtain ⟨i1, i2, i3⟩ := root_start w 0 (.slice a 0 c) hW1 (Kept.refl _ _)
  have c0 := i1.cell (i := 0) rfl
  have c1 := i1.cell (i := 1) rfl
  have hV := rngValid_any W1 0 a 0 c (by omega) (by omega)
  rw [decide_eq_true (show rngOk 0 0 from ⟨by omega, by omega, by decide⟩)] at hV
  have HV := Lib.hid (callsIn_wide (n := 5) |>.2 hV)
  have hfV : Fence.wide.fn 140 := trivial
  have hfR : Fence.wide.fn 141 := trivial
  have HR := Lib.hid (fun w1 (hk : Kept (fun _ => False) W1 w1) => callsIn_wide (n := 5) |>.2 (root_any w1 (.slice none 0 0) [] (View.nil _ _) (fun x hx => by simp at hx) (by simp) (ht.same (i3.trans hk))))
  have HI := Lib.hid (And.intro i2 i3)
  have hsz : (Tryz.prog.info? 57).map (·.size) = some (bytes8 (rootF [])).length := by rw [bytes8_len, rootF_len (fun x hx => by simp at hx)]; exact info_h32
  have hl32 : (rootF []).length = 32 := rootF_len (fun x hx => by simp at hx)
  have HSZ := Lib.hid (And.intro hsz hl32)
  have HQ := Lib.hid (show rootF [] = rootH [] from rfl)
  clear i1 i2 i3 hV hsz hl32
  refine callsIn_of_wp_marks Tryz.func112 rfl trivial ?_ rfl
  simp only [Tryz.ntmps112, List.size_toArray, List.length_cons, List.length_nil, Nat.reduceAdd, Nat.reduceSub, Array.replicate_succ, Array.replicate_zero, List.push_toArray, List.append_toArray, List.nil_append, List.cons_append]
  gi_upto_region 1 with (fail)
  generalize hWx : World.alloc _ _ = Wx
  obtain rfl : W1 = Wx := by rw [hW1, ← hWx]; rfl
  clear hW1 hWx
  generalize rootF [] = Q at *
  gi_wp2_with (first
    | (gi_at_call 140; refine HV.out.mono ?_; rintro e w1 ⟨rfl, hk1⟩; have c01 := hk1.cell c0 id; have HK1 := Lib.hid hk1; clear hk1)
    | (gi_at_call 141; refine (HR.out _ HK1.out).mono ?_; rintro e w2 ⟨rfl, hk2⟩; have HK2 := Lib.hid (HK1.out.trans hk2); clear hk2)
    | ((with_reducible show wpListIn _ _ _ _ _ (⟨none, .store _ (.tmp 2) _, _, _, _, _⟩ :: _) _ _); refine wpListIn_store_row rfl 57 _ _ rfl (w.heap.size + 1) 0 (bytes8 Q).toArray rfl rfl ?ht1 ?hi1 ?h11 ?_))
  case ht1 =>
    have e : (bytes8 Q).toArray.size = 32 := by rw [List.size_toArray, bytes8_len]; exact HSZ.out.2
    have := (HI.out.1.kept HK2.out id).there 0 32 (by simp [zeros_len])
    first
    | (rw [e]; exact this)
    | (rw [List.size_toArray] at e; rw [e]; exact this)
  case hi1 => first
    | exact (by rw [List.size_toArray]; exact HSZ.out.1)
    | simpa using HSZ.out.1
  case h11 => first
    | exact all_oneCell_toArray u8_oneCell
    | exact fun v hv => u8_oneCell v hv
  have b2 := HI.out.1.kept HK2.out id
  have hs := b2.setCells 0 (bytes8 Q) (by rw [bytes8_len, HSZ.out.2, zeros_len]; omega)
  rw [splice_whole (by rw [bytes8_len, HSZ.out.2, zeros_len])] at hs
  refine ⟨.tuple #[hashV Q, .int .i64 0], hs.result2 (p := 2) (u := 3) rfl rfl Tryz.underlying57 rfl HSZ.out.1, by rw [HQ.out], (HI.out.2.trans HK2.out).then_ (kept_setCells _ _ _ _) (fun i hi e => by omega)⟩
theorem rngRoot_any (w : World) (size : Int) (a : Option Addr) (c : Nat) (hs : List By) (hv : View w 32 (.slice a hs.length c) (hcells hs)) (h32 : ∀ x ∈ hs, x.length = 32) (hlen : hs.length ≤ 100000) (hok : rngOk size hs.length) (ht : Tab w) :
    Calls Tryz.prog 112 #[rngV size (.slice a hs.length c)] w fun e w' => e = .returned (.tuple #[hashV (rootH hs), .int .i64 0]) ∧ Kept (fun _ => False) w w' := by
  rcases hs.eq_nil_or_concat with rfl | ⟨ini, la, rfl⟩
  · obtain ⟨q1, q2, q3⟩ : 0 ≤ size ∧ size ≤ 4096 ∧ 0 = ones size.toNat := hok
    have : size.toNat = 0 := ones_zero q3.symm (by omega)
    obtain rfl : size = 0 := by omega
    exact rngRoot0 w a c ht
  · rw [List.concat_eq_append] at *
    have e : (ini ++ [la]).length = ini.length + 1 := by simp
    rw [e] at hv hlen hok ⊢
    exact rngRootS w size a c ini la hv h32 (by omega) hok ht
end Go.Proofs.YtlgeijbgkipliaaGreatDoor

namespace Go.Proofs.YtlgeijbgkipliaaGreatDoor
open Go.RowKit
def hashesF (L : List By) : By := numL L.length ++ L.flatten
theorem kept_low {B : Nat} {w w' : World} (h : Below B w w') : Kept (fun k => B ≤ k) w w' := ⟨h.os, h.tape, h.output, h.size, fun k _ hn => h.block k (by omega)⟩
theorem kept_bld {B : Nat} {w wr w' : World} (hk : Kept (fun _ => False) w wr) (h : Below B wr w') (hB : w.heap.size ≤ B) : Kept (fun _ => False) w w' := hk.then_ (kept_low h) (fun i hi e => by omega)
theorem flatten_len32 {L : List By} (h : ∀ x ∈ L, x.length = 32) : L.flatten.length = L.length * 32 := by
  induction L with
  | nil => rfl
  | cons a L ih => rw [List.flatten_cons, List.length_append, h a (by simp), ih (fun x hx => h x (by simp [hx])), List.length_cons]; omega
theorem numL_small {n : Nat} (h : n ≤ 127) : numL n = [UInt8.ofNat n] := by
  unfold numL
  rw [show n / 128 = 0 by omega, moreL_zero, show n % 128 = n by omega]
set_option maxRecDepth 100000 in
set_option maxHeartbeats 2000000 in
theorem hashes_any (w : World) (a : Option Addr) (n c : Nat) (L : List By) (hv : View w 32 (.slice a n c) (hcells L)) (h32 : ∀ x ∈ L, x.length = 32) (hL : L.length ≤ 64) :
    Calls Tryz.prog 117 #[.slice a n c] w fun e w' => e = .returned (.string ⟨(hashesF L).toArray⟩) ∧ Kept (fun _ => False) w w' := by
  have hz : (hcells L).length = L.length * 32 := hcells_len h32
  obtain rfl : n = L.length := by
    obtain ⟨_, _, _, e, h1, _⟩ := id hv
    cases e
    omega
  have z0 : decide ((64 : Int) < (L.length : Int)) = false := decide_eq_false (by omega)
  have hk0 : Kept (fun _ => False) w (w.alloc (.cells #[.pointer none, .slice none 0 0] 165)) := (Kept.refl _ _).alloc _
  have hW := World.size_alloc w (.cells #[.pointer none, .slice none 0 0] 165)
  have HNUM := Lib.hid (fun X => num_any X L.length (U64n.small (by omega)))
  have HS0 := Lib.hid (fun (X : World) (hk : Kept (fun _ => False) (w.alloc (.cells #[.pointer none, .slice none 0 0] 165)) X) => show Calls Tryz.prog 102 #[.pointer (some ⟨w.heap.size, 0, none⟩), .string ⟨(numL L.length).toArray⟩] X (fun e w3 => e = .returned (.tuple #[.int .i64 (⟨(numL L.length).toArray⟩ : ByteArray).size, .nilIface]) ∧ Hid (Bld w.heap.size w.heap.size (numL L.length) w3 ∧ w.heap.size ≤ w3.heap.size ∧ Kept (fun _ => False) w w3)) from by
    have hs := hk.size
    refine (writeString_any w.heap.size w.heap.size [] ⟨(numL L.length).toArray⟩ X ((Bld.fresh w).kept hk (fun _ _ => id)) (by rw [numL_small (by omega)]; show 0 + 1 ≤ 1000000000; omega) (by omega)).mono ?_
    rintro e w3 ⟨rfl, hb3, hbel⟩
    exact ⟨rfl, Lib.hid ⟨by simpa using hb3, Nat.le_trans (by omega) hbel.size, kept_bld (hk0.trans hk) hbel (Nat.le_refl _)⟩⟩)
  have HV := Lib.hid (And.intro hv (And.intro h32 hL))
  have hL9 : L.length ≤ 64 := hL
  have hw1 : IntKind.u64.wrap (L.length : Int) = (L.length : Int) := wrap_u64 (U64n.small (by omega))
  clear hv h32 hL hz hW hk0
  go_enter Tryz.func117, Tryz.ntmps117
  go_wp2_with (first
    | (go_at_call 116; refine (HNUM.out _).mono ?_; rintro e w1 ⟨rfl, hk1⟩; have HK1 := Lib.hid hk1; clear hk1)
    | (go_at_call 102; refine (HS0.out _ HK1.out).mono ?_; rintro e w2 ⟨rfl, H2⟩))
  clear HS0 HNUM
  go_loopw [16] (fun x wr => ∃ k : Nat, x = .int .i64 (k : Int) ∧ k ≤ L.length ∧ Hid (Bld w.heap.size w.heap.size (numL L.length ++ (L.take k).flatten) wr ∧ w.heap.size ≤ wr.heap.size ∧ Kept (fun _ => False) w wr)) (fun x _ => L.length - (intOf x).toNat)
  case atStart => exact ⟨0, rfl, Nat.zero_le _, Lib.hid (by simpa using H2.out)⟩
  case round =>
    obtain ⟨k, rfl, hk, HX⟩ := hrel
    by_cases hlt : k < L.length
    · have z1 : decide ((k : Int) < (L.length : Int)) = true := decide_eq_true (by omega)
      obtain ⟨h, HHH⟩ : ∃ h, Hid (L[k]? = some h ∧ h.length = 32) := ⟨L[k], Lib.hid ⟨List.getElem?_eq_getElem hlt, HV.out.2.1 _ (by simp)⟩⟩
      obtain ⟨g, off, rfl, hg, hrk⟩ : ∃ g off, a = some ⟨g, off, none⟩ ∧ g < w.heap.size ∧ wr.rangeAt g (off + k * 32) (bytes8 h) := by
        obtain ⟨_, _, _, e, h1, h2, h3, h4, h5⟩ := id HV.out.1
        cases e
        obtain ⟨g, off, rfl, hg, hc⟩ := h5 (by omega)
        exact ⟨g, off, rfl, hg, fun j u hu => HX.out.2.2.cell (hash_range HV.out.2.1 hc HHH.out.1 j u hu) id⟩
      have hh32 := HHH.out.2
      have HRK := Lib.hid hrk
      have hflat : (L.take (k + 1)).flatten = (L.take k).flatten ++ h := by
        rw [List.take_add_one, HHH.out.1]; simp
      have hfl : (numL L.length ++ (L.take k).flatten).length ≤ 1000000 := by
        rw [List.length_append, numL_small (by omega), flatten_len32 (fun x hx => HV.out.2.1 x (List.mem_of_mem_take hx)), List.length_take, List.length_singleton]; omega
      have hnew := Blk.new wr (zeros 32) 57
      have HN1 := Lib.hid (And.intro (hnew.there 0 32 (by simp [zeros_len])) (hnew.setCells 0 (bytes8 h) (by rw [bytes8_len, hh32, zeros_len]; omega)))
      have HF := Lib.hid (show ∀ w1, w1 = (wr.alloc (.cells (zeros 32).toArray 57)).setCells wr.heap.size 0 (bytes8 h) → w1.rangeAt wr.heap.size 0 (bytes8 h) ∧ Kept (fun _ => False) wr w1 from by
        rintro w1 rfl
        have h1 := HN1.out.2
        rw [splice_whole (by rw [bytes8_len, hh32, zeros_len])] at h1
        exact ⟨h1.range0, ((Kept.refl _ _).alloc _).then_ (kept_setCells _ _ _ _) (fun i hi e => by omega)⟩)
      have HWR := Lib.hid (show ∀ w2, Kept (fun _ => False) wr w2 → Calls Tryz.prog 102 #[.pointer (some ⟨w.heap.size, 0, none⟩), .string ⟨h.toArray⟩] w2 (fun e w3 => e = .returned (.tuple #[.int .i64 (⟨h.toArray⟩ : ByteArray).size, .nilIface]) ∧ Hid (Bld w.heap.size w.heap.size (numL L.length ++ (L.take (k + 1)).flatten) w3 ∧ w.heap.size ≤ w3.heap.size ∧ Kept (fun _ => False) w w3)) from by
        intro w2 hk2
        have hs2 : w.heap.size ≤ w2.heap.size := Nat.le_trans HX.out.2.1 hk2.size
        have hq : (⟨h.toArray⟩ : ByteArray).size = 32 := by show h.toArray.size = 32; rw [List.size_toArray, hh32]
        refine (writeString_any w.heap.size w.heap.size _ ⟨h.toArray⟩ w2 (HX.out.1.kept hk2 (fun _ _ => id)) (by rw [hq]; omega) hs2).mono ?_
        rintro e w3 ⟨rfl, hb3, hbel⟩
        refine ⟨rfl, Lib.hid ⟨by rw [hflat, ← List.append_assoc]; exact hb3, Nat.le_trans hs2 hbel.size, kept_bld (HX.out.2.2.trans hk2) hbel (Nat.le_refl _)⟩⟩)
      have ih := Lib.hid (show (Tryz.prog.info? 57).map (·.size) = some (bytes8 h).length by rw [bytes8_len, hh32]; exact info_h32)
      have HH := Lib.hid (fun w' => hash_any w' h hh32)
      have H32 := Lib.hid hh32
      have i0 : (k : Int) < (L.length : Int) := by omega
      have i1 : (0 : Int) ≤ (k : Int) := by omega
      clear hrk hnew hflat hfl hh32 HX hg
      go_wp2_with (first
        | ((with_reducible show wpList _ _ _ (⟨some 19, _, _, _, _, _⟩ :: _) _ _); refine wpList_load_mid rfl 57 _ rfl g (off + k * 32) rfl (bytes8 h) _ HRK.out Tryz.underlying57 rfl ih.out ?_)
        | ((with_reducible show wpList _ _ _ (⟨none, .store _ (.tmp 5) _, _, _, _, _⟩ :: _) _ _); refine wpList_store_mid rfl 57 _ _ rfl wr.heap.size 0 (bytes8 h).toArray rfl rfl ?hth ?hi ?h1 ?hk; (case' hk => generalize hw1 : World.setCells _ wr.heap.size 0 _ = w1; obtain ⟨p0, kk1⟩ := HF.out w1 hw1.symm; clear hw1; have HB := Lib.hid p0; clear p0))
        | ((with_reducible show wpList _ _ _ (⟨some 20, _, _, _, _, _⟩ :: _) _ _); refine wpList_load_mid rfl 57 _ rfl wr.heap.size 0 rfl (bytes8 h) _ HB.out Tryz.underlying57 rfl ih.out ?_)
        | (go_at_call 146; refine (HH.out _).mono ?_; rintro e w2 ⟨rfl, hk2⟩)
        | (go_at_call 102; refine (HWR.out _ (kk1.trans hk2)).mono ?_; rintro e w3 ⟨rfl, HG⟩))
      case hth =>
        have e : (bytes8 h).toArray.size = 32 := by rw [List.size_toArray, bytes8_len]; exact H32.out
        first
        | (rw [e]; exact HN1.out.1)
        | (rw [List.size_toArray] at e; rw [e]; exact HN1.out.1)
      case hi => first
        | exact (by rw [List.size_toArray]; exact ih.out)
        | simpa using ih.out
      case h1 => first | exact all_oneCell_toArray (fun y hy => u8_oneCell y hy) | exact fun y hy => u8_oneCell y hy
      refine ⟨⟨k + 1, rfl, by omega, HG⟩, ?_⟩
      simp [intOf]
      omega
    · have z1 : decide ((k : Int) < (L.length : Int)) = false := decide_eq_false (by omega)
      obtain rfl : k = L.length := by omega
      have HST := Lib.hid ((builderString_any w.heap.size w.heap.size _ wr HX.out.1 HX.out.2.1).mono (fun e w1 q => show e = .returned (.string ⟨(hashesF L).toArray⟩) ∧ Kept (fun _ => False) w w1 from ⟨by rw [q.1, List.take_length]; rfl, kept_bld HX.out.2.2 q.2 (Nat.le_refl _)⟩))
      clear HX hlt
      go_wp2_with (go_at_call 107; refine HST.out.mono ?_; rintro e w1 ⟨rfl, hk1⟩)
      go_ret
      exact ⟨rfl, hk1⟩
end Go.Proofs.YtlgeijbgkipliaaGreatDoor

namespace Go.Proofs.YtlgeijbgkipliaaGreatDoor
open Go.RowKit
def hputF (z : Nat) (root : By) (i : Nat) (sig : ByteArray) (path : List By) : By := numL z ++ root ++ numL i ++ (numL sig.size ++ sig.data.toList) ++ hashesF path
def HpS (b : Nat) (z i : Int) (root : By) (sig : ByteArray) (v : Value) (W : World) : Prop :=
  W.cell? ⟨b, 0, none⟩ = some (.int .i64 z) ∧ W.rangeAt b 1 (bytes8 root) ∧ W.cell? ⟨b, 33, none⟩ = some (.int .i64 i) ∧ W.cell? ⟨b, 34, none⟩ = some (.string sig) ∧ W.cell? ⟨b, 35, none⟩ = some v
theorem HpS.turn {b : Nat} {z i : Int} {root : By} {sig : ByteArray} {v : Value} {W W' : World} (h : HpS b z i root sig v W) (hk : Kept (fun _ => False) W W') : HpS b z i root sig v W' :=
  ⟨hk.cell h.1 id, fun j u hu => hk.cell (h.2.1 j u hu) id, hk.cell h.2.2.1 id, hk.cell h.2.2.2.1 id, hk.cell h.2.2.2.2 id⟩
theorem hp_start {w : World} {b : Nat} {z i : Int} {root : By} {sig : ByteArray} {v : Value} {t : TypeId} (hr : root.length = 32) (h : Blk w b (signedC z root i sig v) t) : HpS b z i root sig v w ∧ w.rangeAt b 0 (signedC z root i sig v) := by
  obtain ⟨q0, q1, q2, q3⟩ := signed_at (size := z) (i := i) (sig := sig) (v := v) hr
  refine ⟨⟨h.cell q0, fun j u hu => h.cell ?_, h.cell q1, h.cell q2, h.cell q3⟩, h.range0⟩
  have h1 : (headC z root)[1 + j]? = some u := by rw [Nat.add_comm]; exact hu
  unfold signedC
  rw [List.getElem?_append_left (List.getElem?_eq_some_iff.1 h1).1]
  exact h1
set_option maxRecDepth 100000 in
set_option maxHeartbeats 4000000 in
theorem hput_any (w : World) (z i : Nat) (root : By) (sig : ByteArray) (a : Option Addr) (c : Nat) (path : List By) (hv : View w 32 (.slice a 3 c) (hcells path)) (h32 : ∀ x ∈ path, x.length = 32) (hr : root.length = 32) (hz : z ≤ 4096) (hi : i < 8) (hsg : sig.size = 16384) :
    Calls Tryz.prog 115 #[signedV (z : Int) root (i : Int) sig (.slice a 3 c)] w fun e w' => e = .returned (.tuple #[.string ⟨(hputF z root i sig path).toArray⟩, .int .i64 0]) ∧ Kept (fun _ => False) w w' := by
  obtain ⟨W, hW⟩ : ∃ W : World, W = w.alloc (.cells (signedC (z : Int) root (i : Int) sig (.slice a 3 c)).toArray 63) := ⟨_, rfl⟩
  have b0 : Blk W w.heap.size (signedC (z : Int) root (i : Int) sig (.slice a 3 c)) 63 := by rw [hW]; exact Blk.new w _ 63
  have kW : Kept (fun _ => False) w W := by rw [hW]; exact (Kept.refl _ _).alloc _
  have hp3 : path.length = 3 := by
    obtain ⟨_, _, _, e, h1, _⟩ := id hv
    cases e
    rw [hcells_len h32] at h1
    omega
  have HS := Lib.hid (And.intro (hp_start hr b0) kW)
  have HVA := Lib.hid (valid_ok W z i root sig a c hr hz hi hsg)
  have hl1 : (numL z).length ≤ 100 := numL_len (U64n.small (by omega))
  have hl2 : (numL i).length ≤ 100 := numL_len (U64n.small (by omega))
  have hl3 : (numL sig.size).length ≤ 100 := numL_len (U64n.small (by omega))
  have hl5 : (hashesF path).length ≤ 100000 := by unfold hashesF; rw [List.length_append, numL_small (by omega), flatten_len32 h32, hp3]; decide
  obtain ⟨t1, e1, s1⟩ : ∃ t : ByteArray, t = ⟨(numL z).toArray⟩ ∧ t.size ≤ 100 := ⟨_, rfl, by show (numL z).toArray.size ≤ 100; rw [List.size_toArray]; exact hl1⟩
  obtain ⟨t2, e2, s2⟩ : ∃ t : ByteArray, t = ⟨root.toArray⟩ ∧ t.size ≤ 100 := ⟨_, rfl, by show root.toArray.size ≤ 100; rw [List.size_toArray]; omega⟩
  obtain ⟨t3, e3, s3⟩ : ∃ t : ByteArray, t = ⟨(numL i).toArray⟩ ∧ t.size ≤ 100 := ⟨_, rfl, by show (numL i).toArray.size ≤ 100; rw [List.size_toArray]; exact hl2⟩
  obtain ⟨t4, e4, s4⟩ : ∃ t : ByteArray, t = ⟨(numL sig.size).toArray⟩ ++ sig ∧ t.size ≤ 20000 := ⟨_, rfl, by rw [ByteArray.size_append]; show (numL sig.size).toArray.size + _ ≤ _; rw [List.size_toArray]; omega⟩
  obtain ⟨t5, e5, s5⟩ : ∃ t : ByteArray, t = ⟨(hashesF path).toArray⟩ ∧ t.size ≤ 100000 := ⟨_, rfl, by show (hashesF path).toArray.size ≤ 100000; rw [List.size_toArray]; exact hl5⟩
  have HN1 := Lib.hid (fun X => num_any X z (U64n.small (by omega)))
  have HN2 := Lib.hid (fun X => num_any X i (U64n.small (by omega)))
  have HHA := Lib.hid (fun X => hash_any X root hr)
  have HTX := Lib.hid (fun X => text_any X sig (by unfold Short; omega))
  have HHS := Lib.hid (fun (X : World) (hk : Kept (fun _ => False) w X) => hashes_any X a 3 c path (hv.same hk (by omega)) h32 (by omega))
  rw [← e1] at HN1
  rw [← e3] at HN2
  rw [← e2] at HHA
  rw [← e4] at HTX
  rw [← e5] at HHS
  have HE := Lib.hid (show t1 ++ t2 ++ t3 ++ t4 ++ t5 = ⟨(hputF z root i sig path).toArray⟩ from by
    rw [e1, e2, e3, e4, e5]
    exact bstr_eq (by simp [ByteArray.data_append, hputF]))
  rw [← HE.out]
  clear e1 e2 e3 e4 e5 hl1 hl2 hl3 hl5
  have y1 : ¬ 9223372036854775807 < t1.size + t2.size := by omega
  have y2 : ¬ 9223372036854775807 < t1.size + t2.size + t3.size := by omega
  have y3 : ¬ 9223372036854775807 < t1.size + t2.size + t3.size + t4.size := by omega
  have y4 : ¬ 9223372036854775807 < t1.size + t2.size + t3.size + t4.size + t5.size := by omega
  have HI := Lib.hid (And.intro (show (Tryz.prog.info? 63).map (·.size) = some (signedC (z : Int) root (i : Int) sig (.slice a 3 c)).length by rw [signedC_len hr]; exact info_signed_) (show (Tryz.prog.info? 57).map (·.size) = some (bytes8 root).length by rw [bytes8_len, hr]; exact info_h32))
  have hw1 : IntKind.u64.wrap (z : Int) = (z : Int) := wrap_u64 (U64n.small (by omega))
  have hw2 : IntKind.u64.wrap (i : Int) = (i : Int) := wrap_u64 (U64n.small (by omega))
  clear b0 kW hv h32 hr hz hi hsg hp3
  go_enter Tryz.func115, Tryz.ntmps115
  go_upto_region 1 with (fail)
  generalize hWx : World.alloc _ _ = Wx
  obtain rfl : W = Wx := by rw [hW, ← hWx]
  clear hW hWx
  go_upto_region 3 with (first
    | ((with_reducible show wpList _ _ _ (⟨some 4, _, _, _, _, _⟩ :: _) _ _); refine wpList_load_mid rfl 63 _ rfl w.heap.size 0 rfl (signedC (z : Int) root (i : Int) sig (.slice a 3 c)) _ HS.out.1.2 Tryz.underlying63 rfl HI.out.1 ?_)
    | (go_at_call 113; refine HVA.out.mono ?_; rintro e w1 ⟨rfl, hk1⟩; have HK1 := Lib.hid hk1; clear hk1))
  refine wp_region_held_drew (S := HpS w.heap.size (z : Int) (i : Int) root sig (.slice a 3 c)) (by kernel_rfl) (HS.out.1.1.turn HK1.out.drew) (fun hH0 => ?_)
  have HK := Lib.hid (HS.out.2.trans HK1.out.drew)
  generalize World.drew w1 = Wd at *
  clear HS HK1 HVA
  refine tk 0 rfl (fun _ _ _ h => h) hH0 ?_
  refine tk 1 rfl (fun _ _ _ h => h) hH0 ?_
  refine tk (v := .int .i64 (z : Int)) 2 rfl (fun _ _ _ h => h) hH0 ?_ (hy := Or.inl ⟨by rfl, fun w hSw => by have hq := hSw.1; clear hSw; go_simp⟩)
  refine tk (v := .int .u64 (z : Int)) 3 rfl (fun _ _ _ h => h) hH0 ?_
  refine tk 5 rfl (fun _ _ _ h => h) hH0 ?_
  refine tk 6 rfl (fun _ _ _ h => h) hH0 ?_
  refine tky 7 rfl (fun _ _ _ h => h) (yieldsIf_load_mid (by rfl) _ _ rfl _ _ rfl (bytes8 root) _ (fun w h => h.2.1) Tryz.underlying57 rfl HI.out.2) hH0 ?_
  refine tk 10 rfl (fun _ _ _ h => h) hH0 ?_
  refine tk 11 rfl (fun _ _ _ h => h) hH0 ?_
  refine tk (v := .int .i64 (i : Int)) 12 rfl (fun _ _ _ h => h) hH0 ?_ (hy := Or.inl ⟨by rfl, fun w hSw => by have hq := hSw.2.2.1; clear hSw; go_simp⟩)
  refine tk (v := .int .u64 (i : Int)) 13 rfl (fun _ _ _ h => h) hH0 ?_
  refine tk 16 rfl (fun _ _ _ h => h) hH0 ?_
  refine tk 17 rfl (fun _ _ _ h => h) hH0 ?_
  refine tk (v := .string sig) 18 rfl (fun _ _ _ h => h) hH0 ?_ (hy := Or.inl ⟨by rfl, fun w hSw => by have hq := hSw.2.2.2.1; clear hSw; go_simp⟩)
  refine tk 21 rfl (fun _ _ _ h => h) hH0 ?_
  refine tk 22 rfl (fun _ _ _ h => h) hH0 ?_
  refine tk (v := .slice a 3 c) 23 rfl (fun _ _ _ h => h) hH0 ?_ (hy := Or.inl ⟨by rfl, fun w hSw => by have hq := hSw.2.2.2.2; clear hSw; go_simp⟩)
  clear hw1 hw2
  refine rd1 4 (fun K hK => ?_)
  go_simp
  refine (HN1.out _).mono ?_
  rintro e w5 ⟨rfl, hk5⟩
  refine hK.out _ _ (hH0.turn hk5) (fun hH1 => ?_)
  have HK5 := Lib.hid (HK.out.trans hk5)
  clear hK K hH0 hk5 HK
  try simp only [lyA, lyB, lyC, lyD]
  refine rd1 8 (fun K hK => ?_)
  go_simp
  refine (HHA.out _).mono ?_
  rintro e w6 ⟨rfl, hk6⟩
  refine hK.out _ _ (hH1.turn hk6) (fun hH2 => ?_)
  have HK6 := Lib.hid (HK5.out.trans hk6)
  clear hK K hH1 hk6 HK5
  try simp only [lyA, lyB, lyC, lyD]
  refine tk (v := .string (t1 ++ t2)) 9 rfl (fun _ _ _ h => h) hH2 ?_
  refine rd1 14 (fun K hK => ?_)
  go_simp
  refine (HN2.out _).mono ?_
  rintro e w7 ⟨rfl, hk7⟩
  refine hK.out _ _ (hH2.turn hk7) (fun hH3 => ?_)
  have HK7 := Lib.hid (HK6.out.trans hk7)
  clear hK K hH2 hk7 HK6
  try simp only [lyA, lyB, lyC, lyD]
  refine tk (v := .string (t1 ++ t2 ++ t3)) 15 rfl (fun _ _ _ h => h) hH3 ?_
  refine rd1 19 (fun K hK => ?_)
  go_simp
  refine (HTX.out _).mono ?_
  rintro e w8 ⟨rfl, hk8⟩
  refine hK.out _ _ (hH3.turn hk8) (fun hH4 => ?_)
  have HK8 := Lib.hid (HK7.out.trans hk8)
  clear hK K hH3 hk8 HK7
  try simp only [lyA, lyB, lyC, lyD]
  refine tk (v := .string (t1 ++ t2 ++ t3 ++ t4)) 20 rfl (fun _ _ _ h => h) hH4 ?_
  refine rd1 24 (fun K hK => ?_)
  go_simp
  refine (HHS.out _ HK8.out).mono ?_
  rintro e w9 ⟨rfl, hk9⟩
  refine hK.out _ _ (hH4.turn hk9) (fun hH5 => ?_)
  have HK9 := Lib.hid (HK8.out.trans hk9)
  clear hK K hH4 hk9 HK8
  try simp only [lyA, lyB, lyC, lyD]
  refine tk (v := .string (t1 ++ t2 ++ t3 ++ t4 ++ t5)) 25 rfl (fun _ _ _ h => h) hH5 ?_
  refine tk 26 rfl (fun _ _ _ h => h) hH5 ?_
  refine tk 27 rfl (fun _ _ _ h => h) hH5 ?_
  refine wpAnyH_done (by kernel_rfl) ?_ _
  go_wp2_with fail
  go_ret2
  exact ⟨rfl, HK9.out⟩
end Go.Proofs.YtlgeijbgkipliaaGreatDoor

namespace Go.Proofs.YtlgeijbgkipliaaGreatDoor
open Go.RowKit Go.Shelf
attribute [local go_sem] Oper.semAt_some
theorem wpListIn_store_mid {F : Fence} {n : Nat} {P : Program} {w : World} {ops : Array Oper} {rest : List Oper} {o : Oper} {a : Act} {Q : Exit → Act → World → Prop} (hg : o.guard = none) (ty : TypeId) (x y : Operand)
    (hop : o.op = .store ty x y) (b off : Nat) (cells : Array Value) (hx : a.eval x = .pointer (some ⟨b, off, none⟩)) (hy : a.eval y = .agg cells)
    (ht : w.there b off cells.size) (hi : (P.info? ty).map (·.size) = some cells.size) (h1 : cells.all (·.oneCell') = true) (h : wpListIn F n P ops Q rest (a.put o.dst undef) (w.setCells b off cells.toList)) : wpListIn F n P ops Q (o :: rest) a w := by
  have hr := run_storeAt_mid (P := P) w b off ty cells ht hi h1
  refine wpListIn_plain hg fun K hK' => ?_
  unfold Oper.wpIn
  refine ⟨by simp [Oper.about, hop], ?_⟩
  rw [Oper.semAt_plain F _ _ (by rw [hop]; intro c hc'; cases hc')]
  simp [execOp, hop, hx, hy, hr, Result.andThen]
  exact hK' _ _ h
abbrev BkX (ns : List Int) := {x : Nat × Int // x ∈ backsI ns}
theorem backsI_mem {ns : List Int} {x : Nat × Int} (h : x ∈ backsI ns) : x.2 ∈ ns := by
  have : x.2 ∈ (backsI ns).map (·.2) := List.mem_map_of_mem h
  rw [backsI_map] at this
  exact List.mem_reverse.1 this
abbrev encB {ns : List Int} (x : BkX ns) : Array Value := #[.int .i64 (x.1.1 : Int), .int .i64 x.1.2]
set_option maxRecDepth 100000 in
set_option maxHeartbeats 2000000 in
theorem backB_in (F : Fence) (n : Nat) (hF : F.fn 119) (hro : F.round = none) (hn : 1 ≤ n) (l Bs n₀ : Nat) (S : Nat → Prop) (v : Value) (ns : List Int) (hns : ∀ x ∈ ns, -9223372036854775808 ≤ x ∧ x ≤ 9223372036854775807) (hlen : ns.length ≤ 1000000000) (J Jx : List (BkX ns) → World → Prop)
    (hY : ∀ pre x W, J pre W → pre.length < ns.length → YieldAt F (n - 1) Tryz.prog l (encB x) W fun e W' =>
      (e = .returned (.bool true) ∧ J (pre ++ [x]) W' ∧ KeptB S n₀ W W') ∨ (e = .returned (.bool false) ∧ Jx (pre ++ [x]) W'))
    (W : World) (hBs : W.cell? ⟨Bs, 0, none⟩ = some v) (hB0 : Bs < n₀ ∧ ¬ S Bs) (hrow : Row W 3 1 v (intsV ns)) (hown : ∀ k, v.ownBlock = some k → k < n₀ ∧ ¬ S k) (h0 : J [] W) :
    CallsIn F n Tryz.prog 119 #[.func (.yield l) #[] #[], .pointer (some ⟨Bs, 0, none⟩)] W fun e W' => (∃ v, e = .returned v) ∧
      ((∃ ys : List (BkX ns), ys.map (·.1) = backsI ns ∧ J ys W') ∨ (∃ pre : List (BkX ns), pre.map (·.1) <+: backsI ns ∧ Jx pre W')) := by
  obtain ⟨a, m, c, rfl, hm, hml, hcl⟩ := hrow.form (by omega)
  rw [intsV_len, Nat.mul_one] at hm
  subst hm
  unfold maxLen at hml
  refine callsIn_of_wp Tryz.func119 rfl hF ?_ hro
  simp only [Tryz.ntmps119, List.size_toArray, List.length_cons, List.length_nil, Nat.reduceAdd, Nat.reduceSub, Array.replicate_succ, Array.replicate_zero, List.push_toArray, List.append_toArray, List.nil_append, List.cons_append]
  gi_wp2
  gi_loopw [3] (fun i wr => ∃ (k : Nat) (pre : List (BkX ns)), k ≤ ns.length ∧ i = .int .i64 ((ns.length : Int) - 1 - (k : Int)) ∧ pre.length = k ∧ pre.map (·.1) = (backsI ns).take k ∧ J pre wr ∧ KeptB S n₀ W wr) (fun i _ => (intOf i + 1).toNat)
  case atStart => exact ⟨0, [], Nat.zero_le _, by simp, rfl, by simp, h0, KeptB.refl _ _ _⟩
  case round =>
    obtain ⟨k, pre, hk, rfl, hpl, hpre, hJ, hkb⟩ := hrel
    have hcs := (hkb.cell (p := ⟨Bs, 0, none⟩) hB0.1 hB0.2).trans hBs
    by_cases hlt : k < ns.length
    · obtain ⟨g, rfl, hg, hcl2⟩ := hcl (by omega)
      have hx : (ns[ns.length - 1 - k]?) = some ((ns[ns.length - 1 - k]?).getD 0) := by rw [List.getElem?_eq_getElem (by omega)]; rfl
      have hb := hns _ (List.mem_of_getElem? hx)
      have hat := backsI_at ns k hlt
      have hc1 := hcl2 (ns.length - 1 - k) (.int .i64 ((ns[ns.length - 1 - k]?).getD 0)) (by unfold intsV; rw [List.getElem?_map, hx]; rfl)
      have hc2 := (hkb.cell (p := ⟨g, ns.length - 1 - k, none⟩) (hown g hg).1 (hown g hg).2).trans hc1
      generalize (ns[ns.length - 1 - k]?).getD 0 = z at *
      obtain ⟨q, hq⟩ : ∃ q, ns.length - 1 - k = q := ⟨_, rfl⟩
      have hqi : (ns.length : Int) - 1 - (k : Int) = (q : Int) := by omega
      rw [hq] at hc2 hat
      rw [hqi]
      have hq2 : q < ns.length := by omega
      obtain ⟨X, hX⟩ : ∃ X : BkX ns, X.1 = (q, z) := ⟨⟨(q, z), List.mem_of_getElem? hat⟩, rfl⟩
      obtain ⟨fn, tmps, assign, body, hy, hR⟩ := hY pre X wr hJ (by omega)
      dsimp only [encB] at hy
      rw [hX] at hy
      have HX := Lib.hid hX
      have HQ := Lib.hid hqi
      have HK := Lib.hid hq
      have HAT := Lib.hid hat
      have HP := Lib.hid hpre
      have HPL := Lib.hid hpl
      clear hqi hq hat hpre hx hpl hX
      gi_wp2
      refine hR.mono ?_
      rintro e W3 (⟨rfl, hJ3, hk3⟩ | ⟨rfl, hJx3⟩)
      · gi_wp2
        go_roundw
        case rel =>
          have h1 := HQ.out
          have h2 := HPL.out
          refine ⟨k + 1, pre ++ [X], by omega, ?_, by simp [h2], ?_, hJ3, hkb.trans hk3⟩
          · simp only [Value.int.injEq, true_and]; omega
          · rw [List.map_append, HP.out, List.take_add_one, HAT.out, List.map_singleton, HX.out]
            rfl
        case measure => simp [intOf]
      · gi_wp2
        refine bodyPost_ret (results_none rfl _ _ _) rfl ?_
        refine ⟨⟨_, rfl⟩, .inr ⟨_, ?_, hJx3⟩⟩
        rw [List.map_append, HP.out, List.map_singleton, HX.out]
        have : (backsI ns).take (k + 1) = (backsI ns).take k ++ [(q, z)] := by rw [List.take_add_one, HAT.out]; rfl
        rw [← this]
        exact List.take_prefix _ _
    · obtain rfl : k = ns.length := by omega
      have hz : (ns.length : Int) - 1 - (ns.length : Int) = -1 := by omega
      rw [hz]
      have HP := Lib.hid hpre
      clear hpre hz hpl
      gi_wp2
      go_end0
      refine ⟨⟨_, rfl⟩, .inl ⟨pre, ?_, hJ⟩⟩
      rw [HP.out, List.take_of_length_le (by rw [backsI_len]; omega)]
theorem backB_stops (F : Fence) (n : Nat) (hF : F.fn 119) (hro : F.round = none) (hn : 1 ≤ n) (Bs n₀ : Nat) (S : Nat → Prop) (v : Value) (ns : List Int) (hns : ∀ x ∈ ns, -9223372036854775808 ≤ x ∧ x ≤ 9223372036854775807) (hlen : ns.length ≤ 1000000000) (w : World)
    (hBs : w.cell? ⟨Bs, 0, none⟩ = some v) (hB1 : Bs < w.heap.size) (hB0 : Bs < n₀ ∧ ¬ S Bs) (hrow : Row w 3 1 v (intsV ns)) (hown : ∀ k, v.ownBlock = some k → k < n₀ ∧ ¬ S k) :
    SeqStopsK F n Tryz.prog 119 #[.pointer (some ⟨Bs, 0, none⟩)] (encB (ns := ns)) (KeptB S n₀) (fun ys => ys.map (·.1) = backsI ns) (fun pre => pre.map (·.1) <+: backsI ns) ns.length w := fun l J Jx W hW _ _ hY h0 =>
  backB_in F n hF hro hn l Bs n₀ S v ns hns hlen J Jx hY W ((hW.cell (p := ⟨Bs, 0, none⟩) hB1).trans hBs) hB0 (hrow.kept (S := fun _ => False) (Kept.of_below hW) (fun _ _ => id)) hown h0
end Go.Proofs.YtlgeijbgkipliaaGreatDoor
