/- Codec KeyM -/
import Derived.Lib.AppendZeros
import Derived.Test.YtlgeijbgkipliaaGreatDoorUChecksSure21
set_option linter.unusedVariables false
set_option linter.unusedSimpArgs false
namespace Go.Proofs.YtlgeijbgkipliaaGreatDoor
open Go.RowKit
abbrev hashV (h : List UInt8) : Value := .agg (bytes8 h).toArray
set_option maxRecDepth 100000 in
theorem hash_any (w : World) (h : List UInt8) (hl : h.length = 32) :
    Calls Tryz.prog 146 #[.agg (bytes8 h).toArray] w fun e w' => e = .returned (.string ⟨h.toArray⟩) ∧ Kept (fun _ => False) w w' := by
  have hb := Blk.new w (bytes8 h) 57
  have hst := run_string_of (w := w.alloc (.cells (bytes8 h).toArray 57)) (g := w.heap.size) (off := 0) (n := 32) (cap := 32) h hl.symm (fun j u hu => by rw [Nat.zero_add]; exact hb.cell hu)
  go_enter Tryz.func146, Tryz.ntmps146
  go_wp2
  go_ret
  exact ⟨rfl, (Kept.refl _ _).alloc _⟩
def moreL (m : Nat) (acc : List UInt8) : List UInt8 := if h : m = 0 then acc else moreL (m / 128) (UInt8.ofNat (m % 128 + 128) :: acc)
termination_by m
decreasing_by omega
def numL (n : Nat) : List UInt8 := moreL (n / 128) [UInt8.ofNat (n % 128)]
theorem moreL_zero (acc : List UInt8) : moreL 0 acc = acc := by unfold moreL; simp
theorem moreL_pos {m : Nat} (h : 0 < m) (acc : List UInt8) : moreL m acc = moreL (m / 128) (UInt8.ofNat (m % 128 + 128) :: acc) := by
  conv => lhs; unfold moreL
  rw [dif_neg (by omega)]
def U64n (n : Nat) : Prop := n < 18446744073709551616
theorem wrap_u64 {n : Nat} (h : U64n n) : IntKind.u64.wrap (n : Int) = (n : Int) := by
  unfold U64n at h
  simp only [IntKind.wrap, IntKind.bits, IntKind.signed]
  simp
  omega
theorem U64n.div {n : Nat} (h : U64n n) (k : Nat) : U64n (n / k) := Nat.lt_of_le_of_lt (Nat.div_le_self _ _) h
theorem U64n.small {n : Nat} (h : n ≤ 4294967295) : U64n n := by unfold U64n; omega
theorem u8_or_128 : ∀ x : Fin 128, bits .or .u8 ((x : Nat) : Int) 128 = ((x : Nat) : Int) + 128 := by decide +kernel
theorem bytes8_one (c : Nat) (hc : c < 256) : bytes8 [UInt8.ofNat c] = [.int .u8 (c : Int)] := by
  simp only [bytes8, List.map_cons, List.map_nil]
  rw [UInt8.toNat_ofNat_of_lt' hc]
def FewN (n m l : Nat) : Prop := 1 ≤ l ∧ l ≤ 100 ∧ m * 128 ^ l ≤ n
theorem FewN.le {n m l : Nat} (h : FewN n m l) : 1 ≤ l ∧ l ≤ 100 := ⟨h.1, h.2.1⟩
theorem FewN.step {n m l : Nat} (h : FewN n m l) (hn : U64n n) (hm : 0 < m) : FewN n (m / 128) (l + 1) := by
  unfold FewN U64n at *
  obtain ⟨h1, h2, h3⟩ := h
  refine ⟨by omega, ?_, ?_⟩
  · rcases Nat.lt_or_ge l 10 with h4 | h4
    · omega
    · exfalso
      have h5 : 128 ^ 10 ≤ 128 ^ l := Nat.pow_le_pow_right (by decide) h4
      have h6 : 128 ^ l ≤ m * 128 ^ l := Nat.le_mul_of_pos_left _ hm
      have h7 : (18446744073709551616 : Nat) ≤ 128 ^ 10 := by decide
      omega
  · refine Nat.le_trans ?_ h3
    rw [Nat.pow_succ, Nat.mul_comm (128 ^ l) 128, ← Nat.mul_assoc]
    exact Nat.mul_le_mul_right _ (Nat.div_mul_le_self m 128)
set_option maxRecDepth 100000 in
set_option maxHeartbeats 1000000 in
theorem num_any (w : World) (n : Nat) (hn : U64n n) :
    Calls Tryz.prog 116 #[.int .u64 (n : Int)] w fun e w' => e = .returned (.string ⟨(numL n).toArray⟩) ∧ Kept (fun _ => False) w w' := by
  have x1 : (n : Int) % 128 = ((n % 128 : Nat) : Int) := by omega
  have x2 : (n : Int) / 128 = ((n / 128 : Nat) : Int) := by omega
  have hm2 := hn.div 128
  obtain ⟨m0, hm0⟩ : ∃ m0 : Nat, n / 128 = m0 := ⟨_, rfl⟩
  obtain ⟨c0, hc0⟩ : ∃ c0 : Nat, n % 128 = c0 := ⟨_, rfl⟩
  have hc1 : c0 < 128 := by omega
  have hfew : FewN n m0 1 := by subst hm0; exact ⟨by omega, by omega, by rw [Nat.pow_one]; exact Nat.div_mul_le_self n 128⟩
  rw [hc0] at x1
  rw [hm0] at x2 hm2
  have x4 := wrap_u64 hm2
  have HN := Lib.hid (show numL n = moreL m0 [UInt8.ofNat c0] by unfold numL; rw [hm0, hc0])
  have hb0 := Blk.new w [.int .u8 (c0 : Int)] 5
  have hrow0 : Row (w.alloc (.cells [.int .u8 (c0 : Int)].toArray 5)) 5 1 (.slice (some ⟨w.heap.size, 0, none⟩) 1 1) (bytes8 [UInt8.ofNat c0]) := Or.inr ⟨w.heap.size, 1, 1, [], rfl, rfl, by rw [bytes8_one _ (by omega), List.append_nil]; exact hb0, Nat.le_refl _, Nat.le_refl _, by unfold maxLen; omega⟩
  have x3 : (c0 : Int) % 256 = (c0 : Int) := by omega
  clear hm0 hc0 hb0
  go_enter Tryz.func116, Tryz.ntmps116
  go_wp2
  go_loopw [0, 3] (fun x y wr => ∃ (m : Nat) (acc : List UInt8), x = .int .u64 (m : Int) ∧ U64n m ∧ Hid (numL n = moreL m acc) ∧ FewN n m acc.length ∧ Row wr 5 1 y (bytes8 acc) ∧ Kept (fun _ => False) w wr) (fun x _ _ => (intOf x).toNat)
  case atStart => exact ⟨m0, [UInt8.ofNat c0], rfl, hm2, HN, hfew, hrow0, (Kept.refl _ _).alloc _⟩
  case round =>
    obtain ⟨m, acc, rfl, hm, HM, hfw, hrow, hk⟩ := hrel
    obtain ⟨hl1, hl2⟩ := hfw.le
    clear x1 x2 x3 x4
    by_cases hpos : 0 < m
    · have y1 : decide ((0 : Int) < (m : Int)) = true := by simp; omega
      have y2 : decide (0 < m) = true := by simp; omega
      obtain ⟨i0, hi0, hz0, hz1, hz2⟩ := info_parts info_u8
      obtain ⟨c, hc⟩ : ∃ c : Nat, m % 128 = c := ⟨_, rfl⟩
      have hc1 : c < 128 := by omega
      have e1 : (m : Int) % 128 = (c : Int) := by omega
      have e2 : (c : Int) % 256 = (c : Int) := by omega
      have e3 : bits .or .u8 (c : Int) 128 = (c : Int) + 128 := u8_or_128 ⟨c, hc1⟩
      have e4 : (m : Int) / 128 = ((m / 128 : Nat) : Int) := by omega
      have hmd := hm.div 128
      have e5 := wrap_u64 hmd
      have HMP := Lib.hid (moreL_pos hpos acc)
      have hlt : m / 128 < m := by omega
      have hfw2 := hfw.step hn hpos
      obtain ⟨md, hmdd⟩ : ∃ md : Nat, m / 128 = md := ⟨_, rfl⟩
      rw [hmdd] at e4 e5 hmd hlt HMP hfw2
      rw [hc] at HMP
      have hb1 := Blk.new wr [.int .u8 ((c : Int) + 128)] 5
      have hrow1 : Row (wr.alloc (.cells [.int .u8 ((c : Int) + 128)].toArray 5)) 5 1 (.slice (some ⟨wr.heap.size, 0, none⟩) 1 1) (bytes8 [UInt8.ofNat (c + 128)]) := Or.inr ⟨wr.heap.size, 1, 1, [], rfl, rfl, by rw [bytes8_one _ (by omega), List.append_nil, Int.natCast_add]; exact hb1, Nat.le_refl _, Nat.le_refl _, by unfold maxLen; omega⟩
      have hrowA := hrow.alloc (.cells [.int .u8 ((c : Int) + 128)].toArray 5)
      obtain ⟨ao, k, cap, rfl, hk1, hk2, hk3⟩ := hrowA.form (by omega)
      rw [bytes8_len] at hk1
      obtain ⟨g, rfl, _, hcell⟩ := hk3 (by omega)
      have hka : k = acc.length := by omega
      subst hka
      obtain ⟨v', w', hr1, hrow2, hkk, _⟩ := hrow1.append_cells (P := Tryz.prog) (t := 100) Tryz.underlying100 hi0 hz0 hz1 rfl (by omega) (by omega) ⟨g, 0, none⟩ acc.length cap (bytes8 acc) (by rw [bytes8_len]; omega) (fun j u hu => by rw [addr0_add]; exact hcell j u hu) u8_oneCell (by omega) (by rw [bytes8_len, bytes8_len]; simp; omega) 100
      rw [← bytes8_append] at hrow2
      have hkw : Kept (fun _ => False) w w' := (hk.alloc _).then_ hkk (fun i hi e => by have := hk.size; simp [Value.ownBlock] at e; omega)
      have HE := Lib.hid (And.intro hrow2 hkw)
      clear hrow2 hkw hkk hrow1 hrowA hb1 hcell hk3 hc hmdd hi0 hz0 hz1 hz2
      go_wp2_with (at_builtin; refine Lib.wpList_append_run _ rfl _ _ 100 100 rfl _ _ rfl rfl _ _ hr1 ?_)
      obtain ⟨hrow2, hkw⟩ := HE
      have HM : numL n = moreL m acc := HM
      have HMP : moreL m acc = moreL md (UInt8.ofNat (c + 128) :: acc) := HMP
      refine ⟨⟨md, UInt8.ofNat (c + 128) :: acc, rfl, hmd, HM.trans HMP, hfw2, hrow2, hkw⟩, ?_⟩
      show ((md : Int)).toNat < ((m : Int)).toNat
      omega
    · have hm0' : m = 0 := by omega
      subst hm0'
      have HM2 : numL n = acc := (show numL n = moreL 0 acc from HM).trans (moreL_zero acc)
      obtain ⟨ao, k, cap, rfl, hk1, hk2, hk3⟩ := hrow.form (by omega)
      rw [bytes8_len] at hk1
      obtain ⟨g, rfl, _, hcell⟩ := hk3 (by omega)
      have hka : k = acc.length := by omega
      subst hka
      have hst := run_string_of (w := wr) (g := g) (off := 0) (n := acc.length) (cap := cap) acc rfl (fun j u hu => by rw [Nat.zero_add]; exact hcell j u hu)
      go_wp2
      go_ret
      exact ⟨by rw [HM2]; rfl, hk⟩
theorem moreL_len {n : Nat} (hn : U64n n) : ∀ (k m : Nat) (acc : List UInt8), m ≤ k → FewN n m acc.length → (moreL m acc).length ≤ 100 := by
  intro k
  induction k with
  | zero => intro m acc hm h; have : m = 0 := by omega
            subst this; rw [moreL_zero]; exact h.le.2
  | succ k ih =>
    intro m acc hm h
    rcases Nat.eq_zero_or_pos m with h0 | h0
    · subst h0; rw [moreL_zero]; exact h.le.2
    · rw [moreL_pos h0]; exact ih _ _ (by omega) (h.step hn h0)
theorem numL_len {n : Nat} (hn : U64n n) : (numL n).length ≤ 100 := by
  unfold numL
  exact moreL_len hn _ _ _ (Nat.le_refl _) ⟨by simp, by simp, by simp only [List.length_cons, List.length_nil, Nat.zero_add, Nat.pow_one]; exact Nat.div_mul_le_self n 128⟩
def Short (n : Nat) : Prop := n < 4611686018427387904
theorem Short.u64 {n : Nat} (h : Short n) : U64n n := by unfold Short U64n at *; omega
theorem Short.sum {n k : Nat} (h : Short n) (hk : k ≤ 100) : ¬ (9223372036854775807 < k + n) := by unfold Short at *; omega
set_option maxRecDepth 100000 in
theorem text_any (w : World) (s : ByteArray) (hs : Short s.size) :
    Calls Tryz.prog 147 #[.string s] w fun e w' => e = .returned (.string (⟨(numL s.size).toArray⟩ ++ s)) ∧ Kept (fun _ => False) w w' := by
  have hN := num_any w s.size hs.u64
  have x1 := wrap_u64 hs.u64
  have x2 := hs.sum (numL_len hs.u64)
  go_enter Tryz.func147, Tryz.ntmps147
  go_wp2_with (go_at_call 116; refine hN.mono ?_; rintro e w1 ⟨rfl, hk1⟩)
  go_ret
  exact ⟨rfl, hk1⟩
end Go.Proofs.YtlgeijbgkipliaaGreatDoor

namespace Go.Proofs.YtlgeijbgkipliaaGreatDoor
abbrev By := List UInt8
def nodeF (a b : By) : By := shaF (1 :: (a ++ b))
theorem nodeF_len (a b : By) : (nodeF a b).length = 32 := shaF_len _
def splitGo (n k : Nat) : Nat := if h : 0 < k ∧ k < n - k then splitGo n (k * 2) else k
termination_by n - k
decreasing_by omega
def splitN (n : Nat) : Nat := if n < 2 then 0 else splitGo n 1
theorem splitGo_yes {n k : Nat} (h0 : 0 < k) (h : k < n - k) : splitGo n k = splitGo n (k * 2) := by
  conv => lhs; unfold splitGo
  rw [dif_pos ⟨h0, h⟩]
theorem splitGo_no {n k : Nat} (h : ¬ k < n - k) : splitGo n k = k := by
  unfold splitGo
  rw [dif_neg (fun q => h q.2)]
theorem splitGo_in (m : Nat) : ∀ {n k : Nat}, n - k ≤ m → 0 < k → k < n → 0 < splitGo n k ∧ splitGo n k < n := by
  induction m with
  | zero => intro n k h h0 h1; omega
  | succ m ih =>
    intro n k h h0 h1
    by_cases hk : k < n - k
    · rw [splitGo_yes h0 hk]; exact ih (by omega) (by omega) (by omega)
    · rw [splitGo_no hk]; exact ⟨h0, h1⟩
theorem splitN_in {n : Nat} (h : 2 ≤ n) : 0 < splitN n ∧ splitN n < n := by
  unfold splitN
  rw [if_neg (by omega)]
  exact splitGo_in n (by omega) (by omega) (by omega)
theorem splitN_small {n : Nat} (h : n < 2) : splitN n = 0 := by unfold splitN; rw [if_pos h]
def treeF (l : List By) : By := if h : 2 ≤ l.length then nodeF (treeF (l.take (splitN l.length))) (treeF (l.drop (splitN l.length))) else l.headD []
termination_by l.length
decreasing_by
  · have := splitN_in h; simp; omega
  · have := splitN_in h; simp; omega
def rootF (l : List By) : By := if l.length = 0 then shaF [] else treeF l
theorem treeF_two {l : List By} (h : 2 ≤ l.length) : treeF l = nodeF (treeF (l.take (splitN l.length))) (treeF (l.drop (splitN l.length))) := by
  conv => lhs; unfold treeF
  rw [dif_pos h]
theorem treeF_one (a : By) : treeF [a] = a := by
  unfold treeF
  rw [dif_neg (by simp)]
  rfl
theorem treeF_len {l : List By} (h0 : 0 < l.length) (hl : ∀ x ∈ l, x.length = 32) : (treeF l).length = 32 := by
  by_cases h : 2 ≤ l.length
  · rw [treeF_two h]; exact nodeF_len _ _
  · match l, h0, h with
    | [a], _, _ => rw [treeF_one]; exact hl a (by simp)
    | a :: b :: r, _, h => simp at h
theorem rootF_len {l : List By} (hl : ∀ x ∈ l, x.length = 32) : (rootF l).length = 32 := by
  unfold rootF
  split
  · exact shaF_len _
  · exact treeF_len (by omega) hl
def stripF (i last : Nat) : Nat × Nat := if h : i % 2 = 0 ∧ 0 < i then stripF (i / 2) (last / 2) else (i, last)
termination_by i
decreasing_by omega
structure Climb where
  leaf : By
  i : Nat
  last : Nat
  used : Nat
def climbF : List By → Climb → Climb
  | [], c => c
  | h :: p, c => if c.last = 0 then c
    else if c.i % 2 = 1 ∨ c.i = c.last then climbF p ⟨nodeF h c.leaf, (stripF c.i c.last).1 / 2, (stripF c.i c.last).2 / 2, c.used + 1⟩
    else climbF p ⟨nodeF c.leaf h, c.i / 2, c.last / 2, c.used + 1⟩
def provesF (leaf : By) (i n : Nat) (path : List By) (root : By) : Prop :=
  (climbF path ⟨leaf, i, n - 1, 0⟩).last = 0 ∧ (climbF path ⟨leaf, i, n - 1, 0⟩).used = path.length ∧ (climbF path ⟨leaf, i, n - 1, 0⟩).leaf = root
instance (leaf : By) (i n : Nat) (path : List By) (root : By) : Decidable (provesF leaf i n path root) := by unfold provesF; infer_instance
end Go.Proofs.YtlgeijbgkipliaaGreatDoor
