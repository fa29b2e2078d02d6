/- Frames2 Frames3 FrameP Dec Trees3 AppH RF1 -/
import Derived.BigQuiet
import Derived.Lib.AppendZeros
import Derived.Test.YtlgeijbgkipliaaGreatDoorUSegmentsOpen28
import Derived.Test.YtlgeijbgkipliaaGreatDoorUSegmentsOpen24
import Derived.Test.YtlgeijbgkipliaaGreatDoorUSegmentsOpen25
set_option linter.unusedVariables false
set_option linter.unusedSimpArgs false
namespace Go.Proofs.YtlgeijbgkipliaaGreatDoor
open Go.RowKit
def cutF (l : List UInt8) : Option (List UInt8 × List UInt8) :=
  if l.length < 12 then none
  else if 65536 < ofBe (l.take 4) ∨ l.length < ofBe (l.take 4) + 12 then none
  else if markF ((l.drop 12).take (ofBe (l.take 4))) = l.take 12 then some ((l.drop 12).take (ofBe (l.take 4)), l.drop (12 + ofBe (l.take 4)))
  else none
def CutIs (w' : World) (v v1 v2 : Value) (ok : Bool) : Option (List UInt8 × List UInt8) → Prop
  | some x => ok = true ∧ View w' 1 v1 (bytes8 x.1) ∧ View w' 1 v2 (bytes8 x.2) ∧ v2.ownBlock = v.ownBlock
  | none => ok = false
def CutPost (w : World) (v : Value) (l : List UInt8) (e : Ending) (w' : World) : Prop := ∃ v1 v2 ok, e = .returned (.tuple #[v1, v2, .bool ok]) ∧ CutIs w' v v1 v2 ok (cutF l) ∧ Kept (fun _ => False) w w'
theorem bytes8_take (l : List UInt8) (n : Nat) : (bytes8 l).take n = bytes8 (l.take n) := by simp [bytes8, List.map_take]
theorem bytes8_drop (l : List UInt8) (n : Nat) : (bytes8 l).drop n = bytes8 (l.drop n) := by simp [bytes8, List.map_drop]
theorem elem_bytes : Tryz.prog.underlying 100 = some (.slice (Tryz.prog.elem 100)) := by kernel_rfl
theorem size_elem (w : World) : (sizeOf (Tryz.prog.elem 100)).run Tryz.prog w = .ok 1 w := by kernel_rfl
theorem bstr_inj {l m : List UInt8} (h : (⟨l.toArray⟩ : ByteArray) = ⟨m.toArray⟩) : l = m := by
  have := congrArg (fun s : ByteArray => s.data.toList) h
  simpa using this
theorem cut_end {N n E : Nat} (hE : E = 12 + N) (hbad : ¬ (65536 < N ∨ n < N + 12)) : E ≤ n := by omega
theorem cut_wrap {N n E : Nat} (hE : E = 12 + N) (hbad : ¬ (65536 < N ∨ n < N + 12)) : wrap64 (12 + (N : Int)) = (E : Int) := by rw [IntWalk.wrap64_in _ (by omega)]; omega
set_option maxRecDepth 100000 in
theorem cut_any (w : World) (v : Value) (l : List UInt8) (hv : View w 1 v (bytes8 l)) (ht : Tab w) :
    Calls Tryz.prog 131 #[v] w (CutPost w v l) := by
  have hml : maxLen = 9223372036854775807 := rfl
  have hv0 := hv
  obtain ⟨a, n, cap, rfl, h1, h2, h3, h4, h5⟩ := hv
  rw [bytes8_len, Nat.mul_one] at h1
  by_cases hn : n < 12
  · have y1 : decide ((n : Int) < 12) = true := by simp; omega
    have hc : cutF l = none := by unfold cutF; rw [if_pos (by omega)]
    have HC := Lib.hid hc
    clear hc
    go_enter Tryz.func131, Tryz.ntmps131
    go_wp2
    go_ret3
    exact ⟨_, _, false, rfl, by rw [HC.out]; rfl, Kept.refl _ _⟩
  · have y1 : decide ((n : Int) < 12) = false := by simp; omega
    obtain ⟨g, off, rfl, _, _⟩ := h5 (by omega)
    have hr4 : ∀ w0, (Instr.slice 100 (.slice (some ⟨g, off, none⟩) n cap) none (some (.int .i64 4)) none).run Tryz.prog w0 = .ok (.slice (some ⟨g, off, none⟩) 4 cap) w0 := fun w0 => hv0.run_head elem_bytes size_elem 4 (by omega) w0
    have hs4 := (hv0.head 4 (by omega))
    rw [Nat.mul_one, bytes8_take] at hs4
    have hs4 := hs4.text
    have hg4 := fun w' => get_any w' ⟨(l.take 4).toArray⟩ (by show (l.take 4).toArray.size ≤ 4; rw [List.size_toArray, List.length_take]; omega)
    have hN : ofBe (⟨(l.take 4).toArray⟩ : ByteArray).data.toList = ofBe (l.take 4) := rfl
    rw [hN] at hg4
    obtain ⟨N, hN'⟩ : ∃ N, N = ofBe (l.take 4) := ⟨_, rfl⟩
    rw [← hN'] at hg4
    have HG := Lib.hid hg4
    have HN := Lib.hid hN'
    clear hg4 hN hN'
    have H1 := Lib.hid h1
    have hnm : n ≤ 9223372036854775807 := by omega
    have A1 := Lib.hid (show wrap64 ((n : Int) - 12) = (n : Int) - 12 from IntWalk.wrap64_in _ (by omega))
    by_cases hbad : 65536 < N ∨ n < N + 12
    · have hc : cutF l = none := by unfold cutF; rw [if_neg (by omega), if_pos (by rw [← HN.out, ← h1]; exact hbad)]
      have HC := Lib.hid hc
      clear hc h1 h3 h4 h5 hv0 hml
      by_cases hbig : 65536 < N
      · have y2 : decide ((65536 : Int) < (N : Int)) = true := by simp; omega
        clear hbad
        have a1 := A1.out
        go_enter Tryz.func131, Tryz.ntmps131
        go_wp2_with (go_at_call 154; refine (HG.out _).mono ?_; rintro e w' ⟨rfl, rfl⟩)
        go_ret3
        exact ⟨_, _, false, rfl, by rw [HC.out]; rfl, Kept.refl _ _⟩
      · have y2 : decide ((65536 : Int) < (N : Int)) = false := by simp; omega
        have y3 : decide ((n : Int) - 12 < (N : Int)) = true := by simp; omega
        have a2 : IntKind.i64.wrap (N : Int) = (N : Int) := IntWalk.i64_in _ (by omega)
        clear hbad
        have a1 := A1.out
        go_enter Tryz.func131, Tryz.ntmps131
        go_wp2_with (go_at_call 154; refine (HG.out _).mono ?_; rintro e w' ⟨rfl, rfl⟩)
        go_ret3
        exact ⟨_, _, false, rfl, by rw [HC.out]; rfl, Kept.refl _ _⟩
    · have y2 : decide ((65536 : Int) < (N : Int)) = false := by simp; omega
      have y3 : decide ((n : Int) - 12 < (N : Int)) = false := by simp; omega
      have a2 : IntKind.i64.wrap (N : Int) = (N : Int) := IntWalk.i64_in _ (by omega)
      obtain ⟨E, hE⟩ : ∃ E : Nat, E = 12 + N := ⟨_, rfl⟩
      have A3 := Lib.hid (show wrap64 (12 + (N : Int)) = (E : Int) from cut_wrap hE hbad)
      have e12 : 12 ≤ E := by rw [hE]; exact Nat.le_add_right _ _
      have eEn : E ≤ n := cut_end hE hbad
      obtain ⟨v1, hr1, hv1⟩ := hv0.mid3 elem_bytes size_elem 12 E e12 eEn
      obtain ⟨v2, hr2, hv2, ho2⟩ : ∃ v2, (∀ w0, (Instr.slice 100 (.slice (some ⟨g, off, none⟩) n cap) (some (.int .i64 (E : Int))) none none).run Tryz.prog w0 = .ok v2 w0) ∧ View w 1 v2 ((bytes8 l).drop (E * 1)) ∧ v2.ownBlock = some g :=
        ⟨_, fun w0 => hv0.run_tail elem_bytes size_elem E eEn w0, hv0.tail E eEn, by split <;> simp [Value.ownBlock, addr_mid]⟩
      rw [Nat.mul_one, Nat.mul_one, bytes8_drop, bytes8_take, show E - 12 = N by omega] at hv1
      rw [Nat.mul_one, bytes8_drop] at hv2
      have hr1 : ∀ w0, (Instr.slice 100 (.slice (some ⟨g, off, none⟩) n cap) (some (.int .i64 12)) (some (.int .i64 (E : Int))) (some (.int .i64 (E : Int)))).run Tryz.prog w0 = .ok v1 w0 := hr1
      have hr12 : ∀ w0, (Instr.slice 100 (.slice (some ⟨g, off, none⟩) n cap) none (some (.int .i64 12)) none).run Tryz.prog w0 = .ok (.slice (some ⟨g, off, none⟩) 12 cap) w0 := fun w0 => hv0.run_head elem_bytes size_elem 12 (by omega) w0
      have hv12 := hv0.head 12 (by omega)
      rw [Nat.mul_one, bytes8_take] at hv12
      have HV := Lib.hid (And.intro hv1 (And.intro hv2 (And.intro hv12 ho2)))
      have hcut : cutF l = if markF ((l.drop 12).take N) = l.take 12 then some ((l.drop 12).take N, l.drop E) else none := by
        unfold cutF; rw [if_neg (by omega), if_neg (by rw [← HN.out, ← h1]; exact hbad), ← HN.out, hE]
      have HC := Lib.hid hcut
      have hpl : ((l.drop 12).take N).length ≤ 65536 := by rw [List.length_take]; omega
      generalize (l.drop 12).take N = p at *
      generalize hq : l.take 12 = q at *
      have hm : ∀ w', Tab w' → Calls Tryz.prog 114 #[.string ⟨p.toArray⟩] w' fun e w'' => e = .returned (.string ⟨(markF p).toArray⟩) ∧ Kept (fun _ => False) w' w'' := fun w' ht' =>
        mark_any w' ⟨p.toArray⟩ (by show p.toArray.size ≤ 900000; rw [List.size_toArray]; omega) ht'
      have HM := Lib.hid hm
      have c1 : ∀ m, (convert 100 9 v1).run Tryz.prog (w.drewN m) = .ok (.string ⟨p.toArray⟩) (w.drewN m) := fun m => (hv1.same ((Kept.refl _ _).drewN m) (by omega)).text
      have c2 : ∀ m, (convert 100 9 (.slice (some ⟨g, off, none⟩) 12 cap)).run Tryz.prog (w.drewN m) = .ok (.string ⟨q.toArray⟩) (w.drewN m) := fun m => (hv12.same ((Kept.refl _ _).drewN m) (by omega)).text
      have a1 := A1.out
      have a3 := A3.out
      have HR := Lib.hid hr12
      clear h1 h3 hml hm hcut hq hv1 hv2 hv12 hpl hbad hE hv0 h4 h5
      go_enter Tryz.func131, Tryz.ntmps131
      go_wp2_with (go_at_call 154; refine (HG.out _).mono ?_; rintro e w' ⟨rfl, rfl⟩)
      go_quiet (fail)
      go_wp2_with fail
      clear hr1 hr2 hr4 hr12 a1 a2 a3 y1 y2 y3 c1 c2
      have c1 : ∀ w', Kept (fun _ => False) w w' → (convert 100 9 v1).run Tryz.prog w' = .ok (.string ⟨p.toArray⟩) w' := fun w' h => (HV.out.1.same h (by omega)).text
      have c2 : ∀ w', Kept (fun _ => False) w w' → (convert 100 9 (.slice (some ⟨g, off, none⟩) 12 cap)).run Tryz.prog w' = .ok (.string ⟨q.toArray⟩) w' := fun w' h => (HV.out.2.2.1.same h (by omega)).text
      have hr12 : ∀ w0, (Instr.slice 100 (.slice (some ⟨g, off, none⟩) n cap) none (some (.int .i64 12)) none).run Tryz.prog w0 = .ok (.slice (some ⟨g, off, none⟩) 12 cap) w0 := HR.out
      go_region_held3 (fun w' => Kept (fun _ => False) w w') (first | exact ((Kept.refl _ _).drewN _).drew | exact (Kept.refl _ _).drewN _ | exact ((Kept.refl _ _).drewN _).trans hk3) (first | (go_at_call 114; with_reducible refine (HM.out _ (ht.same ((Kept.refl _ _).drewN _))).mono ?_; rintro e w3 ⟨rfl, hk3⟩))
      all_goals
        go_wp2_with fail
        go_ret3
        refine ⟨v1, v2, markF p == q, rfl, ?_, ((Kept.refl _ _).drewN _).trans hk3⟩
        have hk4 : Kept (fun _ => False) w w3 := ((Kept.refl _ _).drewN _).trans hk3
        rw [HC.out]
        by_cases hp : markF p = q
        · rw [if_pos hp]
          exact ⟨by simpa using hp, HV.out.1.same hk4 (by omega), HV.out.2.1.same hk4 (by omega), HV.out.2.2.2⟩
        · rw [if_neg hp]
          simpa [CutIs] using hp
end Go.Proofs.YtlgeijbgkipliaaGreatDoor

namespace Go.Proofs.YtlgeijbgkipliaaGreatDoor
open Go.RowKit
theorem cutF_len {l : List UInt8} {x : List UInt8 × List UInt8} (h : cutF l = some x) : x.2.length + 12 ≤ l.length ∧ x.1.length ≤ 65536 := by
  unfold cutF at h
  split at h
  · cases h
  · split at h
    · cases h
    · split at h
      · cases h; simp; omega
      · cases h
def wholeF (l : List UInt8) : List (List UInt8) × List UInt8 := match h : cutF l with
  | none => ([], l)
  | some x => (x.1 :: (wholeF x.2).1, (wholeF x.2).2)
termination_by l.length
decreasing_by all_goals (have := (cutF_len h).1; omega)
theorem wholeF_none {l : List UInt8} (h : cutF l = none) : wholeF l = ([], l) := by
  unfold wholeF
  split
  · rfl
  · rename_i q; rw [h] at q; cases q
theorem wholeF_some {l : List UInt8} {x : List UInt8 × List UInt8} (h : cutF l = some x) : wholeF l = (x.1 :: (wholeF x.2).1, (wholeF x.2).2) := by
  conv => lhs; unfold wholeF
  split
  · rename_i q; rw [h] at q; cases q
  · rename_i y q; rw [h] at q; cases q; rfl
theorem wholeF_len (l : List UInt8) : (wholeF l).2.length + 12 * (wholeF l).1.length ≤ l.length := by
  match h : cutF l with
  | none => rw [wholeF_none h]; simp
  | some x =>
    have h1 := (cutF_len h).1
    have h2 := wholeF_len x.2
    rw [wholeF_some h]
    simp
    omega
termination_by l.length
decreasing_by omega
def strV (ps : List (List UInt8)) : List Value := ps.map fun p => .string ⟨p.toArray⟩
theorem strV_len (ps : List (List UInt8)) : (strV ps).length = ps.length := by simp [strV]
def U8Blk (w : World) (v : Value) : Prop := ∀ g, v.ownBlock = some g → ∃ c f, w.heap[g]? = some (.cells c 5 f)
theorem bytes_view (w : World) (s : ByteArray) (hs : s.size ≤ 1000000000) : ∃ v w1, (convert 9 100 (.string s)).run Tryz.prog w = .ok v w1 ∧ View w1 1 v (bytes8 s.data.toList) ∧ U8Blk w1 v ∧ Kept (fun _ => False) w w1 ∧ ∃ a n c, v = .slice a n c ∧ n = s.size := by
  refine ⟨_, _, run_bytes_of_string w 9 100 5 s Tryz.underlying9 Tryz.underlying100 Tryz.underlying5, ?_, ?_, ((Kept.refl _ _).drew).alloc _, _, _, _, rfl, rfl⟩
  · have h2 := grownCap_ge w s.size 0 5
    have h3 := grownCap_le_maxLen w s.size 0 5 (by unfold maxLen; omega)
    generalize grownCap w s.size 0 5 = C at *
    have hnew := heap_alloc_new w.drew (.cells (bytesRow s C) 5 ((bytesRow s C).size, (bytesRow s C).size + 1))
    refine ⟨_, s.size, C, rfl, by rw [bytes8_len]; simp, h2, h3, fun _ => ⟨_, 0, rfl⟩, fun _ => ⟨_, 0, rfl, ?_, fun j u hu => ?_⟩⟩
    · rw [World.size_alloc]; exact Nat.lt_succ_self _
    · have hj := (List.getElem?_eq_some_iff.1 hu).1
      rw [bytes8_len] at hj
      have hjd : j < s.data.size := by simpa using hj
      have he : (bytesRow s C)[j]? = some u := by
        rw [bytesRow_at s C j hjd, ← hu, bytes8_at _ j hj]
        simp
      rw [Nat.zero_add]
      have hnew' : (w.drew.alloc (.cells (bytesRow s C) 5 ((bytesRow s C).size, (bytesRow s C).size + 1))).heap[w.heap.size]? = some (.cells (bytesRow s C) 5 ((bytesRow s C).size, (bytesRow s C).size + 1)) := hnew
      simp only [World.cell?, hnew']
      exact he
  · intro g hg
    simp [Value.ownBlock] at hg
    subst hg
    exact ⟨_, _, heap_alloc_new w.drew _⟩
theorem info_str : (Tryz.prog.info? 9).map (fun i => (i.zero, i.size, i.bytes)) = some (some (.string ⟨#[]⟩), 1, 16) := by kernel_rfl
theorem append_str1 {w2 : World} {x : Value} {ps : List (List UInt8)} (hrow : Row w2 9 1 x (strV ps)) (p : List UInt8) (hl : ps.length ≤ 100000000) :
    ∃ v' w', (Builtin.append_ #[23, 23] 23 #[x, .slice (some ⟨w2.heap.size, 0, none⟩) 1 1]).run Tryz.prog (w2.alloc (.cells #[.string ⟨p.toArray⟩] 9)) = .ok v' w' ∧
      Row w' 9 1 v' (strV (ps ++ [p])) ∧ Kept (fun k => x.ownBlock = some k) w2 w' ∧ ∀ k, v'.ownBlock = some k → x.ownBlock = some k ∨ w2.heap.size ≤ k := by
  obtain ⟨i0, hi, hz0, hz1, hz2⟩ := info_parts info_str
  have hb := Blk.new w2 [.string ⟨p.toArray⟩] 9
  obtain ⟨v', w', hr, hrow2, hk, ho⟩ := (hrow.alloc (.cells #[.string ⟨p.toArray⟩] 9)).append_cells (P := Tryz.prog) (t := 23) Tryz.underlying23 hi hz0 hz1 rfl (by omega) (by omega) ⟨w2.heap.size, 0, none⟩ 1 1 [.string ⟨p.toArray⟩] rfl (fun j u hu => by rw [addr0_add]; exact hb.cell hu) (fun u hu => by simp at hu; subst hu; rfl) (by omega) (by rw [strV_len]; simp; omega) 23
  refine ⟨v', w', hr, ?_, ((Kept.refl _ _).alloc _).trans hk, fun k hk => ?_⟩
  · rw [show strV (ps ++ [p]) = strV ps ++ [.string ⟨p.toArray⟩] by simp [strV]]; exact hrow2
  · rcases ho k hk with h | h
    · exact Or.inl h
    · right; rw [World.size_alloc] at h; omega
def sliceLen : Value → Nat
  | .slice _ n _ => n
  | _ => 0
end Go.Proofs.YtlgeijbgkipliaaGreatDoor

namespace Go.Proofs.YtlgeijbgkipliaaGreatDoor
theorem ofBe_cons (x : UInt8) (l : List UInt8) : ofBe (x :: l) = x.toNat * 256 ^ l.length + ofBe l := by
  have key : ∀ (l : List UInt8) (a : Nat), l.foldl (fun a b => a * 256 + b.toNat) a = a * 256 ^ l.length + l.foldl (fun a b => a * 256 + b.toNat) 0 := by
    intro l
    induction l with
    | nil => intro a; simp
    | cons y r ih =>
      intro a
      rw [List.foldl_cons, List.foldl_cons, ih (a * 256 + y.toNat), ih (0 * 256 + y.toNat), List.length_cons, Nat.pow_succ, Nat.add_mul, Nat.zero_mul, Nat.zero_add, Nat.mul_assoc, Nat.mul_comm 256 (256 ^ r.length), Nat.add_assoc]
  unfold ofBe
  rw [List.foldl_cons, key l (0 * 256 + x.toNat)]
  simp
theorem ofBe_be (k n : Nat) : ofBe (be k n) = n % 256 ^ k := by
  induction k with
  | zero => simp [be, ofBe, Nat.mod_one]
  | succ k ih =>
    rw [be_succ, ofBe_cons, be_len, ih, Nat.pow_succ, Nat.mod_mul]
    have : (UInt8.ofNat (n / 256 ^ k)).toNat = n / 256 ^ k % 256 := by simp
    rw [this, Nat.mul_comm (256 ^ k), Nat.add_comm]
theorem frameF_take4 (p : By) : (frameF p).take 4 = be 4 p.length := by
  unfold frameF markF
  rw [List.append_assoc, List.take_append_of_le_length (by rw [be_len]; omega), List.take_of_length_le (by rw [be_len]; omega)]
theorem ofBe_len (p : By) (hp : p.length ≤ 65536) : ofBe (be 4 p.length) = p.length := by
  rw [ofBe_be, Nat.mod_eq_of_lt (by omega)]
theorem cutF_frame (p rest : By) (hp : p.length ≤ 65536) : cutF (frameF p ++ rest) = some (p, rest) := by
  have hl := frameF_len p
  have hm := markF_len p
  have h4 : (frameF p ++ rest).take 4 = be 4 p.length := by rw [List.take_append_of_le_length (by omega), frameF_take4]
  have h12 : (frameF p ++ rest).take 12 = markF p := by
    unfold frameF
    rw [List.append_assoc, List.take_append_of_le_length (by omega), List.take_of_length_le (by omega)]
  have hd : (frameF p ++ rest).drop 12 = p ++ rest := by
    unfold frameF
    rw [List.append_assoc, List.drop_append_of_le_length (by omega), List.drop_eq_nil_of_le (by omega), List.nil_append]
  have hp2 : ((frameF p ++ rest).drop 12).take p.length = p := by rw [hd, List.take_append_of_le_length (by omega), List.take_of_length_le (by omega)]
  have hr : (frameF p ++ rest).drop (12 + p.length) = rest := by
    rw [← List.drop_drop, hd, List.drop_append_of_le_length (by omega), List.drop_eq_nil_of_le (by omega), List.nil_append]
  unfold cutF
  rw [h4, ofBe_len p hp, if_neg (by rw [List.length_append]; omega), if_neg (by rw [List.length_append]; omega), hp2, h12, if_pos rfl, hr]
theorem cutF_part (p : By) (hp : p.length ≤ 65536) (j : Nat) (hj : j < (frameF p).length) : cutF ((frameF p).take j) = none := by
  have hl := frameF_len p
  unfold cutF
  by_cases h12 : j < 12
  · rw [if_pos (by rw [List.length_take]; omega)]
  · have h4 : ((frameF p).take j).take 4 = be 4 p.length := by rw [List.take_take, Nat.min_eq_left (by omega), frameF_take4]
    rw [if_neg (by rw [List.length_take]; omega), h4, ofBe_len p hp, if_pos (by rw [List.length_take]; omega)]
def framesF (ps : List By) : By := ps.flatMap frameF
theorem framesF_snoc (ps : List By) (p : By) : framesF (ps ++ [p]) = framesF ps ++ frameF p := by simp [framesF]
theorem cutF_nil : cutF [] = none := by unfold cutF; rw [if_pos (by simp)]
theorem extract_data (s : ByteArray) (k : Nat) : (s.extract k s.size).data.toList = s.data.toList.drop k := by
  rw [ByteArray.data_extract, Array.toList_extract, List.extract_eq_take_drop]
  refine List.take_of_length_le ?_
  rw [List.length_drop]
  simp
end Go.Proofs.YtlgeijbgkipliaaGreatDoor

namespace Go.Proofs.YtlgeijbgkipliaaGreatDoor
open Go.RowKit
abbrev strB (l : By) : ByteArray := ⟨l.toArray⟩
theorem strB_data (l : By) : (strB l).data.toList = l := rfl
theorem strB_size (l : By) : (strB l).size = l.length := by show l.toArray.size = _; rw [List.size_toArray]
theorem strB_eq (s : ByteArray) : strB s.data.toList = s := bstr_eq rfl
end Go.Proofs.YtlgeijbgkipliaaGreatDoor

namespace Go.Proofs.YtlgeijbgkipliaaGreatDoor
open Go.RowKit
abbrev hcells (L : List By) : List Value := bytes8 L.flatten
end Go.Proofs.YtlgeijbgkipliaaGreatDoor

namespace Go.Proofs.YtlgeijbgkipliaaGreatDoor
open Go.RowKit
end Go.Proofs.YtlgeijbgkipliaaGreatDoor

namespace Go.Proofs.YtlgeijbgkipliaaGreatDoor
open Go.RowKit
theorem be_next (i n : Nat) : (⟨#[UInt8.ofNat (n / 256 ^ i)]⟩ : ByteArray) ++ ⟨(be i n).toArray⟩ = ⟨(be (i + 1) n).toArray⟩ := by
  have h := bstr_cat [UInt8.ofNat (n / 256 ^ i)] (be i n)
  rw [be_succ]
  exact h
set_option maxRecDepth 100000 in
set_option maxHeartbeats 1000000 in
theorem rput_any (w : World) (n : Nat) (hn : n < 18446744073709551616) (size : Nat) (h8 : size ≤ 8) :
    Calls Tryz.prog 133 #[.int .u64 (n : Int), .int .i64 (size : Int)] w fun e w' => e = .returned (.string ⟨(be size n).toArray⟩) ∧ Kept (fun _ => False) w w' := by
  have x1 : decide ((size : Int) < 9) = true := by simp; omega
  have x2 : decide (size < 9) = true := by simp; omega
  go_enter Tryz.func133, Tryz.ntmps133
  go_wp2_with fail
  go_loopw [0, 5, 6] (fun x s y wr => ∃ i : Nat, i ≤ size ∧ x = .int .u64 ((n / 256 ^ i : Nat) : Int) ∧ s = .string ⟨(be i n).toArray⟩ ∧ y = .int .i64 (i : Int) ∧ Kept (fun _ => False) w wr) (fun _ _ y _ => size - (intOf y).toNat)
  case atStart => exact ⟨0, by omega, by simp, rfl, rfl, Kept.refl _ _⟩
  case round =>
    obtain ⟨i, hi, rfl, rfl, rfl, hk⟩ := hrel
    by_cases hlt : i < size
    · have y1 : decide ((i : Int) < (size : Int)) = true := decide_eq_true (by omega)
      have y2 : decide (i < size) = true := decide_eq_true hlt
      obtain ⟨t, ht⟩ : ∃ t : ByteArray, ⟨(be i n).toArray⟩ = t := ⟨_, rfl⟩
      have htl : t.size = i := by rw [← ht]; show (be i n).toArray.size = i; rw [List.size_toArray, be_len]
      obtain ⟨q, hq⟩ : ∃ q, n / 256 ^ i = q := ⟨_, rfl⟩
      have hb := Blk.new wr [.int .u8 ((UInt8.ofNat q).toNat : Int)] 5
      have hst := run_string_of (w := wr.alloc (.cells #[.int .u8 ((UInt8.ofNat q).toNat : Int)] 5)) (g := wr.heap.size) (off := 0) (n := 1) (cap := 1) [UInt8.ofNat q] rfl (fun j u hu => by rw [Nat.zero_add]; exact hb.cell hu)
      have e8 : ((UInt8.ofNat q).toNat : Int) = (q : Int) % 256 := by
        rw [UInt8.toNat_ofNat']
        push_cast
        rfl
      rw [e8] at hst
      have hnx := be_next i n
      rw [hq, ht] at hnx
      have HN := Lib.hid hnx
      have HQ := Lib.hid (show n / 256 ^ (i + 1) = q / 256 by rw [← hq, Nat.pow_succ, Nat.div_div_eq_div_mul])
      have hK := Lib.hid (hk.alloc (.cells #[.int .u8 ((q : Int) % 256)] 5))
      rw [hq, ht]
      have hq64 : q < 18446744073709551616 := by rw [← hq]; exact Nat.lt_of_le_of_lt (Nat.div_le_self _ _) hn
      have HLT := Lib.hid hlt
      have hq0 : 0 ≤ (q : Int) := by omega
      have htb : t.size ≤ 8 := by omega
      clear hb e8 hnx hq ht hk hi htl
      go_wp2_with fail
      go_roundw
      case rel => exact ⟨i + 1, HLT.out, by rw [HQ.out]; push_cast; rfl, by rw [← HN.out], by go_num, hK.out⟩
      case measure => have := HLT.out; simp [intOf]; omega
    · have y1 : decide ((i : Int) < (size : Int)) = false := decide_eq_false (by omega)
      have y2 : decide (i < size) = false := decide_eq_false hlt
      obtain rfl : i = size := by omega
      clear hlt hi
      go_wp2_with fail
      go_ret
      exact ⟨rfl, hk⟩
set_option maxRecDepth 100000 in
set_option maxHeartbeats 1000000 in
theorem rget_any (w : World) (s : ByteArray) (hs : s.size ≤ 4) :
    Calls Tryz.prog 155 #[.string s] w fun e w' => e = .returned (.int .u64 (ofBe s.data.toList : Int)) ∧ w = w' := by
  go_enter Tryz.func155, Tryz.ntmps155
  go_wp2_with fail
  go_loop [3, 4] (fun x y => ∃ i : Nat, i ≤ s.size ∧ x = .int .u64 (ofBe (s.data.toList.take i) : Int) ∧ y = .int .i64 (i : Int)) (fun _ y => s.size - (intOf y).toNat)
  case atStart => exact ⟨0, by omega, rfl, rfl⟩
  case round =>
    obtain ⟨i, hi, rfl, rfl⟩ := hrel
    have hb := ofBe_lt (s.data.toList.take i)
    by_cases hlt : i < s.size
    · have y1 : decide ((i : Int) < (s.size : Int)) = true := decide_eq_true (by omega)
      have y2 : decide (i < s.size) = true := decide_eq_true hlt
      have y3 : decide ((i : Int) < 8) = true := decide_eq_true (by omega)
      have y4 : decide (i < 8) = true := decide_eq_true (by omega)
      have hl : (s.data.toList.take i).length = i := by simp; omega
      rw [hl] at hb
      have hb2 : ofBe (s.data.toList.take i) < 16777216 := Nat.lt_of_lt_of_le hb (Nat.pow_le_pow_right (show 0 < 256 by omega) (show i ≤ 3 by omega))
      have hbb : (s[i]).toNat < 256 := (s[i]).toNat_lt
      have HS := Lib.hid (take_snoc s i hlt)
      have HO := Lib.hid (ofBe_snoc (s.data.toList.take i) s[i])
      clear hb hl
      go_wp2_with fail
      go_round
      case rel => exact ⟨i + 1, hlt, by rw [HS.out, HO.out]; go_num, by go_num⟩
      case measure => simp [intOf]; omega
    · have y1 : decide ((i : Int) < (s.size : Int)) = false := decide_eq_false (by omega)
      have y2 : decide (i < s.size) = false := decide_eq_false hlt
      go_wp2_with fail
      go_ret
      exact ⟨ret_int (by rw [List.take_of_length_le (by simp; omega)]), rfl⟩
end Go.Proofs.YtlgeijbgkipliaaGreatDoor
