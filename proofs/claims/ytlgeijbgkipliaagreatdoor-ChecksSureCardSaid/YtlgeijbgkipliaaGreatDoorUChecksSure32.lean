/- Frames2 Frames3 FrameP Dec Trees3 AppH DecT DecU DecV -/
import Derived.BigQuiet
import Derived.Lib.AppendZeros
import Derived.Test.YtlgeijbgkipliaaGreatDoorUChecksSure29
import Derived.Test.YtlgeijbgkipliaaGreatDoorUChecksSure26
import Derived.Test.YtlgeijbgkipliaaGreatDoorUChecksSure25
set_option linter.unusedVariables false
set_option linter.unusedSimpArgs false
namespace Go.Proofs.YtlgeijbgkipliaaGreatDoor
open Go.RowKit
def cutF (l : List UInt8) : Option (List UInt8 × List UInt8) :=
  if l.length < 12 then none
  else if 65536 < ofBe (l.take 4) ∨ l.length < ofBe (l.take 4) + 12 then none
  else if markF ((l.drop 12).take (ofBe (l.take 4))) = l.take 12 then some ((l.drop 12).take (ofBe (l.take 4)), l.drop (12 + ofBe (l.take 4)))
  else none
def CutIs (w' : World) (v v1 v2 : Value) (ok : Bool) : Option (List UInt8 × List UInt8) → Prop
  | some x => ok = true ∧ View w' 1 v1 (bytes8 x.1) ∧ View w' 1 v2 (bytes8 x.2) ∧ v2.ownBlock = v.ownBlock
  | none => ok = false
def CutPost (w : World) (v : Value) (l : List UInt8) (e : Ending) (w' : World) : Prop := ∃ v1 v2 ok, e = .returned (.tuple #[v1, v2, .bool ok]) ∧ CutIs w' v v1 v2 ok (cutF l) ∧ Kept (fun _ => False) w w'
theorem bytes8_take (l : List UInt8) (n : Nat) : (bytes8 l).take n = bytes8 (l.take n) := by simp [bytes8, List.map_take]
theorem bytes8_drop (l : List UInt8) (n : Nat) : (bytes8 l).drop n = bytes8 (l.drop n) := by simp [bytes8, List.map_drop]
theorem elem_bytes : Tryz.prog.underlying 100 = some (.slice (Tryz.prog.elem 100)) := by kernel_rfl
theorem size_elem (w : World) : (sizeOf (Tryz.prog.elem 100)).run Tryz.prog w = .ok 1 w := by kernel_rfl
theorem cut_end {N n E : Nat} (hE : E = 12 + N) (hbad : ¬ (65536 < N ∨ n < N + 12)) : E ≤ n := by omega
theorem cut_wrap {N n E : Nat} (hE : E = 12 + N) (hbad : ¬ (65536 < N ∨ n < N + 12)) : wrap64 (12 + (N : Int)) = (E : Int) := by rw [IntWalk.wrap64_in _ (by omega)]; omega
set_option maxRecDepth 100000 in
theorem cut_any (w : World) (v : Value) (l : List UInt8) (hv : View w 1 v (bytes8 l)) (ht : Tab w) :
    Calls Tryz.prog 131 #[v] w (CutPost w v l) := by
  have hml : maxLen = 9223372036854775807 := rfl
  have hv0 := hv
  obtain ⟨a, n, cap, rfl, h1, h2, h3, h4, h5⟩ := hv
  rw [bytes8_len, Nat.mul_one] at h1
  by_cases hn : n < 12
  · have y1 : decide ((n : Int) < 12) = true := by simp; omega
    have hc : cutF l = none := by unfold cutF; rw [if_pos (by omega)]
    have HC := Lib.hid hc
    clear hc
    go_enter Tryz.func131, Tryz.ntmps131
    go_wp2
    go_ret3
    exact ⟨_, _, false, rfl, by rw [HC.out]; rfl, Kept.refl _ _⟩
  · have y1 : decide ((n : Int) < 12) = false := by simp; omega
    obtain ⟨g, off, rfl, _, _⟩ := h5 (by omega)
    have hr4 : ∀ w0, (Instr.slice 100 (.slice (some ⟨g, off, none⟩) n cap) none (some (.int .i64 4)) none).run Tryz.prog w0 = .ok (.slice (some ⟨g, off, none⟩) 4 cap) w0 := fun w0 => hv0.run_head elem_bytes size_elem 4 (by omega) w0
    have hs4 := (hv0.head 4 (by omega))
    rw [Nat.mul_one, bytes8_take] at hs4
    have hs4 := hs4.text
    have hg4 := fun w' => get_any w' ⟨(l.take 4).toArray⟩ (by show (l.take 4).toArray.size ≤ 4; rw [List.size_toArray, List.length_take]; omega)
    have hN : ofBe (⟨(l.take 4).toArray⟩ : ByteArray).data.toList = ofBe (l.take 4) := rfl
    rw [hN] at hg4
    obtain ⟨N, hN'⟩ : ∃ N, N = ofBe (l.take 4) := ⟨_, rfl⟩
    rw [← hN'] at hg4
    have HG := Lib.hid hg4
    have HN := Lib.hid hN'
    clear hg4 hN hN'
    have H1 := Lib.hid h1
    have hnm : n ≤ 9223372036854775807 := by omega
    have A1 := Lib.hid (show wrap64 ((n : Int) - 12) = (n : Int) - 12 from IntWalk.wrap64_in _ (by omega))
    by_cases hbad : 65536 < N ∨ n < N + 12
    · have hc : cutF l = none := by unfold cutF; rw [if_neg (by omega), if_pos (by rw [← HN.out, ← h1]; exact hbad)]
      have HC := Lib.hid hc
      clear hc h1 h3 h4 h5 hv0 hml
      by_cases hbig : 65536 < N
      · have y2 : decide ((65536 : Int) < (N : Int)) = true := by simp; omega
        clear hbad
        have a1 := A1.out
        go_enter Tryz.func131, Tryz.ntmps131
        go_wp2_with (go_at_call 154; refine (HG.out _).mono ?_; rintro e w' ⟨rfl, rfl⟩)
        go_ret3
        exact ⟨_, _, false, rfl, by rw [HC.out]; rfl, Kept.refl _ _⟩
      · have y2 : decide ((65536 : Int) < (N : Int)) = false := by simp; omega
        have y3 : decide ((n : Int) - 12 < (N : Int)) = true := by simp; omega
        have a2 : IntKind.i64.wrap (N : Int) = (N : Int) := IntWalk.i64_in _ (by omega)
        clear hbad
        have a1 := A1.out
        go_enter Tryz.func131, Tryz.ntmps131
        go_wp2_with (go_at_call 154; refine (HG.out _).mono ?_; rintro e w' ⟨rfl, rfl⟩)
        go_ret3
        exact ⟨_, _, false, rfl, by rw [HC.out]; rfl, Kept.refl _ _⟩
    · have y2 : decide ((65536 : Int) < (N : Int)) = false := by simp; omega
      have y3 : decide ((n : Int) - 12 < (N : Int)) = false := by simp; omega
      have a2 : IntKind.i64.wrap (N : Int) = (N : Int) := IntWalk.i64_in _ (by omega)
      obtain ⟨E, hE⟩ : ∃ E : Nat, E = 12 + N := ⟨_, rfl⟩
      have A3 := Lib.hid (show wrap64 (12 + (N : Int)) = (E : Int) from cut_wrap hE hbad)
      have e12 : 12 ≤ E := by rw [hE]; exact Nat.le_add_right _ _
      have eEn : E ≤ n := cut_end hE hbad
      obtain ⟨v1, hr1, hv1⟩ := hv0.mid3 elem_bytes size_elem 12 E e12 eEn
      obtain ⟨v2, hr2, hv2, ho2⟩ : ∃ v2, (∀ w0, (Instr.slice 100 (.slice (some ⟨g, off, none⟩) n cap) (some (.int .i64 (E : Int))) none none).run Tryz.prog w0 = .ok v2 w0) ∧ View w 1 v2 ((bytes8 l).drop (E * 1)) ∧ v2.ownBlock = some g :=
        ⟨_, fun w0 => hv0.run_tail elem_bytes size_elem E eEn w0, hv0.tail E eEn, by split <;> simp [Value.ownBlock, addr_mid]⟩
      rw [Nat.mul_one, Nat.mul_one, bytes8_drop, bytes8_take, show E - 12 = N by omega] at hv1
      rw [Nat.mul_one, bytes8_drop] at hv2
      have hr1 : ∀ w0, (Instr.slice 100 (.slice (some ⟨g, off, none⟩) n cap) (some (.int .i64 12)) (some (.int .i64 (E : Int))) (some (.int .i64 (E : Int)))).run Tryz.prog w0 = .ok v1 w0 := hr1
      have hr12 : ∀ w0, (Instr.slice 100 (.slice (some ⟨g, off, none⟩) n cap) none (some (.int .i64 12)) none).run Tryz.prog w0 = .ok (.slice (some ⟨g, off, none⟩) 12 cap) w0 := fun w0 => hv0.run_head elem_bytes size_elem 12 (by omega) w0
      have hv12 := hv0.head 12 (by omega)
      rw [Nat.mul_one, bytes8_take] at hv12
      have HV := Lib.hid (And.intro hv1 (And.intro hv2 (And.intro hv12 ho2)))
      have hcut : cutF l = if markF ((l.drop 12).take N) = l.take 12 then some ((l.drop 12).take N, l.drop E) else none := by
        unfold cutF; rw [if_neg (by omega), if_neg (by rw [← HN.out, ← h1]; exact hbad), ← HN.out, hE]
      have HC := Lib.hid hcut
      have hpl : ((l.drop 12).take N).length ≤ 65536 := by rw [List.length_take]; omega
      generalize (l.drop 12).take N = p at *
      generalize hq : l.take 12 = q at *
      have hm : ∀ w', Tab w' → Calls Tryz.prog 114 #[.string ⟨p.toArray⟩] w' fun e w'' => e = .returned (.string ⟨(markF p).toArray⟩) ∧ Kept (fun _ => False) w' w'' := fun w' ht' =>
        mark_any w' ⟨p.toArray⟩ (by show p.toArray.size ≤ 900000; rw [List.size_toArray]; omega) ht'
      have HM := Lib.hid hm
      have c1 : ∀ m, (convert 100 9 v1).run Tryz.prog (w.drewN m) = .ok (.string ⟨p.toArray⟩) (w.drewN m) := fun m => (hv1.same ((Kept.refl _ _).drewN m) (by omega)).text
      have c2 : ∀ m, (convert 100 9 (.slice (some ⟨g, off, none⟩) 12 cap)).run Tryz.prog (w.drewN m) = .ok (.string ⟨q.toArray⟩) (w.drewN m) := fun m => (hv12.same ((Kept.refl _ _).drewN m) (by omega)).text
      have a1 := A1.out
      have a3 := A3.out
      have HR := Lib.hid hr12
      clear h1 h3 hml hm hcut hq hv1 hv2 hv12 hpl hbad hE hv0 h4 h5
      go_enter Tryz.func131, Tryz.ntmps131
      go_wp2_with (go_at_call 154; refine (HG.out _).mono ?_; rintro e w' ⟨rfl, rfl⟩)
      go_quiet (fail)
      go_wp2_with fail
      clear hr1 hr2 hr4 hr12 a1 a2 a3 y1 y2 y3 c1 c2
      have c1 : ∀ w', Kept (fun _ => False) w w' → (convert 100 9 v1).run Tryz.prog w' = .ok (.string ⟨p.toArray⟩) w' := fun w' h => (HV.out.1.same h (by omega)).text
      have c2 : ∀ w', Kept (fun _ => False) w w' → (convert 100 9 (.slice (some ⟨g, off, none⟩) 12 cap)).run Tryz.prog w' = .ok (.string ⟨q.toArray⟩) w' := fun w' h => (HV.out.2.2.1.same h (by omega)).text
      have hr12 : ∀ w0, (Instr.slice 100 (.slice (some ⟨g, off, none⟩) n cap) none (some (.int .i64 12)) none).run Tryz.prog w0 = .ok (.slice (some ⟨g, off, none⟩) 12 cap) w0 := HR.out
      go_region_held3 (fun w' => Kept (fun _ => False) w w') (first | exact ((Kept.refl _ _).drewN _).drew | exact (Kept.refl _ _).drewN _ | exact ((Kept.refl _ _).drewN _).trans hk3) (first | (go_at_call 114; with_reducible refine (HM.out _ (ht.same ((Kept.refl _ _).drewN _))).mono ?_; rintro e w3 ⟨rfl, hk3⟩))
      all_goals
        go_wp2_with fail
        go_ret3
        refine ⟨v1, v2, markF p == q, rfl, ?_, ((Kept.refl _ _).drewN _).trans hk3⟩
        have hk4 : Kept (fun _ => False) w w3 := ((Kept.refl _ _).drewN _).trans hk3
        rw [HC.out]
        by_cases hp : markF p = q
        · rw [if_pos hp]
          exact ⟨by simpa using hp, HV.out.1.same hk4 (by omega), HV.out.2.1.same hk4 (by omega), HV.out.2.2.2⟩
        · rw [if_neg hp]
          simpa [CutIs] using hp
end Go.Proofs.YtlgeijbgkipliaaGreatDoor

namespace Go.Proofs.YtlgeijbgkipliaaGreatDoor
open Go.RowKit
theorem cutF_len {l : List UInt8} {x : List UInt8 × List UInt8} (h : cutF l = some x) : x.2.length + 12 ≤ l.length ∧ x.1.length ≤ 65536 := by
  unfold cutF at h
  split at h
  · cases h
  · split at h
    · cases h
    · split at h
      · cases h; simp; omega
      · cases h
def wholeF (l : List UInt8) : List (List UInt8) × List UInt8 := match h : cutF l with
  | none => ([], l)
  | some x => (x.1 :: (wholeF x.2).1, (wholeF x.2).2)
termination_by l.length
decreasing_by all_goals (have := (cutF_len h).1; omega)
theorem wholeF_none {l : List UInt8} (h : cutF l = none) : wholeF l = ([], l) := by
  unfold wholeF
  split
  · rfl
  · rename_i q; rw [h] at q; cases q
theorem wholeF_some {l : List UInt8} {x : List UInt8 × List UInt8} (h : cutF l = some x) : wholeF l = (x.1 :: (wholeF x.2).1, (wholeF x.2).2) := by
  conv => lhs; unfold wholeF
  split
  · rename_i q; rw [h] at q; cases q
  · rename_i y q; rw [h] at q; cases q; rfl
theorem wholeF_len (l : List UInt8) : (wholeF l).2.length + 12 * (wholeF l).1.length ≤ l.length := by
  match h : cutF l with
  | none => rw [wholeF_none h]; simp
  | some x =>
    have h1 := (cutF_len h).1
    have h2 := wholeF_len x.2
    rw [wholeF_some h]
    simp
    omega
termination_by l.length
decreasing_by omega
def strV (ps : List (List UInt8)) : List Value := ps.map fun p => .string ⟨p.toArray⟩
theorem strV_len (ps : List (List UInt8)) : (strV ps).length = ps.length := by simp [strV]
def U8Blk (w : World) (v : Value) : Prop := ∀ g, v.ownBlock = some g → ∃ c f, w.heap[g]? = some (.cells c 5 f)
theorem U8Blk.kept {S : Nat → Prop} {w w' : World} {v : Value} (h : U8Blk w v) (hk : Kept S w w') (hS : ∀ g, v.ownBlock = some g → ¬ S g) : U8Blk w' v := by
  intro g hg
  obtain ⟨c, f, hc⟩ := h g hg
  exact ⟨c, f, by rw [hk.block g (Array.getElem?_eq_some_iff.1 hc).1 (hS g hg)]; exact hc⟩
theorem U8Blk.ne {w : World} {v x : Value} {xs : List Value} {size : Nat} (h : U8Blk w v) (hr : Row w 9 size x xs) (g : Nat) (hv : v.ownBlock = some g) (hx : x.ownBlock = some g) : False := by
  obtain ⟨c, f, hc⟩ := h g hv
  rcases hr with ⟨rfl, _⟩ | ⟨g', n, cap, rest, rfl, _, hb, _⟩
  · simp [Value.ownBlock] at hx
  · simp [Value.ownBlock] at hx
    subst hx
    unfold Blk at hb
    rw [hb] at hc
    simp at hc
theorem bytes_view (w : World) (s : ByteArray) (hs : s.size ≤ 1000000000) : ∃ v w1, (convert 9 100 (.string s)).run Tryz.prog w = .ok v w1 ∧ View w1 1 v (bytes8 s.data.toList) ∧ U8Blk w1 v ∧ Kept (fun _ => False) w w1 ∧ ∃ a n c, v = .slice a n c ∧ n = s.size := by
  refine ⟨_, _, run_bytes_of_string w 9 100 5 s Tryz.underlying9 Tryz.underlying100 Tryz.underlying5, ?_, ?_, ((Kept.refl _ _).drew).alloc _, _, _, _, rfl, rfl⟩
  · have h2 := grownCap_ge w s.size 0 5
    have h3 := grownCap_le_maxLen w s.size 0 5 (by unfold maxLen; omega)
    generalize grownCap w s.size 0 5 = C at *
    have hnew := heap_alloc_new w.drew (.cells (bytesRow s C) 5 ((bytesRow s C).size, (bytesRow s C).size + 1))
    refine ⟨_, s.size, C, rfl, by rw [bytes8_len]; simp, h2, h3, fun _ => ⟨_, 0, rfl⟩, fun _ => ⟨_, 0, rfl, ?_, fun j u hu => ?_⟩⟩
    · rw [World.size_alloc]; exact Nat.lt_succ_self _
    · have hj := (List.getElem?_eq_some_iff.1 hu).1
      rw [bytes8_len] at hj
      have hjd : j < s.data.size := by simpa using hj
      have he : (bytesRow s C)[j]? = some u := by
        rw [bytesRow_at s C j hjd, ← hu, bytes8_at _ j hj]
        simp
      rw [Nat.zero_add]
      have hnew' : (w.drew.alloc (.cells (bytesRow s C) 5 ((bytesRow s C).size, (bytesRow s C).size + 1))).heap[w.heap.size]? = some (.cells (bytesRow s C) 5 ((bytesRow s C).size, (bytesRow s C).size + 1)) := hnew
      simp only [World.cell?, hnew']
      exact he
  · intro g hg
    simp [Value.ownBlock] at hg
    subst hg
    exact ⟨_, _, heap_alloc_new w.drew _⟩
theorem info_str : (Tryz.prog.info? 9).map (fun i => (i.zero, i.size, i.bytes)) = some (some (.string ⟨#[]⟩), 1, 16) := by kernel_rfl
theorem append_str1 {w2 : World} {x : Value} {ps : List (List UInt8)} (hrow : Row w2 9 1 x (strV ps)) (p : List UInt8) (hl : ps.length ≤ 100000000) :
    ∃ v' w', (Builtin.append_ #[23, 23] 23 #[x, .slice (some ⟨w2.heap.size, 0, none⟩) 1 1]).run Tryz.prog (w2.alloc (.cells #[.string ⟨p.toArray⟩] 9)) = .ok v' w' ∧
      Row w' 9 1 v' (strV (ps ++ [p])) ∧ Kept (fun k => x.ownBlock = some k) w2 w' ∧ ∀ k, v'.ownBlock = some k → x.ownBlock = some k ∨ w2.heap.size ≤ k := by
  obtain ⟨i0, hi, hz0, hz1, hz2⟩ := info_parts info_str
  have hb := Blk.new w2 [.string ⟨p.toArray⟩] 9
  obtain ⟨v', w', hr, hrow2, hk, ho⟩ := (hrow.alloc (.cells #[.string ⟨p.toArray⟩] 9)).append_cells (P := Tryz.prog) (t := 23) Tryz.underlying23 hi hz0 hz1 rfl (by omega) (by omega) ⟨w2.heap.size, 0, none⟩ 1 1 [.string ⟨p.toArray⟩] rfl (fun j u hu => by rw [addr0_add]; exact hb.cell hu) (fun u hu => by simp at hu; subst hu; rfl) (by omega) (by rw [strV_len]; simp; omega) 23
  refine ⟨v', w', hr, ?_, ((Kept.refl _ _).alloc _).trans hk, fun k hk => ?_⟩
  · rw [show strV (ps ++ [p]) = strV ps ++ [.string ⟨p.toArray⟩] by simp [strV]]; exact hrow2
  · rcases ho k hk with h | h
    · exact Or.inl h
    · right; rw [World.size_alloc] at h; omega
def sliceLen : Value → Nat
  | .slice _ n _ => n
  | _ => 0
def WholePost (w : World) (l : List UInt8) (e : Ending) (w' : World) : Prop :=
  ∃ v, e = .returned (.tuple #[v, .int .i64 ((l.length - (wholeF l).2.length : Nat) : Int)]) ∧ Row w' 9 1 v (strV (wholeF l).1) ∧ (∀ k, v.ownBlock = some k → w.heap.size ≤ k) ∧ Kept (fun _ => False) w w'
set_option maxRecDepth 100000 in
set_option maxHeartbeats 400000 in
theorem whole_any (w : World) (s : ByteArray) (hs : s.size ≤ 2000000) (ht : Tab w) :
    Calls Tryz.prog 120 #[.string s] w (WholePost w s.data.toList) := by
  obtain ⟨v0, w1, hr0, hv0, hu0, hk0, a0, n0, c0, rfl, rfl⟩ := bytes_view w s (by omega)
  have hln := bstr_len s
  go_enter Tryz.func120, Tryz.ntmps120
  go_wp2_with fail
  generalize s.data.toList = full at *
  go_loopw [2, 4] (fun x y wr => ∃ (ps : List (List UInt8)) (l : List UInt8), Row wr 9 1 x (strV ps) ∧ View wr 1 y (bytes8 l) ∧ U8Blk wr y ∧ l.length + 12 * ps.length ≤ s.size ∧ Hid (wholeF full = (ps ++ (wholeF l).1, (wholeF l).2)) ∧ (∀ k, x.ownBlock = some k → w.heap.size ≤ k) ∧ Kept (fun _ => False) w wr) (fun _ y _ => sliceLen y)
  case atStart => exact ⟨[], full, Row.nil _ _ _, hv0, hu0, by simp [hln], Lib.hid (by simp), fun k hk => by simp [Value.ownBlock] at hk, hk0⟩
  case round =>
    obtain ⟨ps, l, hrow, hview, hub, hlen, HW, hown, hk⟩ := hrel
    have hcut := cut_any wr _ l hview (ht.same hk)
    obtain ⟨a, n, c, rfl, hn, hv2, hv3, hv4, hv5⟩ := hview
    rw [bytes8_len, Nat.mul_one] at hn
    match hc : cutF l with
    | none =>
      have a1 : wrap64 ((s.size : Int) - (n : Int)) = ((full.length - l.length : Nat) : Int) := by rw [IntWalk.wrap64_in _ (by omega)]; omega
      have HW : wholeF full = (ps ++ (wholeF l).1, (wholeF l).2) := HW
      rw [wholeF_none hc, List.append_nil] at HW
      have HC := Lib.hid hc
      have HL := Lib.hid hlen
      have HE := Lib.hid HW
      clear hc hlen HW hn hln
      go_wp2_with (go_at_call 131; refine hcut.mono ?_; rintro e w2 ⟨v1, v2, ok, rfl, hci, hk2⟩; rw [HC.out] at hci; obtain rfl : ok = false := hci)
      go_ret2
      refine ⟨_, by rw [HE.out]; show _ = Ending.returned (.tuple #[_, .int .i64 ((full.length - l.length : Nat) : Int)]); rw [← a1]; rfl, ?_, hown, hk.trans hk2⟩
      rw [HE.out]
      exact hrow.kept hk2 (fun _ _ => id)
    | some x =>
      have hcl := (cutF_len hc).1
      have HW : wholeF full = (ps ++ (wholeF l).1, (wholeF l).2) := HW
      rw [wholeF_some hc] at HW
      have HC := Lib.hid hc
      have HE := Lib.hid HW
      clear hc HW
      have hp1 : ps.length ≤ 100000000 := by omega
      have hcut2 : Calls Tryz.prog 131 #[.slice a n c] wr fun e w2 => ∃ v1 v2 v' w', e = .returned (.tuple #[v1, v2, .bool true]) ∧ (convert 100 9 v1).run Tryz.prog w2 = .ok (.string ⟨x.1.toArray⟩) w2 ∧
          (Builtin.append_ #[23, 23] 23 #[u2, .slice (some ⟨w2.heap.size, 0, none⟩) 1 1]).run Tryz.prog (w2.alloc (.cells #[.string ⟨x.1.toArray⟩] 9)) = .ok v' w' ∧
          Hid (View w' 1 v2 (bytes8 x.2) ∧ U8Blk w' v2 ∧ Row w' 9 1 v' (strV (ps ++ [x.1])) ∧ (∀ k, v'.ownBlock = some k → w.heap.size ≤ k) ∧ Kept (fun _ => False) w w') := by
        refine hcut.mono ?_
        rintro e w2 ⟨v1, v2, ok, rfl, hci, hk2⟩
        rw [HC.out] at hci
        obtain ⟨rfl, hq1, hq2, ho2⟩ := hci
        have hrow2 := hrow.kept hk2 (fun _ _ => id)
        obtain ⟨v', w', hr1, hrow3, hk3, ho3⟩ := append_str1 hrow2 x.1 hp1
        have hub2 : U8Blk w2 v2 := by
          have := hub.kept hk2 (fun _ _ => id)
          intro g hg
          rw [ho2] at hg
          exact this g hg
        have hown2 : ∀ k, v'.ownBlock = some k → w.heap.size ≤ k := by
          intro k hk'
          rcases ho3 k hk' with h | h
          · exact hown k h
          · have := hk.size; have := hk2.size; omega
        refine ⟨v1, v2, v', w', rfl, hq1.text, hr1, Lib.hid ⟨hq2.kept hk3 (fun g c t f hg hv hx => hub2.ne hrow2 g hv hx) (by omega), hub2.kept hk3 (fun g hv hx => hub2.ne hrow2 g hv hx), hrow3, hown2, (hk.trans hk2).then_ hk3 (fun i hi hx => ?_)⟩⟩
        have := hown i hx
        omega
      have HX := Lib.hid (And.intro hcl (And.intro hlen (And.intro hn hln)))
      clear hcut hrow hub hown hv2 hv3 hv4 hv5 hn hln hlen hcl hp1 hr0 hv0 hu0 hk0
      go_wp2_with (first | (go_at_call 131; refine hcut2.mono ?_; rintro e w2 ⟨v1, v2, v', w', rfl, hpt, hr1, HF⟩) | (at_builtin; refine Lib.wpList_append_run _ rfl _ _ 23 23 rfl _ _ rfl rfl _ _ hr1 ?_))
      obtain ⟨hcl, hlen, hn, hln⟩ := HX.out
      obtain ⟨g1, g2, g3, g4, g5⟩ := HF.out
      refine ⟨⟨ps ++ [x.1], x.2, g3, g1, g2, by simp; omega, Lib.hid (by rw [HE.out]; simp), g4, g5⟩, ?_⟩
      obtain ⟨a', n', c', rfl, hn', _⟩ := g1
      rw [bytes8_len, Nat.mul_one] at hn'
      show n' < n
      omega
end Go.Proofs.YtlgeijbgkipliaaGreatDoor

namespace Go.Proofs.YtlgeijbgkipliaaGreatDoor
theorem ofBe_cons (x : UInt8) (l : List UInt8) : ofBe (x :: l) = x.toNat * 256 ^ l.length + ofBe l := by
  have key : ∀ (l : List UInt8) (a : Nat), l.foldl (fun a b => a * 256 + b.toNat) a = a * 256 ^ l.length + l.foldl (fun a b => a * 256 + b.toNat) 0 := by
    intro l
    induction l with
    | nil => intro a; simp
    | cons y r ih =>
      intro a
      rw [List.foldl_cons, List.foldl_cons, ih (a * 256 + y.toNat), ih (0 * 256 + y.toNat), List.length_cons, Nat.pow_succ, Nat.add_mul, Nat.zero_mul, Nat.zero_add, Nat.mul_assoc, Nat.mul_comm 256 (256 ^ r.length), Nat.add_assoc]
  unfold ofBe
  rw [List.foldl_cons, key l (0 * 256 + x.toNat)]
  simp
theorem ofBe_be (k n : Nat) : ofBe (be k n) = n % 256 ^ k := by
  induction k with
  | zero => simp [be, ofBe, Nat.mod_one]
  | succ k ih =>
    rw [be_succ, ofBe_cons, be_len, ih, Nat.pow_succ, Nat.mod_mul]
    have : (UInt8.ofNat (n / 256 ^ k)).toNat = n / 256 ^ k % 256 := by simp
    rw [this, Nat.mul_comm (256 ^ k), Nat.add_comm]
theorem frameF_take4 (p : By) : (frameF p).take 4 = be 4 p.length := by
  unfold frameF markF
  rw [List.append_assoc, List.take_append_of_le_length (by rw [be_len]; omega), List.take_of_length_le (by rw [be_len]; omega)]
theorem ofBe_len (p : By) (hp : p.length ≤ 65536) : ofBe (be 4 p.length) = p.length := by
  rw [ofBe_be, Nat.mod_eq_of_lt (by omega)]
theorem cutF_frame (p rest : By) (hp : p.length ≤ 65536) : cutF (frameF p ++ rest) = some (p, rest) := by
  have hl := frameF_len p
  have hm := markF_len p
  have h4 : (frameF p ++ rest).take 4 = be 4 p.length := by rw [List.take_append_of_le_length (by omega), frameF_take4]
  have h12 : (frameF p ++ rest).take 12 = markF p := by
    unfold frameF
    rw [List.append_assoc, List.take_append_of_le_length (by omega), List.take_of_length_le (by omega)]
  have hd : (frameF p ++ rest).drop 12 = p ++ rest := by
    unfold frameF
    rw [List.append_assoc, List.drop_append_of_le_length (by omega), List.drop_eq_nil_of_le (by omega), List.nil_append]
  have hp2 : ((frameF p ++ rest).drop 12).take p.length = p := by rw [hd, List.take_append_of_le_length (by omega), List.take_of_length_le (by omega)]
  have hr : (frameF p ++ rest).drop (12 + p.length) = rest := by
    rw [← List.drop_drop, hd, List.drop_append_of_le_length (by omega), List.drop_eq_nil_of_le (by omega), List.nil_append]
  unfold cutF
  rw [h4, ofBe_len p hp, if_neg (by rw [List.length_append]; omega), if_neg (by rw [List.length_append]; omega), hp2, h12, if_pos rfl, hr]
theorem cutF_part (p : By) (hp : p.length ≤ 65536) (j : Nat) (hj : j < (frameF p).length) : cutF ((frameF p).take j) = none := by
  have hl := frameF_len p
  unfold cutF
  by_cases h12 : j < 12
  · rw [if_pos (by rw [List.length_take]; omega)]
  · have h4 : ((frameF p).take j).take 4 = be 4 p.length := by rw [List.take_take, Nat.min_eq_left (by omega), frameF_take4]
    rw [if_neg (by rw [List.length_take]; omega), h4, ofBe_len p hp, if_pos (by rw [List.length_take]; omega)]
def framesF (ps : List By) : By := ps.flatMap frameF
theorem framesF_snoc (ps : List By) (p : By) : framesF (ps ++ [p]) = framesF ps ++ frameF p := by simp [framesF]
theorem wholeF_frames (ps : List By) (hp : ∀ p ∈ ps, p.length ≤ 65536) (t : By) (ht : cutF t = none) : wholeF (framesF ps ++ t) = (ps, t) := by
  induction ps with
  | nil => simpa [framesF] using wholeF_none ht
  | cons p r ih =>
    have e : framesF (p :: r) ++ t = frameF p ++ (framesF r ++ t) := by simp [framesF]
    rw [e, wholeF_some (cutF_frame p _ (hp p (by simp))), ih (fun q hq => hp q (by simp [hq]))]
theorem cutF_nil : cutF [] = none := by unfold cutF; rw [if_pos (by simp)]
theorem extract_data (s : ByteArray) (k : Nat) : (s.extract k s.size).data.toList = s.data.toList.drop k := by
  rw [ByteArray.data_extract, Array.toList_extract, List.extract_eq_take_drop]
  refine List.take_of_length_le ?_
  rw [List.length_drop]
  simp
end Go.Proofs.YtlgeijbgkipliaaGreatDoor

namespace Go.Proofs.YtlgeijbgkipliaaGreatDoor
open Go.RowKit
def numG (l : By) : Option (Nat × By) := (readGo l 0).map fun x => (x.1, l.drop x.2)
def textG (l : By) : Option (By × By) := match numG l with
  | some x => if x.1 ≤ x.2.length then some (x.2.take x.1, x.2.drop x.1) else none
  | none => none
def hashG (l : By) : Option (By × By) := if 32 ≤ l.length then some (l.take 32, l.drop 32) else none
def hashesGo : Nat → By → Option (List By × By)
  | 0, l => some ([], l)
  | n + 1, l => match hashG l with
    | some x => (hashesGo n x.2).map fun y => (x.1 :: y.1, y.2)
    | none => none
def hashesG (l : By) : Option (List By × By) := match numG l with
  | some x => if x.1 ≤ 64 then hashesGo x.1 x.2 else none
  | none => none
abbrev strB (l : By) : ByteArray := ⟨l.toArray⟩
theorem strB_size (l : By) : (strB l).size = l.length := by show l.toArray.size = _; rw [List.size_toArray]
theorem strB_eq (s : ByteArray) : strB s.data.toList = s := bstr_eq rfl
theorem extract_strB (l : By) (k : Nat) : (strB l).extract k (strB l).size = strB (l.drop k) := bstr_eq (by rw [extract_data])
theorem utf8_nil : "".toUTF8 = strB [] := by rfl
theorem readGo_lt (l : By) (n : Nat) {x : Nat × Nat} (h : readGo l n = some x) : x.1 < 18446744073709551616 := by
  induction l generalizing n x with
  | nil => unfold readGo at h; cases h
  | cons c l ih =>
    unfold readGo at h
    split at h
    · cases h
    · rename_i hc
      split at h
      · cases h; simp only; have := Nat.mod_lt c.toNat (show 0 < 128 by decide); omega
      · cases hg : readGo l (n * 128 + c.toNat % 128) with
        | none => rw [hg] at h; cases h
        | some y => rw [hg] at h; cases h; exact (ih (n * 128 + c.toNat % 128) (x := y) hg : y.1 < _)
theorem numG_lt {l : By} {x : Nat × By} (h : numG l = some x) : x.1 < 18446744073709551616 ∧ x.2.length ≤ l.length := by
  unfold numG at h
  cases hg : readGo l 0 with
  | none => rw [hg] at h; cases h
  | some y => rw [hg] at h; cases h; exact ⟨readGo_lt _ _ hg, by simp⟩
theorem numG_num (n : Nat) (hn : U64n n) (rest : By) : numG (numL n ++ rest) = some (n, rest) := by
  unfold numG
  rw [readGo_num n hn rest]
  simp
theorem read_yes (w : World) {l : By} {n : Nat} {r : By} (hs : Short l.length) (h : numG l = some (n, r)) : Calls Tryz.prog 123 #[.string (strB l)] w fun e w' => e = .returned (.tuple #[.int .u64 (n : Int), .string (strB r), .bool true]) ∧ Kept (fun _ => False) w w' := by
  unfold numG at h
  cases hg : readGo l 0 with
  | none => rw [hg] at h; cases h
  | some y =>
    rw [hg] at h
    obtain ⟨a, b⟩ := y
    simp only [Option.map_some, Option.some.injEq, Prod.mk.injEq] at h
    obtain ⟨rfl, rfl⟩ := h
    have h1 := read_any w (strB l) (by rw [strB_size]; exact hs)
    rw [readAt_yes (s := strB l) hg, extract_strB] at h1
    exact h1
theorem read_no (w : World) {l : By} (hs : Short l.length) (h : numG l = none) : Calls Tryz.prog 123 #[.string (strB l)] w fun e w' => e = .returned (.tuple #[.int .u64 0, .string (strB []), .bool false]) ∧ Kept (fun _ => False) w w' := by
  unfold numG at h
  cases hg : readGo l 0 with
  | some y => rw [hg] at h; cases h
  | none =>
    have h1 := read_any w (strB l) (by rw [strB_size]; exact hs)
    rw [readAt_no (s := strB l) hg, utf8_nil] at h1
    exact h1
end Go.Proofs.YtlgeijbgkipliaaGreatDoor

namespace Go.Proofs.YtlgeijbgkipliaaGreatDoor
open Go.RowKit
abbrev hcells (L : List By) : List Value := bytes8 L.flatten
theorem flatten_len {L : List By} (h : ∀ x ∈ L, x.length = 32) : L.flatten.length = L.length * 32 := by
  induction L with
  | nil => rfl
  | cons a L ih =>
    rw [List.flatten_cons, List.length_append, ih (fun x hx => h x (by simp [hx])), h a (by simp), List.length_cons]
    omega
theorem hcells_len {L : List By} (h : ∀ x ∈ L, x.length = 32) : (hcells L).length = L.length * 32 := by rw [bytes8_len, flatten_len h]
theorem flatten_at {L : List By} (h : ∀ x ∈ L, x.length = 32) (i : Nat) (a : By) (hi : L[i]? = some a) : (L.flatten.drop (i * 32)).take 32 = a := by
  induction L generalizing i with
  | nil => simp at hi
  | cons b L ih =>
    have hb := h b (by simp)
    rw [List.flatten_cons]
    cases i with
    | zero =>
      simp at hi
      subst hi
      rw [Nat.zero_mul, List.drop_zero, List.take_append_of_le_length (by omega), List.take_of_length_le (by omega)]
    | succ i =>
      rw [show (i + 1) * 32 = b.length + i * 32 by omega, ← List.drop_drop, List.drop_left]
      exact ih (fun x hx => h x (by simp [hx])) i (by simpa using hi)
theorem hcells_at {L : List By} (h : ∀ x ∈ L, x.length = 32) (i : Nat) (a : By) (hi : L[i]? = some a) : ((hcells L).drop (i * 32)).take 32 = bytes8 a := by
  have e1 : (hcells L).drop (i * 32) = bytes8 (L.flatten.drop (i * 32)) := by simp [hcells, bytes8, List.map_drop]
  rw [e1]
  have e2 : (bytes8 (L.flatten.drop (i * 32))).take 32 = bytes8 ((L.flatten.drop (i * 32)).take 32) := by simp [bytes8, List.map_take]
  rw [e2, flatten_at h i a hi]
theorem rangeAt_mid {w : World} {g off : Nat} {xs : List Value} (h : w.rangeAt g off xs) (i k : Nat) : w.rangeAt g (off + i) ((xs.drop i).take k) := by
  intro j u hu
  have hj := (List.getElem?_eq_some_iff.1 hu).1
  rw [List.length_take] at hj
  rw [List.getElem?_take_of_lt (by omega), List.getElem?_drop] at hu
  rw [Nat.add_assoc]
  exact h _ u hu
structure Leaves (w : World) (lb rb g off n cap : Nat) (L : List By) : Prop where
  slice : Blk w lb [.slice (some ⟨g, off, none⟩) n cap] 53
  self : Blk w rb [.func (.func 158) #[] #[.pointer (some ⟨lb, 0, none⟩), .pointer (some ⟨rb, 0, none⟩)]] 221
  g_lt : g < w.heap.size
  cells : w.rangeAt g off (hcells L)
  len : n = L.length
  fits : n ≤ cap
  room : cap ≤ maxLen
  all : ∀ x ∈ L, x.length = 32
  few : L.length ≤ 1000000
  tab : Tab w
theorem Leaves.kept {w w' : World} {lb rb g off n cap : Nat} {L : List By} {S : Nat → Prop} (h : Leaves w lb rb g off n cap L) (hk : Kept S w w') (hS : ∀ b, b < w.heap.size → ¬ S b) : Leaves w' lb rb g off n cap L :=
  ⟨h.slice.kept hk (hS _ h.slice.lt), h.self.kept hk (hS _ h.self.lt), Nat.lt_of_lt_of_le h.g_lt hk.size, rangeAt_kept h.cells hk h.g_lt (hS _ h.g_lt), h.len, h.fits, h.room, h.all, h.few,
    ⟨fun i v hv => hk.cell (h.tab.first i v hv) (hS _ (World.block_lt_of_cell? w _ (h.tab.first i v hv))), fun i v hv => hk.cell (h.tab.rounds i v hv) (hS _ (World.block_lt_of_cell? w _ (h.tab.rounds i v hv)))⟩⟩
theorem treeF_sub {L : List By} {a b : Nat} (hab : a + 2 ≤ b) (hb : b ≤ L.length) : treeF ((L.drop a).take (b - a)) = nodeF (treeF ((L.drop a).take (splitN (b - a)))) (treeF ((L.drop (a + splitN (b - a))).take (b - (a + splitN (b - a))))) := by
  have hl : ((L.drop a).take (b - a)).length = b - a := by simp; omega
  have hk := splitN_in (n := b - a) (by omega)
  rw [treeF_two (by omega), hl]
  congr 1
  · rw [List.take_take, Nat.min_eq_left (by omega)]
  · rw [List.drop_take, List.drop_drop]
    congr 2
    omega
theorem treeF_sub1 {L : List By} {a : Nat} {x : By} (hx : L[a]? = some x) : treeF ((L.drop a).take 1) = x := by
  obtain ⟨ha, he⟩ := List.getElem?_eq_some_iff.1 hx
  rw [List.drop_eq_getElem_cons ha, List.take_succ_cons, List.take_zero, treeF_one, he]
abbrev rootFn (lb rb : Nat) : Value := .func (.func 158) #[] #[.pointer (some ⟨lb, 0, none⟩), .pointer (some ⟨rb, 0, none⟩)]
abbrev RootS (w w' : World) (rb lb : Nat) : Prop := w'.cell? ⟨rb, 0, none⟩ = some (rootFn lb rb) ∧ w'.there w.heap.size 0 32 ∧ (∃ C : List Value, C.length = 32 ∧ Blk w' w.heap.size C 57) ∧ Kept (· = w.heap.size) w w'
theorem rootS_begin {w : World} {rb lb : Nat} (h : Blk w rb [rootFn lb rb] 221) : RootS w (w.alloc (.cells (zeros 32).toArray 57)).drew rb lb := by
  have hb := Blk.new w (zeros 32) 57
  exact ⟨((h.alloc _).drew).cell (i := 0) rfl, (hb.drew).there 0 32 (by rw [zeros_len]; omega), ⟨_, zeros_len 32, hb.drew⟩, ((Kept.refl _ _).alloc _).drew⟩
theorem rootS_next {w w1 w2 : World} {rb lb : Nat} (h : RootS w w1 rb lb) (k : Kept (fun _ => False) w1 w2) : RootS w w2 rb lb := by
  obtain ⟨h1, _, ⟨C, hC, hb⟩, hk⟩ := h
  have hb2 := hb.kept k id
  exact ⟨k.cell h1 id, hb2.there 0 32 (by omega), ⟨C, hC, hb2⟩, hk.then_ k (fun _ _ => False.elim)⟩
theorem rootS_store {w w1 : World} {rb lb : Nat} {H : List Value} (h : RootS w w1 rb lb) (hr : rb < w.heap.size) (hH : H.length = 32) : RootS w (w1.setCells w.heap.size 0 H) rb lb := by
  obtain ⟨h1, _, ⟨C, hC, hb⟩, hk⟩ := h
  have k := kept_setCells w1 w.heap.size 0 H
  have hb2 := hb.setCells 0 H (by omega)
  have hl : (splice C 0 H).length = 32 := by rw [splice_len (by omega), hC]
  exact ⟨k.cell h1 (by show ¬ rb = w.heap.size; omega), hb2.there 0 32 (by omega), ⟨_, hl, hb2⟩, hk.then_ k (fun _ _ e => e)⟩
theorem rootS_leaves {w w1 : World} {lb rb g off n cap : Nat} {L : List By} (hL : Leaves w lb rb g off n cap L) (h : RootS w w1 rb lb) : Leaves w1 lb rb g off n cap L := hL.kept h.2.2.2 (fun b hb e => by omega)
set_option maxRecDepth 100000 in
theorem rootIn_any (m : Nat) : ∀ (w : World) (lb rb g off n cap : Nat) (L : List By) (a b : Nat), Leaves w lb rb g off n cap L → b - a ≤ m → a < b → b ≤ L.length →
    Calls Tryz.prog 158 #[.int .i64 (a : Int), .int .i64 (b : Int), .pointer (some ⟨lb, 0, none⟩), .pointer (some ⟨rb, 0, none⟩)] w fun e w' => e = .returned (hashV (treeF ((L.drop a).take (b - a)))) ∧ Kept (fun _ => False) w w' := by
  induction m with
  | zero => intro w lb rb g off n cap L a b _ h1 h2; omega
  | succ m ih =>
    intro w lb rb g off n cap L a b h hm hab hb
    have hfew := h.few
    have hsp := fun w' => split_any w' (b - a) (by omega)
    have a1 : wrap64 ((b : Int) - (a : Int)) = ((b - a : Nat) : Int) := by rw [IntWalk.wrap64_in _ (by omega)]; omega
    have hr := Blk.new w (zeros 32) 57
    by_cases hone : b - a < 2
    · obtain ⟨x, hx⟩ : ∃ x, L[a]? = some x := ⟨_, List.getElem?_eq_getElem (by omega)⟩
      have hx32 := h.all x (List.mem_of_getElem? hx)
      rw [show b - a = 1 by omega, treeF_sub1 hx]
      have hrg := rangeAt_mid h.cells (a * 32) 32
      rw [hcells_at h.all a x hx] at hrg
      have hs0 := splitN_small hone
      rw [hs0] at hsp
      have HSP := Lib.hid hsp
      have i0 : (a : Int) < (n : Int) := by have := h.len; omega
      have i1 : (0 : Int) ≤ (a : Int) := by omega
      have HF := Lib.hid (show ∀ w1, w1 = w.alloc (.cells (zeros 32).toArray 57) → w1.cell? ⟨lb, 0, none⟩ = some (.slice (some ⟨g, off, none⟩) n cap) ∧ Hid (w1.rangeAt g (off + a * 32) (bytes8 x) ∧ Blk w1 w.heap.size (zeros 32) 57 ∧ Kept (fun _ => False) w w1) from by
        rintro w1 rfl
        exact ⟨(h.slice.alloc _).cell (i := 0) rfl, Lib.hid ⟨rangeAt_kept hrg ((Kept.refl (fun _ => False) w).alloc _) h.g_lt id, hr, (Kept.refl _ _).alloc _⟩⟩)
      have HI := Lib.hid (show (Tryz.prog.info? 57).map (·.size) = some (bytes8 x).length by rw [bytes8_len, hx32]; exact info_h32)
      clear hsp hs0 hr hm ih h hx hrg hone hfew hab hb
      have HX := Lib.hid hx32
      clear hx32
      go_enter Tryz.func158, Tryz.ntmps158
      go_wp2_with (first | (go_at_call 159; refine (HSP.out _).mono ?_; rintro e w' ⟨rfl, rfl⟩; generalize hw1 : World.alloc w _ = w1; obtain ⟨c0, HG⟩ := HF.out w1 hw1.symm; clear hw1) | (refine wpList_load_mid rfl 57 _ rfl g (off + a * 32) rfl (bytes8 x) _ HG.out.1 Tryz.underlying57 rfl HI.out ?_) | (refine wpList_store_mid rfl 57 _ _ rfl w.heap.size 0 (bytes8 x).toArray rfl rfl ?hth ?hi ?h1 ?_))
      case hth => exact (hash_stored HG.out.2.1 (zeros_len 32) HX.out).1
      case hi => exact info_hash HX.out
      case h1 => exact all_oneCell_toArray (fun y hy => u8_oneCell y hy)
      have hst := hash_stored HG.out.2.1 (zeros_len 32) HX.out
      refine bodyPost_ret (hst.2.result rfl rfl Tryz.underlying57 rfl HI.out) rfl ⟨rfl, ?_⟩
      exact HG.out.2.2.then_ (kept_setCells _ _ _ _) (fun i hi e => by omega)
    · have hk := splitN_in (n := b - a) (by omega)
      rw [treeF_sub (by omega) hb]
      have x1 : ((splitN (b - a) : Int) == 0) = false := by simp; omega
      generalize splitN (b - a) = K at *
      have h1 : ∀ w', Leaves w' lb rb g off n cap L → Calls Tryz.prog 158 #[.int .i64 (a : Int), .int .i64 ((a + K : Nat) : Int), .pointer (some ⟨lb, 0, none⟩), .pointer (some ⟨rb, 0, none⟩)] w' fun e w'' => e = .returned (hashV (treeF ((L.drop a).take K))) ∧ Kept (fun _ => False) w' w'' := by
        intro w' hw'
        have := ih w' lb rb g off n cap L a (a + K) hw' (by omega) (by omega) (by omega)
        rwa [Nat.add_sub_cancel_left] at this
      have h2 : ∀ w', Leaves w' lb rb g off n cap L → Calls Tryz.prog 158 #[.int .i64 ((a + K : Nat) : Int), .int .i64 (b : Int), .pointer (some ⟨lb, 0, none⟩), .pointer (some ⟨rb, 0, none⟩)] w' fun e w'' => e = .returned (hashV (treeF ((L.drop (a + K)).take (b - (a + K))))) ∧ Kept (fun _ => False) w' w'' :=
        fun w' hw' => ih w' lb rb g off n cap L (a + K) b hw' (by omega) (by omega) (by omega)
      have l1 : (treeF ((L.drop a).take K)).length = 32 := treeF_len (by simp; omega) (fun x hx => h.all x (List.mem_of_mem_drop (List.mem_of_mem_take hx)))
      have l2 : (treeF ((L.drop (a + K)).take (b - (a + K)))).length = 32 := treeF_len (by simp; omega) (fun x hx => h.all x (List.mem_of_mem_drop (List.mem_of_mem_take hx)))
      generalize treeF ((L.drop a).take K) = A at *
      generalize treeF ((L.drop (a + K)).take (b - (a + K))) = B at *
      have hnd := fun w' ht => node_any w' A B l1 l2 ht
      have hlN := nodeF_len A B
      generalize nodeF A B = N at *
      have a2 := Lib.hid (show IntKind.i64.wrap ((a : Int) + (K : Int)) = ((a + K : Nat) : Int) by rw [IntWalk.i64_in _ (by clear a1; omega)]; omega)
      generalize a + K = E at h1 h2 a2
      have HSP := Lib.hid hsp
      have H1 := Lib.hid h1
      have H2 := Lib.hid h2
      have HN := Lib.hid hnd
      have HL := Lib.hid h
      have HF := Lib.hid (show ∀ w1, w1 = w.alloc (.cells (zeros 32).toArray 57) → RootS w w1.drew rb lb from by
        rintro w1 rfl
        exact rootS_begin h.self)
      have iN : (Tryz.prog.info? 57).map (·.size) = some (bytes8 N).length := by rw [bytes8_len, hlN]; exact info_h32
      have lN : (bytes8 N).length = 32 := by rw [bytes8_len, hlN]
      have oN : ∀ v ∈ bytes8 N, v.oneCell' = true := u8_oneCell
      clear hsp h1 h2 hnd ih h hr l1 l2 hlN hm hfew hone hk hab hb
      have a3 := a2.out
      go_enter Tryz.func158, Tryz.ntmps158
      go_wp2_with (first | (go_at_call 159; refine (HSP.out _).mono ?_; rintro e w' ⟨rfl, rfl⟩; generalize hw1 : World.alloc w _ = w1; have hs0 := HF.out w1 hw1.symm; clear hw1))
      go_region_held3 (fun w' => w'.cell? ⟨rb, 0, none⟩ = some (.func (.func 158) #[] #[.pointer (some ⟨lb, 0, none⟩), .pointer (some ⟨rb, 0, none⟩)]) ∧ w'.there w.heap.size 0 32 ∧ (∃ C : List Value, C.length = 32 ∧ Blk w' w.heap.size C 57) ∧ Kept (· = w.heap.size) w w') (first | exact hs0 | exact rootS_next (by assumption) (by assumption) | exact rootS_store (by assumption) HL.out.self.lt lN) (first | (go_at_call 158; with_reducible refine (H1.out _ (rootS_leaves HL.out (by assumption))).mono ?_; rintro e w3 ⟨rfl, hk3⟩) | (go_at_call 158; with_reducible refine (H2.out _ (rootS_leaves HL.out (by assumption))).mono ?_; rintro e w3 ⟨rfl, hk3⟩) | (go_at_call 143; with_reducible refine (HN.out _ (rootS_leaves HL.out (by assumption)).tab).mono ?_; rintro e w3 ⟨rfl, hk3⟩))
      rename_i wa ka wb kb hh
      obtain ⟨_, _, ⟨C, hC, hbC⟩, hkC⟩ := rootS_next (rootS_next (rootS_next hs0 ka) kb) hk3
      have hlN : N.length = 32 := by rwa [bytes8_len] at lN
      have hst := hash_stored hbC hC hlN
      go_wp2_with fail
      refine bodyPost_ret (hst.2.result rfl rfl Tryz.underlying57 rfl iN) rfl ⟨rfl, ?_⟩
      have := hh.2.2.2
      exact ⟨this.os, this.tape, this.output, this.size, fun i hi _ => this.block i hi (by show ¬ i = w.heap.size; omega)⟩
end Go.Proofs.YtlgeijbgkipliaaGreatDoor

namespace Go.Proofs.YtlgeijbgkipliaaGreatDoor
open Go.RowKit
theorem hcells_append (L M : List By) : hcells (L ++ M) = hcells L ++ hcells M := by simp [hcells, bytes8]
theorem hcells_one (a : By) : hcells [a] = bytes8 a := by simp [hcells]
theorem info_hash3 : (Tryz.prog.info? 57).map (fun i => (i.zero, i.size, i.bytes)) = some (some (.agg (zeros 32).toArray), 32, 32) := by kernel_rfl
theorem append_hash1 {w2 : World} {x : Value} {ps : List By} (hrow : Row w2 57 32 x (hcells ps)) (hps : ∀ y ∈ ps, y.length = 32) (p : By) (hp : p.length = 32) (hl : ps.length ≤ 1000000) :
    ∃ v' w', (Builtin.append_ #[53, 53] 53 #[x, .slice (some ⟨w2.heap.size, 0, none⟩) 1 1]).run Tryz.prog (w2.alloc (.cells (bytes8 p).toArray 57)) = .ok v' w' ∧
      Row w' 57 32 v' (hcells (ps ++ [p])) ∧ Kept (fun k => x.ownBlock = some k) w2 w' ∧ ∀ k, v'.ownBlock = some k → x.ownBlock = some k ∨ w2.heap.size ≤ k := by
  obtain ⟨i0, hi, hz0, hz1, hz2⟩ := info_parts info_hash3
  have hb := Blk.new w2 (bytes8 p) 57
  obtain ⟨v', w', hr, hrow2, hk, ho⟩ := (hrow.alloc (.cells (bytes8 p).toArray 57)).append_cells (P := Tryz.prog) (t := 53) Tryz.underlying53 hi hz0 hz1 (by show (zeros 32).toArray.size = 32; rw [List.size_toArray, zeros_len]) (by omega) (by omega) ⟨w2.heap.size, 0, none⟩ 1 1 (bytes8 p) (by rw [bytes8_len, hp]) (fun j u hu => by rw [addr0_add]; exact hb.cell hu) u8_oneCell (by omega) (by rw [hcells_len hps, bytes8_len, hp]; omega) 53
  refine ⟨v', w', hr, ?_, ((Kept.refl _ _).alloc _).trans hk, fun k hk => ?_⟩
  · rw [hcells_append, hcells_one]; exact hrow2
  · rcases ho k hk with h | h
    · exact Or.inl h
    · right; rw [World.size_alloc] at h; omega
theorem foldl_zip (l : List Value) : ∀ (c : List Value) (k : Nat), k + l.length ≤ c.length → (l.zipIdx k).foldl (fun (cs : Array Value) (x : Value × Nat) => cs.setIfInBounds x.snd x.fst) c.toArray = (splice c k l).toArray := by
  induction l with
  | nil => intro c k _; rw [splice_nil]; rfl
  | cons a l ih =>
    intro c k h
    simp only [List.length_cons] at h
    rw [List.zipIdx_cons, List.foldl_cons]
    have e : c.toArray.setIfInBounds k a = (c.set k a).toArray := by simp
    show List.foldl _ (c.toArray.setIfInBounds k a) _ = _
    rw [e, ih (c.set k a) (k + 1) (by simp; omega), splice_cons _ _ _ _ (by omega)]
theorem fold_hash {R : By} (h : R.length = 32) : (bytes8 R).zipIdx.foldl (fun (cs : Array Value) (x : Value × Nat) => cs.setIfInBounds x.snd x.fst) (zeros 32).toArray = (bytes8 R).toArray := by
  rw [foldl_zip (bytes8 R) (zeros 32) 0 (by rw [bytes8_len, zeros_len]; omega), splice_whole (by rw [bytes8_len, zeros_len, h])]
end Go.Proofs.YtlgeijbgkipliaaGreatDoor

namespace Go.Proofs.YtlgeijbgkipliaaGreatDoor
open Go.RowKit
def numT (l : By) : Nat × By × Bool := match numG l with
  | some x => (x.1, x.2, true)
  | none => (0, [], false)
def textT (l : By) : By × By × Bool := match textG l with
  | some x => (x.1, x.2, true)
  | none => ([], [], false)
def hashT (l : By) : By × By × Bool := match hashG l with
  | some x => (x.1, x.2, true)
  | none => (List.replicate 32 0, [], false)
def hashesT (l : By) : List By × By × Bool := match hashesG l with
  | some x => (x.1, x.2, true)
  | none => ([], [], false)
theorem numT_some {l : By} {n : Nat} {r : By} (h : numG l = some (n, r)) : numT l = (n, r, true) := by unfold numT; rw [h]
theorem numT_none {l : By} (h : numG l = none) : numT l = (0, [], false) := by unfold numT; rw [h]
theorem numT_len (l : By) : (numT l).2.1.length ≤ l.length := by
  cases h : numG l with
  | none => rw [numT_none h]; simp
  | some x => rw [numT_some (n := x.1) (r := x.2) h]; exact (numG_lt h).2
theorem hashT_len (l : By) : (hashT l).1.length = 32 ∧ (hashT l).2.1.length ≤ l.length := by
  unfold hashT hashG
  by_cases h : 32 ≤ l.length
  · rw [if_pos h]; simp; omega
  · rw [if_neg h]; simp
theorem textT_len (l : By) : (textT l).2.1.length ≤ l.length := by
  unfold textT textG
  cases h : numG l with
  | none => simp
  | some x =>
    have := (numG_lt h).2
    by_cases hl : x.1 ≤ x.2.length
    · simp only [if_pos hl]; simp; omega
    · simp only [if_neg hl]; simp
theorem num_t (w : World) (l : By) (hs : Short l.length) : Calls Tryz.prog 123 #[.string (strB l)] w fun e w' => e = .returned (.tuple #[.int .u64 ((numT l).1 : Int), .string (strB (numT l).2.1), .bool (numT l).2.2]) ∧ Kept (fun _ => False) w w' := by
  cases h : numG l with
  | none => rw [numT_none h]; exact read_no w hs h
  | some x => rw [numT_some (n := x.1) (r := x.2) h]; exact read_yes w hs h
theorem unhashAt_t (l : By) : unhashAt (strB l) = #[hashV (hashT l).1, .string (strB (hashT l).2.1), .bool (hashT l).2.2] := by
  unfold unhashAt hashT hashG
  rw [strB_size]
  by_cases h : 32 ≤ l.length
  · rw [if_pos h, if_pos h]
    have e1 : ((strB l).extract 0 32).data.toList = l.take 32 := by rw [ByteArray.data_extract, Array.toList_extract]; simp [List.extract_eq_take_drop]
    have e2 : (strB l).extract 32 l.length = strB (l.drop 32) := by rw [← strB_size l]; exact extract_strB l 32
    rw [e1, e2]
  · rw [if_neg h, if_neg h, utf8_nil]
theorem unhash_t (w : World) (l : By) (hs : Short l.length) : Calls Tryz.prog 148 #[.string (strB l)] w fun e w' => e = .returned (.tuple #[hashV (hashT l).1, .string (strB (hashT l).2.1), .bool (hashT l).2.2]) ∧ Kept (fun _ => False) w w' := by
  have h := unhash_any w (strB l) (by rw [strB_size]; exact hs)
  rw [unhashAt_t] at h
  exact h
theorem take_t (w : World) (l : By) (n : Nat) (hs : Short l.length) : Calls Tryz.prog 163 #[.string (strB l), .int .u64 (n : Int)] w fun e w' => e = .returned (.tuple (if n ≤ l.length then #[.string (strB (l.take n)), .string (strB (l.drop n)), .bool true] else #[.string (strB []), .string (strB []), .bool false])) ∧ Kept (fun _ => False) w w' := by
  have h := take_any w (strB l) n (by rw [strB_size]; exact hs)
  rw [extract_strB, strB_size, utf8_nil] at h
  have e1 : (strB l).extract 0 n = strB (l.take n) := bstr_eq (by rw [ByteArray.data_extract, Array.toList_extract]; simp [List.extract_eq_take_drop])
  rw [e1] at h
  exact h
set_option maxRecDepth 100000 in
theorem cut_t (w : World) (l : By) (hs : Short l.length) : Calls Tryz.prog 149 #[.string (strB l)] w fun e w' => e = .returned (.tuple #[.string (strB (textT l).1), .string (strB (textT l).2.1), .bool (textT l).2.2]) ∧ Kept (fun _ => False) w w' := by
  cases h : numG l with
  | none =>
    have HN := Lib.hid (fun w' => read_no w' hs h)
    have ht : textT l = ([], [], false) := by unfold textT textG; rw [h]
    rw [ht]
    clear h ht
    go_enter Tryz.func149, Tryz.ntmps149
    go_wp2_with (go_at_call 123; refine (HN.out _).mono ?_; rintro e w1 ⟨rfl, hk1⟩)
    go_ret3
    exact ⟨rfl, hk1⟩
  | some x =>
    obtain ⟨n, r⟩ := x
    have HN := Lib.hid (fun w' => read_yes w' hs h)
    have hr := (numG_lt h).2
    have HT := Lib.hid (fun w' => take_t w' r n (by unfold Short at *; simp only at hr; omega))
    have HC : Hid ((if n ≤ r.length then #[.string (strB (r.take n)), .string (strB (r.drop n)), .bool true] else #[.string (strB []), .string (strB []), .bool false] : Array Value) = #[.string (strB (textT l).1), .string (strB (textT l).2.1), .bool (textT l).2.2]) := Lib.hid (by
      unfold textT textG
      rw [h]
      by_cases hl : n ≤ r.length
      · simp only [if_pos hl]
      · simp only [if_neg hl])
    clear h hr
    generalize textT l = T at *
    obtain ⟨t1, t2, t3⟩ := T
    go_enter Tryz.func149, Tryz.ntmps149
    go_wp2_with (first | (go_at_call 123; refine (HN.out _).mono ?_; rintro e w1 ⟨rfl, hk1⟩) | (go_at_call 163; refine (HT.out _).mono ?_; rintro e w2 ⟨rfl, hk2⟩; rw [HC.out]))
    go_ret3
    exact ⟨rfl, hk1.trans hk2⟩
end Go.Proofs.YtlgeijbgkipliaaGreatDoor

namespace Go.Proofs.YtlgeijbgkipliaaGreatDoor
open Go.RowKit
theorem fresh_hash (w2 : World) (H : By) (hl : H.length = 32) : (w2.alloc (.cells (zeros 32).toArray 57)).there w2.heap.size 0 (bytes8 H).toArray.size ∧ ∀ w3, (w2.alloc (.cells (zeros 32).toArray 57)).setCells w2.heap.size 0 (bytes8 H) = w3 → Blk w3 w2.heap.size (bytes8 H) 57 ∧ Kept (fun _ => False) w2 w3 := by
  have h := hash_stored (Blk.new w2 (zeros 32) 57) (zeros_len 32) hl
  exact ⟨h.1, fun w3 e => by subst e; exact ⟨h.2, (((Kept.refl (fun _ => False) w2).alloc _).then_ (kept_setCells _ w2.heap.size 0 _) (fun i hi e => by omega))⟩⟩
theorem info_h (H : By) (hl : H.length = 32) : (Tryz.prog.info? 57).map (·.size) = some (bytes8 H).length := by rw [bytes8_len, hl]; exact info_h32
structure UnH (w wr : World) (n0 : Nat) (l0 : By) (acc : List By) (r : By) (m : Nat) (x : Value) : Prop where
  eq : hashesGo n0 l0 = (hashesGo m r).map fun q => (acc ++ q.1, q.2)
  len : r.length ≤ l0.length
  h32 : ∀ q ∈ acc, q.length = 32
  sum : acc.length + m = n0
  row : Row wr 57 32 x (hcells acc)
  own : ∀ k, x.ownBlock = some k → w.heap.size ≤ k
  kept : Kept (fun _ => False) w wr
def UnhashesTo (w : World) (l : By) (e : Ending) (w' : World) : Prop := ∃ v, e = .returned (.tuple #[v, .string (strB (hashesT l).2.1), .bool (hashesT l).2.2]) ∧ Row w' 57 32 v (hcells (hashesT l).1) ∧ (∀ k, v.ownBlock = some k → w.heap.size ≤ k) ∧ Kept (fun _ => False) w w'
theorem UnH.done {w wr : World} {n0 : Nat} {l l0 : By} {acc : List By} {r : By} {x : Value} (h : UnH w wr n0 l0 acc r 0 x) (hn : numG l = some (n0, l0)) (h64 : n0 ≤ 64) : UnhashesTo w l (.returned (.tuple #[x, .string (strB r), .bool true])) wr := by
  have e : hashesT l = (acc, r, true) := by
    unfold hashesT hashesG
    rw [hn]
    simp only [if_pos h64, h.eq, hashesGo, Option.map_some, List.append_nil]
  unfold UnhashesTo
  rw [e]
  exact ⟨x, rfl, h.row, h.own, h.kept⟩
theorem hashesT_none {l : By} (h : hashesG l = none) : hashesT l = ([], [], false) := by unfold hashesT; rw [h]
theorem unhashesTo_no {w w' : World} {l : By} (h : hashesG l = none) (hk : Kept (fun _ => False) w w') : UnhashesTo w l (.returned (.tuple #[.slice none 0 0, .string (strB []), .bool false])) w' := by
  unfold UnhashesTo
  rw [hashesT_none h]
  exact ⟨_, rfl, Row.nil _ _ _, fun k q => by simp [Value.ownBlock] at q, hk⟩
theorem UnH.no {w wr : World} {n0 : Nat} {l l0 : By} {acc : List By} {r : By} {m : Nat} {x : Value} (h : UnH w wr n0 l0 acc r (m + 1) x) (hn : numG l = some (n0, l0)) (h64 : n0 ≤ 64) (hr : ¬ 32 ≤ r.length) : hashesG l = none := by
  unfold hashesG
  rw [hn]
  simp only [if_pos h64, h.eq, hashesGo, hashG, if_neg hr, Option.map_none]
theorem UnH.next {w wr w3 : World} {n0 : Nat} {l0 : By} {acc : List By} {r : By} {m : Nat} {x : Value} (h : UnH w wr n0 l0 acc r (m + 1) x) (h64 : n0 ≤ 64) (hr : 32 ≤ r.length) (hk : Kept (fun _ => False) wr w3) :
    ∃ v' w', (Builtin.append_ #[53, 53] 53 #[x, .slice (some ⟨w3.heap.size, 0, none⟩) 1 1]).run Tryz.prog (w3.alloc (.cells (bytes8 (r.take 32)).toArray 57)) = .ok v' w' ∧ Hid (UnH w w' n0 l0 (acc ++ [r.take 32]) (r.drop 32) m v') := by
  obtain ⟨v', w', hr2, hrow, hk2, ho⟩ := append_hash1 (h.row.kept hk (fun _ _ => id)) h.h32 (r.take 32) (by simp; omega) (by have := h.sum; omega)
  have hz := hk.size
  have hz2 := h.kept.size
  refine ⟨v', w', hr2, Lib.hid ⟨?_, by have := h.len; simp; omega, fun q hq => ?_, by have := h.sum; simp; omega, hrow, fun k q => ?_, ?_⟩⟩
  · rw [h.eq]
    simp only [hashesGo, hashG, if_pos hr]
    cases hashesGo m (r.drop 32) with
    | none => rfl
    | some y => simp
  · rcases List.mem_append.1 hq with q' | q'
    · exact h.h32 q q'
    · rw [List.mem_singleton] at q'; subst q'; simp; omega
  · rcases ho k q with z | z
    · exact h.own k z
    · omega
  · exact (h.kept.trans hk).then_ hk2 (fun k hk' q => by have := h.own k q; omega)
theorem hashesGo_32 : ∀ (n : Nat) (l : By) {x : List By × By}, hashesGo n l = some x → ∀ q ∈ x.1, q.length = 32 := by
  intro n
  induction n with
  | zero => intro l x h q hq; cases h; cases hq
  | succ n ih =>
    intro l x h q hq
    unfold hashesGo hashG at h
    by_cases hl : 32 ≤ l.length
    · rw [if_pos hl] at h
      simp only at h
      cases hg : hashesGo n (l.drop 32) with
      | none => rw [hg] at h; cases h
      | some y =>
        rw [hg] at h
        cases h
        rcases List.mem_cons.1 hq with rfl | hq
        · simp; omega
        · exact ih _ hg q hq
    · rw [if_neg hl] at h; cases h
theorem hashesT_32 (l : By) : ∀ q ∈ (hashesT l).1, q.length = 32 := by
  unfold hashesT hashesG
  cases h : numG l with
  | none => intro q hq; cases hq
  | some x =>
    by_cases h64 : x.1 ≤ 64
    · simp only [if_pos h64]
      cases hg : hashesGo x.1 x.2 with
      | none => intro q hq; cases hq
      | some y => exact hashesGo_32 _ _ hg
    · simp only [if_neg h64]; intro q hq; cases hq
theorem hashT_yes {r : By} (hr : 32 ≤ r.length) : hashT r = (r.take 32, r.drop 32, true) := by unfold hashT hashG; rw [if_pos hr]
theorem hashT_no {r : By} (hr : ¬ 32 ≤ r.length) : hashT r = (List.replicate 32 0, [], false) := by unfold hashT hashG; rw [if_neg hr]
set_option maxRecDepth 100000 in
set_option maxHeartbeats 1000000 in
theorem unhashes_t (w : World) (l : By) (hs : Short l.length) : Calls Tryz.prog 125 #[.string (strB l)] w (UnhashesTo w l) := by
  cases h : numG l with
  | none =>
    have HN := Lib.hid (fun w' => read_no w' hs h)
    have HU := Lib.hid (fun w' => unhashesTo_no (w := w) (w' := w') (show hashesG l = none by unfold hashesG; rw [h]))
    clear h
    go_enter Tryz.func125, Tryz.ntmps125
    go_wp2_with (go_at_call 123; refine (HN.out _).mono ?_; rintro e w1 ⟨rfl, hk1⟩)
    go_ret3
    exact HU.out _ hk1
  | some x =>
    obtain ⟨n, r⟩ := x
    have HN := Lib.hid (fun w' => read_yes w' hs h)
    have hr := (numG_lt h).2
    have hn0 := (numG_lt h).1
    simp only at hr hn0
    have hsr : Short r.length := by unfold Short at *; omega
    by_cases h64 : n ≤ 64
    · have y1 : decide ((64 : Int) < (n : Int)) = false := decide_eq_false (by omega)
      have HX := Lib.hid (And.intro h (And.intro h64 hsr))
      clear h hr hs hn0 hsr
      go_enter Tryz.func125, Tryz.ntmps125
      go_wp2_with (go_at_call 123; refine (HN.out _).mono ?_; rintro e w1 ⟨rfl, hk1⟩)
      go_loopw [2, 3, 5] (fun x y z wr => ∃ (acc : List By) (q : By) (m : Nat), y = .string (strB q) ∧ z = .int .u64 (m : Int) ∧ m ≤ 64 ∧ Hid (UnH w wr n r acc q m x)) (fun _ _ z _ => (intOf z).toNat)
      case atStart => exact ⟨[], r, n, rfl, rfl, h64, Lib.hid ⟨by cases hashesGo n r <;> simp, Nat.le_refl _, by simp, by simp, Row.nil _ _ _, fun k q => by simp [Value.ownBlock] at q, hk1⟩⟩
      case round =>
        obtain ⟨acc, q, m, rfl, rfl, hm, HS⟩ := hrel
        obtain _ | m := m
        · have z1 : decide ((0 : Int) < ((0 : Nat) : Int)) = false := by decide
          go_wp2_with fail
          go_ret3
          exact HS.out.done HX.out.1 HX.out.2.1
        · have z1 : decide ((0 : Int) < ((m + 1 : Nat) : Int)) = true := decide_eq_true (by omega)
          have hq : Short q.length := by have h1 := HX.out.2.2; have h2 := HS.out.len; unfold Short at *; omega
          have HU := Lib.hid (fun w' => unhash_t w' q hq)
          clear hq
          by_cases h32 : 32 ≤ q.length
          · have e1 := hashT_yes h32
            have hH : (q.take 32).length = 32 := by simp; omega
            have HF := Lib.hid (fun w' => fresh_hash w' (q.take 32) hH)
            have HI := Lib.hid (info_h (q.take 32) hH)
            have hfold := fold_hash hH
            have hbl : (bytes8 (q.take 32)).length = 32 := by rw [bytes8_len, hH]
            simp only [zeros, List.replicate] at hfold
            have HA := Lib.hid (fun w3 (hk : Kept (fun _ => False) wr w3) => HS.out.next HX.out.2.1 h32 hk)
            rw [e1] at HU
            clear h32 e1 hH
            go_wp2_with (first | (go_at_call 148; refine (HU.out _).mono ?_; rintro e w2 ⟨rfl, hk2⟩) | ((with_reducible show wpList _ _ _ (⟨none, .store _ (.tmp 6) _, _, _, _, _⟩ :: _) _ _); refine wpList_store_mid rfl 57 _ _ rfl w2.heap.size 0 (bytes8 (q.take 32)).toArray rfl rfl ?htha ?hia ?h1a ?hka; (case' hka => generalize hw3 : World.setCells _ w2.heap.size 0 _ = w3; have HB := Lib.hid ((HF.out w2).2 w3 hw3); obtain ⟨v', w', hrun, HR⟩ := HA.out w3 (hk2.trans HB.out.2))) | ((with_reducible show wpList _ _ _ (⟨some 34, _, _, _, _, _⟩ :: _) _ _); refine wpList_load_mid rfl 57 _ rfl w2.heap.size 0 rfl (bytes8 (q.take 32)) _ HB.out.1.range0 Tryz.underlying57 rfl HI.out ?_) | (refine Lib.wpList_append_run _ rfl _ _ 53 53 rfl _ _ rfl rfl _ _ hrun ?_))
            case htha => exact (HF.out w2).1
            case hia => simpa using HI.out
            case h1a => exact all_oneCell_toArray (fun y hy => u8_oneCell y hy)
            go_roundw
            case rel => exact ⟨acc ++ [q.take 32], q.drop 32, m, rfl, by go_num, by omega, HR⟩
            case measure => simp [intOf]
          · have e1 := hashT_no h32
            have hH : (List.replicate 32 0 : By).length = 32 := by simp
            generalize (List.replicate 32 0 : By) = Z at *
            have HF := Lib.hid (fun w' => fresh_hash w' Z hH)
            have HI := Lib.hid (info_h Z hH)
            have hfold := fold_hash hH
            have hbl : (bytes8 Z).length = 32 := by rw [bytes8_len, hH]
            simp only [zeros, List.replicate] at hfold
            have HE := Lib.hid (fun w' (hk : Kept (fun _ => False) w w') => unhashesTo_no (w' := w') (HS.out.no HX.out.1 HX.out.2.1 h32) hk)
            rw [e1] at HU
            clear h32 e1 hH
            go_wp2_with (first | (go_at_call 148; refine (HU.out _).mono ?_; rintro e w2 ⟨rfl, hk2⟩) | ((with_reducible show wpList _ _ _ (⟨none, .store _ (.tmp 6) _, _, _, _, _⟩ :: _) _ _); refine wpList_store_mid rfl 57 _ _ rfl w2.heap.size 0 (bytes8 Z).toArray rfl rfl ?htha2 ?hia2 ?h1a2 ?hka2; (case' hka2 => generalize hw3 : World.setCells _ w2.heap.size 0 _ = w3; have HB := Lib.hid ((HF.out w2).2 w3 hw3))))
            case htha2 => exact (HF.out w2).1
            case hia2 => simpa using HI.out
            case h1a2 => exact all_oneCell_toArray (fun y hy => u8_oneCell y hy)
            go_ret3
            exact HE.out _ ((HS.out.kept.trans hk2).trans HB.out.2)
    · have y1 : decide ((64 : Int) < (n : Int)) = true := decide_eq_true (by omega)
      have HU := Lib.hid (fun w' => unhashesTo_no (w := w) (w' := w') (show hashesG l = none by unfold hashesG; rw [h]; exact if_neg h64))
      clear h hr hn0 hsr h64
      go_enter Tryz.func125, Tryz.ntmps125
      go_wp2_with (go_at_call 123; refine (HN.out _).mono ?_; rintro e w1 ⟨rfl, hk1⟩)
      go_ret3
      exact HU.out _ hk1
end Go.Proofs.YtlgeijbgkipliaaGreatDoor

namespace Go.Proofs.YtlgeijbgkipliaaGreatDoor
open Go.RowKit
def validT (size i : Nat) (sig : By) (n : Nat) : Bool := decide (size ≤ 4096 ∧ i < 8 ∧ sig.length = 16384 ∧ n = 3)
set_option maxRecDepth 100000 in
set_option maxHeartbeats 1000000 in
theorem valid_t (w : World) (size i : Nat) (root : By) (sig : By) (a : Option Addr) (n c : Nat) (hr : root.length = 32) (hz : size < 9223372036854775808) (hi : i < 9223372036854775808) :
    Calls Tryz.prog 113 #[signedV (size : Int) root (i : Int) (strB sig) (.slice a n c)] w fun e w' => e = .returned (.bool (validT size i sig n)) ∧ Kept (fun _ => False) w w' := by
  have hb := Blk.new w (signedC (size : Int) root (i : Int) (strB sig) (.slice a n c)) 63
  obtain ⟨q0, q1, q2, q3⟩ := signed_at (size := (size : Int)) (i := (i : Int)) (sig := strB sig) (v := .slice a n c) hr
  have c0 := hb.cell q0
  have c1 := hb.cell q1
  have c2 := hb.cell q2
  have c3 := hb.cell q3
  have y1 : decide ((0 : Int) ≤ (size : Int)) = true := decide_eq_true (by omega)
  have y3 : decide ((0 : Int) ≤ (i : Int)) = true := decide_eq_true (by omega)
  have hz0 : (strB sig).size = sig.length := strB_size sig
  generalize strB sig = s at *
  generalize hv : validT size i sig n = b
  unfold validT at hv
  clear q0 q1 q2 q3 hb
  by_cases g1 : size ≤ 4096
  · have y2 : decide ((size : Int) ≤ 4096) = true := decide_eq_true (by omega)
    by_cases g2 : i < 8
    · have y4 : decide ((i : Int) < 8) = true := decide_eq_true (by omega)
      by_cases g3 : sig.length = 16384
      · have y5 : s.size = 16384 := by omega
        by_cases g4 : n = 3
        · obtain rfl : b = true := by rw [← hv]; exact decide_eq_true ⟨g1, g2, g3, g4⟩
          subst g4
          clear hv
          go_enter Tryz.func113, Tryz.ntmps113
          go_wp2_with fail
          go_ret
          exact ⟨rfl, (Kept.refl _ _).alloc _⟩
        · obtain rfl : b = false := by rw [← hv]; exact decide_eq_false (by omega)
          have y6 : ((n : Int) == 3) = false := by simp; omega
          clear hv
          go_enter Tryz.func113, Tryz.ntmps113
          go_wp2_with fail
          go_ret
          exact ⟨rfl, (Kept.refl _ _).alloc _⟩
      · obtain rfl : b = false := by rw [← hv]; exact decide_eq_false (by omega)
        have y5 : ((s.size : Int) = 16384) = False := by simp; omega
        clear hv
        go_enter Tryz.func113, Tryz.ntmps113
        go_wp2_with fail
        go_ret
        exact ⟨rfl, (Kept.refl _ _).alloc _⟩
    · obtain rfl : b = false := by rw [← hv]; exact decide_eq_false (by omega)
      have y4 : decide ((i : Int) < 8) = false := decide_eq_false (by omega)
      clear hv
      go_enter Tryz.func113, Tryz.ntmps113
      go_wp2_with fail
      go_ret
      exact ⟨rfl, (Kept.refl _ _).alloc _⟩
  · obtain rfl : b = false := by rw [← hv]; exact decide_eq_false (by omega)
    have y2 : decide ((size : Int) ≤ 4096) = false := decide_eq_false (by omega)
    clear hv
    go_enter Tryz.func113, Tryz.ntmps113
    go_wp2_with fail
    go_ret
    exact ⟨rfl, (Kept.refl _ _).alloc _⟩
theorem small_t (w : World) (n : Nat) (hn : n < 18446744073709551616) : Calls Tryz.prog 150 #[.int .u64 (n : Int)] w fun e w' => e = .returned (.int .i64 ((min n 1073741824 : Nat) : Int)) ∧ w = w' := by
  go_enter Tryz.func150, Tryz.ntmps150
  go_wp2_with fail
  go_ret
  refine ⟨?_, rfl⟩
  show Ending.returned (Value.int .i64 (min (n : Int) 1073741824)) = _
  have e : ((min n 1073741824 : Nat) : Int) = min (n : Int) 1073741824 := by omega
  rw [e]
end Go.Proofs.YtlgeijbgkipliaaGreatDoor
