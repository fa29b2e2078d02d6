/- RingLast Same RingLaw OnceM -/
import Derived.Test.YtpmdlkogccojmaaGreatDoorUStationNone32
import Derived.Test.YtpmdlkogccojmaaGreatDoorUStationNone28
set_option linter.unusedVariables false
set_option linter.unusedSimpArgs false
namespace Go.Proofs.YtpmdlkogccojmaaGreatDoor
open Go.RowKit
section
variable {w : World} {r d : Nat} {R : RingM} {S : Nat → Prop}
set_option maxRecDepth 100000 in
set_option maxHeartbeats 1000000 in
theorem ring_key (h : IsRing w r d R S) (ht : Tab w) :
    Calls Tryz.prog 50 #[.pointer (some ⟨r, 0, none⟩)] w fun e w' => e = .returned (hashV (rootF (leavesF R.seed.data.toList))) ∧ Kept (fun _ => False) w w' := by
  have ka : Kept (fun _ => False) w (w.alloc (.cells (zeros 32).toArray 24)) := (Kept.refl _ _).alloc _
  have hn := ring_none (h.same ka)
  have h' := h.same ka
  obtain ⟨⟨t, v, h1, h2, h3, h4, h5⟩, h6, h7, h8, h9⟩ := h'
  have c1 := h1.cell (i := 1) rfl
  have c1b := c1
  simp only [zeros, List.replicate] at c1b
  have hb := Blk.new w (zeros 32) 24
  have hroot := (treeRoot_any h2 (ht.same ka)).mono (R' := fun e w2 => e = .returned (hashV (rootF (leavesF R.seed.data.toList))) ∧ Hid (Blk w2 w.heap.size (zeros 32) 24 ∧ Kept (fun _ => False) w w2)) (fun e w2 q => ⟨q.1, Lib.hid ⟨hb.kept q.2 id, ka.trans q.2⟩⟩)
  have hl := rootF_len h2.2.2
  generalize rootF (leavesF R.seed.data.toList) = H at *
  have HN := Lib.hid hn
  have HR := Lib.hid hroot
  have HL := Lib.hid hl
  have HI := Lib.hid (show (Tryz.prog.info? 24).map (·.size) = some (bytes8 H).length by rw [bytes8_len, hl]; exact info_h32)
  clear hn hroot hl h1 h2 h3 h4 h5 h6 h7 h8 h9 hb ka h
  go_enter Tryz.func50, Tryz.ntmps50
  go_wp2_with (first | (go_at_call 79; refine HN.out.mono ?_; rintro e w' ⟨rfl, rfl⟩) | (go_at_call 88; refine HR.out.mono ?_; rintro e w2 ⟨rfl, HB⟩) | ((with_reducible show wpList _ _ _ (⟨none, .store _ (.tmp 2) _, _, _, _, _⟩ :: _) _ _); refine wpList_store_mid rfl 24 _ _ rfl w.heap.size 0 (bytes8 H).toArray rfl rfl ?hth ?hi ?h1 ?_))
  case hth => exact (hash_stored HB.out.1 (zeros_len 32) HL.out).1
  case hi => first | exact info_hash HL.out | simpa using info_hash HL.out
  case h1 => first | exact all_oneCell_toArray (fun y hy => u8_oneCell y hy) | exact fun y hy => u8_oneCell y hy
  have hst := hash_stored HB.out.1 (zeros_len 32) HL.out
  refine bodyPost_ret (hst.2.result rfl rfl Tryz.underlying24 rfl HI.out) rfl ⟨rfl, ?_⟩
  exact HB.out.2.then_ (kept_setCells _ _ _ _) (fun i hi e => by omega)
abbrev LastS (wA w' : World) (r g m cap b : Nat) (C : List Value) : Prop := w'.cell? ⟨r, 2, none⟩ = some (.slice (some ⟨g, 0, none⟩) (m + 1) cap) ∧ w'.rangeAt g (m * 33) C ∧ (∃ D : List Value, D.length = 33 ∧ Blk w' b D 46) ∧ Kept (· = b) wA w'
theorem lastS_store {wA w1 : World} {r g m cap b : Nat} {C : List Value} (hC : C.length = 33) (hr : r ≠ b) (hg : g ≠ b) (hgl : g < wA.heap.size) (h : LastS wA w1 r g m cap b C) : w1.there b 0 C.toArray.size ∧ LastS wA (w1.setCells b 0 C.toArray.toList) r g m cap b C ∧ Blk (w1.setCells b 0 C.toArray.toList) b C 46 := by
  obtain ⟨h1, h2, ⟨D, hD, hb⟩, hk⟩ := h
  have k := kept_setCells w1 b 0 C
  have hb2 := hb.setCells 0 C (by omega)
  rw [splice_whole (by omega)] at hb2
  exact ⟨hb.there 0 _ (by rw [List.size_toArray]; omega), ⟨k.cell h1 hr, rangeAt_kept h2 k (Nat.lt_of_lt_of_le hgl hk.size) hg, ⟨C, hC, hb2⟩, hk.then_ k (fun _ _ e => e)⟩, hb2⟩
theorem head0_len : (headC 0 zeroRoot).length = 33 := headC_len (by simp)
abbrev lastW (w : World) : World := w.alloc (.cells (headC 0 zeroRoot).toArray 46)
set_option maxRecDepth 100000 in
set_option maxHeartbeats 2000000 in
theorem ring_last (h : IsRing w r d R S) (m : Nat) (a : Hd) (hm : R.signed[m]? = some a) (hl : R.signed.length = m + 1) :
    Calls Tryz.prog 54 #[.pointer (some ⟨r, 0, none⟩)] w fun e w' => e = .returned (.tuple #[headV (a.1 : Int) a.2, .bool true]) ∧ Kept (fun _ => False) w w' := by
  have kA : Kept (fun _ => False) w (lastW w) := (Kept.refl _ _).alloc _
  have hu := ring_used (h.same kA)
  rw [hl] at hu
  have hrl := h.lt
  have h' := h.same kA
  have ha32 := (h.oks a (List.mem_of_getElem? hm)).2.2
  have hm8 := h.few
  obtain ⟨⟨t, v, h1, h2, h3, h4, h5⟩, h6, h7, h8, h9⟩ := h'
  obtain ⟨x, n, cap, rfl, hn, _, hx⟩ := h3.form (by omega)
  rw [hdC_len (fun x hx => (h7 x hx).2.2)] at hn
  obtain rfl : n = m + 1 := by omega
  obtain ⟨g, rfl, hg, _⟩ := hx (by omega)
  have hgl := h3.lt hg
  have hr := h3.rangeAt (m * 33) 33
  rw [hdC_at (fun x hx => (h7 x hx).2.2) m hm] at hr
  have hb := head_blk w 0 zeroRoot
  have hgw : g ≠ w.heap.size := by
    obtain ⟨⟨t', v', q1, q2, q3, q4, q5⟩, -⟩ := id h
    have e : v' = .slice (some ⟨g, 0, none⟩) (m + 1) cap := by
      have c1 := (q1.kept kA id).cell (i := 2) rfl
      rw [h1.cell (i := 2) rfl] at c1
      exact (Option.some.inj c1).symm
    rw [e] at q3
    have := q3.lt hg
    omega
  obtain ⟨C, hC⟩ : ∃ C, headC (a.1 : Int) a.2 = C := ⟨_, rfl⟩
  rw [hC] at hr
  have lC : C.length = 33 := by rw [← hC]; exact headC_len ha32
  obtain ⟨wA, hwA⟩ : ∃ wA, wA = lastW w := ⟨_, rfl⟩
  have hu' : Calls Tryz.prog 51 #[.pointer (some ⟨r, 0, none⟩)] (lastW w) fun e w' => e = .returned (.int .i64 ((m : Int) + 1)) ∧ wA = w' := by rw [hwA]; exact hu
  have c2 := h1.cell (i := 2) rfl
  have SA : LastS wA wA.drew r g m cap w.heap.size C := by rw [hwA]; exact ⟨c2, hr, ⟨_, head0_len, hb.drew⟩, (Kept.refl _ _).drew⟩
  have HT := Lib.hid (fun w1 (q : LastS wA w1 r g m cap w.heap.size C) => lastS_store lC (by omega) hgw (by rw [hwA]; exact hgl) q)
  have HI := Lib.hid (show (Tryz.prog.info? 46).map (·.size) = some C.length by rw [lC]; exact info_head)
  have HO : Hid (∀ v ∈ C, v.oneCell' = true) := Lib.hid (by rw [← hC]; exact head_oneCell)
  have HC := Lib.hid hC
  have HU := Lib.hid hu'
  have a1 : IntKind.i64.wrap (m : Int) = (m : Int) := IntWalk.i64_in _ (by omega)
  have y1 : ((m : Int) + 1 == 0) = false := by simp; omega
  have y2 : decide ((m : Int) + 1 = 0) = false := decide_eq_false (by omega)
  have y4 : (m : Int) < (m : Int) + 1 := by omega
  have HK := Lib.hid (by rw [hwA]; exact kA : Kept (fun _ => False) w wA)
  clear hu hu' h h1 h2 h3 h4 h5 h6 h7 h8 h9 hn hx hg hgl hr hb hgw hC kA hm hl hm8 lC hwA c2
  go_enter Tryz.func54, Tryz.ntmps54
  go_wp2_with (first | (go_at_call 51; refine HU.out.mono ?_; rintro e w' ⟨rfl, rfl⟩))
  refine wp_region_held_drew (S := (fun w' => LastS wA w' r g m cap w.heap.size C)) (by kernel_rfl) SA (fun hH0 => ?_)
  refine wpAnyH_take (i := 0) (oi := ⟨some 8, .move (.tmp 0), 63, "keyring.go:157", #[], none⟩) (v := ?_) rfl (by kernel_rfl) (by kernel_rfl) (by kernel_rfl) (fun _ _ _ h => h) (Or.inl ⟨by rfl, fun w hSw => ?_⟩) hH0 ?_
  rotate_left 1
  · (try simp only [LastS] at hSw); go_simp; (try with_reducible rfl)
  try simp only [Act.put, List.setIfInBounds_toArray, List.set_cons_zero, List.set_cons_succ]
  refine wpAnyH_take (i := 1) (oi := ⟨some 9, .nilCheck (.tmp 8), 0, "keyring.go:157", #[⟨0, .data⟩], none⟩) (v := ?_) rfl (by kernel_rfl) (by kernel_rfl) (by kernel_rfl) (fun _ _ _ h => h) (Or.inl ⟨by rfl, fun w hSw => ?_⟩) hH0 ?_
  rotate_left 1
  · (try simp only [LastS] at hSw); go_simp; (try with_reducible rfl)
  try simp only [Act.put, List.setIfInBounds_toArray, List.set_cons_zero, List.set_cons_succ]
  refine wpAnyH_take (i := 2) (oi := ⟨some 10, .fieldAddr 146 (.tmp 9) 2, 0, "keyring.go:157", #[⟨1, .data⟩], none⟩) (v := ?_) rfl (by kernel_rfl) (by kernel_rfl) (by kernel_rfl) (fun _ _ _ h => h) (Or.inl ⟨by rfl, fun w hSw => ?_⟩) hH0 ?_
  rotate_left 1
  · (try simp only [LastS] at hSw); go_simp; (try with_reducible rfl)
  try simp only [Act.put, List.setIfInBounds_toArray, List.set_cons_zero, List.set_cons_succ]
  refine wpAnyH_take (i := 3) (oi := ⟨some 11, .load 143 (.tmp 10), 143, "keyring.go:157", #[⟨2, .data⟩], none⟩) (v := ?_) rfl (by kernel_rfl) (by kernel_rfl) (by kernel_rfl) (fun _ _ _ h => h) (Or.inl ⟨by rfl, fun w hSw => ?_⟩) hH0 ?_
  rotate_left 1
  · (try simp only [LastS] at hSw); go_simp; (try with_reducible rfl)
  try simp only [Act.put, List.setIfInBounds_toArray, List.set_cons_zero, List.set_cons_succ]
  refine wpAnyH_take (i := 4) (oi := ⟨some 12, .move (.tmp 0), 63, "keyring.go:157", #[], none⟩) (v := ?_) rfl (by kernel_rfl) (by kernel_rfl) (by kernel_rfl) (fun _ _ _ h => h) (Or.inl ⟨by rfl, fun w hSw => ?_⟩) hH0 ?_
  rotate_left 1
  · (try simp only [LastS] at hSw); go_simp; (try with_reducible rfl)
  try simp only [Act.put, List.setIfInBounds_toArray, List.set_cons_zero, List.set_cons_succ]
  refine wpAnyH_take (i := 5) (oi := ⟨some 13, .nilCheck (.tmp 12), 0, "keyring.go:157", #[⟨4, .data⟩], none⟩) (v := ?_) rfl (by kernel_rfl) (by kernel_rfl) (by kernel_rfl) (fun _ _ _ h => h) (Or.inl ⟨by rfl, fun w hSw => ?_⟩) hH0 ?_
  rotate_left 1
  · (try simp only [LastS] at hSw); go_simp; (try with_reducible rfl)
  try simp only [Act.put, List.setIfInBounds_toArray, List.set_cons_zero, List.set_cons_succ]
  refine wpAnyH_take (i := 6) (oi := ⟨some 14, .fieldAddr 146 (.tmp 13) 2, 0, "keyring.go:157", #[⟨5, .data⟩], none⟩) (v := ?_) rfl (by kernel_rfl) (by kernel_rfl) (by kernel_rfl) (fun _ _ _ h => h) (Or.inl ⟨by rfl, fun w hSw => ?_⟩) hH0 ?_
  rotate_left 1
  · (try simp only [LastS] at hSw); go_simp; (try with_reducible rfl)
  try simp only [Act.put, List.setIfInBounds_toArray, List.set_cons_zero, List.set_cons_succ]
  refine wpAnyH_take (i := 7) (oi := ⟨some 15, .load 143 (.tmp 14), 143, "keyring.go:157", #[⟨6, .data⟩], none⟩) (v := ?_) rfl (by kernel_rfl) (by kernel_rfl) (by kernel_rfl) (fun _ _ _ h => h) (Or.inl ⟨by rfl, fun w hSw => ?_⟩) hH0 ?_
  rotate_left 1
  · (try simp only [LastS] at hSw); go_simp; (try with_reducible rfl)
  try simp only [Act.put, List.setIfInBounds_toArray, List.set_cons_zero, List.set_cons_succ]
  refine wpAnyH_take (i := 8) (oi := ⟨some 16, .call { callee := .builtin .len, args := #[.tmp 15], argTypes := #[143] }, 3, "keyring.go:157", #[⟨7, .data⟩], none⟩) (v := ?_) rfl (by kernel_rfl) (by kernel_rfl) (by kernel_rfl) (fun _ _ _ h => h) (Or.inl ⟨by rfl, fun w hSw => ?_⟩) hH0 ?_
  rotate_left 1
  · (try simp only [LastS] at hSw); go_simp; (try with_reducible rfl)
  try simp only [Act.put, List.setIfInBounds_toArray, List.set_cons_zero, List.set_cons_succ]
  refine wpAnyH_take (i := 9) (oi := ⟨some 17, .binOp .sub 3 (.tmp 16) (.const (.int .i64 1)) 3, 3, "keyring.go:157", #[⟨8, .data⟩], none⟩) (v := ?_) rfl (by kernel_rfl) (by kernel_rfl) (by kernel_rfl) (fun _ _ _ h => h) (Or.inl ⟨by rfl, fun w hSw => ?_⟩) hH0 ?_
  rotate_left 1
  · (try simp only [LastS] at hSw); go_simp; (try with_reducible rfl)
  try simp only [Act.put, List.setIfInBounds_toArray, List.set_cons_zero, List.set_cons_succ]
  refine wpAnyH_take (i := 10) (oi := ⟨some 18, .indexAddr 143 (.tmp 11) (.tmp 17), 0, "keyring.go:157", #[⟨3, .data⟩, ⟨9, .data⟩], none⟩) (v := ?_) rfl (by kernel_rfl) (by kernel_rfl) (by kernel_rfl) (fun _ _ _ h => h) (Or.inl ⟨by rfl, fun w hSw => ?_⟩) hH0 ?_
  rotate_left 1
  · (try simp only [LastS] at hSw); go_simp; (try with_reducible rfl)
  try simp only [Act.put, List.setIfInBounds_toArray, List.set_cons_zero, List.set_cons_succ]
  refine wpAnyH_take (i := 11) (oi := ⟨some 19, .load 46 (.tmp 18), 46, "keyring.go:157", #[⟨10, .data⟩], none⟩) (v := .agg (C).toArray) rfl (by kernel_rfl) (by kernel_rfl) (by kernel_rfl) (fun _ _ _ h => h) (yieldsIf_load_mid (by rfl) _ _ rfl (g) (m * 33) rfl (C) _ (fun w q => q.2.1) Tryz.underlying46 rfl HI.out) hH0 ?_
  try simp only [Act.put, List.setIfInBounds_toArray, List.set_cons_zero, List.set_cons_succ]
  refine wpAnyH_ready (rs := [12]) (by kernel_rfl) (by simp) ?_
  refine AllReadyH.cons (o := ⟨none, .store 46 (.tmp 2) (.tmp 19), 0, "keyring.go:157", #[⟨11, .data⟩, ⟨0, .phase⟩, ⟨1, .phase⟩, ⟨2, .phase⟩, ⟨3, .phase⟩, ⟨4, .phase⟩, ⟨5, .phase⟩, ⟨6, .phase⟩, ⟨7, .phase⟩, ⟨8, .phase⟩, ⟨9, .phase⟩, ⟨10, .phase⟩, ⟨11, .phase⟩], none⟩) rfl (fun K hK => ?_) AllReadyH.nil
  have HBL := Lib.hid (HT.out _ hH0).2.2
  rw [if_pos (by rfl)]
  refine wp_store_mid _ _ _ rfl w.heap.size 0 C.toArray rfl rfl (HT.out _ hH0).1 (by rw [List.size_toArray]; exact HI.out) (all_oneCell_toArray HO.out) ?_
  refine hK.out _ _ ((HT.out _ hH0).2.1) (fun hH1 => ?_)
  clear hK K
  try simp only [Act.put, List.setIfInBounds_toArray, List.set_cons_zero, List.set_cons_succ]
  refine wpAnyH_ready (rs := [13]) (by kernel_rfl) (by simp) ?_
  refine AllReadyH.cons (o := ⟨some 3, .assign (.const (.bool true)), 4, "keyring.go:157", #[⟨12, .chain⟩, ⟨0, .phase⟩, ⟨1, .phase⟩, ⟨2, .phase⟩, ⟨3, .phase⟩, ⟨4, .phase⟩, ⟨5, .phase⟩, ⟨6, .phase⟩, ⟨7, .phase⟩, ⟨8, .phase⟩, ⟨9, .phase⟩, ⟨10, .phase⟩, ⟨11, .phase⟩, ⟨12, .phase⟩], none⟩) rfl (fun K hK => ?_) AllReadyH.nil
  go_simp
  refine hK.out _ _ (hH1) (fun hH2 => ?_)
  clear hK K
  try simp only [Act.put, List.setIfInBounds_toArray, List.set_cons_zero, List.set_cons_succ]
  refine wpAnyH_done (by kernel_rfl) ?_ _
  go_wp2_with fail
  refine bodyPost_ret (HBL.out.result2 rfl rfl Tryz.underlying46 rfl HI.out) rfl ⟨by rw [← HC.out]; rfl, ?_⟩
  exact HK.out.then_ hH2.2.2.2 (fun i hi e => by omega)
theorem noring_head (w : World) : Blk (lastW w) w.heap.size (headC 0 zeroRoot) 46 := head_blk w 0 zeroRoot
theorem last_zero {w1 : World} {b : Nat} (h : Blk w1 b (headC 0 zeroRoot) 46) : w1.there b 0 (headC 0 zeroRoot).toArray.size ∧ Blk (w1.setCells b 0 (headC 0 zeroRoot)) b (headC 0 zeroRoot) 46 := by
  have h0 := head0_len
  refine ⟨h.there 0 _ (by rw [List.size_toArray]; omega), ?_⟩
  have := h.setCells 0 (headC 0 zeroRoot) (by omega)
  rw [splice_whole (by omega)] at this
  exact this
theorem info_head0 : (Tryz.prog.info? 46).map (·.size) = some (headC 0 zeroRoot).length := by rw [head0_len]; exact info_head
set_option maxRecDepth 100000 in
set_option maxHeartbeats 1000000 in
theorem last_used0 (w : World) (v : Value) (hu : Calls Tryz.prog 51 #[v] (lastW w) fun e w' => e = .returned (.int .i64 0) ∧ lastW w = w') :
    Calls Tryz.prog 54 #[v] w fun e w' => e = .returned (.tuple #[.agg (headC 0 zeroRoot).toArray, .bool false]) ∧ Kept (fun _ => False) w w' := by
  have HU := Lib.hid hu
  have HB := Lib.hid (last_zero (noring_head w))
  clear hu
  go_enter Tryz.func54, Tryz.ntmps54
  go_wp2_with (first | (go_at_call 51; refine HU.out.mono ?_; rintro e w' ⟨rfl, rfl⟩) | ((with_reducible show wpList _ _ _ (⟨none, .store _ (.tmp 2) _, _, _, _, _⟩ :: _) _ _); refine wpList_store_mid rfl 46 _ _ rfl w.heap.size 0 (headC 0 zeroRoot).toArray rfl rfl ?hth ?hi ?h1 ?_))
  case hth => exact HB.out.1
  case hi => exact (by rw [List.size_toArray]; exact info_head0)
  case h1 => exact all_oneCell_toArray head_oneCell
  refine bodyPost_ret (HB.out.2.result2 rfl rfl Tryz.underlying46 rfl info_head0) rfl ⟨rfl, ?_⟩
  exact ((Kept.refl (fun _ => False) w).alloc _).then_ (kept_setCells _ _ _ _) (fun i hi e => by omega)
theorem ring_last0 (h : IsRing w r d R S) (hl : R.signed = []) :
    Calls Tryz.prog 54 #[.pointer (some ⟨r, 0, none⟩)] w fun e w' => e = .returned (.tuple #[.agg (headC 0 zeroRoot).toArray, .bool false]) ∧ Kept (fun _ => False) w w' := by
  have hu := ring_used (h.same ((Kept.refl (fun _ => False) w).alloc (.cells (headC 0 zeroRoot).toArray 46)))
  rw [hl] at hu
  exact last_used0 w _ hu
end
end Go.Proofs.YtpmdlkogccojmaaGreatDoor

namespace Go.Proofs.YtpmdlkogccojmaaGreatDoor
open Go.RowKit
theorem signed_head_range {w : World} {b : Nat} {size : Int} {root : By} {i : Int} {sig : ByteArray} {v : Value} {t : TypeId} (hr : root.length = 32) (h : Blk w b (signedC size root i sig v) t) : w.rangeAt b 0 (headC size root) := by
  have hl := headC_len (size := size) hr
  have r1 := h.rangeAt 0 33
  have e1 : ((signedC size root i sig v).drop 0).take 33 = headC size root := by unfold signedC; rw [List.drop_zero, List.take_append_of_le_length (by omega), List.take_of_length_le (by omega)]
  rw [e1] at r1
  exact r1
set_option maxRecDepth 100000 in
set_option maxHeartbeats 1000000 in
theorem same_ok (w : World) (size : Int) (root : By) (i : Int) (sig : ByteArray) (a a' : Option Addr) (c c' n n' : Nat) (L : List By) (hr : root.length = 32) (hu : View w 32 (.slice a n c) (hcells L)) (hv : View w 32 (.slice a' n' c') (hcells L)) (h32 : ∀ x ∈ L, x.length = 32) (hL : L.length ≤ 1000000) (hvl : L.length * 32 ≤ 1000000000) :
    Calls Tryz.prog 42 #[signedV size root i sig (.slice a n c), signedV size root i sig (.slice a' n' c')] w fun e w' => e = .returned (.bool true) ∧ Kept (fun _ => False) w w' := by
  have b0 := (Blk.new w (signedC size root i sig (.slice a n c)) 51).alloc (.cells (signedC size root i sig (.slice a' n' c')).toArray 51)
  have b1 := Blk.new (w.alloc (.cells (signedC size root i sig (.slice a n c)).toArray 51)) (signedC size root i sig (.slice a' n' c')) 51
  rw [World.size_alloc] at b1
  have kW : Kept (fun _ => False) w ((w.alloc (.cells (signedC size root i sig (.slice a n c)).toArray 51)).alloc (.cells (signedC size root i sig (.slice a' n' c')).toArray 51)) := ((Kept.refl _ _).alloc _).alloc _
  obtain ⟨q0, q1, q2, q3⟩ := signed_at (size := size) (i := i) (sig := sig) (v := .slice a n c) hr
  obtain ⟨p0, p1, p2, p3⟩ := signed_at (size := size) (i := i) (sig := sig) (v := .slice a' n' c') hr
  have c1 := b0.cell q1
  have c2 := b0.cell q2
  have c3 := b0.cell q3
  have d1 := b1.cell p1
  have d2 := b1.cell p2
  have d3 := b1.cell p3
  have HR0 := Lib.hid (signed_head_range hr b0)
  have HR1 := Lib.hid (signed_head_range hr b1)
  have HI := Lib.hid (show (Tryz.prog.info? 46).map (·.size) = some (headC size root).length by rw [headC_len hr]; exact info_head)
  have heq := fun w' => eql_head w' size size root root hr hr
  simp only [true_and, decide_true, and_self] at heq
  have HE := Lib.hid (equal_ok _ _ _ L (hu.same kW (by omega)) (hv.same kW (by omega)) h32 hL)
  have HK := Lib.hid kW
  clear q0 q1 q2 q3 p0 p1 p2 p3 b0 b1 hu hv kW
  go_enter Tryz.func42, Tryz.ntmps42
  go_wp2_with (first | ((with_reducible show wpList _ _ _ (⟨some 6, _, _, _, _, _⟩ :: _) _ _); refine wpList_load_mid rfl 46 _ rfl w.heap.size 0 rfl (headC size root) _ HR0.out Tryz.underlying46 rfl HI.out ?_) | ((with_reducible show wpList _ _ _ (⟨some 8, _, _, _, _, _⟩ :: _) _ _); refine wpList_load_mid rfl 46 _ rfl (w.heap.size + 1) 0 rfl (headC size root) _ HR1.out Tryz.underlying46 rfl HI.out ?_) | (go_at_call 78; refine HE.out.mono ?_; rintro e w2 ⟨rfl, hk2⟩))
  go_ret
  exact ⟨rfl, HK.out.trans hk2⟩
end Go.Proofs.YtpmdlkogccojmaaGreatDoor

namespace Go.Proofs.YtpmdlkogccojmaaGreatDoor
open Go.RowKit
structure Held (w : World) (r d : Nat) (R : RingM) (M : DiskM) (B S : Nat → Prop) : Prop where
  ap : Apart B d M w
  ring : IsRing w r d R S
  sub : ∀ k, S k → B k
  keep : Keeps B
  off : ¬ S 0 ∧ ¬ S 1
  tab : Tab w
theorem topF_32 (n : Nat) : ∀ (l : List By) (i : Nat), l.length ≤ n → (∀ x ∈ l, x.length = 32) → ∀ x ∈ topF l i, x.length = 32 := by
  induction n with
  | zero => intro l i hl _ x hx; rw [topF_few (by omega)] at hx; cases hx
  | succ n ih =>
    intro l i hl h x hx
    by_cases h2 : 2 ≤ l.length
    · have hs := splitN_in h2
      by_cases hi : i < splitN l.length
      · rw [topF_low h2 hi] at hx
        rcases List.mem_cons.1 hx with rfl | hx
        · exact rootF_len (fun y hy => h y (List.mem_of_mem_drop hy))
        · exact ih _ _ (by rw [List.length_take]; omega) (fun y hy => h y (List.mem_of_mem_take hy)) x hx
      · rw [topF_high h2 hi] at hx
        rcases List.mem_cons.1 hx with rfl | hx
        · exact rootF_len (fun y hy => h y (List.mem_of_mem_take hy))
        · exact ih _ _ (by rw [List.length_drop]; omega) (fun y hy => h y (List.mem_of_mem_drop hy)) x hx
    · rw [topF_few h2] at hx; cases hx
theorem pathF_32 (seed : By) (i : Nat) : ∀ x ∈ pathF (leavesF seed) i, x.length = 32 := by
  intro x hx
  unfold pathF at hx
  exact topF_32 _ _ i (Nat.le_refl _) (leaves_32 seed) x (List.mem_reverse.1 hx)
section
variable {w w' : World} {r d : Nat} {R R' : RingM} {M M' : DiskM} {B S : Nat → Prop}
theorem Held.more (h : Held w r d R M B S) (hk : Kept (fun _ => False) w w') : Held w' r d R M (fun k => B k ∨ (w.heap.size ≤ k ∧ k < w'.heap.size)) S :=
  ⟨h.ap.grow hk (fun _ _ => False.elim) (fun _ q => q), h.ring.same hk, fun k q => Or.inl (h.sub k q), ⟨Or.inl h.keep.1, Or.inl h.keep.2⟩, h.off, h.tab.same hk⟩
theorem Held.same (h : Held w r d R M B S) (hk : Kept (fun _ => False) w w') : Held w' r d R M B S :=
  ⟨h.ap.same hk, h.ring.same hk, h.sub, h.keep, h.off, h.tab.same hk⟩
def SignedTo (B S : Nat → Prop) (r d : Nat) (w : World) (size : Nat) (root : By) (i : Nat) (R' : RingM) (M' : DiskM) (e : Ending) (w' : World) : Prop :=
  ∃ a c S', e = .returned (.tuple #[signedV (size : Int) root (i : Int) ⟨(signF R'.seed.data.toList i (digestF size root)).toArray⟩ (.slice a 3 c), .int .i64 0]) ∧ Row w' 24 32 (.slice a 3 c) (hcells (pathF (leavesF R'.seed.data.toList) i)) ∧
    (∀ k, S' k → S k ∨ w.heap.size ≤ k) ∧ Held w' r d R' M' (fun k => B k ∨ S' k ∨ (Value.slice a 3 c).ownBlock = some k) S' ∧ Kept (fun k => ¬ B k ∨ S k) w w' ∧ ∀ k, (Value.slice a 3 c).ownBlock = some k → w.heap.size ≤ k ∧ ¬ S' k
theorem path_len (L : List By) (hL : L.length = 8) (i : Nat) (hi : i < 8) : (pathF L i).length = 3 := (proves_eight L hL i hi).1
theorem tab_lt (h : Tab w) : 0 < w.heap.size ∧ 1 < w.heap.size :=
  ⟨World.block_lt_of_cell? w _ (h.first 0 _ rfl), World.block_lt_of_cell? w _ (h.rounds 0 _ rfl)⟩
theorem signed_to {size : Nat} {root : By} {i : Nat} {e : Ending} (h : Held w r d R M B S) (hi : i < 8) (hy : SignYes B S r d w size root i R' M' e w') : SignedTo B S r d w size root i R' M' e w' := by
  obtain ⟨v, S', rfl, hrow, hown, hr, hS', ha, hk⟩ := hy
  obtain ⟨a, n, c, rfl, hn, -⟩ := hrow.form (by omega)
  rw [hcells_len (pathF_32 _ i), path_len _ (leavesF_len _) i hi] at hn
  obtain rfl : n = 3 := by omega
  have ht := tab_lt h.tab
  have hoff : ∀ k, k < w.heap.size → ¬ S k → ¬ S' k := fun k hl hn q => (hS' k q).elim hn (fun q => by omega)
  exact ⟨a, c, S', rfl, hrow, hS', ⟨ha, hr, fun k q => Or.inr (Or.inl q), ⟨Or.inl h.keep.1, Or.inl h.keep.2⟩, ⟨hoff _ ht.1 h.off.1, hoff _ ht.2 h.off.2⟩, h.tab.kept hk (fun q => q.elim (fun n => n h.keep.1) h.off.1) (fun q => q.elim (fun n => n h.keep.2) h.off.2)⟩, hk, hown⟩
theorem held_fresh (h : Held w r d R M B S) (size : Nat) (root : By) (hz1 : 1 ≤ size) (hz : size ≤ 4096) (hroot : root.length = 32) (ho : R.over M = false) (i : Nat) (hi : i < 8) (hil : R.signed.length = i) (hx : nextF R.signed (size : Int) root = ((i : Int), true, 0)) (M' : DiskM) (hkr : M.keepR (size, root) = (0, M')) (hc : M.files.length + M.loose.length < 300000000) :
    Calls Tryz.prog 45 #[.pointer (some ⟨r, 0, none⟩), headV (size : Int) root] w (SignedTo B S r d w size root i { R with signed := R.signed ++ [(size, root)] } M') :=
  (sign_fresh h.ring h.ap h.sub size root hz hroot ho hz1 i hi hil hx M' hkr hc h.keep h.tab h.off).mono fun _ _ q => signed_to h hi q
theorem held_again (h : Held w r d R M B S) (size : Nat) (root : By) (hz : size ≤ 4096) (hroot : root.length = 32) (ho : R.over M = false) (i : Nat) (hi : i < 8) (hx : nextF R.signed (size : Int) root = ((i : Int), false, 0)) :
    Calls Tryz.prog 45 #[.pointer (some ⟨r, 0, none⟩), headV (size : Int) root] w (SignedTo B S r d w size root i R M) :=
  (sign_again h.ring h.ap h.sub size root hz hroot ho i hi hx h.tab h.off).mono fun _ _ q => signed_to h hi q
def SignedAs (B S : Nat → Prop) (r d : Nat) (w : World) (size : Nat) (root : By) (i : Nat) (R' : RingM) (M' : DiskM) (e : Ending) (w' : World) : Prop :=
  ∃ a c S' Y, e = .returned (.tuple #[.agg Y.toArray, .int .i64 0]) ∧ Hid (Y = signedC (size : Int) root (i : Int) ⟨(signF R'.seed.data.toList i (digestF size root)).toArray⟩ (.slice a 3 c) ∧ Y.length = 36 ∧ (∀ v ∈ Y, v.oneCell' = true) ∧ Row w' 24 32 (.slice a 3 c) (hcells (pathF (leavesF R'.seed.data.toList) i)) ∧
    (∀ k, S' k → S k ∨ w.heap.size ≤ k) ∧ Held w' r d R' M' (fun k => B k ∨ S' k ∨ (Value.slice a 3 c).ownBlock = some k) S' ∧ Kept (fun k => ¬ B k ∨ S k) w w' ∧ ∀ k, (Value.slice a 3 c).ownBlock = some k → w.heap.size ≤ k ∧ ¬ S' k)
theorem signed_as {size : Nat} {root : By} {i : Nat} {e : Ending} (hroot : root.length = 32) (h : SignedTo B S r d w size root i R' M' e w') : SignedAs B S r d w size root i R' M' e w' := by
  obtain ⟨a, c, S', he, h1, h2, h3, h4, h5⟩ := h
  exact ⟨a, c, S', _, he, Lib.hid ⟨rfl, signedC_len hroot, signedC_one rfl, h1, h2, h3, h4, h5⟩⟩
end
theorem frame_room {h : Hd} (hh : HdOk h) : (frameF (recordF h)).length ≤ 144 := by have := recordF_len hh; rw [frameF_len]; omega
theorem store_signed (w4 : World) {Y : List Value} (hY : Y.length = 36) : (w4.alloc (.cells signed0C.toArray 51)).there w4.heap.size 0 Y.length ∧ Blk ((w4.alloc (.cells signed0C.toArray 51)).setCells w4.heap.size 0 Y) w4.heap.size Y 51 ∧ Kept (fun _ => False) w4 ((w4.alloc (.cells signed0C.toArray 51)).setCells w4.heap.size 0 Y) := by
  have h := sign_fin (Blk.new w4 signed0C 51) hY
  exact ⟨h.1, h.2, ((Kept.refl (fun _ => False) w4).alloc _).then_ (kept_setCells _ w4.heap.size 0 _) (fun i hi e => by omega)⟩
end Go.Proofs.YtpmdlkogccojmaaGreatDoor

namespace Go.Proofs.YtpmdlkogccojmaaGreatDoor
def UpM (L : List Hd) (s : Int) (M : DiskM) : Prop := ∃ fails left keep, M = oneD (ringFile L) [] 10000 false s fails left keep ∧ (fails = true → 0 ≤ left)
def MdM (L' : List Hd) (s : Int) (fails : Bool) (M : DiskM) : Prop := ∃ t left keep, M = oneD (ringFile L' ++ t) [] 10000 false s fails left keep ∧ (fails = true → 0 ≤ left) ∧ cutF t = none
def DnM (L : List Hd) (h : Hd) (s : Int) (M : DiskM) : Prop := ∃ L' t left keep, M = oneD (ringFile L' ++ t) [] 10000 true s false left keep ∧ cutF t = none ∧ (L' = L ∨ L' = L ++ [h]) ∧ Rises 0 L' ∧ L'.length ≤ 8
theorem UpM.up {L : List Hd} {s : Int} {M : DiskM} (h : UpM L s M) : M.down = false ∧ M.starts = s ∧ M.files.length + M.loose.length < 300000000 := by
  obtain ⟨f, l, k, rfl, _⟩ := h; exact ⟨rfl, rfl, by show 1 + 0 < 300000000; decide⟩
theorem MdM.up {L : List Hd} {s : Int} {f : Bool} {M : DiskM} (h : MdM L s f M) : M.down = false ∧ M.starts = s ∧ M.files.length + M.loose.length < 300000000 := by
  obtain ⟨t, l, k, rfl, _⟩ := h; exact ⟨rfl, rfl, by show 1 + 0 < 300000000; decide⟩
theorem DnM.down {L : List Hd} {h : Hd} {s : Int} {M : DiskM} (q : DnM L h s M) : M.down = true ∧ M.starts = s := by
  obtain ⟨L', t, l, k, rfl, _⟩ := q; exact ⟨rfl, rfl⟩
theorem UpM.crash {L : List Hd} {s : Int} {M : DiskM} (h : UpM L s M) (hr : Rises 0 L) (h8 : L.length ≤ 8) (x : Hd) (k : Int) : ∃ M', M.crashR k = (0, M') ∧ DnM L x s M' := by
  obtain ⟨f, l, kp, rfl, hl⟩ := h
  refine ⟨_, by rw [DiskM.crashR, if_neg (by simp [oneD]), oneD_crash], L, [], l, kp, by rw [List.append_nil], cutF_nil, Or.inl rfl, hr, h8⟩
theorem UpM.fail {L : List Hd} {s : Int} {M : DiskM} (h : UpM L s M) {n : Int} (hn : 0 ≤ n) (k : Int) : ∃ M', M.failR n k = (0, M') ∧ UpM L s M' := by
  obtain ⟨f, l, kp, rfl, hl⟩ := h
  exact ⟨_, by rw [DiskM.failR, if_neg (by simp [oneD]), if_neg (by omega)]; rfl, true, n, k, rfl, fun _ => hn⟩
theorem MdM.fail {L : List Hd} {s : Int} {f : Bool} {M : DiskM} (h : MdM L s f M) {n : Int} (hn : 0 ≤ n) (k : Int) : ∃ M', M.failR n k = (0, M') ∧ MdM L s true M' := by
  obtain ⟨t, l, kp, rfl, hl, hc⟩ := h
  exact ⟨_, by rw [DiskM.failR, if_neg (by simp [oneD]), if_neg (by omega)]; rfl, t, n, k, rfl, fun _ => hn, hc⟩
theorem DnM.start {L : List Hd} {h : Hd} {s : Int} {M : DiskM} (q : DnM L h s M) : ∃ L' M', M.startR = (0, M') ∧ MdM L' (s + 1) false M' ∧ (L' = L ∨ L' = L ++ [h]) ∧ Rises 0 L' ∧ L'.length ≤ 8 := by
  obtain ⟨L', t, l, k, rfl, hc, h1, h2, h3⟩ := q
  exact ⟨L', _, by unfold DiskM.startR; rw [if_pos (show (oneD _ _ _ _ _ _ _ _).down = true from rfl)]; rfl, ⟨t, l, k, rfl, (fun h => by cases h), hc⟩, h1, h2, h3⟩
theorem MdM.open {L L' : List Hd} {h : Hd} {s : Int} {f : Bool} {M : DiskM} (q : MdM L' s f M) (h1 : L' = L ∨ L' = L ++ [h]) (hr : Rises 0 L') (h8 : L'.length ≤ 8) :
    (∃ M', M.openR = (0, L', M') ∧ UpM L' s M') ∨ (f = true ∧ ∃ l M', M.openR = (61, l, M') ∧ DnM L h s M') := by
  obtain ⟨t, l, kp, rfl, hl, hc⟩ := q
  have hw := whole_ring hr.ok hc
  have ho : ∀ (M : DiskM), M.down = false → M.openR = M.mend := fun M h => by unfold DiskM.openR; rw [if_neg (by simp [h])]
  rw [ho _ rfl]
  rcases oneD_mend (cap := 10000) (starts := s) (keep := kp) (left := l) (fails := f) hw (readH_records hr h8) hl with ⟨left', e, q⟩ | ⟨e0, t', left', l', ht, e⟩
  · exact Or.inl ⟨_, e, f, left', kp, rfl, q⟩
  · refine Or.inr ⟨e0, l', _, e, L', t', left', kp, rfl, ?_, h1, hr, h8⟩
    rcases ht with rfl | rfl
    · exact hc
    · exact cutF_nil
theorem ring_room {L : List Hd} (hr : ∀ x ∈ L, HdOk x) : (ringFile L).length ≤ L.length * 144 := by
  induction L with
  | nil => simp [ringFile, framesF]
  | cons a r ih =>
    have e : ringFile (a :: r) = frameF (recordF a) ++ ringFile r := by simp [ringFile, framesF]
    have := frame_room (hr a (by simp))
    have := ih (fun x hx => hr x (by simp [hx]))
    rw [e, List.length_append, List.length_cons]
    omega
theorem UpM.keepR {L : List Hd} {s : Int} {M : DiskM} (q : UpM L s M) {h : Hd} (hh : HdOk h) (hr : Rises 0 L) (hr2 : Rises 0 (L ++ [h])) (h8 : L.length < 8) :
    (∃ M', M.keepR h = (0, M') ∧ UpM (L ++ [h]) s M') ∨ (∃ M', M.keepR h = (61, M') ∧ DnM L h s M') := by
  obtain ⟨f, l, kp, rfl, hl⟩ := q
  have h1 := ring_room hr.ok
  have h2 := frame_room hh
  rcases oneD_keep (f := ringFile L) (s := frameF (recordF h)) (cap := 10000) (starts := s) (keep := kp) (left := l) (fails := f) (by omega) hl with ⟨left', e, q⟩ | ⟨-, j, left', hj, e⟩
  · refine Or.inl ⟨_, e, f, left', kp, ?_, q⟩
    rw [ringFile_snoc]
  · refine Or.inr ⟨_, e, ?_⟩
    rcases Nat.lt_or_ge j (frameF (recordF h)).length with q | q
    · have := recordF_len hh
      exact ⟨L, (frameF (recordF h)).take j, left', kp, rfl, cutF_part _ (by omega) j q, Or.inl rfl, hr, by omega⟩
    · refine ⟨L ++ [h], [], left', kp, ?_, cutF_nil, Or.inr rfl, hr2, by rw [List.length_append, List.length_singleton]; omega⟩
      rw [List.take_of_length_le q, ringFile_snoc, List.append_nil]
end Go.Proofs.YtpmdlkogccojmaaGreatDoor
