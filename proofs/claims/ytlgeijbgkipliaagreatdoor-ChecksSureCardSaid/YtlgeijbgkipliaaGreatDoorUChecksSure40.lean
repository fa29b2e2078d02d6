/- Point1 -/
import Derived.Test.YtlgeijbgkipliaaGreatDoorUChecksSure38
import Derived.Test.YtlgeijbgkipliaaGreatDoorUChecksSure29
import Derived.Test.YtlgeijbgkipliaaGreatDoorUChecksSure11
set_option linter.unusedVariables false
set_option linter.unusedSimpArgs false
namespace Go.Proofs.YtlgeijbgkipliaaGreatDoor
open Go.RowKit
def pointC (size : Int) (u : Value) (z : Int) (root : By) (i : Int) (sig : ByteArray) (v : Value) : List Value := .int .i64 size :: u :: signedC z root i sig v
section
variable {size : Int} {u : Value} {z : Int} {root : By} {i : Int} {sig : ByteArray} {v : Value}
theorem pointC_len (hr : root.length = 32) : (pointC size u z root i sig v).length = 38 := by unfold pointC; rw [List.length_cons, List.length_cons, signedC_len hr]
theorem pointC_at (hr : root.length = 32) : (pointC size u z root i sig v)[0]? = some (.int .i64 size) ∧ (pointC size u z root i sig v)[1]? = some u ∧ (pointC size u z root i sig v)[2]? = some (.int .i64 z) ∧ (pointC size u z root i sig v)[35]? = some (.int .i64 i) ∧ (pointC size u z root i sig v)[36]? = some (.string sig) ∧ (pointC size u z root i sig v)[37]? = some v := by
  obtain ⟨q0, q1, q2, q3⟩ := signed_at (size := z) (i := i) (sig := sig) (v := v) hr
  exact ⟨rfl, rfl, q0, q1, q2, q3⟩
theorem pointC_set37 (hr : root.length = 32) (x : Value) : (pointC size u z root i sig v).set 37 x = pointC size u z root i sig x := by
  have hl : (headC z root).length = 33 := by rw [List.length_cons, bytes8_len, hr]
  unfold pointC signedC
  rw [List.set_cons_succ, List.set_cons_succ, List.set_append_right _ _ (by omega), hl]
  rfl
theorem point_one (hu : u.oneCell' = true) (hv : v.oneCell' = true) : ∀ x ∈ pointC size u z root i sig v, x.oneCell' = true := by
  intro x hx
  unfold pointC at hx
  rcases List.mem_cons.1 hx with rfl | hx
  · rfl
  rcases List.mem_cons.1 hx with rfl | hx
  · exact hu
  unfold signedC at hx
  rw [List.mem_append, List.mem_cons] at hx
  rcases hx with (rfl | hx) | hx
  · rfl
  · exact u8_oneCell x hx
  · simp at hx
    rcases hx with rfl | rfl | rfl
    · rfl
    · rfl
    · exact hv
end
theorem info_point : (Tryz.prog.info? 72).map (·.size) = some 38 := by kernel_rfl
abbrev pointZ : List Value := .int .i64 0 :: .slice none 0 0 :: ((.int .i64 0 :: zeros 32) ++ [.int .i64 0, .string ⟨#[]⟩, .slice none 0 0])
theorem pointZ_len : pointZ.length = 38 := by rw [List.length_cons, List.length_cons, List.length_append, List.length_cons, zeros_len]; rfl
def OwnTo (w : World) (size : Int) (L : List By) (n : Nat) (z : Int) (root : By) (i : Int) (sig : ByteArray) (M : List By) (m : Nat) (e : Ending) (w' : World) : Prop :=
  ∃ a c b d, e = .returned (.agg (pointC size (.slice a n c) z root i sig (.slice b m d)).toArray) ∧
    Hid ((Row w' 57 32 (.slice a n c) (hcells L) ∧ ∀ k, (Value.slice a n c).ownBlock = some k → w.heap.size ≤ k) ∧ (Row w' 57 32 (.slice b m d) (hcells M) ∧ ∀ k, (Value.slice b m d).ownBlock = some k → w.heap.size ≤ k) ∧ (∀ k, (Value.slice a n c).ownBlock = some k → ¬ (Value.slice b m d).ownBlock = some k) ∧ Kept (fun _ => False) w w')
set_option maxRecDepth 100000 in
set_option maxHeartbeats 2000000 in
theorem own_any (w : World) (size : Int) (a b : Option Addr) (n c m d : Nat) (L M : List By) (z : Int) (root : By) (i : Int) (sig : ByteArray) (hr : root.length = 32) (hL : View w 32 (.slice a n c) (hcells L)) (hM : View w 32 (.slice b m d) (hcells M)) (h1 : ∀ x ∈ L, x.length = 32) (h2 : ∀ x ∈ M, x.length = 32) (l1 : L.length ≤ 100000) (l2 : M.length ≤ 100000) :
    Calls Tryz.prog 71 #[.agg (pointC size (.slice a n c) z root i sig (.slice b m d)).toArray] w (OwnTo w size L n z root i sig M m) := by
  obtain ⟨W, hW⟩ : ∃ W : World, W = (w.alloc (.cells (pointC size (.slice a n c) z root i sig (.slice b m d)).toArray 72)).alloc (.cells pointZ.toArray 72) := ⟨_, rfl⟩
  have b0 : Blk W w.heap.size (pointC size (.slice a n c) z root i sig (.slice b m d)) 72 := by rw [hW]; exact (Blk.new w _ 72).alloc _
  have b1 : Blk W (w.heap.size + 1) pointZ 72 := by
    have := Blk.new (w.alloc (.cells (pointC size (.slice a n c) z root i sig (.slice b m d)).toArray 72)) pointZ 72
    rw [World.size_alloc] at this
    rw [hW]; exact this
  have kW : Kept (fun _ => False) w W := by rw [hW]; exact ((Kept.refl _ _).alloc _).alloc _
  have hWs : W.heap.size = w.heap.size + 2 := by rw [hW, World.size_alloc, World.size_alloc]
  obtain ⟨q0, q1, q2, q3, q4, q5⟩ := pointC_at (size := size) (u := .slice a n c) (z := z) (i := i) (sig := sig) (v := .slice b m d) hr
  have c1 := b0.cell q1
  have HC := Lib.hid (clone_hash W a n c L (hL.same kW (by omega)) h1 l1)
  have HB := Lib.hid (And.intro b0 (And.intro b1 (And.intro kW hWs)))
  have HM := Lib.hid (fun (X : World) (hk : Kept (fun _ => False) w X) => clone_hash X b m d M (hM.same hk (by omega)) h2 l2)
  have HR := Lib.hid (And.intro hr q5)
  clear q0 q1 q2 q3 q4 q5 b0 b1 kW hWs hL hM h1 h2 l1 l2 hr
  go_enter Tryz.func71, Tryz.ntmps71
  go_upto_region 1 with (fail)
  generalize hWx : World.alloc _ _ = Wx
  obtain rfl : W = Wx := by rw [hW, ← hWx]; rfl
  clear hW hWx
  go_upto_region 2 with (go_at_call 111; refine HC.out.mono ?_; rintro e w1 ⟨a1, d1, rfl, H1⟩; have c11 := H1.out.2.2.cell c1 id; have f11 := (HB.out.1.kept H1.out.2.2 id).free 1)
  generalize hW2 : World.setCell _ _ _ = W2
  have kS : Kept (· = w.heap.size) w1 W2 := by rw [← hW2]; exact kept_cell w1 w.heap.size 1 _
  have hs1 := HB.out.2.2.2
  have hz1 := H1.out.2.2.size
  have n1 : ∀ k, (Value.slice a1 n d1).ownBlock = some k → w.heap.size + 2 ≤ k := fun k q => by have := H1.out.2.1 k q; omega
  have H2 := Lib.hid (show Blk W2 w.heap.size (pointC size (.slice a1 n d1) z root i sig (.slice b m d)) 72 ∧ Blk W2 (w.heap.size + 1) pointZ 72 ∧ Row W2 57 32 (.slice a1 n d1) (hcells L) ∧ (∀ k, (Value.slice a1 n d1).ownBlock = some k → w.heap.size + 2 ≤ k) ∧ Kept (fun _ => False) w W2 ∧ w.heap.size + 2 ≤ W2.heap.size from
    ⟨by rw [← hW2]; exact (HB.out.1.kept H1.out.2.2 id).set 1 _, (HB.out.2.1.kept H1.out.2.2 id).kept kS (by omega), H1.out.1.kept kS (fun k q e => by have := n1 k q; omega), n1, (HB.out.2.2.1.trans H1.out.2.2).then_ kS (fun j hj e => by omega), by have := kS.size; omega⟩)
  clear hW2 kS hs1 hz1 n1 HC c1 c11 f11 H1 HB
  have q5 := (pointC_at (size := size) (u := .slice a1 n d1) (z := z) (i := i) (sig := sig) (v := .slice b m d) HR.out.1).2.2.2.2.2
  have c37 := H2.out.1.cell q5
  clear q5
  have HC2 := Lib.hid (HM.out W2 H2.out.2.2.2.2.1)
  go_upto_region 3 with (go_at_call 111; refine HC2.out.mono ?_; rintro e w3 ⟨a3, d3, rfl, H3⟩; have c371 := H3.out.2.2.cell c37 id; have f371 := (H2.out.1.kept H3.out.2.2 id).free 37)
  generalize hW4 : World.setCell _ _ _ = W4
  have kS : Kept (· = w.heap.size) w3 W4 := by rw [← hW4]; exact kept_cell w3 w.heap.size 37 _
  have n3 : ∀ k, (Value.slice a3 m d3).ownBlock = some k → W2.heap.size ≤ k := H3.out.2.1
  have hz2 := H2.out.2.2.2.2.2
  have H4 := Lib.hid (show Blk W4 w.heap.size (pointC size (.slice a1 n d1) z root i sig (.slice a3 m d3)) 72 ∧ Blk W4 (w.heap.size + 1) pointZ 72 ∧ (Row W4 57 32 (.slice a1 n d1) (hcells L) ∧ ∀ k, (Value.slice a1 n d1).ownBlock = some k → w.heap.size + 2 ≤ k) ∧ (Row W4 57 32 (.slice a3 m d3) (hcells M) ∧ ∀ k, (Value.slice a3 m d3).ownBlock = some k → w.heap.size + 2 ≤ k) ∧ (∀ k, (Value.slice a1 n d1).ownBlock = some k → ¬ (Value.slice a3 m d3).ownBlock = some k) ∧ Kept (fun _ => False) w W4 from
    ⟨by rw [← hW4, ← pointC_set37 (v := .slice b m d) HR.out.1]; exact (H2.out.1.kept H3.out.2.2 id).set 37 _, (H2.out.2.1.kept H3.out.2.2 id).kept kS (by omega), ⟨(H2.out.2.2.1.kept H3.out.2.2 (fun _ _ => id)).kept kS (fun k q e => by have := H2.out.2.2.2.1 k q; omega), H2.out.2.2.2.1⟩, ⟨H3.out.1.kept kS (fun k q e => by have := n3 k q; omega), fun k q => by have := n3 k q; omega⟩,
      fun k q q2 => by have h1 := H2.out.2.2.1.lt q; have h2 := n3 k q2; omega, (H2.out.2.2.2.2.1.trans H3.out.2.2).then_ kS (fun j hj e => by omega)⟩)
  clear hW4 kS n3 hz2 HC2 c37 c371 f371 H3 H2
  have ip : (Tryz.prog.info? 72).map (·.size) = some (pointC size (.slice a1 n d1) z root i sig (.slice a3 m d3)).length := by rw [pointC_len HR.out.1]; exact info_point
  have IP := Lib.hid ip
  have hst := H4.out.2.1.setCells 0 (pointC size (.slice a1 n d1) z root i sig (.slice a3 m d3)) (by rw [pointC_len HR.out.1, pointZ_len]; omega)
  rw [splice_whole (by rw [pointC_len HR.out.1, pointZ_len])] at hst
  have HST := Lib.hid (And.intro H4.out.1.range0 (And.intro (H4.out.2.1.there 0 (pointC size (.slice a1 n d1) z root i sig (.slice a3 m d3)).toArray.size (by rw [List.size_toArray, pointC_len HR.out.1, pointZ_len]; omega)) hst))
  have ho : ∀ x ∈ pointC size (.slice a1 n d1) z root i sig (.slice a3 m d3), x.oneCell' = true := point_one rfl rfl
  clear ip hst
  generalize hY : pointC size (.slice a1 n d1) z root i sig (.slice a3 m d3) = Y at *
  go_wp2_with (first
    | ((with_reducible show wpList _ _ _ (⟨some 17, _, _, _, _, _⟩ :: _) _ _); refine wpList_load_mid rfl 72 _ rfl w.heap.size 0 rfl Y _ HST.out.1 Tryz.underlying72 rfl IP.out ?_)
    | ((with_reducible show wpList _ _ _ (⟨none, .store _ (.tmp 2) _, _, _, _, _⟩ :: _) _ _); refine wpList_store_mid rfl 72 _ _ rfl (w.heap.size + 1) 0 Y.toArray rfl rfl HST.out.2.1 (by rw [List.size_toArray]; exact IP.out) (all_oneCell_toArray ho) ?_))
  have k5 := kept_setCells W4 (w.heap.size + 1) 0 Y
  refine bodyPost_ret (HST.out.2.2.result rfl rfl Tryz.underlying72 rfl IP.out) rfl ⟨a1, d1, a3, d3, by rw [hY], Lib.hid ⟨⟨H4.out.2.2.1.1.kept k5 (fun k q e => by have := H4.out.2.2.1.2 k q; omega), fun k q => by have := H4.out.2.2.1.2 k q; omega⟩, ⟨H4.out.2.2.2.1.1.kept k5 (fun k q e => by have := H4.out.2.2.2.1.2 k q; omega), fun k q => by have := H4.out.2.2.2.1.2 k q; omega⟩, H4.out.2.2.2.2.1, H4.out.2.2.2.2.2.then_ k5 (fun j hj e => by omega)⟩⟩
end Go.Proofs.YtlgeijbgkipliaaGreatDoor
