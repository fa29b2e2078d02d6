/- StaNone -/
import Derived.Test.YtpmdlkogccojmaaGreatDoorUStationNone48
import Derived.Test.YtpmdlkogccojmaaGreatDoorUStationNone50
set_option linter.unusedVariables false
set_option linter.unusedSimpArgs false
namespace Go.Proofs.YtpmdlkogccojmaaGreatDoor
open Go.RowKit
def NoSta (w : World) (v : Value) : Prop := v = .pointer none ∨ ∃ r, v = .pointer (some ⟨r, 0, none⟩) ∧ w.cell? ⟨r, 0, none⟩ = some (.pointer none)
theorem NoSta.kept {w w' : World} {v : Value} (h : NoSta w v) (hk : Kept (fun _ => False) w w') : NoSta w' v := h.elim Or.inl (fun ⟨r, h1, h2⟩ => Or.inr ⟨r, h1, hk.cell h2 id⟩)
theorem nosta_none (w : World) (v : Value) (h : NoSta w v) : Calls Tryz.prog 43 #[v] w fun e w' => e = .returned (.bool true) ∧ w = w' := by
  rcases h with rfl | ⟨r, rfl, hc⟩
  · go_enter Tryz.func43, Tryz.ntmps43
    go_wp2
    go_ret
    exact ⟨rfl, rfl⟩
  · go_enter Tryz.func43, Tryz.ntmps43
    go_wp2
    go_ret
    exact ⟨rfl, rfl⟩
theorem nosta_count (w : World) (v : Value) (h : NoSta w v) : Calls Tryz.prog 17 #[v] w fun e w' => e = .returned (.int .i64 0) ∧ w = w' := by
  have hn := nosta_none w v h
  go_enter Tryz.func17, Tryz.ntmps17
  go_wp2_with (go_at_call 43; refine hn.mono ?_; rintro e w' ⟨rfl, rfl⟩)
  go_ret
  exact ⟨rfl, rfl⟩
theorem nosta_used (w : World) (v : Value) (h : NoSta w v) : Calls Tryz.prog 19 #[v] w fun e w' => e = .returned (.int .i64 0) ∧ w = w' := by
  have hn := nosta_none w v h
  go_enter Tryz.func19, Tryz.ntmps19
  go_wp2_with (go_at_call 43; refine hn.mono ?_; rintro e w' ⟨rfl, rfl⟩)
  go_ret
  exact ⟨rfl, rfl⟩
theorem nosta_log (w : World) (v : Value) (h : NoSta w v) : Calls Tryz.prog 18 #[v] w fun e w' => e = .returned (.slice none 0 0) ∧ w = w' := by
  have hn := nosta_none w v h
  go_enter Tryz.func18, Tryz.ntmps18
  go_wp2_with (go_at_call 43; refine hn.mono ?_; rintro e w' ⟨rfl, rfl⟩)
  go_ret
  exact ⟨rfl, rfl⟩
theorem nosta_append (w : World) (v : Value) (s : ByteArray) (h : NoSta w v) : Calls Tryz.prog 15 #[v, .string s] w fun e w' => e = .returned (.int .i64 1) ∧ w = w' := by
  have hn := nosta_none w v h
  go_enter Tryz.func15, Tryz.ntmps15
  go_wp2_with (go_at_call 43; refine hn.mono ?_; rintro e w' ⟨rfl, rfl⟩)
  go_ret
  exact ⟨rfl, rfl⟩
set_option maxRecDepth 100000 in
set_option maxHeartbeats 1000000 in
theorem nosta_key (w : World) (v : Value) (hv : NoSta w v) :
    Calls Tryz.prog 16 #[v] w fun e w' => e = .returned (.agg (zeros 32).toArray) ∧ Kept (fun _ => False) w w' := by
  have ka : Kept (fun _ => False) w (w.alloc (.cells (zeros 32).toArray 24)) := (Kept.refl _ _).alloc _
  have HN := Lib.hid (nosta_none _ v (hv.kept ka))
  have hb := Blk.new w (zeros 32) 24
  have hz : zeros 32 = bytes8 (List.replicate 32 0) := zeros_bytes8 32
  have HB := Lib.hid (And.intro hb (hash_stored (H := List.replicate 32 0) hb (zeros_len 32) (by simp)))
  have HI := Lib.hid (show (Tryz.prog.info? 24).map (·.size) = some (zeros 32).length by rw [zeros_len]; exact info_h32)
  rw [← hz] at HB
  clear hb hv ka hz
  go_enter Tryz.func16, Tryz.ntmps16
  go_wp2_with (first | (go_at_call 43; refine HN.out.mono ?_; rintro e w' ⟨rfl, rfl⟩) | ((with_reducible show wpList _ _ _ (⟨none, .store _ (.tmp 2) _, _, _, _, _⟩ :: _) _ _); refine wpList_store_mid rfl 24 _ _ rfl w.heap.size 0 (zeros 32).toArray rfl rfl ?hth ?hi ?h1 ?_))
  case hth => exact HB.out.2.1
  case hi => first | exact HI.out | simpa using HI.out
  case h1 => exact all_oneCell_toArray (fun y hy => by rw [zeros_bytes8] at hy; exact u8_oneCell y hy)
  refine bodyPost_ret (HB.out.2.2.result rfl rfl Tryz.underlying24 rfl HI.out) rfl ⟨rfl, ?_⟩
  exact ((Kept.refl (fun _ => False) w).alloc _).then_ (kept_setCells _ _ _ _) (fun i hi e => by omega)
set_option maxRecDepth 100000 in
set_option maxHeartbeats 1000000 in
theorem nosta_publish (w : World) (v : Value) (hv : NoSta w v) :
    Calls Tryz.prog 13 #[v] w fun e w' => e = .returned (.tuple #[.agg signed0C.toArray, .int .i64 1]) ∧ Kept (fun _ => False) w w' := by
  have ka : Kept (fun _ => False) w (w.alloc (.cells signed0C.toArray 51)) := (Kept.refl _ _).alloc _
  have HN := Lib.hid (nosta_none _ v (hv.kept ka))
  have HQ := Lib.hid (store_signed w signed0_len)
  have HI := Lib.hid (show (Tryz.prog.info? 51).map (·.size) = some signed0C.length by rw [signed0_len]; exact info_signed)
  clear hv ka
  go_enter Tryz.func13, Tryz.ntmps13
  go_wp2_with (first | (go_at_call 43; refine HN.out.mono ?_; rintro e w' ⟨rfl, rfl⟩) | ((with_reducible show wpList _ _ _ (⟨none, .store _ (.tmp 2) _, _, _, _, _⟩ :: _) _ _); refine wpList_store_mid rfl 51 _ _ rfl w.heap.size 0 signed0C.toArray rfl rfl ?hth ?hi ?h1 ?_))
  case hth => exact HQ.out.1
  case hi => exact (by rw [List.size_toArray]; exact HI.out)
  case h1 => exact signed0_one
  exact bodyPost_ret (HQ.out.2.1.result2 rfl rfl Tryz.underlying51 rfl HI.out) rfl ⟨rfl, HQ.out.2.2⟩
abbrev src0 : List Value := [.slice none 0 0, .slice none 0 0, .slice none 0 0, .slice none 0 0]
theorem store_src (w4 : World) : (w4.alloc (.cells src0.toArray 57)).there w4.heap.size 0 src0.toArray.size ∧ Blk ((w4.alloc (.cells src0.toArray 57)).setCells w4.heap.size 0 src0) w4.heap.size src0 57 ∧ Kept (fun _ => False) w4 ((w4.alloc (.cells src0.toArray 57)).setCells w4.heap.size 0 src0) := by
  have hb := Blk.new w4 src0 57
  have h2 := hb.setCells 0 src0 (Nat.le_refl _)
  rw [splice_whole rfl] at h2
  exact ⟨hb.there 0 _ (Nat.le_refl _), h2, ((Kept.refl (fun _ => False) w4).alloc _).then_ (kept_setCells _ w4.heap.size 0 _) (fun i hi e => by omega)⟩
theorem src0_one : src0.toArray.all (·.oneCell') = true := four_one none none 0 0 0 0 0 0 |> fun _ => all_oneCell_toArray (fun v hv => by
  simp only [src0, List.mem_cons, List.not_mem_nil, or_false] at hv
  rcases hv with rfl | rfl | rfl | rfl <;> rfl)
set_option maxRecDepth 100000 in
set_option maxHeartbeats 1000000 in
theorem nosta_source (w : World) (v : Value) (hv : NoSta w v) :
    Calls Tryz.prog 14 #[v] w fun e w' => e = .returned (.agg src0.toArray) ∧ Kept (fun _ => False) w w' := by
  have ka : Kept (fun _ => False) w (w.alloc (.cells src0.toArray 57)) := (Kept.refl _ _).alloc _
  have HN := Lib.hid (nosta_none _ v (hv.kept ka))
  have HQ := Lib.hid (store_src w)
  clear hv ka
  go_enter Tryz.func14, Tryz.ntmps14
  go_wp2_with (first | (go_at_call 43; refine HN.out.mono ?_; rintro e w' ⟨rfl, rfl⟩) | ((with_reducible show wpList _ _ _ (⟨none, .store _ (.tmp 2) _, _, _, _, _⟩ :: _) _ _); refine wpList_store_mid rfl 57 _ _ rfl w.heap.size 0 src0.toArray rfl rfl ?hth ?hi ?h1 ?_))
  case hth => exact HQ.out.1
  case hi => kernel_rfl
  case h1 => exact src0_one
  exact bodyPost_ret (HQ.out.2.1.result rfl rfl Tryz.underlying57 rfl (by kernel_rfl)) rfl ⟨rfl, HQ.out.2.2⟩
theorem station_open_no (w : World) (v : Value) (hv : NoDisk w v) (seed : ByteArray) : Calls Tryz.prog 20 #[v, .string seed] w fun e w' => e = .returned (.tuple #[.pointer none, .int .i64 1]) ∧ w = w' := by
  have h1 := open_no w v hv seed
  go_enter Tryz.func20, Tryz.ntmps20
  go_wp2_with (go_at_call 52; refine h1.mono ?_; rintro e w' ⟨rfl, rfl⟩)
  go_ret2
  exact ⟨rfl, rfl⟩
theorem neq_zero39 (w : World) : (binOp .neq 24 (.agg (zeros 32).toArray) (.agg #[.int .u8 0, .int .u8 0, .int .u8 0, .int .u8 0, .int .u8 0, .int .u8 0, .int .u8 0, .int .u8 0, .int .u8 0, .int .u8 0, .int .u8 0, .int .u8 0, .int .u8 0, .int .u8 0, .int .u8 0, .int .u8 0, .int .u8 0, .int .u8 0, .int .u8 0, .int .u8 0, .int .u8 0, .int .u8 0, .int .u8 0, .int .u8 0, .int .u8 0, .int .u8 0, .int .u8 0, .int .u8 0, .int .u8 0, .int .u8 0, .int .u8 0, .int .u8 0])).run Tryz.prog w = .ok (.bool false) w := neq_hash w zeroRoot zeroRoot (by simp) (by simp)
def SNone39 (w : World) (v : Value) (n : Nat) (wr : World) : Prop := n ≤ 2 ∧ NoSta wr v ∧ Kept (fun _ => False) w wr
set_option maxRecDepth 100000 in
set_option maxHeartbeats 8000000 in
theorem stationNone_walk0 (s : ByteArray) (hs : s.size ≤ maxLen) (w : World) (ht : Tab w) :
    Calls Tryz.prog 4 #[.string s] w fun e w' => e = .returned (.bool true) ∧ Kept (fun _ => False) w w' := by
  have HT := Lib.hid ht
  have hs2 : s.size ≤ 9223372036854775807 := hs
  clear ht hs
  by_cases h3 : 300 < s.size
  · have x1 : decide ((300 : Int) < (s.size : Int)) = true := decide_eq_true (by omega)
    have x2 : decide (300 < s.size) = true := decide_eq_true h3
    have HST := Lib.hid (stationed_any w HT.out)
    clear h3
    go_enter Tryz.func4, Tryz.ntmps4
    go_wp2_with (go_at_call 12; refine HST.out.mono ?_; rintro e w1 ⟨rfl, hk⟩)
    go_ret
    exact ⟨rfl, hk⟩
  · have x1 : decide ((300 : Int) < (s.size : Int)) = false := decide_eq_false (by omega)
    have x2 : decide (300 < s.size) = false := decide_eq_false h3
    clear h3
    go_enter Tryz.func4, Tryz.ntmps4
    go_wp2_with fail
    go_loopw [3, 4] (fun v i wr => ∃ (u : Value) (n : Nat), u = v ∧ i = .int .i64 (n : Int) ∧ Hid (SNone39 w u n wr)) (fun _ i _ => 2 - (intOf i).toNat)
    case atStart => exact ⟨_, 0, rfl, rfl, Lib.hid ⟨by omega, Or.inl rfl, Kept.refl _ _⟩⟩
    case round =>
      obtain ⟨v, n, hvv, rfl, hrel⟩ := hrel
      subst hvv
      have hn := hrel.out.1
      rcases Nat.lt_or_ge n 2 with hlt | hge
      · have hx : decide ((n : Int) < 2) = true := decide_eq_true (by omega)
        have HP := Lib.hid (nosta_publish wr v hrel.out.2.1)
        go_upto_region 8 with (first
          | (go_at_call 13; refine HP.out.mono ?_; rintro e u1 ⟨rfl, hk1⟩; have HK1 := Lib.hid hk1; clear hk1)
          | ((with_reducible show wpList _ _ _ (⟨none, .store _ (.tmp 5) _, _, _, _, _⟩ :: _) _ _); refine wpList_store_mid rfl 51 _ _ rfl u1.heap.size 0 signed0C.toArray rfl rfl ?hta ?hia ?h1a ?_))
        case hta => exact (store_signed u1 signed0_len).1
        case hia => exact (by rw [List.size_toArray, signed0_len]; exact info_signed)
        case h1a => exact signed0_one
        generalize hw1 : World.setCells _ u1.heap.size 0 _ = w1
        have k1 : Kept (fun _ => False) wr w1 := HK1.out.trans (by rw [← hw1]; exact (store_signed u1 signed0_len).2.2)
        have HR1 : Hid (SNone39 w v n w1) := Lib.hid ⟨hrel.out.1, hrel.out.2.1.kept k1, hrel.out.2.2.trans k1⟩
        clear hw1 k1 hrel HK1 HP
        have HS := Lib.hid (nosta_source w1 v HR1.out.2.1)
        go_upto_region 9 with (first
          | (go_at_call 14; refine HS.out.mono ?_; rintro e u2 ⟨rfl, hk2⟩; have HK2 := Lib.hid hk2; clear hk2)
          | ((with_reducible show wpList _ _ _ (⟨none, .store _ (.tmp 7) _, _, _, _, _⟩ :: _) _ _); refine wpList_store_mid rfl 57 _ _ rfl u2.heap.size 0 src0.toArray rfl rfl ?htb ?hib ?h1b ?_))
        case htb => exact (store_src u2).1
        case hib => kernel_rfl
        case h1b => exact src0_one
        generalize hw2 : World.setCells _ u2.heap.size 0 _ = w2
        have q2 : Blk w2 u2.heap.size src0 57 ∧ Kept (fun _ => False) u2 w2 := by rw [← hw2]; exact (store_src u2).2
        have HR2 : Hid (SNone39 w v n w2) := Lib.hid ⟨HR1.out.1, HR1.out.2.1.kept (HK2.out.trans q2.2), HR1.out.2.2.trans (HK2.out.trans q2.2)⟩
        have HB2 := Lib.hid q2.1
        clear hw2 q2 HR1 HK2 HS
        generalize u2.heap.size = xb at *
        have ha := nosta_append w2 v s HR2.out.2.1
        have hc := fun w3 (k : Kept (fun _ => False) w2 w3) => nosta_count w3 v (HR2.out.2.1.kept k)
        have hl := fun w3 (k : Kept (fun _ => False) w2 w3) => nosta_log w3 v (HR2.out.2.1.kept k)
        have hu := fun w3 (k : Kept (fun _ => False) w2 w3) => nosta_used w3 v (HR2.out.2.1.kept k)
        have HF := Lib.hid (And.intro hc (And.intro hl hu))
        have HY := Lib.hid (nosta_key w2 v HR2.out.2.1)
        clear hc hl hu
        go_wp2_with (first
          | (go_at_call 15; refine ha.mono ?_; rintro e w' ⟨rfl, rfl⟩)
          | (go_at_call 16; refine HY.out.mono ?_; rintro e w3 ⟨rfl, hk3⟩; have HK3 := Lib.hid hk3; have b3 := HB2.out.kept hk3 id; have d0 := b3.cell (i := 0) rfl; have d2 := b3.cell (i := 2) rfl; clear b3 hk3; generalize hz : zeros 32 = z32; have neq := hz ▸ neq_zero39; clear hz)
          | (go_at_call 17; refine (HF.out.1 _ HK3.out).mono ?_; rintro e w' ⟨rfl, rfl⟩)
          | (go_at_call 18; refine (HF.out.2.1 _ HK3.out).mono ?_; rintro e w' ⟨rfl, rfl⟩)
          | (go_at_call 19; refine (HF.out.2.2 _ HK3.out).mono ?_; rintro e w' ⟨rfl, rfl⟩))
        go_roundw
        case rel => exact ⟨_, n + 1, rfl, by go_num, Lib.hid ⟨by omega, Or.inr ⟨_, rfl, (Blk.new w3 [.pointer none, .pointer none, .slice none 0 0] 66).cell (i := 0) rfl⟩, (HR2.out.2.2.trans HK3.out).alloc _⟩⟩
        case measure => simp [intOf]; omega
      · have hx : decide ((n : Int) < 2) = false := decide_eq_false (by omega)
        have HK := Lib.hid hrel.out.2.2
        have hst := stationed_any wr (HT.out.same HK.out)
        have hop := station_open_no wr (.pointer none) (Or.inl rfl) ⟨#[115]⟩
        clear hrel
        go_wp2_with (first
          | (go_at_call 20; refine hop.mono ?_; rintro e w' ⟨rfl, rfl⟩)
          | (go_at_call 12; refine hst.mono ?_; rintro e w5 ⟨rfl, k5⟩))
        go_ret
        exact ⟨rfl, HK.out.trans k5⟩
theorem stationNone_walk (s : ByteArray) (W : World) (ht : Tab W) (hs : s.size ≤ maxLen) :
    Calls Tryz.prog 4 #[.string s] W fun e w' => e = .returned (.bool true) ∧ Below W.heap.size W w' :=
  (stationNone_walk0 s hs W ht).mono (fun e w' ⟨he, hk⟩ => ⟨he, hk.below (fun _ _ => id) (Nat.le_refl _)⟩)
end Go.Proofs.YtpmdlkogccojmaaGreatDoor
