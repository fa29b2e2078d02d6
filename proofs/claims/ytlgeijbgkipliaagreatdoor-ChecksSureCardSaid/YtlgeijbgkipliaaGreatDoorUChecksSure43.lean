/- RRng Pt1 Pt2 Pt4 Pt5 Pt3 -/
import Derived.Test.YtlgeijbgkipliaaGreatDoorUChecksSure34
import Derived.Test.YtlgeijbgkipliaaGreatDoorUChecksSure41
import Derived.Test.YtlgeijbgkipliaaGreatDoorUChecksSure29
import Derived.Test.YtlgeijbgkipliaaGreatDoorUChecksSure32
import Derived.Test.YtlgeijbgkipliaaGreatDoorUChecksSure11
set_option linter.unusedVariables false
set_option linter.unusedSimpArgs false
namespace Go.Proofs.YtlgeijbgkipliaaGreatDoor
open Go.RowKit
set_option maxRecDepth 100000 in
set_option maxHeartbeats 2000000 in
theorem rvalid_any (w : World) (size : Int) (a : Option Addr) (n c : Nat) (hn : n ≤ 1000000) (hs : -9223372036854775808 ≤ size ∧ size ≤ 9223372036854775807) :
    Calls Tryz.prog 108 #[rngV size (.slice a n c)] w fun e w' => e = .returned (.bool (decide (rngOk size n))) ∧ Kept (fun _ => False) w w' := by
  by_cases h0 : 0 ≤ size
  · have x1 : decide (0 ≤ size) = true := decide_eq_true h0
    by_cases h1 : size ≤ 4096
    · have x2 : decide (size ≤ 4096) = true := decide_eq_true h1
      obtain ⟨k, rfl⟩ : ∃ k : Nat, size = (k : Int) := ⟨size.toNat, by omega⟩
      have hk : k ≤ 4096 := by omega
      have HO := Lib.hid (fun w' => rones_any w' k hk)
      have HE := Lib.hid (show decide (rngOk (k : Int) n) = decide (n = ones k) from by
        rw [decide_eq_decide]; unfold rngOk; rw [Int.toNat_natCast]; omega)
      rw [HE.out]
      generalize ones k = o at *
      clear h0 h1 hs hk HE
      go_enter Tryz.func108, Tryz.ntmps108
      go_wp2_with fail
      go_quiet ((first | (go_at_call 136; with_reducible exact quiet_on (HO.out _)) | (go_at_call 136; with_reducible exact quiet_at (HO.out _))))
      go_wp2_with fail
      go_ret
      exact ⟨by simp [beq_cast], kept_drewN _ _ _⟩
    · have x2 : decide (size ≤ 4096) = false := decide_eq_false h1
      have HE := Lib.hid (show decide (rngOk size n) = false from decide_eq_false (fun q => h1 q.2.1))
      rw [HE.out]
      clear h0 h1 hs
      go_enter Tryz.func108, Tryz.ntmps108
      go_wp2_with fail
      go_quiet (fail)
      go_wp2_with fail
      go_ret
      exact ⟨by simp, kept_drewN _ _ _⟩
  · have x1 : decide (0 ≤ size) = false := decide_eq_false h0
    have HE := Lib.hid (show decide (rngOk size n) = false from decide_eq_false (fun q => h0 q.1))
    rw [HE.out]
    clear h0 hs
    go_enter Tryz.func108, Tryz.ntmps108
    go_wp2_with fail
    go_quiet (fail)
    go_wp2_with fail
    go_ret
    exact ⟨by simp, kept_drewN _ _ _⟩
theorem rref0 (w : World) (a : Option Addr) (c : Nat) :
    Calls Tryz.prog 69 #[rngV 0 (.slice a 0 c)] w fun e w' => e = .returned (.tuple #[hashV (rootH []), .int .i64 0]) ∧ Kept (fun _ => False) w w' := by
  obtain ⟨W1, hW1⟩ : ∃ W1, W1 = rootW w 0 (.slice a 0 c) := ⟨_, rfl⟩
  obtain ⟨i1, i2, i3⟩ := root_start w 0 (.slice a 0 c) hW1 (Kept.refl _ _)
  have c0 := i1.cell (i := 0) rfl
  have c1 := i1.cell (i := 1) rfl
  have hV := rvalid_any W1 0 a 0 c (by omega) (by omega)
  rw [decide_eq_true (show rngOk 0 0 from ⟨by omega, by omega, by decide⟩)] at hV
  have HV := Lib.hid hV
  have HR := Lib.hid (fun w1 => rsum_any w1 ⟨#[]⟩ (by decide))
  have HI := Lib.hid (And.intro i2 i3)
  have hl32 : (shaF []).length = 32 := shaF_len _
  have hsz : (Tryz.prog.info? 57).map (·.size) = some (bytes8 (shaF [])).length := by rw [bytes8_len, hl32]; exact info_h32
  have HSZ := Lib.hid (And.intro hsz hl32)
  have HQ := Lib.hid (show shaF [] = rootH [] from rfl)
  clear i1 i2 i3 hV hsz hl32
  go_enter Tryz.func69, Tryz.ntmps69
  go_upto_region 1 with (fail)
  generalize hWx : World.alloc _ _ = Wx
  obtain rfl : W1 = Wx := by rw [hW1, ← hWx]; rfl
  clear hW1 hWx
  generalize shaF [] = Q at *
  go_wp2_with (first
    | (go_at_call 108; refine HV.out.mono ?_; rintro e w1 ⟨rfl, hk1⟩; have c01 := hk1.cell c0 id; have c11 := hk1.cell c1 id; have HK1 := Lib.hid hk1; clear hk1)
    | (go_at_call 109; refine (HR.out _).mono ?_; rintro e w2 ⟨rfl, hk2⟩; have HK2 := Lib.hid (HK1.out.trans hk2); clear hk2)
    | ((with_reducible show wpList _ _ _ (⟨none, .store _ (.tmp 2) _, _, _, _, _⟩ :: _) _ _); refine wpList_store_mid rfl 57 _ _ rfl (w.heap.size + 1) 0 (bytes8 Q).toArray rfl rfl ?ht1 ?hi1 ?h11 ?_))
  case ht1 =>
    have e : (bytes8 Q).toArray.size = 32 := by rw [List.size_toArray, bytes8_len]; exact HSZ.out.2
    have := (HI.out.1.kept HK2.out id).there 0 32 (by simp [zeros_len])
    first
    | (rw [e]; exact this)
    | (rw [List.size_toArray] at e; rw [e]; exact this)
  case hi1 => first
    | exact (by rw [List.size_toArray]; exact HSZ.out.1)
    | simpa using HSZ.out.1
  case h11 => first
    | exact all_oneCell_toArray u8_oneCell
    | exact fun v hv => u8_oneCell v hv
  have b2 := HI.out.1.kept HK2.out id
  have hs := b2.setCells 0 (bytes8 Q) (by rw [bytes8_len, HSZ.out.2, zeros_len]; omega)
  rw [splice_whole (by rw [bytes8_len, HSZ.out.2, zeros_len])] at hs
  refine bodyPost_ret (v := .tuple #[hashV Q, .int .i64 0]) (hs.result2 (p := 2) (u := 3) rfl rfl Tryz.underlying57 rfl HSZ.out.1) rfl ⟨by rw [HQ.out], (HI.out.2.trans HK2.out).then_ (kept_setCells _ _ _ _) (fun i hi e => by omega)⟩
structure RRJ (w : World) (ob rb : Nat) (size : Int) (v : Value) (O : By) (W : World) : Prop where
  out : Blk W ob (bytes8 O) 57
  res : Blk W (w.heap.size + 1) (zeros 32) 57
  rng : Blk W rb [.int .i64 size, v] 55
  kept : Kept (fun _ => False) w W
  low : rb = w.heap.size ∧ w.heap.size + 1 < ob
theorem RRJ.turn {w W W' : World} {ob rb : Nat} {size : Int} {v : Value} {O : By} (h : RRJ w ob rb size v O W) (hk : Kept (fun _ => False) W W') : RRJ w ob rb size v O W' :=
  ⟨h.out.kept hk id, h.res.kept hk id, h.rng.kept hk id, h.kept.trans hk, h.low⟩
theorem RRJ.put {w W : World} {ob rb : Nat} {size : Int} {v : Value} {O O' : By} (h : RRJ w ob rb size v O W) (h1 : O.length = 32) (h2 : O'.length = 32) :
    W.there ob 0 (bytes8 O').toArray.size ∧ RRJ w ob rb size v O' (W.setCells ob 0 (bytes8 O')) := by
  have e1 : (bytes8 O).length = 32 := by rw [bytes8_len, h1]
  have e2 : (bytes8 O').length = 32 := by rw [bytes8_len, h2]
  have hs := h.out.setCells 0 (bytes8 O') (by omega)
  rw [splice_whole (by omega)] at hs
  have k2 := kept_setCells W ob 0 (bytes8 O')
  have hl := h.low
  exact ⟨h.out.there 0 _ (by rw [List.size_toArray]; omega), hs, h.res.kept k2 (by omega), h.rng.kept k2 (by omega), h.kept.then_ k2 (fun i hi e => by omega), h.low⟩
def RRS (rb g o : Nat) (v : Value) (x : By) (W : World) : Prop := W.cell? ⟨rb, 1, none⟩ = some v ∧ W.rangeAt g o (bytes8 x)
theorem RRS.turn {Z : Nat → Prop} {W W' : World} {rb g o : Nat} {v : Value} {x : By} (h : RRS rb g o v x W) (hk : Kept Z W W') (h1 : ¬ Z rb) (h2 : ¬ Z g) : RRS rb g o v x W' :=
  ⟨hk.cell h.1 h1, fun j u hu => hk.cell (h.2 j u hu) h2⟩
set_option maxRecDepth 100000 in
set_option maxHeartbeats 8000000 in
theorem rrefS (w : World) (size : Int) (a : Option Addr) (c : Nat) (ini : List By) (la : By) (hv : View w 32 (.slice a (ini.length + 1) c) (hcells (ini ++ [la]))) (h32 : ∀ x ∈ ini ++ [la], x.length = 32) (hlen : ini.length ≤ 100000) (hok : rngOk size (ini.length + 1)) (ht : Tab w) :
    Calls Tryz.prog 69 #[rngV size (.slice a (ini.length + 1) c)] w fun e w' => e = .returned (.tuple #[hashV (rootH (ini ++ [la])), .int .i64 0]) ∧ Kept (fun _ => False) w w' := by
  obtain ⟨W1, hW1⟩ : ∃ W1, W1 = rootW w size (.slice a (ini.length + 1) c) := ⟨_, rfl⟩
  obtain ⟨i1, i2, i3⟩ := root_start w size (.slice a (ini.length + 1) c) hW1 (Kept.refl _ _)
  have c0 := i1.cell (i := 0) rfl
  have c1 := i1.cell (i := 1) rfl
  have hV := rvalid_any W1 size a (ini.length + 1) c (by omega) (by obtain ⟨q1, q2, _⟩ : 0 ≤ size ∧ size ≤ 4096 ∧ ini.length + 1 = ones size.toNat := hok; omega)
  rw [decide_eq_true hok] at hV
  have HV := Lib.hid hV
  have hv0 := hv
  obtain ⟨_, _, _, ev, hm, hml, hcl, _, hcl2⟩ := hv
  cases ev
  obtain ⟨g, off, rfl, hg, hcc⟩ := hcl2 (Nat.succ_pos _)
  have HRG := Lib.hid (fun (W : World) (hk : Kept (fun _ => False) w W) (q : Nat) (x : By) (hx : (ini ++ [la])[q]? = some x) => show W.rangeAt g (off + q * 32) (bytes8 x) from fun j v hv => hk.cell (hash_range (w := w) h32 hcc hx j v hv) id)
  have hla : la.length = 32 := h32 la (by simp)
  have HI := Lib.hid (And.intro i1 (And.intro i2 i3))
  have HH := Lib.hid (And.intro hv0 (And.intro h32 (And.intro ht (And.intro hla hg))))
  have hL : (Tryz.prog.info? 57).map (·.size) = some (bytes8 la).length := by rw [bytes8_len, hla]; exact info_h32
  have HL := Lib.hid hL
  have hrl := HRG.out W1 i3 ini.length la (by simp)
  have z1 : ((ini.length + 1 : Nat) : Int) ≠ 0 := by omega
  have z2 : decide (((ini.length + 1 : Nat) : Int) = 0) = false := decide_eq_false z1
  have z3 : (((ini.length + 1 : Nat) : Int) == 0) = false := beq_eq_false_iff_ne.2 z1
  have HRL := Lib.hid hrl
  clear i1 i2 i3 hv0 h32 ht hok hV hcc hcl2 hm hla hg hL hrl z1
  go_enter Tryz.func69, Tryz.ntmps69
  go_upto_region 1 with (fail)
  generalize hWx : World.alloc _ _ = Wx
  obtain rfl : W1 = Wx := by rw [hW1, ← hWx]; rfl
  clear hW1 hWx
  go_upto_region 6 with (go_at_call 108; refine HV.out.mono ?_; rintro e w1 ⟨rfl, hk1⟩; have c01 := hk1.cell c0 id; have c11 := hk1.cell c1 id; have HK1 := Lib.hid hk1; clear hk1)
  have hbo := Blk.new w1 (zeros 32) 57
  have HB := Lib.hid (And.intro (show w1.rangeAt g (off + ini.length * 32) (bytes8 la) from fun j v hv => HK1.out.cell (HRL.out j v hv) id) (And.intro (hbo.there 0 32 (by simp [zeros_len])) (show RRJ w w1.heap.size w.heap.size size (.slice (some ⟨g, off, none⟩) (ini.length + 1) c) la ((w1.alloc (.cells (zeros 32).toArray 57)).setCells w1.heap.size 0 (bytes8 la)) from by
    have h1 := hbo.setCells 0 (bytes8 la) (by rw [bytes8_len, HH.out.2.2.2.1, zeros_len]; omega)
    rw [splice_whole (by rw [bytes8_len, HH.out.2.2.2.1, zeros_len])] at h1
    have k2 : Kept (fun _ => False) w1 ((w1.alloc (.cells (zeros 32).toArray 57)).setCells w1.heap.size 0 (bytes8 la)) := ((Kept.refl (fun _ => False) w1).alloc _).then_ (kept_setCells _ _ _ _) (fun i hi e => by omega)
    have hz := (HI.out.2.1.kept HK1.out id).lt
    exact ⟨h1, (HI.out.2.1.kept HK1.out id).kept k2 id, (HI.out.1.kept HK1.out id).kept k2 id, (HI.out.2.2.trans HK1.out).trans k2, rfl, by omega⟩)))
  clear hbo
  go_upto_region 7 with (first
    | ((with_reducible show wpList _ _ _ (⟨some 22, _, _, _, _, _⟩ :: _) _ _); refine wpList_load_mid rfl 57 _ rfl g (off + ini.length * 32) rfl (bytes8 la) _ HB.out.1 Tryz.underlying57 rfl HL.out ?_)
    | ((with_reducible show wpList _ _ _ (⟨none, .store _ (.tmp 5) _, _, _, _, _⟩ :: _) _ _); refine wpList_store_mid rfl 57 _ _ rfl w1.heap.size 0 (bytes8 la).toArray rfl rfl ?ht1 ?hi1 ?h11 ?_))
  case ht1 =>
    have e : (bytes8 la).toArray.size = 32 := by rw [List.size_toArray, bytes8_len]; exact HH.out.2.2.2.1
    first
    | (rw [e]; exact HB.out.2.1)
    | (rw [List.size_toArray] at e; rw [e]; exact HB.out.2.1)
  case hi1 => first
    | exact (by rw [List.size_toArray]; exact HL.out)
    | simpa using HL.out
  case h11 => first
    | exact all_oneCell_toArray u8_oneCell
    | exact fun v hv => u8_oneCell v hv
  have HJ := Lib.hid HB.out.2.2
  generalize hWW : World.setCells _ _ _ _ = W2
  have HJ2 : Hid (RRJ w w1.heap.size w.heap.size size (.slice (some ⟨g, off, none⟩) (ini.length + 1) c) la W2) := Lib.hid (by rw [← hWW]; exact HJ.out)
  clear hWW HJ HB
  clear c01 c11 c0 c1 HRL HK1 HV HL z2 z3
  have hN := Lib.hid (fun W x (O : By) (hx : x.length = 32) (hO : O.length = 32) (hk : Kept (fun _ => False) w W) => rnode_any W x O hx hO (HH.out.2.2.1.same hk))
  go_wp2_with fail
  go_loopw [6] (fun y wr => ∃ (i : Int), y = .int .i64 i ∧ -1 ≤ i ∧ i ≤ 100000 ∧ Hid (∃ k : Nat, i = (k : Int) - 1 ∧ k ≤ ini.length ∧ ((ini.drop k).foldr nodeF la).length = 32 ∧ RRJ w w1.heap.size w.heap.size size (.slice (some ⟨g, off, none⟩) (ini.length + 1) c) ((ini.drop k).foldr nodeF la) wr)) (fun y _ => (intOf y + 1).toNat)
  case atStart => exact ⟨(ini.length : Int) - 1, by go_num, by omega, by omega, Lib.hid ⟨ini.length, rfl, Nat.le_refl _, by rw [List.drop_length]; exact HH.out.2.2.2.1, by rw [List.drop_length]; exact HJ2.out⟩⟩
  case round =>
    obtain ⟨i, rfl, hi1, hi2, HR⟩ := hrel
    by_cases h0 : 0 ≤ i
    · have q1 : decide (0 ≤ i) = true := decide_eq_true h0
      obtain ⟨m, rfl⟩ : ∃ m : Nat, i = (m : Int) := ⟨i.toNat, by omega⟩
      obtain ⟨x, HX⟩ : ∃ x : By, Hid (ini[m]? = some x ∧ m + 1 ≤ ini.length ∧ x.length = 32 ∧ ((ini.drop (m + 1)).foldr nodeF la).length = 32 ∧ RRJ w w1.heap.size w.heap.size size (.slice (some ⟨g, off, none⟩) (ini.length + 1) c) ((ini.drop (m + 1)).foldr nodeF la) wr) := by
        obtain ⟨k, hk, hkl, hO, hJ⟩ := HR.out
        obtain rfl : k = m + 1 := by omega
        have hx : ini[m]? = some ini[m] := List.getElem?_eq_getElem (by omega)
        exact ⟨ini[m], Lib.hid ⟨hx, hkl, HH.out.2.1 _ (by simp), hO, hJ⟩⟩
      have HE := Lib.hid (show nodeF x ((ini.drop (m + 1)).foldr nodeF la) = (ini.drop m).foldr nodeF la from by
        rw [List.drop_eq_getElem_cons (show m < ini.length by have := HX.out.2.1; omega), List.foldr_cons]
        have h1 := HX.out.1
        rw [List.getElem?_eq_getElem (show m < ini.length by have := HX.out.2.1; omega)] at h1
        rw [Option.some.inj h1])
      have HLR := Lib.hid (And.intro (show RRS w.heap.size g (off + m * 32) (.slice (some ⟨g, off, none⟩) (ini.length + 1) c) x wr from
        ⟨HX.out.2.2.2.2.rng.cell (i := 1) rfl, HRG.out wr HX.out.2.2.2.2.kept m x (by rw [List.getElem?_append_left (by have := HX.out.2.1; omega)]; exact HX.out.1)⟩) HX.out.2.2.2.2)
      have hmb : (m : Int) < (ini.length : Int) + 1 := by have := HX.out.2.1; omega
      have HX2 := Lib.hid (And.intro HX.out.2.1 (And.intro HX.out.2.2.1 HX.out.2.2.2.1))
      clear HR HX h0
      generalize (ini.drop (m + 1)).foldr nodeF la = O at *
      go_upto_region 10 with (fail)
      have hx32 := HX2.out.2.1
      have hO32 := HX2.out.2.2
      have ix : (Tryz.prog.info? 57).map (·.size) = some (bytes8 x).length := by rw [bytes8_len, hx32]; exact info_h32
      have io : (Tryz.prog.info? 57).map (·.size) = some (bytes8 O).length := by rw [bytes8_len, hO32]; exact info_h32
      have hl32 : (nodeF x O).length = 32 := nodeF_len _ _
      have ih : (Tryz.prog.info? 57).map (·.size) = some (bytes8 (nodeF x O)).toArray.size := by rw [List.size_toArray, bytes8_len, hl32]; exact info_h32
      have IX := Lib.hid (And.intro ix (And.intro io ih))
      clear ix io ih
      have hJd := Lib.hid (HLR.out.2.turn (Kept.refl _ _).drew)
      refine wp_region_held_drew (S := RRS w.heap.size g (off + m * 32) (.slice (some ⟨g, off, none⟩) (ini.length + 1) c) x) (by kernel_rfl) (HLR.out.1.turn (Z := fun _ => False) (Kept.refl _ _).drew id id) (fun hH0 => ?_)
      clear HLR
      generalize World.drew wr = Wd at *
      refine tk 0 rfl (fun _ _ _ h => h) hH0 ?_
      refine tk (v := .slice (some ⟨g, off, none⟩) (ini.length + 1) c) 1 rfl (fun _ _ _ h => h) hH0 ?_ (hy := Or.inl ⟨by rfl, fun w hSw => by have hq := hSw.1; clear hSw; go_simp⟩)
      refine tk 2 rfl (fun _ _ _ h => h) hH0 ?_
      refine tk (v := .pointer (some ⟨g, off + m * 32, none⟩)) 3 rfl (fun _ _ _ h => h) hH0 ?_
      refine tky 4 rfl (fun _ _ _ h => h) (yieldsIf_load_mid (by rfl) _ _ rfl _ _ rfl (bytes8 x) _ (fun w h => h.2) Tryz.underlying57 rfl IX.out.1) hH0 ?_
      refine rd1 5 (fun K hK => ?_)
      rw [if_pos (by rfl)]
      refine wp_load_mid _ _ rfl w1.heap.size 0 rfl (bytes8 O) _ hJd.out.out.range0 Tryz.underlying57 rfl IX.out.2.1 ?_
      refine hK.out _ _ hH0 (fun hH1 => ?_)
      clear hK K hH0
      try simp only [lyA, lyB, lyC, lyD]
      refine rd1 6 (fun K hK => ?_)
      go_simp
      refine (hN.out Wd x O hx32 hO32 hJd.out.kept).mono ?_
      rintro e w5 ⟨rfl, hk5⟩
      have hJ5 := hJd.out.turn hk5
      refine hK.out _ _ (hH1.turn hk5 id id) (fun hH3 => ?_)
      clear hK K hH1 hk5 hJd
      try simp only [lyA, lyB, lyC, lyD]
      refine rd1 7 (fun K hK => ?_)
      rw [if_pos (by rfl)]
      have hst := hJ5.put hO32 hl32
      refine wp_store_mid _ _ _ rfl w1.heap.size 0 (bytes8 (nodeF x O)).toArray rfl rfl hst.1 IX.out.2.2 (all_oneCell_toArray u8_oneCell) ?_
      simp only [Act.put]
      have hg := HH.out.2.2.2.2
      have hlw := hJ5.low.2
      refine hK.out _ _ (hH3.turn (kept_setCells _ _ _ _) (by omega) (by omega)) (fun hH4 => ?_)
      have HJ6 := Lib.hid hst.2
      clear hK K hJ5 hst hH3 hH4 hg hlw
      refine wpAnyH_done (by kernel_rfl) ?_ _
      go_wp2_with fail
      go_roundw
      case rel => exact ⟨(m : Int) - 1, by go_num, by omega, by omega, Lib.hid ⟨m, rfl, by have := HX2.out.1; omega, by rw [← HE.out]; exact hl32, by rw [← HE.out]; exact HJ6.out⟩⟩
      case measure => simp [intOf]
    · obtain rfl : i = -1 := by omega
      have HJ := Lib.hid (show RRJ w w1.heap.size w.heap.size size (.slice (some ⟨g, off, none⟩) (ini.length + 1) c) (ini.foldr nodeF la) wr ∧ (ini.foldr nodeF la).length = 32 from by
        obtain ⟨k, hk, hkl, hO, hJ⟩ := HR.out
        obtain rfl : k = 0 := by omega
        exact ⟨hJ, hO⟩)
      have HQ := Lib.hid (show ini.foldr nodeF la = rootH (ini ++ [la]) from (rootH_snoc ini la).symm)
      clear HR h0
      generalize ini.foldr nodeF la = Q at *
      have iq : (Tryz.prog.info? 57).map (·.size) = some (bytes8 Q).length := by rw [bytes8_len, HJ.out.2]; exact info_h32
      have hs := HJ.out.1.res.setCells 0 (bytes8 Q) (by rw [bytes8_len, HJ.out.2, zeros_len]; omega)
      rw [splice_whole (by rw [bytes8_len, HJ.out.2, zeros_len])] at hs
      have HP := Lib.hid (And.intro iq (And.intro (HJ.out.1.res.there 0 (bytes8 Q).toArray.size (by rw [List.size_toArray, bytes8_len, HJ.out.2, zeros_len]; omega)) hs))
      clear iq hs
      go_wp2_with (first
        | ((with_reducible show wpList _ _ _ (⟨some 36, _, _, _, _, _⟩ :: _) _ _); refine wpList_load_mid rfl 57 _ rfl w1.heap.size 0 rfl (bytes8 Q) _ HJ.out.1.out.range0 Tryz.underlying57 rfl HP.out.1 ?_)
        | ((with_reducible show wpList _ _ _ (⟨none, .store _ (.tmp 2) _, _, _, _, _⟩ :: _) _ _); refine wpList_store_mid rfl 57 _ _ rfl (w.heap.size + 1) 0 (bytes8 Q).toArray rfl rfl HP.out.2.1 (by rw [List.size_toArray]; exact HP.out.1) (all_oneCell_toArray u8_oneCell) ?_))
      exact bodyPost_ret (v := .tuple #[hashV Q, .int .i64 0]) (HP.out.2.2.result2 (p := 2) (u := 3) rfl rfl Tryz.underlying57 rfl HP.out.1) rfl ⟨by rw [HQ.out], HJ.out.1.kept.then_ (kept_setCells _ _ _ _) (fun i hi e => by omega)⟩
theorem rref_any (w : World) (size : Int) (a : Option Addr) (c : Nat) (hs : List By) (hv : View w 32 (.slice a hs.length c) (hcells hs)) (h32 : ∀ x ∈ hs, x.length = 32) (hlen : hs.length ≤ 100000) (hok : rngOk size hs.length) (ht : Tab w) :
    Calls Tryz.prog 69 #[rngV size (.slice a hs.length c)] w fun e w' => e = .returned (.tuple #[hashV (rootH hs), .int .i64 0]) ∧ Kept (fun _ => False) w w' := by
  rcases hs.eq_nil_or_concat with rfl | ⟨ini, la, rfl⟩
  · obtain ⟨q1, q2, q3⟩ : 0 ≤ size ∧ size ≤ 4096 ∧ 0 = ones size.toNat := hok
    have : size.toNat = 0 := ones_zero q3.symm (by omega)
    obtain rfl : size = 0 := by omega
    exact rref0 w a c
  · rw [List.concat_eq_append] at *
    have e : (ini ++ [la]).length = ini.length + 1 := by simp
    rw [e] at hv hlen hok ⊢
    exact rrefS w size a c ini la hv h32 (by omega) hok ht
end Go.Proofs.YtlgeijbgkipliaaGreatDoor

namespace Go.Proofs.YtlgeijbgkipliaaGreatDoor
open Go.RowKit
def h3P (a b c : Nat) : By := UInt8.ofNat a :: UInt8.ofNat b :: UInt8.ofNat c :: List.replicate 29 0
theorem h3P_len (a b c : Nat) : (h3P a b c).length = 32 := by simp [h3P]
theorem h3P_cells {a b c : Nat} (ha : a < 256) (hb : b < 256) (hc : c < 256) : bytes8 (h3P a b c) = .int .u8 (a : Int) :: .int .u8 (b : Int) :: .int .u8 (c : Int) :: List.replicate 29 (.int .u8 0) := by
  unfold h3P bytes8
  rw [List.map_cons, List.map_cons, List.map_cons, List.map_replicate, UInt8.toNat_ofNat_of_lt' ha, UInt8.toNat_ofNat_of_lt' hb, UInt8.toNat_ofNat_of_lt' hc]
  rfl
def hbits (n : Nat) : Nat → List Nat
  | 0 => []
  | j + 1 => hbits n j ++ if n / 2 ^ (12 - j) % 2 = 1 then [12 - j] else []
theorem hbits_len (n j : Nat) : (hbits n j).length ≤ j := by
  induction j with
  | zero => exact Nat.le_refl _
  | succ j ih => rw [hbits, List.length_append]; split <;> simp <;> omega
set_option maxRecDepth 100000 in
theorem hbits_ones_all : ∀ x : Fin 4097, (hbits x 13).length = ones x := by decide +kernel
theorem hbits_ones {n : Nat} (h : n ≤ 4096) : (hbits n 13).length = ones n := hbits_ones_all ⟨n, by omega⟩
def ptSize (sz : Nat) : Nat := sz % 4097
def ptHs (sz sd : Nat) : List By := (hbits (ptSize sz) 13).map fun i => h3P sd i 3
def ptRoot (sz sd : Nat) : By := rootH (ptHs sz sd)
def ptS3 (sz sd : Nat) : ByteArray := ⟨#[UInt8.ofNat sd, 1, UInt8.ofNat (sz % 256)]⟩
def ptSig (sz sd : Nat) : ByteArray := (repB (ptS3 sz sd) 5462).extract 0 16384
def ptPath (sd : Nat) : List By := [h3P 1 0 0, h3P sd 0 0, h3P 3 0 0]
theorem ptSize_le (sz : Nat) : ptSize sz ≤ 4096 := by unfold ptSize; omega
theorem ptHs_32 {sz sd : Nat} : ∀ x ∈ ptHs sz sd, x.length = 32 := by
  intro x hx
  unfold ptHs at hx
  rw [List.mem_map] at hx
  obtain ⟨i, _, rfl⟩ := hx
  exact h3P_len _ _ _
theorem ptPath_32 {sd : Nat} : ∀ x ∈ ptPath sd, x.length = 32 := by
  intro x hx
  simp [ptPath] at hx
  rcases hx with rfl | rfl | rfl <;> exact h3P_len _ _ _
theorem ptHs_ok (sz sd : Nat) : rngOk (ptSize sz : Int) (ptHs sz sd).length := by
  have := ptSize_le sz
  refine ⟨by omega, by omega, ?_⟩
  rw [Int.toNat_natCast, ptHs, List.length_map, hbits_ones this]
theorem ptHs_len (sz sd : Nat) : (ptHs sz sd).length ≤ 13 := by rw [ptHs, List.length_map]; exact hbits_len _ _
theorem ptRoot_32 (sz sd : Nat) : (ptRoot sz sd).length = 32 := rootH_len ptHs_32
theorem ptS3_size (sz sd : Nat) : (ptS3 sz sd).size = 3 := rfl
theorem ptSig_size (sz sd : Nat) : (ptSig sz sd).size = 16384 := by
  have h1 : (repB (ptS3 sz sd) 5462).size = 16386 := by rw [repB_size, ptS3_size]
  unfold ptSig
  rw [ByteArray.size_extract, h1]
  rfl
end Go.Proofs.YtlgeijbgkipliaaGreatDoor

namespace Go.Proofs.YtlgeijbgkipliaaGreatDoor
open Go.RowKit
abbrev ptC (sz sd : Nat) : List Value := [.int .u16 (sz : Int), .int .u8 (sd : Int)]
def ptPre (sz sd j : Nat) : List By := (hbits (ptSize sz) j).map fun i => h3P sd i 3
theorem ptPre_32 {sz sd j : Nat} : ∀ x ∈ ptPre sz sd j, x.length = 32 := by
  intro x hx
  unfold ptPre at hx
  rw [List.mem_map] at hx
  obtain ⟨i, _, rfl⟩ := hx
  exact h3P_len _ _ _
theorem ptPre_len {sz sd j : Nat} : (ptPre sz sd j).length ≤ j := by rw [ptPre, List.length_map]; exact hbits_len _ _
structure PtJ (w : World) (sz sd j : Nat) (v : Value) (W : World) : Prop where
  pt : Blk W w.heap.size (ptC sz sd) 52
  o1 : Blk W (w.heap.size + 1) [.int .i64 0, .slice none 0 0] 55
  o2 : Blk W (w.heap.size + 2) signZ 63
  r : Blk W (w.heap.size + 3) [.int .i64 (ptSize sz : Int), v] 55
  row : Row W 57 32 v (hcells (ptPre sz sd j))
  own : ∀ k, v.ownBlock = some k → w.heap.size + 4 ≤ k
  kept : Kept (fun _ => False) w W
theorem PtJ.turn {w W W' : World} {sz sd j : Nat} {v : Value} (h : PtJ w sz sd j v W) (hk : Kept (fun _ => False) W W') : PtJ w sz sd j v W' :=
  ⟨h.pt.kept hk id, h.o1.kept hk id, h.o2.kept hk id, h.r.kept hk id, h.row.kept hk (fun _ _ => id), h.own, h.kept.trans hk⟩
theorem pt_start (w : World) (sz sd : Nat) : PtJ w sz sd 0 (.slice none 0 0) ((((w.alloc (.cells (ptC sz sd).toArray 52)).alloc (.cells #[.int .i64 0, .slice none 0 0] 55)).alloc (.cells signZ.toArray 63)).alloc (.cells #[.int .i64 (ptSize sz : Int), .slice none 0 0] 55)) := by
  obtain ⟨w1, e1⟩ : ∃ x, x = w.alloc (.cells (ptC sz sd).toArray 52) := ⟨_, rfl⟩
  obtain ⟨w2, e2⟩ : ∃ x, x = w1.alloc (.cells [.int .i64 0, .slice none 0 0].toArray 55) := ⟨_, rfl⟩
  obtain ⟨w3, e3⟩ : ∃ x, x = w2.alloc (.cells signZ.toArray 63) := ⟨_, rfl⟩
  obtain ⟨w4, e4⟩ : ∃ x, x = w3.alloc (.cells [.int .i64 (ptSize sz : Int), .slice none 0 0].toArray 55) := ⟨_, rfl⟩
  have s1 : w1.heap.size = w.heap.size + 1 := by rw [e1, World.size_alloc]
  have s2 : w2.heap.size = w.heap.size + 2 := by rw [e2, World.size_alloc, s1]
  have s3 : w3.heap.size = w.heap.size + 3 := by rw [e3, World.size_alloc, s2]
  have b1 : Blk w1 w.heap.size (ptC sz sd) 52 := by rw [e1]; exact Blk.new w _ _
  have b2 : Blk w2 (w.heap.size + 1) [.int .i64 0, .slice none 0 0] 55 := by rw [← s1, e2]; exact Blk.new w1 _ _
  have b3 : Blk w3 (w.heap.size + 2) signZ 63 := by rw [← s2, e3]; exact Blk.new w2 _ _
  have b4 : Blk w4 (w.heap.size + 3) [.int .i64 (ptSize sz : Int), .slice none 0 0] 55 := by rw [← s3, e4]; exact Blk.new w3 _ _
  have k2 : Kept (fun _ => False) w1 w2 := by rw [e2]; exact (Kept.refl _ _).alloc _
  have k3 : Kept (fun _ => False) w2 w3 := by rw [e3]; exact (Kept.refl _ _).alloc _
  have k4 : Kept (fun _ => False) w3 w4 := by rw [e4]; exact (Kept.refl _ _).alloc _
  have k1 : Kept (fun _ => False) w w1 := by rw [e1]; exact (Kept.refl _ _).alloc _
  have h : PtJ w sz sd 0 (.slice none 0 0) w4 := ⟨b1.kept (k2.trans (k3.trans k4)) id, b2.kept (k3.trans k4) id, b3.kept k4 id, b4, Row.nil _ _ _, fun k q => by simp [Value.ownBlock] at q, k1.trans (k2.trans (k3.trans k4))⟩
  rw [e4, e3, e2, e1] at h
  exact h
theorem pt_round {w W : World} {sz sd j : Nat} {v : Value} (h : PtJ w sz sd j v W) (hj : j < 13) (hb : ptSize sz / 2 ^ (12 - j) % 2 = 1) :
    ∃ a n c w', (Builtin.append_ #[53, 53] 53 #[v, .slice (some ⟨W.heap.size, 0, none⟩) 1 1]).run Tryz.prog (W.alloc (.cells (bytes8 (h3P sd (12 - j) 3)).toArray 57)) = .ok (.slice a n c) w' ∧
      w'.cell? ⟨w.heap.size + 3, 1, none⟩ = some v ∧ w'.frozen? ⟨w.heap.size + 3, 1, none⟩ = false ∧ Hid (PtJ w sz sd (j + 1) (.slice a n c) (w'.setCell ⟨w.heap.size + 3, 1, none⟩ (.slice a n c))) := by
  have hl : (ptPre sz sd j).length ≤ 1000000 := by have := ptPre_len (sz := sz) (sd := sd) (j := j); omega
  obtain ⟨v', w', hr, hrow, hk, ho⟩ := append_hash1 h.row ptPre_32 (h3P sd (12 - j) 3) (h3P_len _ _ _) hl
  have e : ptPre sz sd j ++ [h3P sd (12 - j) 3] = ptPre sz sd (j + 1) := by unfold ptPre; rw [hbits, if_pos hb, List.map_append]; rfl
  rw [e] at hrow
  have nk : ∀ k, k < w.heap.size + 4 → ¬ v.ownBlock = some k := fun k hk q => by have := h.own k q; omega
  have hb4 : w.heap.size + 3 < W.heap.size := h.r.lt
  have hr' := h.r.kept hk (nk _ (by omega))
  have no : ∀ k, v'.ownBlock = some k → w.heap.size + 4 ≤ k := by
    intro k q
    rcases ho k q with q | q
    · exact h.own k q
    · omega
  obtain ⟨a, n, c, rfl, _⟩ := hrow.form (by omega)
  have ks := kept_cell w' (w.heap.size + 3) 1 (.slice a n c)
  refine ⟨a, n, c, w', hr, hr'.cell (i := 1) rfl, hr'.free 1, Lib.hid ⟨?_, ?_, ?_, hr'.set 1 (.slice a n c), ?_, no, ?_⟩⟩
  · exact (h.pt.kept hk (nk _ (by omega))).kept ks (by omega)
  · exact (h.o1.kept hk (nk _ (by omega))).kept ks (by omega)
  · exact (h.o2.kept hk (nk _ (by omega))).kept ks (by omega)
  · exact hrow.kept ks (fun k q z => by have := no k q; omega)
  · exact (h.kept.then_ hk (fun i hi q => by have := h.own i q; omega)).then_ ks (fun i hi q => by omega)
theorem pt_skip {w W : World} {sz sd j : Nat} {v : Value} (h : PtJ w sz sd j v W) (hb : ¬ ptSize sz / 2 ^ (12 - j) % 2 = 1) : PtJ w sz sd (j + 1) v W := by
  have e : ptPre sz sd (j + 1) = ptPre sz sd j := by unfold ptPre; rw [hbits, if_neg hb, List.append_nil]
  exact ⟨h.pt, h.o1, h.o2, h.r, by rw [e]; exact h.row, h.own, h.kept⟩
end Go.Proofs.YtlgeijbgkipliaaGreatDoor

namespace Go.Proofs.YtlgeijbgkipliaaGreatDoor
open Go.RowKit
section
variable {P : Program} {ops : Array Oper} {Q : Exit → Act → World → Prop} {md : Region.Mode} {S : World → Prop} {fuel : Nat} {listed : Array Bool} {a : Act} {w : World}
theorem rd2 {oi oj : Oper} (i j : Nat) (h1 : ∀ K' : Act → World → Prop, Shut (∀ a w, S w → (S w → wpAnyH P md ops Q S fuel (listed.setIfInBounds i true) a w) → K' a w) → if Region.wanted oi (yielded ops a.tmps) = true then Oper.wp P oi a w K' Q else K' (a.put oi.dst undef) w)
    (h2 : ∀ K' : Act → World → Prop, Shut (∀ a w, S w → (S w → wpAnyH P md ops Q S fuel (listed.setIfInBounds j true) a w) → K' a w) → if Region.wanted oj (yielded ops a.tmps) = true then Oper.wp P oj a w K' Q else K' (a.put oj.dst undef) w)
    (hr : Region.ready md ops listed = [i, j] := by kernel_rfl) (ho : ops.toList[i]? = some oi := by rfl) (ho2 : ops.toList[j]? = some oj := by rfl) : wpAnyH P md ops Q S (fuel + 1) listed a w :=
  wpAnyH_ready hr (by simp) (AllReadyH.cons (by rw [← Array.getElem?_toList]; exact ho) h1 (AllReadyH.cons (by rw [← Array.getElem?_toList]; exact ho2) h2 AllReadyH.nil))
theorem results2_cells {fn : Func} {p q : Tmp} {ty1 ty2 : TypeId} {tmps : Array Value} {b1 b2 : Nat} {c1 c2 : List Value} {t1 t2 : TypeId} {d1 d2 : TypeDesc} (h1 : Blk w b1 c1 t1) (h2 : Blk w b2 c2 t2) (hf : fn.results = #[.cell p ty1, .cell q ty2])
    (hp : tmps.getD p undef = .pointer (some ⟨b1, 0, none⟩)) (hq : tmps.getD q undef = .pointer (some ⟨b2, 0, none⟩)) (hu1 : P.underlying ty1 = some d1) (hd1 : (match d1 with | .struct _ | .array _ _ => true | _ => false) = true) (hi1 : (P.info? ty1).map (·.size) = some c1.length)
    (hu2 : P.underlying ty2 = some d2) (hd2 : (match d2 with | .struct _ | .array _ _ => true | _ => false) = true) (hi2 : (P.info? ty2).map (·.size) = some c2.length) :
    (results fn tmps).run P w = .ok (.tuple #[.agg c1.toArray, .agg c2.toArray]) w := by
  have hp' : tmps[p]?.getD undef = .pointer (some ⟨b1, 0, none⟩) := by simpa using hp
  have hq' : tmps[q]?.getD undef = .pointer (some ⟨b2, 0, none⟩) := by simpa using hq
  simp [results, hf, hp', hq', asAddr, run_loadVar_row w b1 t1 ty1 c1.toArray (0, 0) d1 h1 hu1 hd1 (by rw [hi1, List.size_toArray]), run_loadVar_row w b2 t2 ty2 c2.toArray (0, 0) d2 h2 hu2 hd2 (by rw [hi2, List.size_toArray])]
end
theorem foldzAt (l : List Value) : ∀ (c : List Value) (off k : Nat), off + k + l.length ≤ c.length → (l.zipIdx k).foldl (fun (cs : Array Value) (x : Value × Nat) => cs.setIfInBounds (off + x.snd) x.fst) c.toArray = (splice c (off + k) l).toArray := by
  induction l with
  | nil => intro c off k _; rw [splice_nil]; rfl
  | cons a l ih =>
    intro c off k h
    simp only [List.length_cons] at h
    rw [List.zipIdx_cons, List.foldl_cons]
    have e : c.toArray.setIfInBounds (off + k) a = (c.set (off + k) a).toArray := by simp
    show List.foldl _ (c.toArray.setIfInBounds (off + k) a) _ = _
    rw [e, ih (c.set (off + k) a) off (k + 1) (by simp; omega), show off + (k + 1) = off + k + 1 by omega, splice_cons _ _ _ _ (by omega)]
theorem head_fold {size : Int} {root : By} (h : root.length = 32) : (bytes8 root).zipIdx.foldl (fun (cs : Array Value) (x : Value × Nat) => cs.setIfInBounds (1 + x.snd) x.fst) (.int .i64 size :: zeros 32).toArray = (headC size root).toArray := by
  rw [foldzAt (bytes8 root) (.int .i64 size :: zeros 32) 1 0 (by rw [bytes8_len, List.length_cons, zeros_len]; omega)]
  unfold splice
  rw [bytes8_len, h, List.drop_eq_nil_of_le (by rw [List.length_cons, zeros_len]; omega), List.append_nil]
  rfl
theorem rough_fold {root : By} (hr : root.length = 32) (size i : Int) (s : ByteArray) (v : Value) :
    ∃ Y0 : Array Value, ((bytes8 root).zipIdx 1).foldl (fun (cs : Array Value) (x : Value × Nat) => cs.setIfInBounds x.snd x.fst) ((.int .i64 size :: zeros 32) ++ [.int .i64 0, .string ⟨#[]⟩, .int .i8 0, .slice none 0 0] : List Value).toArray = Y0 ∧ Y0.size = 37 ∧
      ((Y0.setIfInBounds 33 (.int .i64 i)).setIfInBounds 34 (.string s)).setIfInBounds 36 v = (roughC size root i s v).toArray := by
  have hl : (headC size root).length = 33 := by rw [List.length_cons, bytes8_len, hr]
  have hz : (zeros 32).length = 32 := zeros_len 32
  have hb : (bytes8 root).length = 32 := by rw [bytes8_len, hr]
  refine ⟨(headC size root ++ [.int .i64 0, .string ⟨#[]⟩, .int .i8 0, .slice none 0 0] : List Value).toArray, ?_, by rw [List.size_toArray, List.length_append, hl]; rfl, ?_⟩
  · rw [foldz (bytes8 root) _ 1 (by rw [List.length_append, List.length_cons, hz, hb]; simp)]
    congr 1
    unfold splice
    rw [hb, List.cons_append, List.take_succ_cons, List.take_zero, show 1 + 32 = 32 + 1 from rfl, List.drop_succ_cons, List.drop_append_of_le_length (by omega), List.drop_of_length_le (by omega)]
    rfl
  · rw [List.setIfInBounds_toArray, List.setIfInBounds_toArray, List.setIfInBounds_toArray]
    congr 1
    rw [List.set_append_right _ _ (by omega), List.set_append_right _ _ (by omega), List.set_append_right _ _ (by omega), hl]
    rfl
def PtS (p r b : Nat) (sz sd : Nat) (v : Value) (root : By) (W : World) : Prop :=
  W.cell? ⟨p, 0, none⟩ = some (.int .u16 (sz : Int)) ∧ W.cell? ⟨p, 1, none⟩ = some (.int .u8 (sd : Int)) ∧ W.cell? ⟨r, 0, none⟩ = some (.int .i64 (ptSize sz : Int)) ∧ W.cell? ⟨r, 1, none⟩ = some v ∧ W.rangeAt b 0 (bytes8 root)
theorem PtS.turn {Z : Nat → Prop} {p r b : Nat} {sz sd : Nat} {v : Value} {root : By} {W W' : World} (h : PtS p r b sz sd v root W) (hk : Kept Z W W') (hp : ¬ Z p) (hr : ¬ Z r) (hb : ¬ Z b) : PtS p r b sz sd v root W' :=
  ⟨hk.cell h.1 hp, hk.cell h.2.1 hp, hk.cell h.2.2.1 hr, hk.cell h.2.2.2.1 hr, fun j u hu => hk.cell (h.2.2.2.2 j u hu) hb⟩
theorem pt_text {W : World} {b : Nat} {l : List UInt8} (h : Blk W b (bytes8 l) 5) (hl : l.length = 3) : (convert 100 9 (.slice (some ⟨b, 0, none⟩) 3 3)).run Tryz.prog W = .ok (.string ⟨l.toArray⟩) W :=
  run_string_of (w := W) (g := b) (off := 0) (n := 3) (cap := 3) l hl.symm (fun j u hu => by rw [Nat.zero_add]; exact h.cell hu)
end Go.Proofs.YtlgeijbgkipliaaGreatDoor

namespace Go.Proofs.YtlgeijbgkipliaaGreatDoor
open Go.RowKit
theorem fold3 (A B C : List Value) (hA : A.length = 32) (hB : B.length = 32) (hC : C.length = 32) :
    ∃ Z1 Z2 : Array Value, A.zipIdx.foldl (fun (cs : Array Value) (x : Value × Nat) => cs.setIfInBounds x.snd x.fst) (zeros 96).toArray = Z1 ∧ Z1.size = 96 ∧
      B.zipIdx.foldl (fun (cs : Array Value) (x : Value × Nat) => cs.setIfInBounds (32 + x.snd) x.fst) Z1 = Z2 ∧ Z2.size = 96 ∧
      C.zipIdx.foldl (fun (cs : Array Value) (x : Value × Nat) => cs.setIfInBounds (64 + x.snd) x.fst) Z2 = (A ++ B ++ C).toArray := by
  have hz : (zeros 96).length = 96 := zeros_len 96
  have s1 : (splice (zeros 96) 0 A).length = 96 := by rw [splice_len (by omega), hz]
  have s2 : (splice (splice (zeros 96) 0 A) 32 B).length = 96 := by rw [splice_len (by omega), s1]
  refine ⟨(splice (zeros 96) 0 A).toArray, (splice (splice (zeros 96) 0 A) 32 B).toArray, foldz A (zeros 96) 0 (by omega), by rw [List.size_toArray, s1], ?_, by rw [List.size_toArray, s2], ?_⟩
  · exact foldzAt B _ 32 0 (by omega)
  · rw [foldzAt C _ 64 0 (by omega)]
    congr 1
    obtain ⟨D, hD, hDl⟩ : ∃ D, (zeros 96).drop 32 = D ∧ D.length = 64 := ⟨_, rfl, by rw [List.length_drop, hz]⟩
    have e1 : splice (zeros 96) 0 A = A ++ D := by unfold splice; rw [hA, hD]; rfl
    have e2 : splice (A ++ D) 32 B = A ++ B ++ D.drop 32 := by
      unfold splice
      rw [hB, List.take_append_of_le_length (by omega), List.take_of_length_le (by omega), List.drop_append, hA, List.drop_eq_nil_of_le (by omega)]
      rfl
    have hAB : (A ++ B).length = 64 := by rw [List.length_append, hA, hB]
    have e3 : splice (A ++ B ++ D.drop 32) (64 + 0) C = A ++ B ++ C := by
      unfold splice
      rw [hC, Nat.add_zero, List.take_append_of_le_length (by omega), List.take_of_length_le (by omega), List.drop_eq_nil_of_le (by rw [List.length_append, hAB, List.length_drop]; omega), List.append_nil]
    rw [e1, e2, e3]
set_option maxRecDepth 100000 in
set_option maxHeartbeats 1000000 in
theorem wp_build3 {op : Oper} {a : Act} {W : World} {K : Act → World → Prop} {Q : Exit → Act → World → Prop} (x y z : Tmp) (ho : op.op = .buildSlice 53 3 #[(0, .tmp x), (1, .tmp y), (2, .tmp z)]) (A B C : List Value) (hA : A.length = 32) (hB : B.length = 32) (hC : C.length = 32)
    (hx : a.tmps[x]?.getD undef = .agg A.toArray) (hy : a.tmps[y]?.getD undef = .agg B.toArray) (hz : a.tmps[z]?.getD undef = .agg C.toArray)
    (h : K (a.put op.dst (.slice (some ⟨W.heap.size, 0, none⟩) 3 3)) (W.alloc (.cells (A ++ B ++ C).toArray 57))) : op.wp Tryz.prog a W K Q := by
  obtain ⟨Z1, Z2, h1, h2, h3, h4, h5⟩ := fold3 A B C hA hB hC
  simp only [zeros, List.replicate] at h1
  unfold Oper.wp execOp
  simp only [ho]
  go_simp
  first
  | (unfold Act.put at h; exact h)
  | (simpa [Act.put] using h)
end Go.Proofs.YtlgeijbgkipliaaGreatDoor

namespace Go.Proofs.YtlgeijbgkipliaaGreatDoor
open Go.RowKit
theorem shr_bit (n m : Nat) : ((n : Int) / 2 ^ m).tmod 2 = ((n / 2 ^ m % 2 : Nat) : Int) := by
  have e : (n : Int) / 2 ^ m = ((n / 2 ^ m : Nat) : Int) := by rw [Int.natCast_ediv, Int.natCast_pow]; rfl
  rw [e]
  rfl
theorem signed_one (size : Int) (root : By) (i : Int) (s : ByteArray) (v : Value) (hv : v.oneCell' = true) : ∀ x ∈ signedC size root i s v, x.oneCell' = true := by
  intro x hx
  unfold signedC at hx
  rw [List.mem_append, List.mem_cons] at hx
  rcases hx with (rfl | hx) | hx
  · rfl
  · exact u8_oneCell x hx
  · simp at hx
    rcases hx with rfl | rfl | rfl
    · rfl
    · rfl
    · exact hv
def PtOf (w : World) (sz sd : Nat) (e : Ending) (w' : World) : Prop :=
  ∃ a c pb, e = .returned (.tuple #[rngV (ptSize sz) (.slice a (ptHs sz sd).length c), signedV (ptSize sz) (ptRoot sz sd) ((sd : Int) % 8) (ptSig sz sd) (.slice (some ⟨pb, 0, none⟩) 3 3)]) ∧
    Hid (Row w' 57 32 (.slice a (ptHs sz sd).length c) (hcells (ptHs sz sd)) ∧ (∀ k, (Value.slice a (ptHs sz sd).length c).ownBlock = some k → w.heap.size ≤ k ∧ k ≠ pb) ∧ Blk w' pb (hcells (ptPath sd)) 57 ∧ w.heap.size ≤ pb ∧ Kept (fun _ => False) w w')
theorem info_range_ : (Tryz.prog.info? 55).map (·.size) = some 2 := by kernel_rfl
set_option maxRecDepth 100000 in
set_option maxHeartbeats 4000000 in
theorem pt_of (w : World) (sz sd : Nat) (hsz : sz < 65536) (hsd : sd < 256) (ht : Tab w) :
    Calls Tryz.prog 21 #[.agg (ptC sz sd).toArray] w (PtOf w sz sd) := by
  have hst := pt_start w sz sd
  have HJ := Lib.hid hst
  have e0 : ((ptSize sz : Nat) : Int) = (sz : Int) % 4097 := by unfold ptSize; omega
  rw [e0] at hst
  clear hst
  go_enter Tryz.func21, Tryz.ntmps21
  go_upto_region 2 with (fail)
  rw [← e0]
  generalize hWx : World.alloc _ _ = Wx
  have HJ2 : Hid (PtJ w sz sd 0 (.slice none 0 0) Wx) := Lib.hid (by rw [← hWx]; exact HJ.out)
  clear hWx HJ e0
  go_wp2_with fail
  have h0 := ptSize_le sz
  go_loopw [5] (fun x wr => ∃ (i : Int), x = .int .i64 i ∧ -1 ≤ i ∧ i ≤ 12 ∧ Hid (∃ (j : Nat) (v : Value), i = 12 - (j : Int) ∧ j ≤ 13 ∧ PtJ w sz sd j v wr)) (fun x _ => (intOf x + 1).toNat)
  case atStart => exact ⟨12, rfl, by omega, by omega, Lib.hid ⟨0, _, by omega, by omega, HJ2.out⟩⟩
  case round =>
    obtain ⟨i, rfl, hi1, hi2, HR⟩ := hrel
    by_cases hc : 0 ≤ i
    · have q1 : decide (0 ≤ i) = true := decide_eq_true hc
      obtain ⟨m, rfl⟩ : ∃ m : Nat, i = (m : Int) := ⟨i.toNat, by omega⟩
      obtain ⟨v, HX⟩ : ∃ v, Hid (PtJ w sz sd (12 - m) v wr) := by
        obtain ⟨j, v, h1, h2, h3⟩ := HR.out
        obtain rfl : j = 12 - m := by omega
        exact ⟨v, Lib.hid h3⟩
      have c0 := HX.out.r.cell (i := 0) rfl
      have c1 := HX.out.r.cell (i := 1) rfl
      have c2 := HX.out.pt.cell (i := 1) rfl
      have hm : m ≤ 12 := by omega
      have em : 12 - (12 - m) = m := by omega
      clear HR hc
      by_cases hb : ptSize sz / 2 ^ m % 2 = 1
      · have q2 : (((ptSize sz : Int) / 2 ^ m).tmod 2 == 1) = true := by rw [shr_bit, hb]; rfl
        obtain ⟨a3, n3, k3, w3, hr, hr1, hr2, HN⟩ := pt_round HX.out (by omega) (by rw [em]; exact hb)
        rw [em, h3P_cells hsd (by omega) (by omega)] at hr
        simp only [List.replicate] at hr
        clear hb HX em
        go_wp2_with (refine Lib.wpList_append_run _ rfl _ _ 53 53 rfl _ _ rfl rfl _ _ hr ?_)
        go_roundw
        case rel => exact ⟨(m : Int) - 1, by go_num, by omega, by omega, Lib.hid ⟨12 - m + 1, .slice a3 n3 k3, by omega, by omega, HN.out⟩⟩
        case measure => simp [intOf]
      · have q2 : (((ptSize sz : Int) / 2 ^ m).tmod 2 == 1) = false := by
          rw [shr_bit, show ptSize sz / 2 ^ m % 2 = 0 by omega]; rfl
        have HN := Lib.hid (pt_skip HX.out (by rw [em]; exact hb))
        clear hb HX em
        go_wp2_with fail
        go_roundw
        case rel => exact ⟨(m : Int) - 1, by go_num, by omega, by omega, Lib.hid ⟨12 - m + 1, v, by omega, by omega, HN.out⟩⟩
        case measure => simp [intOf]
    · obtain rfl : i = -1 := by omega
      obtain ⟨a, c, HX⟩ : ∃ a c, Hid (PtJ w sz sd 13 (.slice a (ptHs sz sd).length c) wr) := by
        obtain ⟨j, v, h1, h2, h3⟩ := HR.out
        obtain rfl : j = 13 := by omega
        obtain ⟨a, n, c, rfl, hn, _⟩ := h3.row.form (by omega)
        rw [hcells_len ptPre_32] at hn
        obtain rfl : n = (ptHs sz sd).length := by
          have : (ptPre sz sd 13).length = (ptHs sz sd).length := rfl
          omega
        exact ⟨a, c, Lib.hid h3⟩
      clear HR hc
      have c0 := HX.out.r.cell (i := 0) rfl
      have c1 := HX.out.r.cell (i := 1) rfl
      have HV := Lib.hid (show View wr 32 (.slice a (ptHs sz sd).length c) (hcells (ptHs sz sd)) from HX.out.row.view)
      have HRT := Lib.hid (rref_any wr (ptSize sz) a c (ptHs sz sd) HV.out ptHs_32 (by have := ptHs_len sz sd; omega) (ptHs_ok sz sd) (ht.same HX.out.kept))
      have HRL := Lib.hid (ptRoot_32 sz sd)
      have e9 : rootH (ptHs sz sd) = ptRoot sz sd := rfl
      rw [e9] at HRT
      clear e9 HV
      generalize hRR : ptRoot sz sd = root at *
      generalize hnn : (ptHs sz sd).length = n at *
      have ir : (Tryz.prog.info? 57).map (·.size) = some (bytes8 root).length := by rw [bytes8_len, HRL.out]; exact info_h32
      have IR := Lib.hid ir
      clear ir
      go_upto_region 8 with (first
        | (go_at_call 69; refine HRT.out.mono ?_; rintro e w1 ⟨rfl, hk1⟩; have HK1 := Lib.hid hk1; have HN1 := Lib.hid (And.intro ((Blk.new w1 (zeros 32) 57).there 0 32 (by simp [zeros_len])) ((Blk.new w1 (zeros 32) 57).setCells 0 (bytes8 root) (by rw [bytes8_len, HRL.out, zeros_len]; omega))); clear hk1)
        | ((with_reducible show wpList _ _ _ (⟨none, .store _ (.tmp 6) _, _, _, _, _⟩ :: _) _ _); refine wpList_store_mid rfl 57 _ _ rfl w1.heap.size 0 (bytes8 root).toArray rfl rfl ?ht1 ?hi1 ?h11 ?_))
      case ht1 =>
        have e : (bytes8 root).toArray.size = 32 := by rw [List.size_toArray, bytes8_len]; exact HRL.out
        first
        | (rw [e]; exact HN1.out.1)
        | (rw [List.size_toArray] at e; rw [e]; exact HN1.out.1)
      case hi1 => first
        | exact (by rw [List.size_toArray]; exact IR.out)
        | simpa using IR.out
      case h11 => first
        | exact all_oneCell_toArray u8_oneCell
        | exact fun v hv => u8_oneCell v hv
      have HS := Lib.hid (show PtS w.heap.size (w.heap.size + 3) w1.heap.size sz sd (.slice a n c) root ((w1.alloc (.cells (zeros 32).toArray 57)).setCells w1.heap.size 0 (bytes8 root)) ∧ PtJ w sz sd 13 (.slice a n c) ((w1.alloc (.cells (zeros 32).toArray 57)).setCells w1.heap.size 0 (bytes8 root)) from by
        have h1 := HN1.out.2
        rw [splice_whole (by rw [bytes8_len, HRL.out, zeros_len])] at h1
        have k2 : Kept (fun _ => False) w1 ((w1.alloc (.cells (zeros 32).toArray 57)).setCells w1.heap.size 0 (bytes8 root)) := ((Kept.refl (fun _ => False) w1).alloc _).then_ (kept_setCells _ _ _ _) (fun i hi e => by omega)
        have hJ := HX.out.turn (HK1.out.trans k2)
        exact ⟨⟨hJ.pt.cell (i := 0) rfl, hJ.pt.cell (i := 1) rfl, hJ.r.cell (i := 0) rfl, hJ.r.cell (i := 1) rfl, h1.range0⟩, hJ⟩)
      generalize hWW : World.setCells _ _ _ _ = W7
      have HS : Hid (PtS w.heap.size (w.heap.size + 3) w1.heap.size sz sd (.slice a n c) root W7 ∧ PtJ w sz sd 13 (.slice a n c) W7) := Lib.hid (by rw [← hWW]; exact HS.out)
      clear hWW
      have hb7 : w.heap.size + 3 < w1.heap.size := by have := HX.out.r.lt; have := HK1.out.size; omega
      clear HX HRT HK1 HN1 c0 c1
      refine wp_region_held_drew (S := PtS w.heap.size (w.heap.size + 3) w1.heap.size sz sd (.slice a n c) root) (by kernel_rfl) (HS.out.1.turn (Z := fun _ => False) (Kept.refl _ _).drew id id id) (fun hH0 => ?_)
      have HD := Lib.hid (HS.out.2.turn (Kept.refl _ _).drew)
      generalize World.drew W7 = Wd at *
      clear HS
      generalize w1.heap.size = b7 at *
      refine tk (v := .agg #[.int .i64 (ptSize sz : Int), .slice a n c]) 0 rfl (fun _ _ _ h => h) hH0 ?_ (hy := Or.inl ⟨by rfl, fun w hSw => by have hq := hSw.2.2.1; have hq2 := hSw.2.2.2.1; clear hSw; go_simp⟩)
      refine tk 1 rfl (fun _ _ _ h => h) hH0 ?_
      refine tk (v := .int .i64 (ptSize sz : Int)) 2 rfl (fun _ _ _ h => h) hH0 ?_ (hy := Or.inl ⟨by rfl, fun w hSw => by have hq := hSw.2.2.1; clear hSw; go_simp⟩)
      refine tky 3 rfl (fun _ _ _ h => h) (yieldsIf_load_mid (by rfl) _ _ rfl _ _ rfl (bytes8 root) _ (fun w h => h.2.2.2.2) Tryz.underlying57 rfl IR.out) hH0 ?_
      have hfold := head_fold (size := (ptSize sz : Int)) HRL.out
      simp only [zeros, List.replicate] at hfold
      have hbl : (bytes8 root).length = 32 := by rw [bytes8_len, HRL.out]
      refine tk (v := .agg (headC (ptSize sz) root).toArray) 4 rfl (fun _ _ _ h => h) hH0 ?_
      clear hfold
      refine tk 5 rfl (fun _ _ _ h => h) hH0 ?_
      refine tk (v := .int .u8 (sd : Int)) 6 rfl (fun _ _ _ h => h) hH0 ?_ (hy := Or.inl ⟨by rfl, fun w hSw => by have hq := hSw.2.1; clear hSw; go_simp⟩)
      have hw1 : IntKind.i64.wrap (sd : Int) = (sd : Int) := by
        simp only [IntKind.wrap, IntKind.bits, IntKind.signed]
        simp
        omega
      refine tk (v := .int .i64 (sd : Int)) 7 rfl (fun _ _ _ h => h) hH0 ?_
      clear hw1
      refine tk (v := .int .i64 ((sd % 8 : Nat) : Int)) 8 rfl (fun _ _ _ h => h) hH0 ?_ (hy := Or.inl ⟨by rfl, fun w hSw => by clear hSw; go_simp; rfl⟩)
      refine tk 9 rfl (fun _ _ _ h => h) hH0 ?_
      refine tk (v := .int .u8 (sd : Int)) 10 rfl (fun _ _ _ h => h) hH0 ?_ (hy := Or.inl ⟨by rfl, fun w hSw => by have hq := hSw.2.1; clear hSw; go_simp⟩)
      refine tk 11 rfl (fun _ _ _ h => h) hH0 ?_
      refine tk (v := .int .u16 (sz : Int)) 12 rfl (fun _ _ _ h => h) hH0 ?_ (hy := Or.inl ⟨by rfl, fun w hSw => by have hq := hSw.1; clear hSw; go_simp⟩)
      have hw1 : IntKind.u8.wrap (sz : Int) = (sz : Int) % 256 := by
        simp only [IntKind.wrap, IntKind.bits, IntKind.signed]
        simp
      refine tk (v := .int .u8 ((sz % 256 : Nat) : Int)) 13 rfl (fun _ _ _ h => h) hH0 ?_
      clear hw1
      have hP1 := h3P_cells (a := 1) (b := 0) (c := 0) (by omega) (by omega) (by omega)
      have hP2 := h3P_cells (a := sd) (b := 0) (c := 0) hsd (by omega) (by omega)
      have hP3 := h3P_cells (a := 3) (b := 0) (c := 0) (by omega) (by omega) (by omega)
      simp only [List.replicate] at hP1 hP2 hP3
      refine tk (v := .agg (bytes8 (h3P 1 0 0)).toArray) 16 rfl (fun _ _ _ h => h) hH0 ?_
      refine tk 17 rfl (fun _ _ _ h => h) hH0 ?_
      refine tk (v := .int .u8 (sd : Int)) 18 rfl (fun _ _ _ h => h) hH0 ?_ (hy := Or.inl ⟨by rfl, fun w hSw => by have hq := hSw.2.1; clear hSw; go_simp⟩)
      refine tk (v := .agg (bytes8 (h3P sd 0 0)).toArray) 19 rfl (fun _ _ _ h => h) hH0 ?_
      refine tk (v := .agg (bytes8 (h3P 3 0 0)).toArray) 20 rfl (fun _ _ _ h => h) hH0 ?_
      clear hP1 hP2 hP3
      have lP1 : (bytes8 (h3P 1 0 0)).length = 32 := by rw [bytes8_len, h3P_len]
      have lP2 : (bytes8 (h3P sd 0 0)).length = 32 := by rw [bytes8_len, h3P_len]
      have lP3 : (bytes8 (h3P 3 0 0)).length = 32 := by rw [bytes8_len, h3P_len]
      have hcp : bytes8 (h3P 1 0 0) ++ bytes8 (h3P sd 0 0) ++ bytes8 (h3P 3 0 0) = hcells (ptPath sd) := by simp [hcells, ptPath, bytes8]
      have hu : UInt8.toNat (UInt8.ofNat sd) = sd := UInt8.toNat_ofNat_of_lt' hsd
      have hu2 : UInt8.toNat (UInt8.ofNat (sz % 256)) = sz % 256 := UInt8.toNat_ofNat_of_lt' (Nat.mod_lt _ (by omega))
      have e8 : ∀ W : World, W.alloc (.cells #[.int .u8 (sd : Int), .int .u8 1, .int .u8 ((sz : Int) % 256)] 5) = W.alloc (.cells (bytes8 [UInt8.ofNat sd, 1, UInt8.ofNat (sz % 256)]).toArray 5) := by
        intro W
        simp [bytes8, hu, hu2]
      have HC := Lib.hid (And.intro hcp e8)
      clear hcp e8 hu hu2
      refine rd2 14 21 (fun K hK => ?_) (fun K hK => ?_)
      · skip
        go_simp
        rw [HC.out.2]
        have hn := Blk.new Wd (bytes8 [UInt8.ofNat sd, 1, UInt8.ofNat (sz % 256)]) 5
        have hk : Kept (fun _ => False) Wd (Wd.alloc (.cells (bytes8 [UInt8.ofNat sd, 1, UInt8.ofNat (sz % 256)]).toArray 5)) := (Kept.refl _ _).alloc _
        generalize World.alloc _ _ = We at hn hk ⊢
        generalize Wd.heap.size = sb at hn ⊢
        refine hK.out _ _ (hH0.turn hk id id id) (fun hH1 => ?_)
        clear hK K
        try simp only [lyA, lyB, lyC, lyD]
        refine rd2 15 21 (fun K hK => ?_) (fun K hK => ?_)
        · skip
          have hcv := pt_text hn rfl
          clear hn
          go_simp
          refine hK.out _ _ hH1 (fun hH2 => ?_)
          clear hK K hcv hH1
          try simp only [lyA, lyB, lyC, lyD]
          refine rd1 21 (fun K hK => ?_)
          rw [if_pos (by rfl)]
          refine wp_build3 54 57 58 rfl _ _ _ lP1 lP2 lP3 rfl rfl rfl ?_
          rw [HC.out.1]
          have hn2 := Blk.new We (hcells (ptPath sd)) 57
          have hk2 : Kept (fun _ => False) We (We.alloc (.cells (hcells (ptPath sd)).toArray 57)) := (Kept.refl _ _).alloc _
          have hpb : Wd.heap.size ≤ We.heap.size := hk.size
          generalize World.alloc _ _ = Wf at hn2 hk2 ⊢
          generalize We.heap.size = pb at hn2 hpb ⊢
          refine hK.out _ _ (hH2.turn hk2 id id id) (fun hHx => ?_)
          clear hK K
          try simp only [lyA, lyB, lyC, lyD]
          have HNp := hn2
          have HKf := hk.trans hk2
          clear hn2 hk hk2
          obtain ⟨Y0, hY0, hY1, hY2⟩ := rough_fold HRL.out (ptSize sz : Int) ((sd : Int) % 8) ⟨#[UInt8.ofNat sd, 1, UInt8.ofNat (sz % 256)]⟩ (.slice (some ⟨pb, 0, none⟩) 3 3)
          simp only [zeros, List.replicate, List.cons_append, List.nil_append] at hY0
          refine tk (v := .agg (roughC (ptSize sz) root ((sd : Int) % 8) ⟨#[UInt8.ofNat sd, 1, UInt8.ofNat (sz % 256)]⟩ (.slice (some ⟨pb, 0, none⟩) 3 3)).toArray) 22 rfl (fun _ _ _ h => h) hHx ?_
          clear hY0 hY1 hY2
          refine rd1 23 (fun K hK => ?_)
          go_simp
          refine (rough_any Wf (ptSize sz) root ((sd : Int) % 8) (ptS3 sz sd) (some ⟨pb, 0, none⟩) 3 3 HRL.out (ptS3_size _ _)).mono ?_
          rintro e w8 ⟨rfl, hk8⟩
          refine hK.out _ _ (hHx.turn hk8 id id id) (fun hHy => ?_)
          clear hK K hHx
          have HJ8 := HD.out.turn (HKf.trans hk8)
          have HNq := HNp.kept hk8 id
          clear HNp HKf hk8
          refine rd1 24 (fun K hK => ?_)
          rw [if_pos (by rfl)]
          refine wp_store_mid _ _ _ rfl (w.heap.size + 1) 0 #[.int .i64 (ptSize sz : Int), .slice a n c] rfl rfl (HJ8.o1.there 0 2 (by simp)) info_range_ (by simp [Value.oneCell']) ?_
          simp only [Act.put]
          have hset := HJ8.o1.setCells 0 [.int .i64 (ptSize sz : Int), .slice a n c] (by simp)
          rw [splice_whole (by rfl)] at hset
          have hk9 : Kept (· = w.heap.size + 1) w8 (w8.setCells (w.heap.size + 1) 0 [.int .i64 (ptSize sz : Int), .slice a n c]) := kept_setCells _ _ _ _
          have hlow := HD.out.r.lt
          refine hK.out _ _ (hHy.turn hk9 (by omega) (by omega) (by omega)) (fun hHz => ?_)
          clear hK K hHy
          have ho2 := (HJ8.o2.kept hk9 (by omega))
          have iS : (Tryz.prog.info? 63).map (·.size) = some (signedC (ptSize sz) root ((sd : Int) % 8) (ptSig sz sd) (.slice (some ⟨pb, 0, none⟩) 3 3)).length := by rw [signedC_len HRL.out]; exact info_signed_
          have hst2 := ho2.setCells 0 (signedC (ptSize sz) root ((sd : Int) % 8) (ptSig sz sd) (.slice (some ⟨pb, 0, none⟩) 3 3)) (by rw [signedC_len HRL.out, signZ_len]; omega)
          rw [splice_whole (by rw [signedC_len HRL.out, signZ_len])] at hst2
          have ho : ∀ x ∈ signedC (ptSize sz) root ((sd : Int) % 8) (ptSig sz sd) (.slice (some ⟨pb, 0, none⟩) 3 3), x.oneCell' = true := signed_one _ _ _ _ _ rfl
          have hpb2 := HNq.lt
          have hk10 : Kept (· = w.heap.size + 2) (w8.setCells (w.heap.size + 1) 0 [.int .i64 (ptSize sz : Int), .slice a n c]) ((w8.setCells (w.heap.size + 1) 0 [.int .i64 (ptSize sz : Int), .slice a n c]).setCells (w.heap.size + 2) 0 (signedC (ptSize sz) root ((sd : Int) % 8) (ptSig sz sd) (.slice (some ⟨pb, 0, none⟩) 3 3))) := kept_setCells _ _ _ _
          refine rd1 25 (fun K hK => ?_)
          rw [if_pos (by rfl)]
          refine wp_store_mid _ _ _ rfl (w.heap.size + 2) 0 (signedC (ptSize sz) root ((sd : Int) % 8) (ptSig sz sd) (.slice (some ⟨pb, 0, none⟩) 3 3)).toArray rfl rfl (ho2.there 0 _ (by rw [List.size_toArray, signedC_len HRL.out, signZ_len]; omega)) (by rw [List.size_toArray]; exact iS) (all_oneCell_toArray ho) ?_
          simp only [Act.put]
          refine hK.out _ _ (hHz.turn hk10 (by omega) (by omega) (by omega)) (fun _ => ?_)
          clear hK K hHz
          refine wpAnyH_done (by kernel_rfl) ?_ _
          go_wp2_with fail
          refine bodyPost_ret (results2_cells (hset.kept hk10 (by omega)) hst2 rfl rfl rfl Tryz.underlying55 rfl info_range_ Tryz.underlying63 rfl iS) rfl ⟨a, c, pb, ?_, Lib.hid ⟨?_, fun k hk => ?_, ?_, ?_, ?_⟩⟩
          · rw [hRR, hnn]
          · rw [hnn]
            exact (HJ8.row.kept hk9 (fun k q e => by have := HJ8.own k q; omega)).kept hk10 (fun k q e => by have := HJ8.own k q; omega)
          · rw [hnn] at hk
            have h1 := HD.out.own k hk
            have h2 := HD.out.row.lt hk
            exact ⟨by omega, by omega⟩
          · exact (HNq.kept hk9 (by omega)).kept hk10 (by omega)
          · omega
          · exact (HJ8.kept.then_ hk9 (fun i hi e => by omega)).then_ hk10 (fun i hi e => by omega)
        · skip
          rw [if_pos (by rfl)]
          refine wp_build3 54 57 58 rfl _ _ _ lP1 lP2 lP3 rfl rfl rfl ?_
          rw [HC.out.1]
          have hn2 := Blk.new We (hcells (ptPath sd)) 57
          have hk2 : Kept (fun _ => False) We (We.alloc (.cells (hcells (ptPath sd)).toArray 57)) := (Kept.refl _ _).alloc _
          have hpb : Wd.heap.size ≤ We.heap.size := hk.size
          generalize World.alloc _ _ = Wf at hn2 hk2 ⊢
          generalize We.heap.size = pb at hn2 hpb ⊢
          refine hK.out _ _ (hH1.turn hk2 id id id) (fun hH2 => ?_)
          clear hK K
          try simp only [lyA, lyB, lyC, lyD]
          refine rd1 15 (fun K hK => ?_)
          replace hn := hn.kept hk2 id
          have hcv := pt_text hn rfl
          clear hn
          go_simp
          refine hK.out _ _ hH2 (fun hHx => ?_)
          clear hK K hcv hH2
          try simp only [lyA, lyB, lyC, lyD]
          have HNp := hn2
          have HKf := hk.trans hk2
          clear hn2 hk hk2
          obtain ⟨Y0, hY0, hY1, hY2⟩ := rough_fold HRL.out (ptSize sz : Int) ((sd : Int) % 8) ⟨#[UInt8.ofNat sd, 1, UInt8.ofNat (sz % 256)]⟩ (.slice (some ⟨pb, 0, none⟩) 3 3)
          simp only [zeros, List.replicate, List.cons_append, List.nil_append] at hY0
          refine tk (v := .agg (roughC (ptSize sz) root ((sd : Int) % 8) ⟨#[UInt8.ofNat sd, 1, UInt8.ofNat (sz % 256)]⟩ (.slice (some ⟨pb, 0, none⟩) 3 3)).toArray) 22 rfl (fun _ _ _ h => h) hHx ?_
          clear hY0 hY1 hY2
          refine rd1 23 (fun K hK => ?_)
          go_simp
          refine (rough_any Wf (ptSize sz) root ((sd : Int) % 8) (ptS3 sz sd) (some ⟨pb, 0, none⟩) 3 3 HRL.out (ptS3_size _ _)).mono ?_
          rintro e w8 ⟨rfl, hk8⟩
          refine hK.out _ _ (hHx.turn hk8 id id id) (fun hHy => ?_)
          clear hK K hHx
          have HJ8 := HD.out.turn (HKf.trans hk8)
          have HNq := HNp.kept hk8 id
          clear HNp HKf hk8
          refine rd1 24 (fun K hK => ?_)
          rw [if_pos (by rfl)]
          refine wp_store_mid _ _ _ rfl (w.heap.size + 1) 0 #[.int .i64 (ptSize sz : Int), .slice a n c] rfl rfl (HJ8.o1.there 0 2 (by simp)) info_range_ (by simp [Value.oneCell']) ?_
          simp only [Act.put]
          have hset := HJ8.o1.setCells 0 [.int .i64 (ptSize sz : Int), .slice a n c] (by simp)
          rw [splice_whole (by rfl)] at hset
          have hk9 : Kept (· = w.heap.size + 1) w8 (w8.setCells (w.heap.size + 1) 0 [.int .i64 (ptSize sz : Int), .slice a n c]) := kept_setCells _ _ _ _
          have hlow := HD.out.r.lt
          refine hK.out _ _ (hHy.turn hk9 (by omega) (by omega) (by omega)) (fun hHz => ?_)
          clear hK K hHy
          have ho2 := (HJ8.o2.kept hk9 (by omega))
          have iS : (Tryz.prog.info? 63).map (·.size) = some (signedC (ptSize sz) root ((sd : Int) % 8) (ptSig sz sd) (.slice (some ⟨pb, 0, none⟩) 3 3)).length := by rw [signedC_len HRL.out]; exact info_signed_
          have hst2 := ho2.setCells 0 (signedC (ptSize sz) root ((sd : Int) % 8) (ptSig sz sd) (.slice (some ⟨pb, 0, none⟩) 3 3)) (by rw [signedC_len HRL.out, signZ_len]; omega)
          rw [splice_whole (by rw [signedC_len HRL.out, signZ_len])] at hst2
          have ho : ∀ x ∈ signedC (ptSize sz) root ((sd : Int) % 8) (ptSig sz sd) (.slice (some ⟨pb, 0, none⟩) 3 3), x.oneCell' = true := signed_one _ _ _ _ _ rfl
          have hpb2 := HNq.lt
          have hk10 : Kept (· = w.heap.size + 2) (w8.setCells (w.heap.size + 1) 0 [.int .i64 (ptSize sz : Int), .slice a n c]) ((w8.setCells (w.heap.size + 1) 0 [.int .i64 (ptSize sz : Int), .slice a n c]).setCells (w.heap.size + 2) 0 (signedC (ptSize sz) root ((sd : Int) % 8) (ptSig sz sd) (.slice (some ⟨pb, 0, none⟩) 3 3))) := kept_setCells _ _ _ _
          refine rd1 25 (fun K hK => ?_)
          rw [if_pos (by rfl)]
          refine wp_store_mid _ _ _ rfl (w.heap.size + 2) 0 (signedC (ptSize sz) root ((sd : Int) % 8) (ptSig sz sd) (.slice (some ⟨pb, 0, none⟩) 3 3)).toArray rfl rfl (ho2.there 0 _ (by rw [List.size_toArray, signedC_len HRL.out, signZ_len]; omega)) (by rw [List.size_toArray]; exact iS) (all_oneCell_toArray ho) ?_
          simp only [Act.put]
          refine hK.out _ _ (hHz.turn hk10 (by omega) (by omega) (by omega)) (fun _ => ?_)
          clear hK K hHz
          refine wpAnyH_done (by kernel_rfl) ?_ _
          go_wp2_with fail
          refine bodyPost_ret (results2_cells (hset.kept hk10 (by omega)) hst2 rfl rfl rfl Tryz.underlying55 rfl info_range_ Tryz.underlying63 rfl iS) rfl ⟨a, c, pb, ?_, Lib.hid ⟨?_, fun k hk => ?_, ?_, ?_, ?_⟩⟩
          · rw [hRR, hnn]
          · rw [hnn]
            exact (HJ8.row.kept hk9 (fun k q e => by have := HJ8.own k q; omega)).kept hk10 (fun k q e => by have := HJ8.own k q; omega)
          · rw [hnn] at hk
            have h1 := HD.out.own k hk
            have h2 := HD.out.row.lt hk
            exact ⟨by omega, by omega⟩
          · exact (HNq.kept hk9 (by omega)).kept hk10 (by omega)
          · omega
          · exact (HJ8.kept.then_ hk9 (fun i hi e => by omega)).then_ hk10 (fun i hi e => by omega)
      · skip
        rw [if_pos (by rfl)]
        refine wp_build3 54 57 58 rfl _ _ _ lP1 lP2 lP3 rfl rfl rfl ?_
        rw [HC.out.1]
        have hn2 := Blk.new Wd (hcells (ptPath sd)) 57
        have hk2 : Kept (fun _ => False) Wd (Wd.alloc (.cells (hcells (ptPath sd)).toArray 57)) := (Kept.refl _ _).alloc _
        generalize World.alloc _ _ = Wg at hn2 hk2 ⊢
        generalize hpbe : Wd.heap.size = pb at hn2 ⊢
        have hpb : Wd.heap.size ≤ pb := by omega
        refine hK.out _ _ (hH0.turn hk2 id id id) (fun hH1 => ?_)
        clear hK K
        try simp only [lyA, lyB, lyC, lyD]
        refine rd1 14 (fun K hK => ?_)
        go_simp
        rw [HC.out.2]
        have hn := Blk.new Wg (bytes8 [UInt8.ofNat sd, 1, UInt8.ofNat (sz % 256)]) 5
        have hk : Kept (fun _ => False) Wg (Wg.alloc (.cells (bytes8 [UInt8.ofNat sd, 1, UInt8.ofNat (sz % 256)]).toArray 5)) := (Kept.refl _ _).alloc _
        generalize World.alloc _ _ = Wf at hn hk ⊢
        generalize Wg.heap.size = sb at hn ⊢
        refine hK.out _ _ (hH1.turn hk id id id) (fun hH2 => ?_)
        clear hK K
        try simp only [lyA, lyB, lyC, lyD]
        refine rd1 15 (fun K hK => ?_)
        have hcv := pt_text hn rfl
        clear hn
        go_simp
        refine hK.out _ _ hH2 (fun hHx => ?_)
        clear hK K hcv hH2
        try simp only [lyA, lyB, lyC, lyD]
        have HNp := hn2.kept hk id
        have HKf := hk2.trans hk
        clear hn2 hk hk2
        obtain ⟨Y0, hY0, hY1, hY2⟩ := rough_fold HRL.out (ptSize sz : Int) ((sd : Int) % 8) ⟨#[UInt8.ofNat sd, 1, UInt8.ofNat (sz % 256)]⟩ (.slice (some ⟨pb, 0, none⟩) 3 3)
        simp only [zeros, List.replicate, List.cons_append, List.nil_append] at hY0
        refine tk (v := .agg (roughC (ptSize sz) root ((sd : Int) % 8) ⟨#[UInt8.ofNat sd, 1, UInt8.ofNat (sz % 256)]⟩ (.slice (some ⟨pb, 0, none⟩) 3 3)).toArray) 22 rfl (fun _ _ _ h => h) hHx ?_
        clear hY0 hY1 hY2
        refine rd1 23 (fun K hK => ?_)
        go_simp
        refine (rough_any Wf (ptSize sz) root ((sd : Int) % 8) (ptS3 sz sd) (some ⟨pb, 0, none⟩) 3 3 HRL.out (ptS3_size _ _)).mono ?_
        rintro e w8 ⟨rfl, hk8⟩
        refine hK.out _ _ (hHx.turn hk8 id id id) (fun hHy => ?_)
        clear hK K hHx
        have HJ8 := HD.out.turn (HKf.trans hk8)
        have HNq := HNp.kept hk8 id
        clear HNp HKf hk8
        refine rd1 24 (fun K hK => ?_)
        rw [if_pos (by rfl)]
        refine wp_store_mid _ _ _ rfl (w.heap.size + 1) 0 #[.int .i64 (ptSize sz : Int), .slice a n c] rfl rfl (HJ8.o1.there 0 2 (by simp)) info_range_ (by simp [Value.oneCell']) ?_
        simp only [Act.put]
        have hset := HJ8.o1.setCells 0 [.int .i64 (ptSize sz : Int), .slice a n c] (by simp)
        rw [splice_whole (by rfl)] at hset
        have hk9 : Kept (· = w.heap.size + 1) w8 (w8.setCells (w.heap.size + 1) 0 [.int .i64 (ptSize sz : Int), .slice a n c]) := kept_setCells _ _ _ _
        have hlow := HD.out.r.lt
        refine hK.out _ _ (hHy.turn hk9 (by omega) (by omega) (by omega)) (fun hHz => ?_)
        clear hK K hHy
        have ho2 := (HJ8.o2.kept hk9 (by omega))
        have iS : (Tryz.prog.info? 63).map (·.size) = some (signedC (ptSize sz) root ((sd : Int) % 8) (ptSig sz sd) (.slice (some ⟨pb, 0, none⟩) 3 3)).length := by rw [signedC_len HRL.out]; exact info_signed_
        have hst2 := ho2.setCells 0 (signedC (ptSize sz) root ((sd : Int) % 8) (ptSig sz sd) (.slice (some ⟨pb, 0, none⟩) 3 3)) (by rw [signedC_len HRL.out, signZ_len]; omega)
        rw [splice_whole (by rw [signedC_len HRL.out, signZ_len])] at hst2
        have ho : ∀ x ∈ signedC (ptSize sz) root ((sd : Int) % 8) (ptSig sz sd) (.slice (some ⟨pb, 0, none⟩) 3 3), x.oneCell' = true := signed_one _ _ _ _ _ rfl
        have hpb2 := HNq.lt
        have hk10 : Kept (· = w.heap.size + 2) (w8.setCells (w.heap.size + 1) 0 [.int .i64 (ptSize sz : Int), .slice a n c]) ((w8.setCells (w.heap.size + 1) 0 [.int .i64 (ptSize sz : Int), .slice a n c]).setCells (w.heap.size + 2) 0 (signedC (ptSize sz) root ((sd : Int) % 8) (ptSig sz sd) (.slice (some ⟨pb, 0, none⟩) 3 3))) := kept_setCells _ _ _ _
        refine rd1 25 (fun K hK => ?_)
        rw [if_pos (by rfl)]
        refine wp_store_mid _ _ _ rfl (w.heap.size + 2) 0 (signedC (ptSize sz) root ((sd : Int) % 8) (ptSig sz sd) (.slice (some ⟨pb, 0, none⟩) 3 3)).toArray rfl rfl (ho2.there 0 _ (by rw [List.size_toArray, signedC_len HRL.out, signZ_len]; omega)) (by rw [List.size_toArray]; exact iS) (all_oneCell_toArray ho) ?_
        simp only [Act.put]
        refine hK.out _ _ (hHz.turn hk10 (by omega) (by omega) (by omega)) (fun _ => ?_)
        clear hK K hHz
        refine wpAnyH_done (by kernel_rfl) ?_ _
        go_wp2_with fail
        refine bodyPost_ret (results2_cells (hset.kept hk10 (by omega)) hst2 rfl rfl rfl Tryz.underlying55 rfl info_range_ Tryz.underlying63 rfl iS) rfl ⟨a, c, pb, ?_, Lib.hid ⟨?_, fun k hk => ?_, ?_, ?_, ?_⟩⟩
        · rw [hRR, hnn]
        · rw [hnn]
          exact (HJ8.row.kept hk9 (fun k q e => by have := HJ8.own k q; omega)).kept hk10 (fun k q e => by have := HJ8.own k q; omega)
        · rw [hnn] at hk
          have h1 := HD.out.own k hk
          have h2 := HD.out.row.lt hk
          exact ⟨by omega, by omega⟩
        · exact (HNq.kept hk9 (by omega)).kept hk10 (by omega)
        · omega
        · exact (HJ8.kept.then_ hk9 (fun i hi e => by omega)).then_ hk10 (fun i hi e => by omega)
end Go.Proofs.YtlgeijbgkipliaaGreatDoor
