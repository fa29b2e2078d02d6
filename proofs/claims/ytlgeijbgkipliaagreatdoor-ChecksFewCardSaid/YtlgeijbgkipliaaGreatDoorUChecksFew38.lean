/- Package ranges: Valid, Root. -/
import Derived.Test.YtlgeijbgkipliaaGreatDoorUChecksFew36
import Derived.Test.YtlgeijbgkipliaaGreatDoorUChecksFew12
import Derived.Test.YtlgeijbgkipliaaGreatDoorUChecksFew37
import Derived.Test.YtlgeijbgkipliaaGreatDoorUChecksFew10
set_option linter.unusedVariables false
set_option linter.unusedSimpArgs false
namespace Go.Proofs.YtlgeijbgkipliaaGreatDoor
open Go.RowKit Go.Shelf
attribute [local go_sem] Oper.semAt_some

abbrev rngV (size : Int) (v : Value) : Value := .agg #[.int .i64 size, v]
/-- A range may be. -/
def rngOk (size : Int) (n : Nat) : Prop := 0 ≤ size ∧ size ≤ 4096 ∧ n = ones size.toNat
instance (size : Int) (n : Nat) : Decidable (rngOk size n) := by unfold rngOk; infer_instance
theorem beq_cast (n o : Nat) : ((n : Int) == (o : Int)) = decide (n = o) := by
  by_cases q : n = o
  · subst q; simp
  · rw [decide_eq_false q]
    exact beq_eq_false_iff_ne.2 (by omega)
theorem kept_drewN (w : World) (o : Obj) (n : Nat) : Kept (fun _ => False) w ((w.alloc o).drewN n) := ((Kept.refl _ _).alloc _).drewN n
set_option maxRecDepth 100000 in
set_option maxHeartbeats 2000000 in
theorem rngValid_any (w : World) (size : Int) (a : Option Addr) (n c : Nat) (hn : n ≤ 1000000) (hs : -9223372036854775808 ≤ size ∧ size ≤ 9223372036854775807) :
    Calls Tryz.prog 140 #[rngV size (.slice a n c)] w fun e w' => e = .returned (.bool (decide (rngOk size n))) ∧ Kept (fun _ => False) w w' := by
  by_cases h0 : 0 ≤ size
  · have x1 : decide (0 ≤ size) = true := decide_eq_true h0
    by_cases h1 : size ≤ 4096
    · have x2 : decide (size ≤ 4096) = true := decide_eq_true h1
      obtain ⟨k, rfl⟩ : ∃ k : Nat, size = (k : Int) := ⟨size.toNat, by omega⟩
      have hk : k ≤ 4096 := by omega
      have HO := Lib.hid (fun w' => ones_any w' k hk)
      have HE := Lib.hid (show decide (rngOk (k : Int) n) = decide (n = ones k) from by
        rw [decide_eq_decide]; unfold rngOk; rw [Int.toNat_natCast]; omega)
      rw [HE.out]
      generalize ones k = o at *
      clear h0 h1 hs hk HE
      go_enter Tryz.func140, Tryz.ntmps140
      go_wp2_with fail
      go_quiet ((first | (go_at_call 157; with_reducible exact quiet_on (HO.out _)) | (go_at_call 157; with_reducible exact quiet_at (HO.out _))))
      go_wp2_with fail
      go_ret
      exact ⟨by simp [beq_cast], kept_drewN _ _ _⟩
    · have x2 : decide (size ≤ 4096) = false := decide_eq_false h1
      have HE := Lib.hid (show decide (rngOk size n) = false from decide_eq_false (fun q => h1 q.2.1))
      rw [HE.out]
      clear h0 h1 hs
      go_enter Tryz.func140, Tryz.ntmps140
      go_wp2_with fail
      go_quiet (fail)
      go_wp2_with fail
      go_ret
      exact ⟨by simp, kept_drewN _ _ _⟩
  · have x1 : decide (0 ≤ size) = false := decide_eq_false h0
    have HE := Lib.hid (show decide (rngOk size n) = false from decide_eq_false (fun q => h0 q.1))
    rw [HE.out]
    clear h0 hs
    go_enter Tryz.func140, Tryz.ntmps140
    go_wp2_with fail
    go_quiet (fail)
    go_wp2_with fail
    go_ret
    exact ⟨by simp, kept_drewN _ _ _⟩
/-- The root of trees side by side. -/
def rootH : List By → By
  | [] => shaF []
  | [h] => h
  | h :: h' :: r => nodeF h (rootH (h' :: r))
theorem rootH_snoc (l : List By) (x : By) : rootH (l ++ [x]) = l.foldr nodeF x := by
  induction l with
  | nil => rfl
  | cons a r ih =>
    cases r with
    | nil => rfl
    | cons b r => simp only [List.cons_append, rootH, List.foldr_cons] at ih ⊢; rw [ih]
theorem rootH_len {l : List By} (h : ∀ x ∈ l, x.length = 32) : (rootH l).length = 32 := by
  match l with
  | [] => exact shaF_len _
  | [a] => exact h a (by simp)
  | a :: b :: r => exact nodeF_len _ _
/-- The root so far, behind some from the end on. -/
def foldN {ns : List By} (o : By) (pre : List (BkH ns)) : By := pre.foldl (fun o x => nodeF x.1.2 o) o
theorem foldN_snoc {ns : List By} (o : By) (pre : List (BkH ns)) (x : BkH ns) : foldN o (pre ++ [x]) = nodeF x.1.2 (foldN o pre) := by simp [foldN]
theorem foldN_len {ns : List By} {o : By} (ho : o.length = 32) (pre : List (BkH ns)) : (foldN o pre).length = 32 := by
  induction pre generalizing o with
  | nil => exact ho
  | cons x r ih => exact ih (nodeF_len _ _)
theorem foldN_all {ns : List By} (o : By) (ys : List (BkH ns)) (h : ys.map (·.1) = backs ns) : foldN o ys = rootH (ns ++ [o]) := by
  have e : ys.map (fun x => x.1.2) = ns.reverse := by
    have := congrArg (List.map (·.2)) h
    rw [backs_map, List.map_map] at this
    exact this
  rw [rootH_snoc, ← List.foldl_reverse, ← e, List.foldl_map]
  rfl
/-- The world in which Root begins. -/
abbrev rootW (w : World) (size : Int) (v : Value) : World := (w.alloc (.cells #[.int .i64 size, v] 55)).alloc (.cells (zeros 32).toArray 57)
theorem root_start (w : World) (size : Int) (v : Value) {W1 W2 : World} (hW : W1 = rootW w size v) (hk : Kept (fun _ => False) W1 W2) : Blk W2 w.heap.size [.int .i64 size, v] 55 ∧ Blk W2 (w.heap.size + 1) (zeros 32) 57 ∧ Kept (fun _ => False) w W2 := by
  have b1 := (Blk.new w [.int .i64 size, v] 55).alloc (.cells (zeros 32).toArray 57)
  have b2 := Blk.new (w.alloc (.cells #[.int .i64 size, v] 55)) (zeros 32) 57
  simp only [World.size_alloc] at b2
  have k1 : Kept (fun _ => False) w W1 := by rw [hW]; exact ((Kept.refl _ _).alloc _).alloc _
  refine ⟨Blk.kept ?_ hk id, Blk.kept ?_ hk id, k1.trans hk⟩
  · rw [hW]; exact b1
  · rw [hW]; exact b2
/-- Between two rounds of Root's loop. -/
structure RootJ (w : World) (ob sb z : Nat) (v : Value) (la : By) {ns : List By} (pre : List (BkH ns)) (W : World) : Prop where
  out : Blk W ob (bytes8 (foldN la pre)) 57
  res : Blk W (w.heap.size + 1) (zeros 32) 57
  bs : Blk W sb [v] 53
  kept : Kept (fun _ => False) w W
  low : z ≤ W.heap.size ∧ w.heap.size + 1 < ob ∧ ob < sb ∧ sb < z
theorem RootJ.turn {w W W' : World} {ob sb z : Nat} {v : Value} {la : By} {ns : List By} {pre : List (BkH ns)} {Z : Nat → Prop} (h : RootJ w ob sb z v la pre W) (hk : Kept Z W W') (hZ : ∀ k, k < W.heap.size → Z k → w.heap.size ≤ k ∧ ¬ IsCells W k) : RootJ w ob sb z v la pre W' := by
  have nc : ∀ k, IsCells W k → ¬ Z k := fun k q z => (hZ k (by obtain ⟨_, _, _, q⟩ := q; exact (Array.getElem?_eq_some_iff.1 q).1) z).2 q
  exact ⟨h.out.kept hk (nc _ h.out.cells), h.res.kept hk (nc _ h.res.cells), h.bs.kept hk (nc _ h.bs.cells), h.kept.then_ hk (fun i hi z => by have := (hZ i (Nat.lt_of_lt_of_le hi h.kept.size) z).1; omega), Nat.le_trans h.low.1 hk.size, h.low.2⟩
/-- The root so far is written anew. -/
theorem RootJ.next {w W W1 : World} {ob sb z : Nat} {v : Value} {la : By} {ns : List By} {pre : List (BkH ns)} {x : BkH ns} (h : RootJ w ob sb z v la pre W) (hla : la.length = 32) (hk : Kept (fun _ => False) W W1) :
    W1.there ob 0 (bytes8 (nodeF x.1.2 (foldN la pre))).toArray.size ∧ RootJ w ob sb z v la (pre ++ [x]) (W1.setCells ob 0 (bytes8 (nodeF x.1.2 (foldN la pre)))) ∧ Kept (· = ob) W (W1.setCells ob 0 (bytes8 (nodeF x.1.2 (foldN la pre)))) := by
  have h1 := h.turn hk (fun _ _ => False.elim)
  have e1 : (bytes8 (nodeF x.1.2 (foldN la pre))).length = 32 := by rw [bytes8_len, nodeF_len]
  have e2 : (bytes8 (foldN la pre)).length = 32 := by rw [bytes8_len, foldN_len hla]
  have hs := h1.out.setCells 0 (bytes8 (nodeF x.1.2 (foldN la pre))) (by omega)
  rw [splice_whole (by omega), ← foldN_snoc] at hs
  have k2 := kept_setCells W1 ob 0 (bytes8 (nodeF x.1.2 (foldN la pre)))
  have hl := h.low
  refine ⟨h1.out.there 0 _ (by rw [List.size_toArray]; omega), ⟨?_, h1.res.kept k2 (by omega), h1.bs.kept k2 (by omega), h1.kept.then_ k2 (fun i hi e => by omega), Nat.le_trans h1.low.1 k2.size, hl.2⟩, (hk.mono (fun _ _ => False.elim)).trans k2⟩
  rw [foldN_snoc] at hs ⊢
  exact hs
set_option maxRecDepth 100000 in
set_option maxHeartbeats 8000000 in
theorem rngRootS (w : World) (size : Int) (a : Option Addr) (c : Nat) (ini : List By) (la : By) (hv : View w 32 (.slice a (ini.length + 1) c) (hcells (ini ++ [la]))) (h32 : ∀ x ∈ ini ++ [la], x.length = 32) (hlen : ini.length ≤ 100000) (hok : rngOk size (ini.length + 1)) (ht : Tab w) :
    Calls Tryz.prog 112 #[rngV size (.slice a (ini.length + 1) c)] w fun e w' => e = .returned (.tuple #[hashV (rootH (ini ++ [la])), .int .i64 0]) ∧ Kept (fun _ => False) w w' := by
  refine (callsIn_wide (n := 6)).1 ?_
  obtain ⟨W1, hW1⟩ : ∃ W1, W1 = rootW w size (.slice a (ini.length + 1) c) := ⟨_, rfl⟩
  obtain ⟨i1, i2, i3⟩ := root_start w size (.slice a (ini.length + 1) c) hW1 (Kept.refl _ _)
  have c0 := i1.cell (i := 0) rfl
  have c1 := i1.cell (i := 1) rfl
  have hV := rngValid_any W1 size a (ini.length + 1) c (by omega) (by obtain ⟨q1, q2, _⟩ : 0 ≤ size ∧ size ≤ 4096 ∧ ini.length + 1 = ones size.toNat := hok; omega)
  rw [decide_eq_true hok] at hV
  have HV := Lib.hid (callsIn_wide (n := 5) |>.2 hV)
  have HBK := Lib.hid (fun a m c w' => callsIn_wide (n := 5) |>.2 (backwardH_any a m c w'))
  have hfV : Fence.wide.fn 140 := trivial
  have hfB : Fence.wide.fn 142 := trivial
  have hs0 : ¬ size = 0 := by
    intro e
    have h1 := hok.2.2
    rw [e] at h1
    have : ones (Int.toNat 0) = 0 := by decide
    omega
  have y1 : decide (size = 0) = false := decide_eq_false hs0
  have y2 : (size == 0) = false := beq_eq_false_iff_ne.2 hs0
  have hv0 := hv
  obtain ⟨_, _, _, ev, hm, hml, hcl, _, hcl2⟩ := hv
  cases ev
  obtain ⟨g, off, rfl, hg, hcc⟩ := hcl2 (Nat.succ_pos _)
  have hrl := hash_range (w := w) h32 hcc (q := ini.length) (x := la) (by simp)
  have hla : la.length = 32 := h32 la (by simp)
  have HI := Lib.hid (And.intro i1 (And.intro i2 i3))
  have HH := Lib.hid (And.intro hv0 (And.intro h32 (And.intro ht (And.intro hrl (And.intro hla hg)))))
  have hL : (Tryz.prog.info? 57).map (·.size) = some (bytes8 la).length := by rw [bytes8_len, hla]; exact info_h32
  have HL := Lib.hid hL
  have z1 : decide (((ini.length + 1 : Nat) : Int) - 1 < 0) = false := decide_eq_false (by omega)
  clear i1 i2 i3 hv0 h32 ht hok hs0 hV hcc hcl2 hm hrl hla hg hL
  refine callsIn_of_wp_marks Tryz.func112 rfl trivial ?_ rfl
  simp only [Tryz.ntmps112, List.size_toArray, List.length_cons, List.length_nil, Nat.reduceAdd, Nat.reduceSub, Array.replicate_succ, Array.replicate_zero, List.push_toArray, List.append_toArray, List.nil_append, List.cons_append]
  gi_upto_region 1 with (fail)
  generalize hWx : World.alloc _ _ = Wx
  obtain rfl : W1 = Wx := by rw [hW1, ← hWx]; rfl
  clear hW1 hWx
  gi_upto_region 6 with (gi_at_call 140; refine HV.out.mono ?_; rintro e w1 ⟨rfl, hk1⟩; have c01 := hk1.cell c0 id; have c11 := hk1.cell c1 id; have HK1 := Lib.hid hk1; clear hk1)
  have k1 := HI.out.2.2.trans HK1.out
  have hrl1 : w1.rangeAt g (off + ini.length * 32) (bytes8 la) := fun j v hv => k1.cell (HH.out.2.2.2.1 j v hv) id
  have hbo := Blk.new w1 (zeros 32) 57
  have HB := Lib.hid (And.intro hrl1 (And.intro (hbo.there 0 32 (by simp [zeros_len])) (show Blk ((w1.alloc (.cells (zeros 32).toArray 57)).setCells w1.heap.size 0 (bytes8 la)) w1.heap.size (bytes8 la) 57 from by
    have h1 := hbo.setCells 0 (bytes8 la) (by rw [bytes8_len, HH.out.2.2.2.2.1, zeros_len]; omega)
    rw [splice_whole (by rw [bytes8_len, HH.out.2.2.2.2.1, zeros_len])] at h1
    exact h1)))
  clear hrl1 hbo k1
  gi_upto_region 7 with (first
    | ((with_reducible show wpListIn _ _ _ _ _ (⟨some 26, _, _, _, _, _⟩ :: _) _ _); refine wpListIn_load_mid rfl 57 _ rfl g (off + ini.length * 32) rfl (bytes8 la) _ HB.out.1 Tryz.underlying57 rfl HL.out ?_)
    | ((with_reducible show wpListIn _ _ _ _ _ (⟨none, .store _ (.tmp 5) _, _, _, _, _⟩ :: _) _ _); refine wpListIn_store_row rfl 57 _ _ rfl w1.heap.size 0 (bytes8 la).toArray rfl rfl ?ht1 ?hi1 ?h11 ?_))
  case ht1 =>
    have e : (bytes8 la).toArray.size = 32 := by rw [List.size_toArray, bytes8_len]; exact HH.out.2.2.2.2.1
    rw [e]
    exact HB.out.2.1
  case hi1 => exact (by rw [List.size_toArray]; exact HL.out)
  case h11 => exact all_oneCell_toArray u8_oneCell
  generalize hW2 : World.setCells _ w1.heap.size 0 _ = W2
  have b5 : Blk W2 w1.heap.size (bytes8 la) 57 := by rw [← hW2]; exact HB.out.2.2
  have k2 : Kept (fun _ => False) w1 W2 := by
    rw [← hW2]
    exact ((Kept.refl (fun _ => False) w1).alloc _).then_ (kept_setCells _ _ _ _) (fun i hi e => by omega)
  clear hW2 HB
  have c12 := k2.cell c11 id
  gi_wp2_with (gi_at_call 142; refine (HBK.out _ _ _ _).mono ?_; rintro e w' ⟨rfl, rfl⟩)
  have hz0 := HI.out.2.1.lt
  have hz1 := HK1.out.size
  have hz2 : w1.heap.size < W2.heap.size := b5.lt
  have hbs : Blk (W2.alloc (.cells #[.slice (some ⟨g, off, none⟩) ini.length c] 53)) W2.heap.size [.slice (some ⟨g, off, none⟩) ini.length c] 53 := Blk.new W2 [.slice (some ⟨g, off, none⟩) ini.length c] 53
  have hzz : W2.heap.size < (W2.alloc (.cells #[.slice (some ⟨g, off, none⟩) ini.length c] 53)).heap.size := by rw [World.size_alloc]; omega
  have hJ0 : RootJ w w1.heap.size W2.heap.size (W2.alloc (.cells #[.slice (some ⟨g, off, none⟩) ini.length c] 53)).heap.size (.slice (some ⟨g, off, none⟩) ini.length c) la ([] : List (BkH ini)) (W2.alloc (.cells #[.slice (some ⟨g, off, none⟩) ini.length c] 53)) :=
    ⟨b5.alloc _, ((HI.out.2.1.kept HK1.out id).kept k2 id).alloc _, hbs, ((HI.out.2.2.trans HK1.out).trans k2).alloc _, Nat.le_refl _, by omega, hz2, hzz⟩
  have hvm : View (W2.alloc (.cells #[.slice (some ⟨g, off, none⟩) ini.length c] 53)) 32 (.slice (some ⟨g, off, none⟩) ini.length c) (hcells ini) := by
    have h1 := (HH.out.1.same (((HI.out.2.2.trans HK1.out).trans k2).alloc (.cells #[.slice (some ⟨g, off, none⟩) ini.length c] 53)) (by omega)).head ini.length (by omega)
    have e : (hcells (ini ++ [la])).take (ini.length * 32) = hcells ini := by
      have hl2 : (hcells ini).length = ini.length * 32 := hcells_len (fun x hx => HH.out.2.1 x (by simp [hx]))
      rw [show hcells (ini ++ [la]) = hcells ini ++ bytes8 la by simp [hcells, bytes8], List.take_append_of_le_length (by omega), List.take_of_length_le (by omega)]
    rw [e] at h1
    exact h1
  have h32i : ∀ x ∈ ini, x.length = 32 := fun x hx => HH.out.2.1 x (by simp [hx])
  have hgl : g < W2.heap.size := by have := HH.out.2.2.2.2.2; omega
  obtain ⟨W0, hW0⟩ : ∃ W0, W2.alloc (.cells #[.slice (some ⟨g, off, none⟩) ini.length c] 53) = W0 := ⟨_, rfl⟩
  rw [hW0] at hbs hzz hJ0 hvm ⊢
  have hIown : OwnFrom W0.heap.size (fun (pre : List (BkH ini)) W => RootJ w w1.heap.size W2.heap.size W0.heap.size (.slice (some ⟨g, off, none⟩) ini.length c) la pre W) := fun pre X Y row h hg hr =>
    h.turn (grown_kept hg) (fun k _ e => by obtain ⟨h1, o, ho, hc⟩ := hr k e; exact ⟨by omega, nonCells ho hc⟩)
  clear hW0 c12 b5 k2 HI HK1 HV HBK c01 c11 c0 c1
  refine wpIn_rangeFunc_ownH rfl (by omega) (gf := 160) (lb := #[.pointer (some ⟨W2.heap.size, 0, none⟩)]) rfl trivial (enters_of Tryz.func160 (by kernel_rfl) rfl)
    (backH_stops Fence.wide _ trivial rfl (by omega) W2.heap.size W0.heap.size (fun k => ¬ (k = W2.heap.size ∨ k = g)) (some ⟨g, off, none⟩) c ini h32i (by omega) W0 (hbs.cell (i := 0) rfl) hzz ⟨hzz, fun q => q (Or.inl rfl)⟩ hvm (fun _ k q => ⟨by simp [Value.ownBlock] at q; omega, fun n => n (Or.inr (by simp [Value.ownBlock] at q; exact q.symm))⟩))
    (fun h1 h2 => h1.trans h2) (fun W l o o' hl _ _ _ => KeptB.putObj _ W l o' hl) (Below.refl _ _) (fun _ => rfl)
    (fun pre W => RootJ w w1.heap.size W2.heap.size W0.heap.size (.slice (some ⟨g, off, none⟩) ini.length c) la pre W)
    (fun _ _ _ => False) hIown (fun _ _ _ _ _ hs _ _ => hs) hJ0
    (fun x a' W => ∃ b, Blk W b (bytes8 x.1.2) 57 ∧ W0.heap.size ≤ b ∧ a' = { tmps := #[rngV size (.slice (some ⟨g, off, none⟩) (ini.length + 1) c), .pointer (some ⟨w.heap.size, 0, none⟩), .pointer (some ⟨w.heap.size + 1, 0, none⟩), .int .i64 0, .int .i64 (ini.length : Int), .pointer (some ⟨w1.heap.size, 0, none⟩), undef, .pointer (some ⟨b, 0, none⟩), .bool false, .agg #[.int .i64 size, .slice (some ⟨g, off, none⟩) (ini.length + 1) c], .bool true, .bool false, undef, .bool false, .pointer (some ⟨w.heap.size, 0, none⟩), .int .i64 size, .bool false, undef, .pointer (some ⟨w.heap.size, 1, none⟩), .slice (some ⟨g, off, none⟩) (ini.length + 1) c, .int .i64 ((ini.length : Int) + 1), .int .i64 (ini.length : Int), .pointer (some ⟨w.heap.size, 1, none⟩), .slice (some ⟨g, off, none⟩) (ini.length + 1) c, .int .i64 (ini.length : Int), .pointer (some ⟨g, off + ini.length * 32, none⟩), hashV la, .pointer (some ⟨w.heap.size, 1, none⟩), .slice (some ⟨g, off, none⟩) (ini.length + 1) c, .int .i64 (ini.length : Int), .slice (some ⟨g, off, none⟩) ini.length c, .func (.func 160) #[] #[.pointer (some ⟨W2.heap.size, 0, none⟩)], .int .i64 (x.1.1 : Int), hashV x.1.2, undef, undef, undef, undef], defers := [] })
    ?hAx ?assign ?body ?done ?stop
  case hAx =>
    rintro x a' u X Y row ⟨b, hb, hb2, e⟩ hg hr
    exact ⟨b, hb.kept (grown_kept hg) (fun e => by obtain ⟨_, o, ho, hc⟩ := hr _ e; exact nonCells ho hc hb.cells), hb2, e⟩
  case assign =>
    intro l pre x W K hi hK
    have hx32 := h32i x.1.2 (backs_mem x.2)
    have hbn := Blk.new W (zeros 32) 57
    have HS := Lib.hid (And.intro (hbn.there 0 32 (by simp [zeros_len])) (show Blk ((W.alloc (.cells (zeros 32).toArray 57)).setCells W.heap.size 0 (bytes8 x.1.2)) W.heap.size (bytes8 x.1.2) 57 ∧ Kept (fun _ => False) W ((W.alloc (.cells (zeros 32).toArray 57)).setCells W.heap.size 0 (bytes8 x.1.2)) from by
      have h1 := hbn.setCells 0 (bytes8 x.1.2) (by rw [bytes8_len, hx32, zeros_len]; omega)
      rw [splice_whole (by rw [bytes8_len, hx32, zeros_len])] at h1
      exact ⟨h1, ((Kept.refl (fun _ => False) W).alloc _).then_ (kept_setCells _ _ _ _) (fun i hi e => by omega)⟩))
    have hsz : (Tryz.prog.info? 57).map (·.size) = some (bytes8 x.1.2).length := by rw [bytes8_len, hx32]; exact info_h32
    have HZ := Lib.hid (And.intro hsz hx32)
    have HII := Lib.hid hi
    clear hbn hsz hx32 hi
    gi_wp2_with ((with_reducible show wpListIn _ _ _ _ _ (⟨none, .store _ (.tmp 7) _, _, _, _, _⟩ :: _) _ _); refine wpListIn_store_row rfl 57 _ _ rfl W.heap.size 0 (bytes8 x.1.2).toArray rfl rfl ?hta ?hia ?h1a ?_)
    case hta =>
      have e : (bytes8 x.1.2).toArray.size = 32 := by rw [List.size_toArray, bytes8_len]; exact HZ.out.2
      first
      | (rw [e]; exact HS.out.1)
      | (rw [List.size_toArray] at e; rw [e]; exact HS.out.1)
    case hia => first
      | exact (by rw [List.size_toArray]; exact HZ.out.1)
      | simpa using HZ.out.1
    case h1a => first
      | exact all_oneCell_toArray u8_oneCell
      | exact fun v hv => u8_oneCell v hv
    exact hK _ _ (CellsT.keepsFrom HS.out.2.2 (fun _ _ => False.elim) _) (HS.out.2.2.keptB HII.out.low.1 (fun _ _ => False.elim)) (HII.out.turn HS.out.2.2 (fun _ _ => False.elim)) ⟨W.heap.size, HS.out.2.1, HII.out.low.1, rfl⟩
  case body =>
    rintro l pre x a' W hl ⟨r, hr⟩ hI ⟨b, hb, hb2, rfl⟩ hlt
    have hx32 := h32i x.1.2 (backs_mem x.2)
    have hla := HH.out.2.2.2.2.1
    have hf32 : (foldN la pre).length = 32 := foldN_len hla pre
    have HN := Lib.hid (((callsIn_wide (n := 3)).2 (node_any W x.1.2 (foldN la pre) hx32 hf32 (HH.out.2.2.1.same hI.kept))).inRound l)
    have HP := Lib.hid (And.intro hb.range0 (And.intro hI.out.range0 (And.intro (show (Tryz.prog.info? 57).map (·.size) = some (bytes8 x.1.2).length by rw [bytes8_len, hx32]; exact info_h32) (And.intro (show (Tryz.prog.info? 57).map (·.size) = some (bytes8 (foldN la pre)).length by rw [bytes8_len, hf32]; exact info_h32) (show (Tryz.prog.info? 57).map (·.size) = some (bytes8 (nodeF x.1.2 (foldN la pre))).toArray.size by rw [List.size_toArray, bytes8_len, nodeF_len]; exact info_h32)))))
    have HNX := Lib.hid (fun Wx (hk : Kept (fun _ => False) W Wx) => hI.next (x := x) hla hk)
    have HIC := Lib.hid hI
    have hfN : Fence.wide.fn 143 := trivial
    clear hr hI hb hx32 hla hf32 hJ0 hIown hvm hbs h32i
    gi_wp2_with (first
      | ((with_reducible show wpListIn _ _ _ _ _ (⟨some 34, _, _, _, _, _⟩ :: _) _ _); refine wpListIn_load_mid rfl 57 _ rfl b 0 rfl (bytes8 x.1.2) _ HP.out.1 Tryz.underlying57 rfl HP.out.2.2.1 ?_)
      | ((with_reducible show wpListIn _ _ _ _ _ (⟨some 35, _, _, _, _, _⟩ :: _) _ _); refine wpListIn_load_mid rfl 57 _ rfl w1.heap.size 0 rfl (bytes8 (foldN la pre)) _ HP.out.2.1 Tryz.underlying57 rfl HP.out.2.2.2.1 ?_)
      | (gi_at_call 143; refine HN.out.mono ?_; rintro e W3 ⟨rfl, hk3⟩; have HK3 := Lib.hid hk3; clear hk3)
      | ((with_reducible show wpListIn _ _ _ _ _ (⟨none, .store _ (.tmp 5) _, _, _, _, _⟩ :: _) _ _); refine wpListIn_store_row rfl 57 _ _ rfl w1.heap.size 0 (bytes8 (nodeF x.1.2 (foldN la pre))).toArray rfl rfl ?htb ?hib ?h1b ?_))
    case htb => exact (HNX.out W3 HK3.out).1
    case hib => exact HP.out.2.2.2.2
    case h1b => exact all_oneCell_toArray u8_oneCell
    obtain ⟨-, hJ2, hk2⟩ := HNX.out W3 HK3.out
    refine ⟨CellsT.keepsFrom hk2 (fun k hl z => by subst z; exact HIC.out.out.cells) _, hk2.keptB HIC.out.low.1 (fun k _ z q => ?_), hJ2⟩
    have := HH.out.2.2.2.2.2
    rcases q with e | e
    · omega
    · omega
  case done =>
    rintro D ys W hD hy hI hK
    have hf32 : (foldN la ys).length = 32 := foldN_len HH.out.2.2.2.2.1 ys
    have HY := Lib.hid (foldN_all la ys hy)
    have hs := hI.res.setCells 0 (bytes8 (foldN la ys)) (by rw [bytes8_len, hf32, zeros_len]; omega)
    rw [splice_whole (by rw [bytes8_len, hf32, zeros_len])] at hs
    have HP := Lib.hid (And.intro hI.out.range0 (And.intro (show (Tryz.prog.info? 57).map (·.size) = some (bytes8 (foldN la ys)).length by rw [bytes8_len, hf32]; exact info_h32) (And.intro (hI.res.there 0 (bytes8 (foldN la ys)).toArray.size (by rw [List.size_toArray, bytes8_len, hf32, zeros_len]; omega)) hs)))
    have HIC := Lib.hid hI
    clear hy hI hf32 hs hJ0 hIown hvm hbs h32i
    generalize foldN la ys = Q at *
    gi_wp2_with (first
      | ((with_reducible show wpListIn _ _ _ _ _ (⟨some 37, _, _, _, _, _⟩ :: _) _ _); refine wpListIn_load_mid rfl 57 _ rfl w1.heap.size 0 rfl (bytes8 Q) _ HP.out.1 Tryz.underlying57 rfl HP.out.2.1 ?_)
      | ((with_reducible show wpListIn _ _ _ _ _ (⟨none, .store _ (.tmp 2) _, _, _, _, _⟩ :: _) _ _); refine wpListIn_store_row rfl 57 _ _ rfl (w.heap.size + 1) 0 (bytes8 Q).toArray rfl rfl HP.out.2.2.1 (by rw [List.size_toArray]; exact HP.out.2.1) (all_oneCell_toArray u8_oneCell) ?_))
    have k5 : Kept (fun k => k = w.heap.size + 1) W (W.setCells (w.heap.size + 1) 0 (bytes8 Q)) := kept_setCells _ _ _ _
    have hK4 : (W.setCells (w.heap.size + 1) 0 (bytes8 Q)).heap[D]? = some (.deferred (some [])) := by
      rw [k5.block D (Array.getElem?_eq_some_iff.1 hK).1 (by have := HIC.out.low; omega)]; exact hK
    refine ⟨by simp, .inl ⟨_, _, rfl, run_takeDeferred hK4, ?_⟩⟩
    have kD := grown_kept (grownBy_putObj' (W.setCells (w.heap.size + 1) 0 (bytes8 Q)) D (.deferred none))
    have hr5 := HP.out.2.2.2.kept kD (fun e => by cases e; have := HIC.out.low; omega)
    refine ⟨.tuple #[hashV (rootH (ini ++ [la])), .int .i64 0], ?_, rfl, (HIC.out.kept.then_ k5 (fun i hi e => by omega)).then_ kD (fun i hi e => by cases e; have := HIC.out.kept.size; have := HIC.out.low; omega)⟩
    rw [← HY.out]

    exact hr5.result2 (p := 2) (u := 3) rfl rfl Tryz.underlying57 rfl HP.out.2.1
  case stop =>
    rintro D c pre W _ _ h _
    exact h.elim
theorem ones_pos {n : Nat} (h : 0 < n) (hn : n ≤ 4096) : 0 < ones n := by
  rcases Nat.eq_zero_or_pos (ones n) with q | q
  · have := ones_zero q hn; omega
  · exact q
set_option maxRecDepth 100000 in
set_option maxHeartbeats 2000000 in
theorem rngRoot0 (w : World) (a : Option Addr) (c : Nat) (ht : Tab w) :
    Calls Tryz.prog 112 #[rngV 0 (.slice a 0 c)] w fun e w' => e = .returned (.tuple #[hashV (rootH []), .int .i64 0]) ∧ Kept (fun _ => False) w w' := by
  refine (callsIn_wide (n := 6)).1 ?_
  obtain ⟨W1, hW1⟩ : ∃ W1, W1 = rootW w 0 (.slice a 0 c) := ⟨_, rfl⟩
  obtain ⟨i1, i2, i3⟩ := root_start w 0 (.slice a 0 c) hW1 (Kept.refl _ _)
  have c0 := i1.cell (i := 0) rfl
  have c1 := i1.cell (i := 1) rfl
  have hV := rngValid_any W1 0 a 0 c (by omega) (by omega)
  rw [decide_eq_true (show rngOk 0 0 from ⟨by omega, by omega, by decide⟩)] at hV
  have HV := Lib.hid (callsIn_wide (n := 5) |>.2 hV)
  have hfV : Fence.wide.fn 140 := trivial
  have hfR : Fence.wide.fn 141 := trivial
  have HR := Lib.hid (fun w1 (hk : Kept (fun _ => False) W1 w1) => callsIn_wide (n := 5) |>.2 (root_any w1 (.slice none 0 0) [] (View.nil _ _) (fun x hx => by simp at hx) (by simp) (ht.same (i3.trans hk))))
  have HI := Lib.hid (And.intro i2 i3)
  have hsz : (Tryz.prog.info? 57).map (·.size) = some (bytes8 (rootF [])).length := by rw [bytes8_len, rootF_len (fun x hx => by simp at hx)]; exact info_h32
  have hl32 : (rootF []).length = 32 := rootF_len (fun x hx => by simp at hx)
  have HSZ := Lib.hid (And.intro hsz hl32)
  have HQ := Lib.hid (show rootF [] = rootH [] from rfl)
  clear i1 i2 i3 hV hsz hl32
  refine callsIn_of_wp_marks Tryz.func112 rfl trivial ?_ rfl
  simp only [Tryz.ntmps112, List.size_toArray, List.length_cons, List.length_nil, Nat.reduceAdd, Nat.reduceSub, Array.replicate_succ, Array.replicate_zero, List.push_toArray, List.append_toArray, List.nil_append, List.cons_append]
  gi_upto_region 1 with (fail)
  generalize hWx : World.alloc _ _ = Wx
  obtain rfl : W1 = Wx := by rw [hW1, ← hWx]; rfl
  clear hW1 hWx
  generalize rootF [] = Q at *
  gi_wp2_with (first
    | (gi_at_call 140; refine HV.out.mono ?_; rintro e w1 ⟨rfl, hk1⟩; have c01 := hk1.cell c0 id; have HK1 := Lib.hid hk1; clear hk1)
    | (gi_at_call 141; refine (HR.out _ HK1.out).mono ?_; rintro e w2 ⟨rfl, hk2⟩; have HK2 := Lib.hid (HK1.out.trans hk2); clear hk2)
    | ((with_reducible show wpListIn _ _ _ _ _ (⟨none, .store _ (.tmp 2) _, _, _, _, _⟩ :: _) _ _); refine wpListIn_store_row rfl 57 _ _ rfl (w.heap.size + 1) 0 (bytes8 Q).toArray rfl rfl ?ht1 ?hi1 ?h11 ?_))
  case ht1 =>
    have e : (bytes8 Q).toArray.size = 32 := by rw [List.size_toArray, bytes8_len]; exact HSZ.out.2
    have := (HI.out.1.kept HK2.out id).there 0 32 (by simp [zeros_len])
    first
    | (rw [e]; exact this)
    | (rw [List.size_toArray] at e; rw [e]; exact this)
  case hi1 => first
    | exact (by rw [List.size_toArray]; exact HSZ.out.1)
    | simpa using HSZ.out.1
  case h11 => first
    | exact all_oneCell_toArray u8_oneCell
    | exact fun v hv => u8_oneCell v hv
  have b2 := HI.out.1.kept HK2.out id
  have hs := b2.setCells 0 (bytes8 Q) (by rw [bytes8_len, HSZ.out.2, zeros_len]; omega)
  rw [splice_whole (by rw [bytes8_len, HSZ.out.2, zeros_len])] at hs
  refine ⟨.tuple #[hashV Q, .int .i64 0], hs.result2 (p := 2) (u := 3) rfl rfl Tryz.underlying57 rfl HSZ.out.1, by rw [HQ.out], (HI.out.2.trans HK2.out).then_ (kept_setCells _ _ _ _) (fun i hi e => by omega)⟩
theorem rngRoot_any (w : World) (size : Int) (a : Option Addr) (c : Nat) (hs : List By) (hv : View w 32 (.slice a hs.length c) (hcells hs)) (h32 : ∀ x ∈ hs, x.length = 32) (hlen : hs.length ≤ 100000) (hok : rngOk size hs.length) (ht : Tab w) :
    Calls Tryz.prog 112 #[rngV size (.slice a hs.length c)] w fun e w' => e = .returned (.tuple #[hashV (rootH hs), .int .i64 0]) ∧ Kept (fun _ => False) w w' := by
  rcases hs.eq_nil_or_concat with rfl | ⟨ini, la, rfl⟩
  · obtain ⟨q1, q2, q3⟩ : 0 ≤ size ∧ size ≤ 4096 ∧ 0 = ones size.toNat := hok
    have : size.toNat = 0 := ones_zero q3.symm (by omega)
    obtain rfl : size = 0 := by omega
    exact rngRoot0 w a c ht
  · rw [List.concat_eq_append] at *
    have e : (ini ++ [la]).length = ini.length + 1 := by simp
    rw [e] at hv hlen hok ⊢
    exact rngRootS w size a c ini la hv h32 (by omega) hok ht
end Go.Proofs.YtlgeijbgkipliaaGreatDoor
