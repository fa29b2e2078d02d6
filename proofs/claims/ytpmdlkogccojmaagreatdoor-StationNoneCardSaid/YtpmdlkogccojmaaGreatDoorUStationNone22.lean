/- Paths3 KeyT1 KeyT2 KeyT3 KeyT4 Heads1 Heads2 Heads3 Heads4 HeadEq -/
import Derived.WalkMore
import Derived.Deep.RegionHeld3
import Derived.BigQuiet
import Derived.Laws.StructEq
import Derived.ChangeKeysEq
import Derived.Test.YtpmdlkogccojmaaGreatDoorUStationNone18
import Derived.Test.YtpmdlkogccojmaaGreatDoorUStationNone21
import Derived.Test.YtpmdlkogccojmaaGreatDoorUStationNone20
set_option linter.unusedVariables false
set_option linter.unusedSimpArgs false
namespace Go.Proofs.YtpmdlkogccojmaaGreatDoor
open Go.RowKit
def ints8 (l : By) : List Int := l.map fun b => (b.toNat : Int)
theorem bytes8_ints (l : By) : bytes8 l = (ints8 l).map (Value.int .u8) := by simp [bytes8, ints8]
theorem ints8_inj {a b : By} : ints8 a = ints8 b ↔ a = b := by
  constructor
  · intro h
    apply List.ext_getElem
    · have := congrArg List.length h
      simpa [ints8] using this
    · intro i h1 h2
      have h3 : (ints8 a)[i]? = (ints8 b)[i]? := by rw [h]
      simp [ints8, List.getElem?_eq_getElem h1, List.getElem?_eq_getElem h2] at h3
      exact UInt8.toNat_inj.1 (by omega)
  · rintro rfl; rfl
theorem hash_under : Tryz.prog.underlying 24 = some (.array 32 5) := Tryz.underlying24
theorem neq_hash (w : World) (a b : By) (ha : a.length = 32) (hb : b.length = 32) :
    (binOp .neq 24 (.agg (bytes8 a).toArray) (.agg (bytes8 b).toArray)).run Tryz.prog w = .ok (.bool (!decide (a = b))) w := by
  obtain ⟨i, hi, _⟩ := info_parts info_u8
  rw [bytes8_ints, bytes8_ints, run_neq_ints w hash_under Tryz.underlying5 hi (by kernel_rfl) (ints8 a) (ints8 b) (by simp [ints8, ha]) (by simp [ints8, hb])]
  simp only [ints8_inj]
theorem wpList_load_wanted {P : Program} {ops : Array Oper} {rest : List Oper} {op : Oper} {a : Act} {w : World} {Q : Exit → Act → World → Prop} (hgd : Region.wanted op (yielded ops a.tmps) = true) (ty : TypeId) (x : Operand) (ho : op.op = .load ty x)
    (b o : Nat) (hx : a.eval x = .pointer (some ⟨b, o, none⟩)) (cs : List Value) (d : TypeDesc) (hc : w.rangeAt b o cs)
    (hu : P.underlying ty = some d) (hd : d.isRow = true) (hi : (P.info? ty).map (·.size) = some cs.length)
    (h : wpList P ops Q rest (a.put op.dst (.agg cs.toArray)) w) : wpList P ops Q (op :: rest) a w := by
  unfold wpList
  rw [if_pos hgd]
  exact Or.inl (wp_load_mid ty x ho b o hx cs d hc hu hd hi h)
end Go.Proofs.YtpmdlkogccojmaaGreatDoor

namespace Go.Proofs.YtpmdlkogccojmaaGreatDoor
open Go.RowKit
def IsTree (w : World) (t : Nat) (seed : ByteArray) (L : List By) : Prop := Blk w t ([.bool true, .string seed] ++ hcells L) 192 ∧ L.length = 8 ∧ ∀ x ∈ L, x.length = 32
theorem IsTree.kept {S : Nat → Prop} {w w' : World} {t : Nat} {seed : ByteArray} {L : List By} (h : IsTree w t seed L) (hk : Kept S w w') (hS : ¬ S t) : IsTree w' t seed L := ⟨h.1.kept hk hS, h.2⟩
set_option maxRecDepth 100000 in
theorem tree_zero (seed : ByteArray) : (Tryz.zeroCells192.setIfInBounds 0 (.bool true)).setIfInBounds 1 (.string seed) = ([Value.bool true, Value.string seed] ++ zeros 256).toArray := by rfl
def treeTo (seed : ByteArray) (L : List By) (k : Nat) : List Value := [.bool true, .string seed] ++ (hcells (L.take k) ++ zeros ((8 - k) * 32))
theorem treeTo_len (seed : ByteArray) {L : List By} (h : ∀ x ∈ L, x.length = 32) (hL : L.length = 8) (k : Nat) (hk : k ≤ 8) : (treeTo seed L k).length = 258 := by
  unfold treeTo
  rw [List.length_append, List.length_append, hcells_len (fun x hx => h x (List.mem_of_mem_take hx)), zeros_len, List.length_take]
  simp only [List.length_cons, List.length_nil]
  omega
theorem treeTo_zero (seed : ByteArray) (L : List By) : treeTo seed L 0 = [.bool true, .string seed] ++ zeros 256 := by simp [treeTo, hcells, bytes8]
theorem treeTo_all (seed : ByteArray) {L : List By} (hL : L.length = 8) : treeTo seed L 8 = [.bool true, .string seed] ++ hcells L := by
  unfold treeTo
  rw [List.take_of_length_le (by omega)]
  simp [zeros]
theorem treeTo_step (seed : ByteArray) {L : List By} (h : ∀ x ∈ L, x.length = 32) (hL : L.length = 8) (k : Nat) (a : By) (ha : L[k]? = some a) : splice (treeTo seed L k) (2 + k * 32) (bytes8 a) = treeTo seed L (k + 1) := by
  obtain ⟨hk, he⟩ := List.getElem?_eq_some_iff.1 ha
  have ha32 := h a (List.mem_of_getElem? ha)
  have hl : (hcells (L.take k)).length = k * 32 := by
    rw [hcells_len (fun x hx => h x (List.mem_of_mem_take hx)), List.length_take]; omega
  have e1 : hcells (L.take (k + 1)) = hcells (L.take k) ++ bytes8 a := by
    rw [List.take_succ_eq_append_getElem hk, hcells_append, he, hcells_one]
  have e2 : (zeros ((8 - k) * 32)).drop 32 = zeros ((8 - (k + 1)) * 32) := by
    simp [zeros]
    omega
  unfold treeTo splice
  rw [e1, bytes8_len, ha32]
  rw [← List.append_assoc]
  have hP : ([Value.bool true, Value.string seed] ++ hcells (L.take k)).length = 2 + k * 32 := by rw [List.length_append, hl]; rfl
  generalize hQ : [Value.bool true, Value.string seed] ++ hcells (L.take k) = Q at *
  have f1 : (Q ++ zeros ((8 - k) * 32)).take (2 + k * 32) = Q := List.take_left' hP
  have f2 : (Q ++ zeros ((8 - k) * 32)).drop (2 + k * 32 + 32) = zeros ((8 - (k + 1)) * 32) := by
    rw [List.drop_append, List.drop_eq_nil_of_le (by omega), List.nil_append, show 2 + k * 32 + 32 - Q.length = 32 by omega, e2]
  rw [f1, f2, ← hQ]
  simp
abbrev TreeS (wr w' : World) (t o : Nat) : Prop := w'.there t o 32 ∧ (∃ C : List Value, C.length = 258 ∧ Blk w' t C 192) ∧ Kept (· = t) wr w'
theorem treeS_next {wr w1 w2 : World} {t o : Nat} (h : TreeS wr w1 t o) (ho : o + 32 ≤ 258) (k : Kept (fun _ => False) w1 w2) : TreeS wr w2 t o := by
  obtain ⟨_, ⟨C, hC, hb⟩, hk⟩ := h
  have hb2 := hb.kept k id
  exact ⟨hb2.there o 32 (by omega), ⟨C, hC, hb2⟩, hk.then_ k (fun _ _ => False.elim)⟩
theorem treeS_store {wr w1 : World} {t o : Nat} {H : List Value} (h : TreeS wr w1 t o) (ho : o + 32 ≤ 258) (hH : H.length = 32) : TreeS wr (w1.setCells t o H) t o := by
  obtain ⟨_, ⟨C, hC, hb⟩, hk⟩ := h
  have hb2 := hb.setCells o H (by omega)
  have hl : (splice C o H).length = 258 := by rw [splice_len (by omega), hC]
  exact ⟨hb2.there o 32 (by omega), ⟨_, hl, hb2⟩, hk.then_ (kept_setCells _ _ _ _) (fun _ _ e => e)⟩
theorem treeS_tab {w wr w1 : World} {t o : Nat} (h : TreeS wr w1 t o) (ht : Tab w) (hk : Kept (fun _ => False) w wr) (hle : w.heap.size ≤ t) : Tab w1 := ht.same (hk.then_ h.2.2 (fun i hi e => by omega))
set_option maxRecDepth 100000 in
set_option maxHeartbeats 1000000 in
theorem treeNew_any (w : World) (seed : ByteArray) (hs : seed.size ≤ 1000) (ht : Tab w) :
    Calls Tryz.prog 90 #[.string seed] w fun e w' => ∃ t, e = .returned (.pointer (some ⟨t, 0, none⟩)) ∧ IsTree w' t seed (leavesF seed.data.toList) ∧ w.heap.size ≤ t ∧ Kept (fun _ => False) w w' := by
  have h32 := leaves_32 seed.data.toList
  have hL := leavesF_len seed.data.toList
  have hat := leavesF_at seed.data.toList
  have HAT := Lib.hid hat
  clear hat
  generalize leavesF seed.data.toList = L at *
  have hb0 : Blk (w.alloc (.cells ((Tryz.zeroCells192.setIfInBounds 0 (.bool true)).setIfInBounds 1 (.string seed)) 192)) w.heap.size (treeTo seed L 0) 192 := by
    rw [tree_zero, treeTo_zero]
    exact Blk.new w _ _
  have HB0 := Lib.hid hb0
  clear hb0
  go_enter Tryz.func90, Tryz.ntmps90
  go_wp2_with fail
  go_loopw [8] (fun x wr => ∃ k : Nat, x = .int .i64 (k : Int) ∧ k ≤ 8 ∧ Blk wr w.heap.size (treeTo seed L k) 192 ∧ Kept (fun _ => False) w wr) (fun x _ => 8 - (intOf x).toNat)
  case atStart => exact ⟨0, rfl, by omega, HB0.out, (Kept.refl _ _).alloc _⟩
  case round =>
    obtain ⟨k, rfl, hk, hblk, hkw⟩ := hrel
    by_cases hlt : k < 8
    · have z1 : decide ((k : Int) < 8) = true := decide_eq_true (by omega)
      have z2 : decide (k < 8) = true := decide_eq_true hlt
      have hat := HAT.out k hlt
      have hA32 := h32 _ (List.mem_of_getElem? hat)
      have hstep := treeTo_step seed h32 hL k _ hat
      have hlen := treeTo_len seed h32 hL k (by omega)
      have HPU := Lib.hid (fun w' ht' => public_any w' seed k hs (by omega) ht')
      have HLE := Lib.hid (fun w' v (hr : Row w' 24 32 v (hcells (publicF seed.data.toList k))) ht' => leaf_any w' v _ hr.view (public_32 _ _) (publicF_len _ _) ht')
      generalize leafF (publicF seed.data.toList k) = F at *
      have HF := Lib.hid (And.intro hstep (And.intro hlen hA32))
      have hs0 : TreeS wr wr.drew w.heap.size (2 + k * 32) := ⟨(hblk.drew).there _ 32 (by omega), ⟨_, hlen, hblk.drew⟩, (Kept.refl _ _).drew⟩
      have ho : 2 + k * 32 + 32 ≤ 258 := by omega
      have iF : (Tryz.prog.info? 24).map (·.size) = some (bytes8 F).length := by rw [bytes8_len, hA32]; exact info_h32
      have lF : (bytes8 F).length = 32 := by rw [bytes8_len, hA32]
      have oF : ∀ v ∈ bytes8 F, v.oneCell' = true := u8_oneCell
      have HL := Lib.hid hlt
      have j1 : (k : Int) < 8 := by omega
      have j2 : (0 : Int) ≤ (k : Int) := by omega
      have hle : w.heap.size ≤ w.heap.size := Nat.le_refl _
      clear hat hA32 hstep hlen h32 hL hlt
      go_wp2_with fail
      go_region_held3 (fun w' => w'.there w.heap.size (2 + k * 32) 32 ∧ (∃ C : List Value, C.length = 258 ∧ Blk w' w.heap.size C 192) ∧ Kept (· = w.heap.size) wr w') (first | exact hs0 | exact treeS_next (by assumption) ho (by assumption) | exact treeS_store (by assumption) ho lF) (first | (go_at_call 128; (with_reducible refine (HPU.out _ (treeS_tab (by assumption) ht hkw hle)).mono ?_); rintro e w3 ⟨v3, rfl, hrow3, hown3, hk3⟩) | (go_at_call 127; with_reducible refine (HLE.out _ _ (by assumption) (treeS_tab (by assumption) ht hkw hle)).mono ?_; rintro e w3 ⟨rfl, hk3⟩))
      rename_i wa ka hh
      have hb3 := ((hblk.drew).kept ka id).kept hk3 id
      have hb4 := hb3.setCells (2 + k * 32) (bytes8 F) (by rw [lF, HF.out.2.1]; omega)
      rw [HF.out.1] at hb4
      have kf := (((hkw.drew).trans ka).trans hk3).then_ (kept_setCells w3 w.heap.size (2 + k * 32) (bytes8 F)) (S := fun _ => False) (fun i hi e => by omega)
      go_wp2_with fail
      exact ⟨⟨k + 1, rfl, HL.out, hb4, kf⟩, check_meas0 HL.out⟩
    · have z1 : decide ((k : Int) < 8) = false := decide_eq_false (by omega)
      have z2 : decide (k < 8) = false := decide_eq_false hlt
      obtain rfl : k = 8 := by omega
      rw [treeTo_all seed hL] at hblk
      have HX := Lib.hid (And.intro hblk (And.intro hL h32))
      clear hblk hL h32
      go_wp2_with fail
      go_ret
      exact ⟨_, rfl, ⟨HX.out.1, HX.out.2.1, HX.out.2.2⟩, Nat.le_refl _, hkw⟩
end Go.Proofs.YtpmdlkogccojmaaGreatDoor

namespace Go.Proofs.YtpmdlkogccojmaaGreatDoor
open Go.RowKit
section
variable {w w' : World} {t : Nat} {seed : ByteArray} {L : List By}
theorem IsTree.made (h : IsTree w t seed L) : w.cell? ⟨t, 0, none⟩ = some (.bool true) := h.1.cell (i := 0) rfl
theorem IsTree.lt (h : IsTree w t seed L) : t < w.heap.size := h.1.lt
theorem IsTree.view (h : IsTree w t seed L) : View w 32 (.slice (some ⟨t, 2, none⟩) 8 8) (hcells L) := by
  refine ⟨_, 8, 8, rfl, by rw [hcells_len h.2.2, h.2.1], Nat.le_refl _, by unfold maxLen; omega, fun _ => ⟨t, 2, rfl⟩, fun _ => ⟨t, 2, rfl, h.lt, fun j u hu => h.1.cell ?_⟩⟩
  rw [List.getElem?_append_right (by simp)]
  simpa using hu
set_option maxRecDepth 100000 in
set_option maxHeartbeats 400000 in
theorem treeRoot_any (h : IsTree w t seed L) (ht : Tab w) :
    Calls Tryz.prog 88 #[.pointer (some ⟨t, 0, none⟩)] w fun e w' => e = .returned (hashV (rootF L)) ∧ Kept (fun _ => False) w w' := by
  have ka : Kept (fun _ => False) w (w.alloc (.cells (zeros 32).toArray 24)) := (Kept.refl _ _).alloc _
  have h1 := h.kept ka id
  have c0 := h1.made
  simp only [zeros, List.replicate] at c0
  have hb := Blk.new w (zeros 32) 24
  have hl := rootF_len h.2.2
  have hcall : Calls Tryz.prog 28 #[.slice (some ⟨t, 2, none⟩) 8 8] (w.alloc (.cells (zeros 32).toArray 24)) (fun e w2 => e = .returned (hashV (rootF L)) ∧ Hid (Blk w2 w.heap.size (zeros 32) 24 ∧ Kept (fun _ => False) w w2)) :=
    (root_any _ _ L h1.view h.2.2 (by rw [h.2.1]; omega) (ht.same ka)).mono (fun e w2 q => ⟨q.1, Lib.hid ⟨hb.kept q.2 id, ka.trans q.2⟩⟩)
  generalize rootF L = R at *
  have HC := Lib.hid hcall
  have HI := Lib.hid (show (Tryz.prog.info? 24).map (·.size) = some (bytes8 R).length by rw [bytes8_len, hl]; exact info_h32)
  have HR := Lib.hid hl
  clear hcall hb h1 hl ka h
  go_enter Tryz.func88, Tryz.ntmps88
  go_wp2_with (first | (go_at_call 28; refine HC.out.mono ?_; rintro e w5 ⟨rfl, HB⟩) | ((with_reducible show wpList _ _ _ (⟨none, .store _ (.tmp 2) _, _, _, _, _⟩ :: _) _ _); refine wpList_store_mid rfl 24 _ _ rfl w.heap.size 0 (bytes8 R).toArray rfl rfl ?hth ?hi ?h1 ?_))
  case hth => exact (hash_stored HB.out.1 (zeros_len 32) HR.out).1
  case hi => first | exact info_hash HR.out | simpa using info_hash HR.out
  case h1 => first | exact all_oneCell_toArray (fun y hy => u8_oneCell y hy) | exact fun y hy => u8_oneCell y hy
  have hst := hash_stored HB.out.1 (zeros_len 32) HR.out
  refine bodyPost_ret (hst.2.result rfl rfl Tryz.underlying24 rfl HI.out) rfl ⟨rfl, ?_⟩
  exact HB.out.2.then_ (kept_setCells _ _ _ _) (fun i hi e => by omega)
end
end Go.Proofs.YtpmdlkogccojmaaGreatDoor

namespace Go.Proofs.YtpmdlkogccojmaaGreatDoor
open Go.RowKit
section
variable {w w' : World} {t : Nat} {seed : ByteArray} {L : List By}
abbrev SigS (wa w' : World) (t db rb : Nat) (seed : ByteArray) (d : By) : Prop := w'.cell? ⟨t, 1, none⟩ = some (.string seed) ∧ w'.rangeAt db 0 (bytes8 d) ∧ Kept (· = rb) wa w'
theorem sigS_next {wa w1 w2 : World} {t db rb : Nat} {seed : ByteArray} {d : By} (h : SigS wa w1 t db rb seed d) (hd : db < wa.heap.size) (k : Kept (fun _ => False) w1 w2) : SigS wa w2 t db rb seed d :=
  ⟨k.cell h.1 id, rangeAt_kept h.2.1 k (Nat.lt_of_lt_of_le hd h.2.2.size) id, h.2.2.then_ k (fun _ _ => False.elim)⟩
theorem sigS_set {wa w1 : World} {t db rb : Nat} {seed : ByteArray} {d : By} (h : SigS wa w1 t db rb seed d) (hd : db < wa.heap.size) (n1 : t ≠ rb) (n2 : db ≠ rb) (i : Nat) (v : Value) : SigS wa (w1.setCell ⟨rb, i, none⟩ v) t db rb seed d := by
  have k : Kept (· = rb) w1 (w1.setCell ⟨rb, i, none⟩ v) := (Kept.refl (· = rb) w1).setCell (p := ⟨rb, i, none⟩) (fun _ => rfl) v
  exact ⟨k.cell h.1 n1, rangeAt_kept h.2.1 k (Nat.lt_of_lt_of_le hd h.2.2.size) n2, h.2.2.then_ k (fun _ _ e => e)⟩
theorem info_seal : (Tryz.prog.info? 49).map (·.size) = some 3 := by kernel_rfl
set_option maxRecDepth 100000 in
set_option maxHeartbeats 400000 in
theorem treeSign_any (h : IsTree w t seed (leavesF seed.data.toList)) (i : Nat) (d : By) (hs : seed.size ≤ 1000) (hi : i < 8) (hd : d.length = 32) (ht : Tab w) :
    Calls Tryz.prog 83 #[.pointer (some ⟨t, 0, none⟩), .int .i64 (i : Int), hashV d] w fun e w' => ∃ v, e = .returned (.tuple #[.agg #[.int .i64 (i : Int), .string ⟨(signF seed.data.toList i d).toArray⟩, v], .int .i64 0]) ∧ Row w' 24 32 v (hcells (pathF (leavesF seed.data.toList) i)) ∧ (∀ k, v.ownBlock = some k → w.heap.size ≤ k) ∧ Kept (fun _ => False) w w' := by
  have ka : Kept (fun _ => False) w ((w.alloc (.cells (bytes8 d).toArray 24)).alloc (.cells #[.int .i64 0, .string ⟨#[]⟩, .slice none 0 0] 49)) := ((Kept.refl _ _).alloc _).alloc _
  have h1 := h.kept ka id
  have c0 := h1.made
  have hpath := path_any _ _ _ i h1.view h.2.2 (by rw [h.2.1]; omega) (by rw [h.2.1]; exact hi) (ht.same ka)
  have hbd := (Blk.new w (bytes8 d) 24).alloc (.cells #[.int .i64 0, .string ⟨#[]⟩, .slice none 0 0] 49)
  have hbr := Blk.new (w.alloc (.cells (bytes8 d).toArray 24)) [.int .i64 0, .string ⟨#[]⟩, .slice none 0 0] 49
  rw [World.size_alloc] at hbr
  have hlt := h.lt
  have hp2 : Calls Tryz.prog 116 #[.slice (some ⟨t, 2, none⟩) 8 8, .int .i64 (i : Int)] ((w.alloc (.cells (bytes8 d).toArray 24)).alloc (.cells #[.int .i64 0, .string ⟨#[]⟩, .slice none 0 0] 49)) (fun e w2 => ∃ pa pn pc, e = .returned (.tuple #[.slice pa pn pc, .int .i64 0]) ∧ SigS w2 w2.drew t w.heap.size (w.heap.size + 1) seed d ∧ Blk w2 (w.heap.size + 1) [.int .i64 0, .string ⟨#[]⟩, .slice none 0 0] 49 ∧ Hid (Row w2 24 32 (.slice pa pn pc) (hcells (pathF (leavesF seed.data.toList) i)) ∧ (∀ k, (Value.slice pa pn pc).ownBlock = some k → w.heap.size + 2 ≤ k) ∧ Kept (fun _ => False) w w2)) := by
    refine hpath.mono ?_
    rintro e w2 ⟨v, rfl, hrow, hown, hk⟩
    obtain ⟨pa, pn, pc, rfl, _⟩ := hrow.form (by omega)
    rw [World.size_alloc, World.size_alloc] at hown
    exact ⟨pa, pn, pc, rfl, ⟨((h1.kept hk id).1.drew).cell (i := 1) rfl, ((hbd.kept hk id).drew).range0, (Kept.refl _ _).drew⟩, hbr.kept hk id, Lib.hid ⟨hrow, hown, ka.trans hk⟩⟩
  have HP := Lib.hid hp2
  have HSG := Lib.hid (fun w' ht' => sign_any w' seed i d hd hs (by omega) ht')
  have hu := Tryz.underlying24
  have id' : (Tryz.prog.info? 24).map (·.size) = some (bytes8 d).length := by rw [bytes8_len, hd]; exact info_h32
  have y1 : decide ((i : Int) < 0) = false := decide_eq_false (by omega)
  have y2 : decide ((8 : Int) ≤ (i : Int)) = false := decide_eq_false (by omega)
  have n1 : t ≠ w.heap.size + 1 := by omega
  have n2 : w.heap.size ≠ w.heap.size + 1 := by omega
  clear hpath hp2 h1 hbd hbr h ka
  go_enter Tryz.func83, Tryz.ntmps83
  go_wp2_with (first | (go_at_call 116; refine HP.out.mono ?_; rintro e w2 ⟨pa, pn, pc, rfl, hs0, hb2, HG⟩))
  have hdb : w.heap.size < w2.heap.size := by have := hb2.lt; omega
  have ht2 : Tab w2 := ht.same HG.out.2.2
  generalize hSG : signF seed.data.toList i d = SG at *
  have HSE := Lib.hid hSG
  clear hSG
  go_region_held3 (fun w' => w'.cell? ⟨t, 1, none⟩ = some (.string seed) ∧ w'.rangeAt w.heap.size 0 (bytes8 d) ∧ Kept (· = w.heap.size + 1) w2 w') (first | exact hs0 | exact sigS_next (by assumption) hdb (by assumption) | exact sigS_set (sigS_set (sigS_set (by assumption) hdb n1 n2 0 _) hdb n1 n2 1 _) hdb n1 n2 2 _ | exact (by assumption)) (first | (go_at_call 117; (with_reducible refine (HSG.out _ (ht2.same (Kept.refl _ _).drew)).mono ?_); rintro e w3 ⟨rfl, hk3⟩; have hb3 := (hb2.drew).kept hk3 id; have q0 := hb3.cell (i := 0) rfl; have q1 := hb3.cell (i := 1) rfl; have q2 := hb3.cell (i := 2) rfl; have f0 := hb3.free 0; have f1 := hb3.free 1; have f2 := hb3.free 2))
  have hf : Blk (((w3.setCell ⟨w.heap.size + 1, 0, none⟩ (.int .i64 (i : Int))).setCell ⟨w.heap.size + 1, 1, none⟩ (.string ⟨SG.toArray⟩)).setCell ⟨w.heap.size + 1, 2, none⟩ (.slice pa pn pc)) (w.heap.size + 1) [.int .i64 (i : Int), .string ⟨SG.toArray⟩, .slice pa pn pc] 49 := ((hb3.set 0 _).set 1 _).set 2 _
  have kf : Kept (· = w.heap.size + 1) w2 (((w3.setCell ⟨w.heap.size + 1, 0, none⟩ (.int .i64 (i : Int))).setCell ⟨w.heap.size + 1, 1, none⟩ (.string ⟨SG.toArray⟩)).setCell ⟨w.heap.size + 1, 2, none⟩ (.slice pa pn pc)) :=
    (((((Kept.refl (fun _ => False) w2).drew.trans hk3).mono (fun _ _ => False.elim) : Kept (· = w.heap.size + 1) w2 w3).setCell (p := ⟨w.heap.size + 1, 0, none⟩) (fun _ => rfl) _).setCell (p := ⟨w.heap.size + 1, 1, none⟩) (fun _ => rfl) _).setCell (p := ⟨w.heap.size + 1, 2, none⟩) (fun _ => rfl) _
  go_wp2_with fail
  refine bodyPost_ret (hf.result2 rfl rfl Tryz.underlying49 rfl (by rw [info_seal]; rfl)) rfl ⟨.slice pa pn pc, by first | rfl | (rw [HSE.out]; rfl), HG.out.1.kept kf (fun k hk e => ?_), fun k hk => ?_, HG.out.2.2.then_ kf (fun b hb e => by omega)⟩
  · have := HG.out.2.1 k hk
    omega
  · have := HG.out.2.1 k hk
    omega
end
end Go.Proofs.YtpmdlkogccojmaaGreatDoor

namespace Go.Proofs.YtpmdlkogccojmaaGreatDoor
open Go.RowKit
end Go.Proofs.YtpmdlkogccojmaaGreatDoor

namespace Go.Proofs.YtpmdlkogccojmaaGreatDoor
open Go.RowKit
abbrev headC (size : Int) (root : By) : List Value := .int .i64 size :: bytes8 root
abbrev headV (size : Int) (root : By) : Value := .agg (headC size root).toArray
abbrev DigS (wa w' : World) (hb rb : Nat) (size : Int) (root : By) : Prop := w'.cell? ⟨hb, 0, none⟩ = some (.int .i64 size) ∧ w'.rangeAt hb 1 (bytes8 root) ∧ w'.there rb 0 32 ∧ (∃ C : List Value, C.length = 32 ∧ Blk w' rb C 24) ∧ Kept (· = rb) wa w'
section
variable {wa w1 w2 : World} {hb rb : Nat} {size : Int} {root : By}
theorem digS_next (h : DigS wa w1 hb rb size root) (hl : hb < wa.heap.size) (k : Kept (fun _ => False) w1 w2) : DigS wa w2 hb rb size root := by
  obtain ⟨h1, h2, _, ⟨C, hC, hbk⟩, hk⟩ := h
  have hb2 := hbk.kept k id
  exact ⟨k.cell h1 id, rangeAt_kept h2 k (Nat.lt_of_lt_of_le hl hk.size) id, hb2.there 0 32 (by omega), ⟨C, hC, hb2⟩, hk.then_ k (fun _ _ => False.elim)⟩
theorem digS_store {H : List Value} (h : DigS wa w1 hb rb size root) (hl : hb < wa.heap.size) (hne : hb ≠ rb) (hH : H.length = 32) : DigS wa (w1.setCells rb 0 H) hb rb size root := by
  obtain ⟨h1, h2, _, ⟨C, hC, hbk⟩, hk⟩ := h
  have k := kept_setCells w1 rb 0 H
  have hb2 := hbk.setCells 0 H (by omega)
  have hl2 : (splice C 0 H).length = 32 := by rw [splice_len (by omega), hC]
  exact ⟨k.cell h1 hne, rangeAt_kept h2 k (Nat.lt_of_lt_of_le hl hk.size) hne, hb2.there 0 32 (by omega), ⟨_, hl2, hb2⟩, hk.then_ k (fun _ _ e => e)⟩
end
set_option maxRecDepth 100000 in
set_option maxHeartbeats 1000000 in
theorem digest_any (w : World) (size : Nat) (root : By) (hz : size ≤ 4096) (hr : root.length = 32) (ht : Tab w) :
    Calls Tryz.prog 57 #[headV (size : Int) root] w fun e w' => e = .returned (hashV (digestF size root)) ∧ Kept (fun _ => False) w w' := by
  have HP := Lib.hid (fun w' => put_int w' (size : Int) size 8 8 rfl rfl (by omega) (by omega))
  have HH := Lib.hid (fun w' => hash_any w' root hr)
  have hb8 : (⟨(be 8 size).toArray⟩ : ByteArray).size = 8 := by show (be 8 size).toArray.size = 8; rw [List.size_toArray, be_len]
  have hcat : (⟨#[5]⟩ : ByteArray) ++ ⟨(be 8 size).toArray⟩ ++ ⟨root.toArray⟩ = ⟨(5 :: (be 8 size ++ root)).toArray⟩ := bstr_eq (by simp [ByteArray.data_append])
  have hsum : ∀ w', Tab w' → Calls Tryz.prog 59 #[.string (⟨#[5]⟩ ++ ⟨(be 8 size).toArray⟩ ++ ⟨root.toArray⟩)] w' fun e w'' => e = .returned (.agg (bytes8 (digestF size root)).toArray) ∧ Kept (fun _ => False) w' w'' := by
    intro w' ht'
    rw [hcat]
    exact sum_any w' ⟨(5 :: (be 8 size ++ root)).toArray⟩ (by show (5 :: (be 8 size ++ root)).toArray.size ≤ 1000000; simp [be_len]; omega) ht'
  have HS := Lib.hid hsum
  have hN := digestF_len size root
  clear hsum hcat
  generalize hDG : digestF size root = H at *
  have HDG := Lib.hid hDG
  clear hDG
  generalize be 8 size = B at *
  have x1 : (⟨#[5]⟩ : ByteArray).size + (⟨B.toArray⟩ : ByteArray).size ≤ 9 := by rw [hb8]; show 1 + 8 ≤ 9; omega
  have x2 : (⟨#[5]⟩ ++ ⟨B.toArray⟩ : ByteArray).size + (⟨root.toArray⟩ : ByteArray).size ≤ 41 := by rw [ByteArray.size_append, hb8]; show 1 + 8 + root.toArray.size ≤ 41; simp [hr]
  have u1 := wrap_u64 (n := size) (U64n.small (by omega))
  obtain ⟨W, hW⟩ : ∃ W : World, W = (w.alloc (.cells (headC (size : Int) root).toArray 46)).alloc (.cells (zeros 32).toArray 24) := ⟨_, rfl⟩
  have b0 : Blk W w.heap.size (headC (size : Int) root) 46 := by rw [hW]; exact (Blk.new w (headC (size : Int) root) 46).alloc _
  have b1 : Blk W (w.heap.size + 1) (zeros 32) 24 := by
    have := Blk.new (w.alloc (.cells (headC (size : Int) root).toArray 46)) (zeros 32) 24
    rw [World.size_alloc] at this
    rw [hW]; exact this
  have kW : Kept (fun _ => False) w W := by rw [hW]; exact ((Kept.refl _ _).alloc _).alloc _
  have l0 := b0.lt
  have S0 : DigS W W.drew w.heap.size (w.heap.size + 1) (size : Int) root := by
    refine ⟨(b0.drew).cell (i := 0) rfl, ?_, (b1.drew).there 0 32 (by rw [zeros_len]; omega), ⟨_, zeros_len 32, b1.drew⟩, (Kept.refl _ _).drew⟩
    intro j u hu
    refine (b0.drew).cell ?_
    rw [Nat.add_comm, List.getElem?_cons_succ]
    exact hu
  have ia : (Tryz.prog.info? 24).map (·.size) = some (bytes8 root).length := by rw [bytes8_len, hr]; exact info_h32
  have iH : (Tryz.prog.info? 24).map (·.size) = some (bytes8 H).length := by rw [bytes8_len, hN]; exact info_h32
  have oH : ∀ v ∈ bytes8 H, v.oneCell' = true := u8_oneCell
  have lH : (bytes8 H).length = 32 := by rw [bytes8_len, hN]
  have hu := Tryz.underlying24
  have n1 : w.heap.size ≠ w.heap.size + 1 := by omega
  have HTB := Lib.hid (fun w1 (h : DigS W w1 w.heap.size (w.heap.size + 1) (size : Int) root) => (ht.same (kW.then_ h.2.2.2.2 (fun i hi e => by omega)) : Tab w1))
  go_enter Tryz.func57, Tryz.ntmps57
  go_wp2_with fail
  change Code.wp _ _ _ _ ((w.alloc (.cells (headC (size : Int) root).toArray 46)).alloc (.cells (zeros 32).toArray 24))
  rw [← hW]
  clear hW
  go_region_held3 (fun w' => w'.cell? ⟨w.heap.size, 0, none⟩ = some (.int .i64 (size : Int)) ∧ w'.rangeAt w.heap.size 1 (bytes8 root) ∧ w'.there (w.heap.size + 1) 0 32 ∧ (∃ C : List Value, C.length = 32 ∧ Blk w' (w.heap.size + 1) C 24) ∧ Kept (· = w.heap.size + 1) W w') (first | exact S0 | exact digS_next (by assumption) l0 (by assumption) | exact digS_store (by assumption) l0 n1 lH) (first | (go_at_call 100; with_reducible refine (HP.out _).mono ?_; rintro e w3 ⟨rfl, hk3⟩) | (go_at_call 101; with_reducible refine (HH.out _).mono ?_; rintro e w3 ⟨rfl, hk3⟩) | (go_at_call 59; with_reducible refine (HS.out _ (HTB.out _ (by assumption))).mono ?_; rintro e w3 ⟨rfl, hk3⟩))
  rename_i wa ka wb kb hh
  obtain ⟨_, _, _, ⟨C, hC, hbC⟩, hkC⟩ := digS_next (digS_next (digS_next S0 l0 ka) l0 kb) l0 hk3
  have hlN : H.length = 32 := by rwa [bytes8_len] at lH
  have hst := hash_stored hbC hC hlN
  go_wp2_with fail
  refine bodyPost_ret (hst.2.result rfl rfl Tryz.underlying24 rfl iH) rfl ⟨by first | rfl | (rw [HDG.out]; rfl), ?_⟩
  exact kW.then_ hh.2.2.2.2 (fun i hi e => by omega)
end Go.Proofs.YtpmdlkogccojmaaGreatDoor

namespace Go.Proofs.YtpmdlkogccojmaaGreatDoor
open Go.RowKit
def signedC (size : Int) (root : By) (i : Int) (sig : ByteArray) (v : Value) : List Value := headC size root ++ [.int .i64 i, .string sig, v]
abbrev signedV (size : Int) (root : By) (i : Int) (sig : ByteArray) (v : Value) : Value := .agg (signedC size root i sig v).toArray
theorem signed_at {size : Int} {root : By} {i : Int} {sig : ByteArray} {v : Value} (hr : root.length = 32) : (signedC size root i sig v)[0]? = some (.int .i64 size) ∧ (signedC size root i sig v)[33]? = some (.int .i64 i) ∧ (signedC size root i sig v)[34]? = some (.string sig) ∧ (signedC size root i sig v)[35]? = some v := by
  have hl : (headC size root).length = 33 := by rw [List.length_cons, bytes8_len, hr]
  unfold signedC
  refine ⟨rfl, ?_, ?_, ?_⟩
  · rw [List.getElem?_append_right (by omega), hl]; rfl
  · rw [List.getElem?_append_right (by omega), hl]; rfl
  · rw [List.getElem?_append_right (by omega), hl]; rfl
end Go.Proofs.YtpmdlkogccojmaaGreatDoor

namespace Go.Proofs.YtpmdlkogccojmaaGreatDoor
open Go.RowKit
theorem info_signed : (Tryz.prog.info? 51).map (·.size) = some 36 := by kernel_rfl
theorem info_head : (Tryz.prog.info? 46).map (·.size) = some 33 := by kernel_rfl
theorem signedC_len {size : Int} {root : By} {i : Int} {sig : ByteArray} {v : Value} (hr : root.length = 32) : (signedC size root i sig v).length = 36 := by
  unfold signedC
  rw [List.length_append, List.length_cons, bytes8_len, hr]; rfl
end Go.Proofs.YtpmdlkogccojmaaGreatDoor

namespace Go.Proofs.YtpmdlkogccojmaaGreatDoor
open Go.RowKit
set_option maxRecDepth 100000 in
set_option maxHeartbeats 1000000 in
theorem equal_ok (w : World) (u v : Value) (L : List By) (hu : View w 32 u (hcells L)) (hv : View w 32 v (hcells L)) (h32 : ∀ x ∈ L, x.length = 32) (hL : L.length ≤ 1000000) :
    Calls Tryz.prog 78 #[u, v] w fun e w' => e = .returned (.bool true) ∧ Kept (fun _ => False) w w' := by
  obtain ⟨a, n, c, rfl, q1, q2, q3, q4, q5⟩ := id hu
  obtain ⟨a', n', c', rfl, q1', q2', q3', q4', q5'⟩ := id hv
  rw [hcells_len h32] at q1 q1'
  obtain rfl : n = L.length := by omega
  obtain rfl : n' = L.length := by omega
  clear q1 q2 q3 q4 q1' q2' q3' q4' hu hv
  go_enter Tryz.func78, Tryz.ntmps78
  go_wp2_with fail
  go_loopw [13] (fun x wr => ∃ k : Nat, x = .int .i64 (k : Int) ∧ k ≤ L.length ∧ Kept (fun _ => False) w wr) (fun x _ => L.length - (intOf x).toNat)
  case atStart => exact ⟨0, rfl, Nat.zero_le _, Kept.refl _ _⟩
  case round =>
    obtain ⟨k, rfl, hk, hkw⟩ := hrel
    by_cases hlt : k < L.length
    · have z1 : decide ((k : Int) < (L.length : Int)) = true := decide_eq_true (by omega)
      have z2 : decide (k < L.length) = true := decide_eq_true hlt
      obtain ⟨g, off, rfl, hg, hrg⟩ := q5 (by omega)
      obtain ⟨g', off', rfl, hg', hrg'⟩ := q5' (by omega)
      obtain ⟨h, hh⟩ : ∃ h, L[k]? = some h := ⟨_, List.getElem?_eq_getElem hlt⟩
      have hh32 := h32 h (List.mem_of_getElem? hh)
      have r1 := rangeAt_mid (rangeAt_kept hrg hkw hg id) (k * 32) 32
      have r2 := rangeAt_mid (rangeAt_kept hrg' hkw hg' id) (k * 32) 32
      rw [hcells_at h32 k h hh] at r1 r2
      have S0 : wr.drew.rangeAt g (off + k * 32) (bytes8 h) ∧ wr.drew.rangeAt g' (off' + k * 32) (bytes8 h) := ⟨r1, r2⟩
      have ih := Lib.hid (show (Tryz.prog.info? 24).map (·.size) = some (bytes8 h).length by rw [bytes8_len, hh32]; exact info_h32)
      have neq := fun w' => neq_hash w' h h hh32 hh32
      have i0 : (k : Int) < (L.length : Int) := by omega
      have i1 : (0 : Int) ≤ (k : Int) := by omega
      have HL := Lib.hid hlt
      clear q5 q5' hrg hrg' r1 r2 hh hh32 h32
      go_wp2_with fail
      refine wp_region_held_drew (S := (fun w' => w'.rangeAt g (off + k * 32) (bytes8 h) ∧ w'.rangeAt g' (off' + k * 32) (bytes8 h))) (by kernel_rfl) S0 (fun hH0 => ?_)
      refine wpAnyH_take (i := 0) (oi := ⟨some 16, .move (.tmp 0), 47, "slices.go:25", #[], none⟩) (v := .slice (some ⟨g, off, none⟩) L.length c) rfl (by kernel_rfl) (by kernel_rfl) (by kernel_rfl) (fun _ _ _ h => h) (Or.inl ⟨by rfl, fun w hSw => ?_⟩) hH0 ?_
      · clear hSw; go_simp
      try simp only [Act.put, List.setIfInBounds_toArray, List.set_cons_zero, List.set_cons_succ]
      refine wpAnyH_take (i := 1) (oi := ⟨some 17, .move (.tmp 5), 3, "slices.go:25", #[], none⟩) (v := .int .i64 (k : Int)) rfl (by kernel_rfl) (by kernel_rfl) (by kernel_rfl) (fun _ _ _ h => h) (Or.inl ⟨by rfl, fun w hSw => ?_⟩) hH0 ?_
      · clear hSw; go_simp
      try simp only [Act.put, List.setIfInBounds_toArray, List.set_cons_zero, List.set_cons_succ]
      refine wpAnyH_take (i := 2) (oi := ⟨some 18, .indexAddr 47 (.tmp 16) (.tmp 17), 0, "slices.go:25", #[⟨0, .data⟩, ⟨1, .data⟩], none⟩) (v := .pointer (some ⟨g, off + k * 32, none⟩)) rfl (by kernel_rfl) (by kernel_rfl) (by kernel_rfl) (fun _ _ _ h => h) (Or.inl ⟨by rfl, fun w hSw => ?_⟩) hH0 ?_
      · clear hSw; go_simp
      try simp only [Act.put, List.setIfInBounds_toArray, List.set_cons_zero, List.set_cons_succ]
      refine wpAnyH_take (i := 3) (oi := ⟨some 19, .load 24 (.tmp 18), 24, "slices.go:25", #[⟨2, .data⟩], none⟩) (v := .agg (bytes8 h).toArray) rfl (by kernel_rfl) (by kernel_rfl) (by kernel_rfl) (fun _ _ _ h => h) (yieldsIf_load_mid (by rfl) _ _ rfl g (off + k * 32) rfl (bytes8 h) _ (fun w q => q.1) Tryz.underlying24 rfl ih.out) hH0 ?_
      try simp only [Act.put, List.setIfInBounds_toArray, List.set_cons_zero, List.set_cons_succ]
      refine wpAnyH_take (i := 4) (oi := ⟨some 20, .move (.tmp 1), 47, "slices.go:25", #[], none⟩) (v := .slice (some ⟨g', off', none⟩) L.length c') rfl (by kernel_rfl) (by kernel_rfl) (by kernel_rfl) (fun _ _ _ h => h) (Or.inl ⟨by rfl, fun w hSw => ?_⟩) hH0 ?_
      · clear hSw; go_simp
      try simp only [Act.put, List.setIfInBounds_toArray, List.set_cons_zero, List.set_cons_succ]
      refine wpAnyH_take (i := 5) (oi := ⟨some 21, .move (.tmp 5), 3, "slices.go:25", #[], none⟩) (v := .int .i64 (k : Int)) rfl (by kernel_rfl) (by kernel_rfl) (by kernel_rfl) (fun _ _ _ h => h) (Or.inl ⟨by rfl, fun w hSw => ?_⟩) hH0 ?_
      · clear hSw; go_simp
      try simp only [Act.put, List.setIfInBounds_toArray, List.set_cons_zero, List.set_cons_succ]
      refine wpAnyH_take (i := 6) (oi := ⟨some 22, .indexAddr 47 (.tmp 20) (.tmp 21), 0, "slices.go:25", #[⟨4, .data⟩, ⟨5, .data⟩], none⟩) (v := .pointer (some ⟨g', off' + k * 32, none⟩)) rfl (by kernel_rfl) (by kernel_rfl) (by kernel_rfl) (fun _ _ _ h => h) (Or.inl ⟨by rfl, fun w hSw => ?_⟩) hH0 ?_
      · clear hSw; go_simp
      try simp only [Act.put, List.setIfInBounds_toArray, List.set_cons_zero, List.set_cons_succ]
      refine wpAnyH_take (i := 7) (oi := ⟨some 23, .load 24 (.tmp 22), 24, "slices.go:25", #[⟨6, .data⟩], none⟩) (v := .agg (bytes8 h).toArray) rfl (by kernel_rfl) (by kernel_rfl) (by kernel_rfl) (fun _ _ _ h => h) (yieldsIf_load_mid (by rfl) _ _ rfl g' (off' + k * 32) rfl (bytes8 h) _ (fun w q => q.2) Tryz.underlying24 rfl ih.out) hH0 ?_
      try simp only [Act.put, List.setIfInBounds_toArray, List.set_cons_zero, List.set_cons_succ]
      refine wpAnyH_take (i := 8) (oi := ⟨some 24, .binOp .neq 24 (.tmp 19) (.tmp 23) 24, 4, "slices.go:25", #[⟨3, .data⟩, ⟨7, .data⟩], none⟩) (v := .bool false) rfl (by kernel_rfl) (by kernel_rfl) (by kernel_rfl) (fun _ _ _ h => h) (Or.inl ⟨by rfl, fun w hSw => ?_⟩) hH0 ?_
      · clear hSw; go_simp
      try simp only [Act.put, List.setIfInBounds_toArray, List.set_cons_zero, List.set_cons_succ]
      refine wpAnyH_done (by kernel_rfl) ?_ _
      go_wp2_with fail
      exact ⟨⟨k + 1, rfl, HL.out, hkw.drew⟩, check_meas0 HL.out⟩
    · have z1 : decide ((k : Int) < (L.length : Int)) = false := decide_eq_false (by omega)
      have z2 : decide (k < L.length) = false := decide_eq_false hlt
      go_wp2_with fail
      go_ret
      exact ⟨rfl, hkw⟩
end Go.Proofs.YtpmdlkogccojmaaGreatDoor

namespace Go.Proofs.YtpmdlkogccojmaaGreatDoor
open Go.RowKit
theorem eqFields_two {P : Program} (w : World) (d : Nat) (xs ys : Array Value) (f1 f2 : Field) (n1 : f1.name ≠ "_") (n2 : f2.name ≠ "_") {a1 b1 a2 b2 : Value} {r1 r2 : Bool}
    (p1 : (part f1.type xs f1.offset).run P w = .ok a1 w) (q1 : (part f1.type ys f1.offset).run P w = .ok b1 w) (e1 : (Op.equalIn d f1.type a1 b1).run P w = .ok r1 w)
    (p2 : (part f2.type xs f2.offset).run P w = .ok a2 w) (q2 : (part f2.type ys f2.offset).run P w = .ok b2 w) (e2 : (Op.equalIn d f2.type a2 b2).run P w = .ok r2 w) :
    (Op.eqFields d xs ys [f1, f2]).run P w = .ok (r1 && r2) w := by
  cases r1 <;> cases r2 <;> simp [Op.eqFields, n1, n2, Sem.run_bind, p1, q1, e1, p2, q2, e2, Result.andThen_ok]
theorem head_fields : (Tryz.prog.fieldsOf 46).toList.map (fun f => (f.name, f.type, f.offset)) = [("Size", 3, 0), ("Root", 24, 1)] := by kernel_rfl
theorem part_int (w : World) (size : Int) (root : By) : (part 3 (headC size root).toArray 0).run Tryz.prog w = .ok (.int .i64 size) w :=
  run_part_plain w (by kernel_rfl) (by simp)
theorem part_hash (w : World) (size : Int) (root : By) (hr : root.length = 32) : (part 24 (headC size root).toArray 1).run Tryz.prog w = .ok (.agg (bytes8 root).toArray) w := by
  have h1 := Tryz.isAgg24 w
  have h2 := Tryz.sizeOf24 w
  have e : (headC size root).toArray.extract 1 (1 + 32) = (bytes8 root).toArray := by
    apply Array.ext'
    simp only [Array.toList_extract, List.extract_eq_take_drop, List.drop_succ_cons, List.drop_zero]
    rw [List.take_of_length_le (by rw [bytes8_len]; omega)]
  unfold part
  simp only [Sem.run_bind, h1, h2, Result.andThen_ok, if_true, Sem.run_pure, e]
theorem equalIn_hash (w : World) (d : Nat) (a b : By) (ha : a.length = 32) (hb : b.length = 32) : (Op.equalIn (d + 2) 24 (.agg (bytes8 a).toArray) (.agg (bytes8 b).toArray)).run Tryz.prog w = .ok (decide (a = b)) w := by
  obtain ⟨i, hi, _⟩ := info_parts info_u8
  rw [bytes8_ints, bytes8_ints, run_equalIn_ints w d hash_under Tryz.underlying5 hi (by kernel_rfl) (ints8 a) (ints8 b) (by simp [ints8, ha]) (by simp [ints8, hb])]
  simp only [ints8_inj]
theorem equalIn_head (w : World) (d : Nat) (x y : Int) (a b : By) (ha : a.length = 32) (hb : b.length = 32) :
    (Op.equalIn (d + 3) 46 (headV x a) (headV y b)).run Tryz.prog w = .ok (decide (x = y ∧ a = b)) w := by
  rw [run_equalIn_struct w (d + 2) 46 _ _ (by kernel_rfl) (by kernel_rfl)]
  have hf := head_fields
  generalize (Tryz.prog.fieldsOf 46).toList = fs at hf
  rcases fs with _ | ⟨f1, _ | ⟨f2, _ | ⟨f3, r⟩⟩⟩
  · simp at hf
  · simp at hf
  · simp only [List.map_cons, List.map_nil, List.cons.injEq, Prod.mk.injEq, and_true] at hf
    obtain ⟨⟨m1, t1, o1⟩, m2, t2, o2⟩ := hf
    rw [eqFields_two (P := Tryz.prog) w (d + 2) _ _ f1 f2 (by rw [m1]; simp) (by rw [m2]; simp) (by rw [t1, o1]; exact part_int w x a) (by rw [t1, o1]; exact part_int w y b) (by rw [t1]; exact run_equalIn_int (P := Tryz.prog) w (d + 1) 3 .i64 .i64 x y Tryz.underlying3)
      (by rw [t2, o2]; exact part_hash w x a ha) (by rw [t2, o2]; exact part_hash w y b hb) (by rw [t2]; exact equalIn_hash w d a b ha hb)]
    congr 1
    by_cases h1 : x = y <;> by_cases h2 : a = b <;> simp [h1, h2]
  · simp at hf
theorem eql_head (w : World) (x y : Int) (a b : By) (ha : a.length = 32) (hb : b.length = 32) :
    (binOp .eql 46 (headV x a) (headV y b)).run Tryz.prog w = .ok (.bool (decide (x = y ∧ a = b))) w := by
  rw [run_eql_struct, equalIn_head (d := 9997) w x y a b ha hb]
  rfl
theorem neq_head (w : World) (x y : Int) (a b : By) (ha : a.length = 32) (hb : b.length = 32) :
    (binOp .neq 46 (headV x a) (headV y b)).run Tryz.prog w = .ok (.bool (!decide (x = y ∧ a = b))) w := by
  rw [run_neq_struct, equalIn_head (d := 9997) w x y a b ha hb]
  rfl
end Go.Proofs.YtpmdlkogccojmaaGreatDoor
