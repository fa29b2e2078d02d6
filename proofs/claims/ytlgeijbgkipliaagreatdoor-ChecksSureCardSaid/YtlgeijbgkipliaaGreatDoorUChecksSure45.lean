/- Point2 Point3 Chk1 Chk2 Chk3 Chk4 Chk6 Chk7 ChkM Chk5 ChkP1 ChkI -/
import Derived.Test.YtlgeijbgkipliaaGreatDoorUChecksSure40
import Derived.Test.YtlgeijbgkipliaaGreatDoorUChecksSure43
import Derived.Test.YtlgeijbgkipliaaGreatDoorUChecksSure33
import Derived.Test.YtlgeijbgkipliaaGreatDoorUChecksSure41
import Derived.Test.YtlgeijbgkipliaaGreatDoorUChecksSure37
import Derived.Test.YtlgeijbgkipliaaGreatDoorUChecksSure39
import Derived.Test.YtlgeijbgkipliaaGreatDoorUChecksSure44
set_option linter.unusedVariables false
set_option linter.unusedSimpArgs false
namespace Go.Proofs.YtlgeijbgkipliaaGreatDoor
open Go.RowKit
section
variable {w : World} {b : Nat} {size : Int} {u : Value} {z : Int} {root : By} {i : Int} {sig : ByteArray} {v : Value} {t : TypeId}
theorem point_signed (h : Blk w b (pointC size u z root i sig v) t) : w.rangeAt b 2 (signedC z root i sig v) := by
  intro j x hx
  refine h.cell ?_
  rw [Nat.add_comm]
  exact hx
theorem point_head (h : Blk w b (pointC size u z root i sig v) t) : w.rangeAt b 2 (headC z root) := by
  intro j x hx
  refine point_signed h j x ?_
  unfold signedC
  rw [List.getElem?_append_left (List.getElem?_eq_some_iff.1 hx).1]
  exact hx
end
set_option maxRecDepth 100000 in
set_option maxHeartbeats 2000000 in
theorem may_any (w : World) (size z i : Nat) (a : Option Addr) (c : Nat) (hs : List By) (root : By) (sig : ByteArray) (b : Option Addr) (d : Nat) (hv : View w 32 (.slice a hs.length c) (hcells hs)) (h32 : ∀ x ∈ hs, x.length = 32) (hlen : hs.length ≤ 100000) (hok : rngOk (size : Int) hs.length) (ht : Tab w)
    (hr : root.length = 32) (hz : z ≤ 4096) (hi : i < 8) (hsg : sig.size = 16384) :
    Calls Tryz.prog 73 #[.agg (pointC (size : Int) (.slice a hs.length c) (z : Int) root (i : Int) sig (.slice b 3 d)).toArray] w fun e w' => e = .returned (.bool (decide ((z : Int) = (size : Int) ∧ root = rootH hs))) ∧ Kept (fun _ => False) w w' := by
  obtain ⟨W, hW⟩ : ∃ W : World, W = w.alloc (.cells (pointC (size : Int) (.slice a hs.length c) (z : Int) root (i : Int) sig (.slice b 3 d)).toArray 72) := ⟨_, rfl⟩
  have b0 : Blk W w.heap.size (pointC (size : Int) (.slice a hs.length c) (z : Int) root (i : Int) sig (.slice b 3 d)) 72 := by rw [hW]; exact Blk.new w _ 72
  have kW : Kept (fun _ => False) w W := by rw [hW]; exact (Kept.refl _ _).alloc _
  obtain ⟨q0, q1, -⟩ := pointC_at (size := (size : Int)) (u := .slice a hs.length c) (z := (z : Int)) (i := (i : Int)) (sig := sig) (v := .slice b 3 d) hr
  have c0 := b0.cell q0
  have c1 := b0.cell q1
  have HRT := Lib.hid (rngRoot_any W (size : Int) a c hs (hv.same kW (by omega)) h32 hlen hok (ht.same kW))
  have hR : (rootH hs).length = 32 := rootH_len h32
  have HB := Lib.hid (And.intro b0 kW)
  have HVA := Lib.hid (fun X => valid_ok X z i root sig b d hr hz hi hsg)
  have heq := fun w' => eql_head w' (z : Int) (size : Int) root (rootH hs) hr hR
  have hfold := head_fold (size := (size : Int)) hR
  simp only [zeros, List.replicate] at hfold
  have hbl : (bytes8 (rootH hs)).length = 32 := by rw [bytes8_len, hR]
  have HI := Lib.hid (And.intro (show (Tryz.prog.info? 57).map (·.size) = some (bytes8 (rootH hs)).length by rw [bytes8_len, hR]; exact info_h32) (And.intro (show (Tryz.prog.info? 63).map (·.size) = some (signedC (z : Int) root (i : Int) sig (.slice b 3 d)).length by rw [signedC_len hr]; exact info_signed_) (And.intro (show (Tryz.prog.info? 59).map (·.size) = some (headC (z : Int) root).length by rw [List.length_cons, bytes8_len, hr]; exact info_head_) hR)))
  clear q0 q1 b0 kW hv h32 hlen hok ht hz hi hsg hR
  generalize decide ((z : Int) = (size : Int) ∧ root = rootH hs) = D at *
  generalize rootH hs = R at *
  clear hr
  go_enter Tryz.func73, Tryz.ntmps73
  go_upto_region 1 with (fail)
  generalize hWx : World.alloc _ _ = Wx
  obtain rfl : W = Wx := by rw [hW, ← hWx]
  clear hW hWx
  go_upto_region 2 with (first
    | (go_at_call 112; refine HRT.out.mono ?_; rintro e w1 ⟨rfl, hk1⟩; have HK1 := Lib.hid hk1; have HN1 := Lib.hid (And.intro ((Blk.new w1 (zeros 32) 57).there 0 32 (by simp [zeros_len])) ((Blk.new w1 (zeros 32) 57).setCells 0 (bytes8 R) (by rw [bytes8_len, HI.out.2.2.2, zeros_len]; omega))); clear hk1)
    | ((with_reducible show wpList _ _ _ (⟨none, .store _ (.tmp 3) _, _, _, _, _⟩ :: _) _ _); refine wpList_store_mid rfl 57 _ _ rfl w1.heap.size 0 (bytes8 R).toArray rfl rfl ?ht1 ?hi1 ?h11 ?_))
  case ht1 =>
    have e : (bytes8 R).toArray.size = 32 := by rw [List.size_toArray, bytes8_len]; exact HI.out.2.2.2
    first
    | (rw [e]; exact HN1.out.1)
    | (rw [List.size_toArray] at e; rw [e]; exact HN1.out.1)
  case hi1 => first
    | exact (by rw [List.size_toArray]; exact HI.out.1)
    | simpa using HI.out.1
  case h11 => first
    | exact all_oneCell_toArray u8_oneCell
    | exact fun v hv => u8_oneCell v hv
  have HS := Lib.hid (show Blk ((w1.alloc (.cells (zeros 32).toArray 57)).setCells w1.heap.size 0 (bytes8 R)) w1.heap.size (bytes8 R) 57 ∧ Kept (fun _ => False) W ((w1.alloc (.cells (zeros 32).toArray 57)).setCells w1.heap.size 0 (bytes8 R)) from by
    have h1 := HN1.out.2
    rw [splice_whole (by rw [bytes8_len, HI.out.2.2.2, zeros_len])] at h1
    exact ⟨h1, HK1.out.trans (((Kept.refl (fun _ => False) w1).alloc _).then_ (kept_setCells _ _ _ _) (fun i hi e => by omega))⟩)
  generalize hWW : World.setCells _ _ _ _ = W7
  have HS : Hid (Blk W7 w1.heap.size (bytes8 R) 57 ∧ Kept (fun _ => False) W W7) := Lib.hid (by rw [← hWW]; exact HS.out)
  clear hWW
  have c07 := HS.out.2.cell c0 id
  have HX := Lib.hid (And.intro (point_signed (HB.out.1.kept HS.out.2 id)) (fun (X : World) (hk : Kept (fun _ => False) W7 X) => show X.rangeAt w.heap.size 2 (headC (z : Int) root) ∧ X.rangeAt w1.heap.size 0 (bytes8 R) ∧ X.cell? ⟨w.heap.size, 0, none⟩ = some (.int .i64 (size : Int)) ∧ Kept (fun _ => False) w X from ⟨point_head (HB.out.1.kept (HS.out.2.trans hk) id), (HS.out.1.kept hk id).range0, hk.cell c07 id, HB.out.2.trans (HS.out.2.trans hk)⟩))
  clear HS HN1 HK1 HRT c0 c1 c07
  go_wp2_with (first
    | ((with_reducible show wpList _ _ _ (⟨some 15, _, _, _, _, _⟩ :: _) _ _); refine wpList_load_wanted (by rfl) 63 _ rfl w.heap.size 2 rfl (signedC (z : Int) root (i : Int) sig (.slice b 3 d)) _ HX.out.1 Tryz.underlying63 rfl HI.out.2.1 ?_)
    | (go_at_call 113; refine (HVA.out _).mono ?_; rintro e w8 ⟨rfl, hk8⟩; have H8 := Lib.hid (HX.out.2 w8 hk8); have c08 := H8.out.2.2.1; clear hk8)
    | ((with_reducible show wpList _ _ _ (⟨some 21, _, _, _, _, _⟩ :: _) _ _); refine wpList_load_wanted (by rfl) 59 _ rfl w.heap.size 2 rfl (headC (z : Int) root) _ H8.out.1 Tryz.underlying59 rfl HI.out.2.2.1 ?_)
    | ((with_reducible show wpList _ _ _ (⟨some 25, _, _, _, _, _⟩ :: _) _ _); refine wpList_load_wanted (by rfl) 57 _ rfl w1.heap.size 0 rfl (bytes8 R) _ H8.out.2.1 Tryz.underlying57 rfl HI.out.1 ?_))
  go_ret
  exact ⟨rfl, H8.out.2.2.2⟩
end Go.Proofs.YtlgeijbgkipliaaGreatDoor

namespace Go.Proofs.YtlgeijbgkipliaaGreatDoor
open Go.RowKit
def pbytesF (size : Nat) (hs : List By) (z : Nat) (root : By) (i : Nat) (sig : ByteArray) (path : List By) : By := numL size ++ hashesF hs ++ hputF z root i sig path
def PbS (b : Nat) (size : Int) (u : Value) (W : World) : Prop := W.cell? ⟨b, 0, none⟩ = some (.int .i64 size) ∧ W.cell? ⟨b, 1, none⟩ = some u
theorem PbS.turn {b : Nat} {size : Int} {u : Value} {W W' : World} (h : PbS b size u W) (hk : Kept (fun _ => False) W W') : PbS b size u W' := ⟨hk.cell h.1 id, hk.cell h.2 id⟩
theorem hputF_len {z i : Nat} {root : By} {sig : ByteArray} {path : List By} (hr : root.length = 32) (hz : z ≤ 4096) (hi : i < 8) (hsg : sig.size = 16384) (hp : path.length = 3) (h32 : ∀ x ∈ path, x.length = 32) : (hputF z root i sig path).length ≤ 20000 := by
  have h1 : (numL z).length ≤ 100 := numL_len (U64n.small (by omega))
  have h2 : (numL i).length ≤ 100 := numL_len (U64n.small (by omega))
  have h3 : (numL sig.size).length ≤ 100 := numL_len (U64n.small (by omega))
  have h4 : (hashesF path).length = 97 := by unfold hashesF; rw [List.length_append, numL_small (by omega), flatten_len32 h32, hp]; rfl
  have h5 : sig.data.toList.length = 16384 := by rw [Array.length_toList]; exact hsg
  unfold hputF
  simp only [List.length_append]
  omega
set_option maxRecDepth 100000 in
set_option maxHeartbeats 4000000 in
theorem pbytes_any (w : World) (size z i : Nat) (a : Option Addr) (n c : Nat) (hs : List By) (root : By) (sig : ByteArray) (b : Option Addr) (d : Nat) (path : List By) (hv : View w 32 (.slice a n c) (hcells hs)) (h32 : ∀ x ∈ hs, x.length = 32) (hlen : hs.length ≤ 64) (hvp : View w 32 (.slice b 3 d) (hcells path)) (hp32 : ∀ x ∈ path, x.length = 32)
    (hsz : size ≤ 4096) (hr : root.length = 32) (hz : z ≤ 4096) (hi : i < 8) (hsg : sig.size = 16384) :
    Calls Tryz.prog 75 #[.agg (pointC (size : Int) (.slice a n c) (z : Int) root (i : Int) sig (.slice b 3 d)).toArray] w fun e w' => e = .returned (.string ⟨(pbytesF size hs z root i sig path).toArray⟩) ∧ Kept (fun _ => False) w w' := by
  obtain ⟨W, hW⟩ : ∃ W : World, W = w.alloc (.cells (pointC (size : Int) (.slice a n c) (z : Int) root (i : Int) sig (.slice b 3 d)).toArray 72) := ⟨_, rfl⟩
  have b0 : Blk W w.heap.size (pointC (size : Int) (.slice a n c) (z : Int) root (i : Int) sig (.slice b 3 d)) 72 := by rw [hW]; exact Blk.new w _ 72
  have kW : Kept (fun _ => False) w W := by rw [hW]; exact (Kept.refl _ _).alloc _
  obtain ⟨q0, q1, -⟩ := pointC_at (size := (size : Int)) (u := .slice a n c) (z := (z : Int)) (i := (i : Int)) (sig := sig) (v := .slice b 3 d) hr
  have hp3 : path.length = 3 := by
    obtain ⟨_, _, _, e, h1, _⟩ := id hvp
    cases e
    rw [hcells_len hp32] at h1
    omega
  have HS := Lib.hid (And.intro (show PbS w.heap.size (size : Int) (.slice a n c) W from ⟨b0.cell q0, b0.cell q1⟩) (And.intro kW (point_signed b0)))
  have HPU := Lib.hid (hput_any W z i root sig b d path (hvp.same kW (by omega)) hp32 hr hz hi hsg)
  have hl1 : (numL size).length ≤ 100 := numL_len (U64n.small (by omega))
  have hl2 : (hashesF hs).length ≤ 100000 := by unfold hashesF; rw [List.length_append, numL_small (by omega), flatten_len32 h32, List.length_singleton]; omega
  have hl3 := hputF_len (z := z) (i := i) (root := root) (sig := sig) hr hz hi hsg hp3 hp32
  obtain ⟨t1, e1, s1⟩ : ∃ t : ByteArray, t = ⟨(numL size).toArray⟩ ∧ t.size ≤ 100 := ⟨_, rfl, by show (numL size).toArray.size ≤ 100; rw [List.size_toArray]; exact hl1⟩
  obtain ⟨t2, e2, s2⟩ : ∃ t : ByteArray, t = ⟨(hashesF hs).toArray⟩ ∧ t.size ≤ 100000 := ⟨_, rfl, by show (hashesF hs).toArray.size ≤ 100000; rw [List.size_toArray]; exact hl2⟩
  obtain ⟨t3, e3, s3⟩ : ∃ t : ByteArray, t = ⟨(hputF z root i sig path).toArray⟩ ∧ t.size ≤ 20000 := ⟨_, rfl, by show (hputF z root i sig path).toArray.size ≤ 20000; rw [List.size_toArray]; exact hl3⟩
  have HN1 := Lib.hid (fun X => num_any X size (U64n.small (by omega)))
  have HHS := Lib.hid (fun (X : World) (hk : Kept (fun _ => False) w X) => hashes_any X a n c hs (hv.same hk (by omega)) h32 hlen)
  rw [← e1] at HN1
  rw [← e2] at HHS
  rw [← e3] at HPU
  have HE := Lib.hid (show t1 ++ t2 ++ t3 = ⟨(pbytesF size hs z root i sig path).toArray⟩ from by
    rw [e1, e2, e3]
    exact bstr_eq (by simp [ByteArray.data_append, pbytesF]))
  rw [← HE.out]
  have HI := Lib.hid (show (Tryz.prog.info? 63).map (·.size) = some (signedC (z : Int) root (i : Int) sig (.slice b 3 d)).length by rw [signedC_len hr]; exact info_signed_)
  have hw1 : IntKind.u64.wrap (size : Int) = (size : Int) := wrap_u64 (U64n.small (by omega))
  have y1 : ¬ 9223372036854775807 < t1.size + t2.size := by omega
  have y2 : ¬ 9223372036854775807 < t1.size + t2.size + t3.size := by omega
  clear e1 e2 e3 hl1 hl2 hl3 b0 kW q0 q1 hp3 hv h32 hlen hvp hp32 hsz hr hz hi hsg
  go_enter Tryz.func75, Tryz.ntmps75
  go_upto_region 1 with (fail)
  generalize hWx : World.alloc _ _ = Wx
  obtain rfl : W = Wx := by rw [hW, ← hWx]
  clear hW hWx
  go_upto_region 2 with (first
    | ((with_reducible show wpList _ _ _ (⟨some 7, _, _, _, _, _⟩ :: _) _ _); refine wpList_load_mid rfl 63 _ rfl w.heap.size 2 rfl (signedC (z : Int) root (i : Int) sig (.slice b 3 d)) _ HS.out.2.2 Tryz.underlying63 rfl HI.out ?_)
    | (go_at_call 115; refine HPU.out.mono ?_; rintro e w1 ⟨rfl, hk1⟩; have HK1 := Lib.hid hk1; clear hk1))
  refine wp_region_held_drew (S := PbS w.heap.size (size : Int) (.slice a n c)) (by kernel_rfl) (HS.out.1.turn HK1.out.drew) (fun hH0 => ?_)
  have HK := Lib.hid (HS.out.2.1.trans HK1.out.drew)
  generalize World.drew w1 = Wd at *
  clear HS HK1 HPU
  refine tk 0 rfl (fun _ _ _ h => h) hH0 ?_
  refine tk 1 rfl (fun _ _ _ h => h) hH0 ?_
  refine tk (v := .int .i64 (size : Int)) 2 rfl (fun _ _ _ h => h) hH0 ?_ (hy := Or.inl ⟨by rfl, fun w hSw => by have hq := hSw.1; clear hSw; go_simp⟩)
  refine tk (v := .int .u64 (size : Int)) 3 rfl (fun _ _ _ h => h) hH0 ?_
  refine tk 5 rfl (fun _ _ _ h => h) hH0 ?_
  refine tk 6 rfl (fun _ _ _ h => h) hH0 ?_
  refine tk (v := .slice a n c) 7 rfl (fun _ _ _ h => h) hH0 ?_ (hy := Or.inl ⟨by rfl, fun w hSw => by have hq := hSw.2; clear hSw; go_simp⟩)
  refine tk 10 rfl (fun _ _ _ h => h) hH0 ?_
  clear hw1
  refine rd1 4 (fun K hK => ?_)
  go_simp
  refine (HN1.out _).mono ?_
  rintro e w5 ⟨rfl, hk5⟩
  refine hK.out _ _ (hH0.turn hk5) (fun hH1 => ?_)
  have HK5 := Lib.hid (HK.out.trans hk5)
  clear hK K hH0 hk5 HK
  try simp only [lyA, lyB, lyC, lyD]
  refine rd1 8 (fun K hK => ?_)
  go_simp
  refine (HHS.out _ HK5.out).mono ?_
  rintro e w6 ⟨rfl, hk6⟩
  refine hK.out _ _ (hH1.turn hk6) (fun hH2 => ?_)
  have HK6 := Lib.hid (HK5.out.trans hk6)
  clear hK K hH1 hk6 HK5
  try simp only [lyA, lyB, lyC, lyD]
  refine tk (v := .string (t1 ++ t2)) 9 rfl (fun _ _ _ h => h) hH2 ?_
  refine tk (v := .string (t1 ++ t2 ++ t3)) 11 rfl (fun _ _ _ h => h) hH2 ?_
  refine tk 12 rfl (fun _ _ _ h => h) hH2 ?_
  refine wpAnyH_done (by kernel_rfl) ?_ _
  go_wp2_with fail
  go_ret
  exact ⟨rfl, HK6.out⟩
end Go.Proofs.YtlgeijbgkipliaaGreatDoor

namespace Go.Proofs.YtlgeijbgkipliaaGreatDoor
open Go.RowKit
def chkC (d : Nat) (file many : Int) (P : List Value) (st : Int) (dead : Bool) : List Value := .pointer (some ⟨d, 0, none⟩) :: .int .i64 file :: .int .i64 many :: (P ++ [.int .i64 st, .bool dead])
theorem chkC_at {d : Nat} {file many : Int} {P : List Value} {st : Int} {dead : Bool} (hP : P.length = 38) : (chkC d file many P st dead)[0]? = some (.pointer (some ⟨d, 0, none⟩)) ∧ (chkC d file many P st dead)[1]? = some (.int .i64 file) ∧ (chkC d file many P st dead)[2]? = some (.int .i64 many) ∧ (chkC d file many P st dead)[41]? = some (.int .i64 st) ∧ (chkC d file many P st dead)[42]? = some (.bool dead) := by
  refine ⟨rfl, rfl, rfl, ?_, ?_⟩
  · show (P ++ _)[38]? = _
    rw [List.getElem?_append_right (by omega), hP]; rfl
  · show (P ++ _)[39]? = _
    rw [List.getElem?_append_right (by omega), hP]; rfl
theorem chkC_set1 {d : Nat} {file many : Int} {P : List Value} {st : Int} {dead : Bool} (x : Int) : (chkC d file many P st dead).set 1 (.int .i64 x) = chkC d x many P st dead := rfl
theorem chkC_set2 {d : Nat} {file many : Int} {P : List Value} {st : Int} {dead : Bool} (x : Int) : (chkC d file many P st dead).set 2 (.int .i64 x) = chkC d file x P st dead := rfl
theorem chkC_dead {d : Nat} {file many : Int} {P : List Value} {st : Int} {dead : Bool} (hP : P.length = 38) (x : Bool) : (chkC d file many P st dead).set 42 (.bool x) = chkC d file many P st x := by
  unfold chkC
  rw [List.set_cons_succ, List.set_cons_succ, List.set_cons_succ, List.set_append_right _ _ (by omega), hP]
  rfl
def layM (M : DiskM) (n : Int) (f : By) : Int × DiskM := if (M.append n f).1 = 0 then (M.append n f).2.sync else M.append n f
section
variable {w0 w w' : World} {d c : Nat} {M M' : DiskM} {Os : List Og} {y : Int} {file many : Int} {P : List Value} {st : Int} {dead : Bool}
set_option maxRecDepth 100000 in
set_option maxHeartbeats 1000000 in
theorem chk_lay (h : Owg w0 w d M (.blk c (chkC d file many P st dead) 74 :: Os)) (n : Int) (n0 : -9223372036854775808 ≤ n ∧ n ≤ 9223372036854775807) (s : ByteArray) (hc : M.files.length + M.loose.length < 300000000) (he : layM M n s.data.toList = (y, M')) :
    Calls Tryz.prog 77 #[.pointer (some ⟨c, 0, none⟩), .int .i64 n, .string s] w fun e w' => e = .returned (.int .i64 y) ∧ Owg w0 w' d M' (.blk c (chkC d file many P st dead) 74 :: Os) := by
  obtain ⟨r, M1, hr⟩ : ∃ r M1, M.append n s.data.toList = (r, M1) := ⟨_, _, rfl⟩
  unfold layM at he
  rw [hr] at he
  have HA := Lib.hid (h.dappend n n0 s hc hr)
  have hb : Blk w c (chkC d file many P st dead) 74 := h.has (x := .blk c (chkC d file many P st dead) 74) (List.mem_cons_self ..)
  have c0 := hb.cell (i := 0) rfl
  clear hb h hr
  by_cases h0 : r = 0
  · subst h0
    rw [if_pos rfl] at he
    have HE := Lib.hid he
    clear he
    go_enter Tryz.func77, Tryz.ntmps77
    go_upto_region 4 with (go_at_call 13; refine HA.out.mono ?_; rintro e w1 ⟨rfl, h1⟩; have H1 := Lib.hid h1; have c01 := Blk.cell (w := w1) (show Blk w1 c (chkC d file many P st dead) 74 from h1.has (x := .blk c (chkC d file many P st dead) 74) (List.mem_cons_self ..)) (i := 0) rfl; clear h1)
    have HS := Lib.hid (H1.out.dsync HE.out)
    go_wp2_with (go_at_call 55; refine HS.out.mono ?_; rintro e w2 ⟨rfl, h2⟩)
    go_ret
    exact ⟨rfl, h2⟩
  · rw [if_neg h0] at he
    have q1 : (r != 0) = true := by rw [bne_iff_ne]; exact h0
    cases he
    clear h0
    go_enter Tryz.func77, Tryz.ntmps77
    go_wp2_with (go_at_call 13; refine HA.out.mono ?_; rintro e w1 ⟨rfl, h1⟩; have H1 := Lib.hid h1; clear h1)
    go_ret
    exact ⟨rfl, H1.out⟩
end
end Go.Proofs.YtlgeijbgkipliaaGreatDoor

namespace Go.Proofs.YtlgeijbgkipliaaGreatDoor
open Go.RowKit
def freshM (M : DiskM) (file : Int) (f : By) : Int × DiskM :=
  if (M.create (file + 1)).1 = 0 then
    if (layM (M.create (file + 1)).2 (file + 1) f).1 = 0 then
      if 0 ≤ file then (layM (M.create (file + 1)).2 (file + 1) f).2.delete file else (0, (layM (M.create (file + 1)).2 (file + 1) f).2)
    else layM (M.create (file + 1)).2 (file + 1) f
  else M.create (file + 1)
section
variable {w0 w w' : World} {d c : Nat} {M M' : DiskM} {Os : List Og} {y : Int} {file many : Int} {P : List Value} {st : Int} {dead : Bool}
theorem chk_blk (h : Owg w0 w d M (.blk c (chkC d file many P st dead) 74 :: Os)) : Blk w c (chkC d file many P st dead) 74 := h.has (x := .blk c (chkC d file many P st dead) 74) (List.mem_cons_self ..)
def freshC (d : Nat) (file many : Int) (P : List Value) (st : Int) (dead : Bool) (y : Int) : List Value := if y = 0 then chkC d (file + 1) 0 P st dead else chkC d file many P st dead
theorem chk_next (h : Owg w0 w d M (.blk c (chkC d file many P st dead) 74 :: Os)) : Owg w0 ((w.setCell ⟨c, 1, none⟩ (.int .i64 (file + 1))).setCell ⟨c, 2, none⟩ (.int .i64 0)) d M (.blk c (chkC d (file + 1) 0 P st dead) 74 :: Os) := by
  have h1 := h.turn (kept_cell w c 1 (.int .i64 (file + 1))) ((chk_blk h).set 1 _)
  rw [chkC_set1] at h1
  have h2 := h1.turn (kept_cell _ c 2 (.int .i64 0)) ((chk_blk h1).set 2 _)
  rw [chkC_set2] at h2
  exact h2
set_option maxRecDepth 100000 in
set_option maxHeartbeats 2000000 in
theorem chk_fresh (h : Owg w0 w d M (.blk c (chkC d file many P st dead) 74 :: Os)) (f0 : -1 ≤ file) (f1 : file ≤ 1000000) (s : ByteArray) (hc : M.files.length + M.loose.length < 300000000) (hc1 : (M.create (file + 1)).2.files.length + (M.create (file + 1)).2.loose.length < 300000000) (he : freshM M file s.data.toList = (y, M')) :
    Calls Tryz.prog 76 #[.pointer (some ⟨c, 0, none⟩), .string s] w fun e w' => e = .returned (.int .i64 y) ∧ Owg w0 w' d M' (.blk c (freshC d file many P st dead y) 74 :: Os) := by
  obtain ⟨r, M1, hr⟩ : ∃ r M1, M.create (file + 1) = (r, M1) := ⟨_, _, rfl⟩
  unfold freshM at he
  rw [hr] at he hc1
  have HA := Lib.hid (h.dcreate (file + 1) (by omega) hc hr)
  have c0 := (chk_blk h).cell (i := 0) rfl
  have c1 := (chk_blk h).cell (i := 1) rfl
  clear h hr
  by_cases h0 : r = 0
  · subst h0
    rw [if_pos rfl] at he
    obtain ⟨r2, M2, hr2⟩ : ∃ r2 M2, layM M1 (file + 1) s.data.toList = (r2, M2) := ⟨_, _, rfl⟩
    simp only at he hc1
    rw [hr2] at he
    have HL := Lib.hid (fun (X : World) (q : Owg w0 X d M1 (.blk c (chkC d file many P st dead) 74 :: Os)) => chk_lay q (file + 1) (by omega) s hc1 hr2)
    clear hr2 hc1 hc
    by_cases h2 : r2 = 0
    · subst h2
      rw [if_pos rfl] at he
      simp only at he
      by_cases hf : 0 ≤ file
      · rw [if_pos hf] at he
        have y1 : decide (0 ≤ file) = true := decide_eq_true hf
        have HD := Lib.hid (fun (X : World) (q : Owg w0 X d M2 (.blk c (chkC d file many P st dead) 74 :: Os)) => q.ddelete file (by omega) he)
        clear hf he
        by_cases hy : y = 0
        · subst hy
          have HF := Lib.hid (show freshC d file many P st dead 0 = chkC d (file + 1) 0 P st dead from if_pos rfl)
          rw [HF.out]
          go_enter Tryz.func76, Tryz.ntmps76
          go_upto_region 9 with (first
            | (go_at_call 11; refine HA.out.mono ?_; rintro e w1 ⟨rfl, h1⟩; have H1 := Lib.hid h1; have c01 := (chk_blk h1).cell (i := 0) rfl; have c11 := (chk_blk h1).cell (i := 1) rfl; clear h1)
            | (go_at_call 77; refine (HL.out _ H1.out).mono ?_; rintro e w2 ⟨rfl, h2⟩; have H2 := Lib.hid h2; have c02 := (chk_blk h2).cell (i := 0) rfl; have c12 := (chk_blk h2).cell (i := 1) rfl; have z12 := (chk_blk h2).free 1; have z22 := (chk_blk h2).free 2; have c22 := (chk_blk h2).cell (i := 2) rfl; clear h2))
          refine wp_region_tail 8 (by kernel_rfl) (by kernel_rfl) ?_
          simp only [List.take_succ_cons, List.take_zero, List.drop_succ_cons, List.drop_zero]
          repeat still_step
          refine wpStill_nil ?_
          have HX := Lib.hid (H2.out.same (Kept.refl _ _).drew)
          clear c02 c12 z12 z22 c22
          generalize World.drew w2 = Wd at *
          go_wp2_with (go_at_call 95; refine (HD.out _ HX.out).mono ?_; rintro e w3 ⟨rfl, h3⟩; have H3 := Lib.hid h3; have c13 := (chk_blk h3).cell (i := 1) rfl; have z13 := (chk_blk h3).free 1; have z23 := (chk_blk h3).free 2; have c23 := (chk_blk h3).cell (i := 2) rfl; clear h3)
          go_ret
          exact ⟨rfl, chk_next H3.out⟩
        · have HF := Lib.hid (show freshC d file many P st dead y = chkC d file many P st dead from if_neg hy)
          have q1 : (y != 0) = true := by rw [bne_iff_ne]; exact hy
          rw [HF.out]
          clear hy
          go_enter Tryz.func76, Tryz.ntmps76
          go_upto_region 9 with (first
            | (go_at_call 11; refine HA.out.mono ?_; rintro e w1 ⟨rfl, h1⟩; have H1 := Lib.hid h1; have c01 := (chk_blk h1).cell (i := 0) rfl; have c11 := (chk_blk h1).cell (i := 1) rfl; clear h1)
            | (go_at_call 77; refine (HL.out _ H1.out).mono ?_; rintro e w2 ⟨rfl, h2⟩; have H2 := Lib.hid h2; have c02 := (chk_blk h2).cell (i := 0) rfl; have c12 := (chk_blk h2).cell (i := 1) rfl; have z12 := (chk_blk h2).free 1; have z22 := (chk_blk h2).free 2; have c22 := (chk_blk h2).cell (i := 2) rfl; clear h2))
          refine wp_region_tail 8 (by kernel_rfl) (by kernel_rfl) ?_
          simp only [List.take_succ_cons, List.take_zero, List.drop_succ_cons, List.drop_zero]
          repeat still_step
          refine wpStill_nil ?_
          have HX := Lib.hid (H2.out.same (Kept.refl _ _).drew)
          clear c02 c12 z12 z22 c22
          generalize World.drew w2 = Wd at *
          go_wp2_with (go_at_call 95; refine (HD.out _ HX.out).mono ?_; rintro e w3 ⟨rfl, h3⟩; have H3 := Lib.hid h3; have c13 := (chk_blk h3).cell (i := 1) rfl; have z13 := (chk_blk h3).free 1; have z23 := (chk_blk h3).free 2; have c23 := (chk_blk h3).cell (i := 2) rfl; clear h3)
          go_ret
          exact ⟨rfl, H3.out⟩
      · rw [if_neg hf] at he
        have y1 : decide (0 ≤ file) = false := decide_eq_false hf
        cases he
        have HF := Lib.hid (show freshC d file many P st dead 0 = chkC d (file + 1) 0 P st dead from if_pos rfl)
        rw [HF.out]
        clear hf
        go_enter Tryz.func76, Tryz.ntmps76
        go_wp2_with (first
          | (go_at_call 11; refine HA.out.mono ?_; rintro e w1 ⟨rfl, h1⟩; have H1 := Lib.hid h1; have c01 := (chk_blk h1).cell (i := 0) rfl; have c11 := (chk_blk h1).cell (i := 1) rfl; clear h1)
          | (go_at_call 77; refine (HL.out _ H1.out).mono ?_; rintro e w2 ⟨rfl, h2⟩; have H2 := Lib.hid h2; have c02 := (chk_blk h2).cell (i := 0) rfl; have c12 := (chk_blk h2).cell (i := 1) rfl; have z12 := (chk_blk h2).free 1; have z22 := (chk_blk h2).free 2; have c22 := (chk_blk h2).cell (i := 2) rfl; clear h2))
        go_ret
        exact ⟨rfl, chk_next H2.out⟩
    · rw [if_neg h2] at he
      have q1 : (r2 != 0) = true := by rw [bne_iff_ne]; exact h2
      have HF := Lib.hid (show freshC d file many P st dead r2 = chkC d file many P st dead from if_neg h2)
      cases he
      rw [HF.out]
      clear h2
      go_enter Tryz.func76, Tryz.ntmps76
      go_wp2_with (first
        | (go_at_call 11; refine HA.out.mono ?_; rintro e w1 ⟨rfl, h1⟩; have H1 := Lib.hid h1; have c01 := (chk_blk h1).cell (i := 0) rfl; have c11 := (chk_blk h1).cell (i := 1) rfl; clear h1)
        | (go_at_call 77; refine (HL.out _ H1.out).mono ?_; rintro e w2 ⟨rfl, h2⟩; have H2 := Lib.hid h2; have c02 := (chk_blk h2).cell (i := 0) rfl; have c12 := (chk_blk h2).cell (i := 1) rfl; have z12 := (chk_blk h2).free 1; have z22 := (chk_blk h2).free 2; have c22 := (chk_blk h2).cell (i := 2) rfl; clear h2))
      go_ret
      exact ⟨rfl, H2.out⟩
  · rw [if_neg h0] at he
    have q1 : (r != 0) = true := by rw [bne_iff_ne]; exact h0
    have HF := Lib.hid (show freshC d file many P st dead r = chkC d file many P st dead from if_neg h0)
    cases he
    rw [HF.out]
    clear h0
    go_enter Tryz.func76, Tryz.ntmps76
    go_wp2_with (go_at_call 11; refine HA.out.mono ?_; rintro e w1 ⟨rfl, h1⟩; have H1 := Lib.hid h1; have c01 := (chk_blk h1).cell (i := 0) rfl; have c11 := (chk_blk h1).cell (i := 1) rfl; clear h1)
    go_ret
    exact ⟨rfl, H1.out⟩
end
end Go.Proofs.YtlgeijbgkipliaaGreatDoor

namespace Go.Proofs.YtlgeijbgkipliaaGreatDoor
open Go.RowKit
def offB (M : DiskM) (st : Int) (dead : Bool) : Bool := dead || M.down || decide (M.starts ≠ st)
section
variable {w0 w w' : World} {d c : Nat} {M M' : DiskM} {Os : List Og} {y : Int} {file many : Int} {P : List Value} {st : Int} {dead : Bool}
theorem Owg.starts (h : Owg w0 w d M Os) {r : Int} (he : M.starts = r) : Calls Tryz.prog 49 #[.pointer (some ⟨d, 0, none⟩)] w fun e w' => e = .returned (.int .i64 r) ∧ w = w' := by
  obtain ⟨B, h⟩ := h
  exact starts_ap h.ap he
theorem chk_dead (h : Owg w0 w d M (.blk c (chkC d file many P st dead) 74 :: Os)) (hP : P.length = 38) (x : Bool) : Owg w0 (w.setCell ⟨c, 42, none⟩ (.bool x)) d M (.blk c (chkC d file many P st x) 74 :: Os) := by
  have h1 := h.turn (kept_cell w c 42 (.bool x)) ((chk_blk h).set 42 _)
  rw [chkC_dead hP] at h1
  exact h1
set_option maxRecDepth 100000 in
set_option maxHeartbeats 2000000 in
theorem chk_ready (h : Owg w0 w d M (.blk c (chkC d file many P st dead) 74 :: Os)) (hP : P.length = 38) :
    Calls Tryz.prog 72 #[.pointer (some ⟨c, 0, none⟩)] w fun e w' => e = .returned (.int .i64 (if offB M st dead = true then 61 else 0)) ∧ Owg w0 w' d M (.blk c (chkC d file many P st (offB M st dead)) 74 :: Os) := by
  have hb := chk_blk h
  obtain ⟨q0, q1, q2, q3, q4⟩ := chkC_at (d := d) (file := file) (many := many) (st := st) (dead := dead) hP
  have c0 := hb.cell q0
  have c41 := hb.cell q3
  have c42 := hb.cell q4
  have z42 := hb.free 42
  have HW := Lib.hid h
  have HU := Lib.hid (fun (n : Nat) => (h.same ((Kept.refl (fun _ => False) w).drewN n)).isup (b := !M.down) rfl)
  have HST := Lib.hid (fun (n : Nat) => (h.same ((Kept.refl (fun _ => False) w).drewN n)).starts rfl)
  have HOK := Lib.hid (show ∀ n, Owg w0 (w.drewN n) d M (.blk c (chkC d file many P st dead) 74 :: Os) from fun n => h.same ((Kept.refl (fun _ => False) w).drewN n))
  clear hb q0 q1 q2 q3 q4 h
  cases dead with
  | true =>
    have HB := Lib.hid (show offB M st true = true from rfl)
    rw [HB.out]
    go_enter Tryz.func72, Tryz.ntmps72
    go_upto_region 3 with (fail)
    go_quiet (fail)
    go_wp2_with fail
    go_ret
    exact ⟨rfl, chk_dead (HOK.out nq) hP true⟩
  | false =>
    by_cases hd : M.down = true
    · have HB := Lib.hid (show offB M st false = true from by unfold offB; rw [hd]; rfl)
      rw [HB.out]
      rw [hd] at HU
      clear hd
      go_enter Tryz.func72, Tryz.ntmps72
      go_upto_region 3 with (fail)
      go_quiet (first | (go_at_call 32; with_reducible exact quiet_at (HU.out _)) | (go_at_call 32; with_reducible exact quiet_on (HU.out _)))
      go_wp2_with fail
      go_ret
      exact ⟨rfl, chk_dead (HOK.out nq) hP true⟩
    · have hd2 : M.down = false := by cases hq : M.down <;> simp_all
      rw [hd2] at HU
      by_cases hst : M.starts = st
      · have HB := Lib.hid (show offB M st false = false from by unfold offB; rw [hd2, decide_eq_false (fun q => q hst)]; rfl)
        have q1 : (M.starts != st) = false := by rw [bne_eq_false_iff_eq]; exact hst
        rw [HB.out]
        clear hd hd2 hst
        go_enter Tryz.func72, Tryz.ntmps72
        go_upto_region 3 with (fail)
        go_quiet (first | (go_at_call 32; with_reducible exact quiet_at (HU.out _)) | (go_at_call 32; with_reducible exact quiet_on (HU.out _)) | (go_at_call 49; with_reducible exact quiet_on (HST.out _)) | (go_at_call 49; with_reducible exact quiet_at (HST.out _)))
        go_wp2_with fail
        go_ret
        exact ⟨rfl, HOK.out nq⟩
      · have HB := Lib.hid (show offB M st false = true from by unfold offB; rw [hd2, decide_eq_true hst]; rfl)
        have q1 : (M.starts != st) = true := by rw [bne_iff_ne]; exact hst
        rw [HB.out]
        clear hd hd2 hst
        go_enter Tryz.func72, Tryz.ntmps72
        go_upto_region 3 with (fail)
        go_quiet (first | (go_at_call 32; with_reducible exact quiet_at (HU.out _)) | (go_at_call 32; with_reducible exact quiet_on (HU.out _)) | (go_at_call 49; with_reducible exact quiet_on (HST.out _)) | (go_at_call 49; with_reducible exact quiet_at (HST.out _)))
        go_wp2_with fail
        go_ret
        exact ⟨rfl, chk_dead (HOK.out nq) hP true⟩
end
end Go.Proofs.YtlgeijbgkipliaaGreatDoor

namespace Go.Proofs.YtlgeijbgkipliaaGreatDoor
open Go.RowKit
theorem results2_word {P : Program} {w : World} {fn : Func} {p q u : Tmp} {ty1 ty2 : TypeId} {tmps : Array Value} {b1 b2 : Nat} {c1 c2 : List Value} {t1 t2 : TypeId} {d1 d2 : TypeDesc} (h1 : Blk w b1 c1 t1) (h2 : Blk w b2 c2 t2) (hf : fn.results = #[.cell p ty1, .cell q ty2, .tmp u])
    (hp : tmps.getD p undef = .pointer (some ⟨b1, 0, none⟩)) (hq : tmps.getD q undef = .pointer (some ⟨b2, 0, none⟩)) (hu1 : P.underlying ty1 = some d1) (hd1 : (match d1 with | .struct _ | .array _ _ => true | _ => false) = true) (hi1 : (P.info? ty1).map (·.size) = some c1.length)
    (hu2 : P.underlying ty2 = some d2) (hd2 : (match d2 with | .struct _ | .array _ _ => true | _ => false) = true) (hi2 : (P.info? ty2).map (·.size) = some c2.length) :
    (results fn tmps).run P w = .ok (.tuple #[.agg c1.toArray, .agg c2.toArray, tmps.getD u undef]) w := by
  have hp' : tmps[p]?.getD undef = .pointer (some ⟨b1, 0, none⟩) := by simpa using hp
  have hq' : tmps[q]?.getD undef = .pointer (some ⟨b2, 0, none⟩) := by simpa using hq
  simp [results, hf, hp', hq', asAddr, run_loadVar_row w b1 t1 ty1 c1.toArray (0, 0) d1 h1 hu1 hd1 (by rw [hi1, List.size_toArray]), run_loadVar_row w b2 t2 ty2 c2.toArray (0, 0) d2 h2 hu2 hd2 (by rw [hi2, List.size_toArray])]
structure LastJ (w W : World) : Prop where
  o1 : Blk W w.heap.size [.int .i64 0, .slice none 0 0] 55
  o2 : Blk W (w.heap.size + 1) signZ 63
  kept : Kept (fun _ => False) w W
theorem last_start (w : World) : LastJ w ((w.alloc (.cells #[.int .i64 0, .slice none 0 0] 55)).alloc (.cells signZ.toArray 63)) := by
  have b1 := Blk.new (w.alloc (.cells #[.int .i64 0, .slice none 0 0] 55)) signZ 63
  rw [World.size_alloc] at b1
  exact ⟨(Blk.new w [.int .i64 0, .slice none 0 0] 55).alloc _, b1, ((Kept.refl _ _).alloc _).alloc _⟩
theorem LastJ.turn {w W W' : World} (h : LastJ w W) (hk : Kept (fun _ => False) W W') : LastJ w W' := ⟨h.o1.kept hk id, h.o2.kept hk id, h.kept.trans hk⟩
section
variable {w0 w w' : World} {d c : Nat} {M M' : DiskM} {Os : List Og} {y : Int} {file many : Int} {P : List Value} {st : Int} {dead : Bool}
theorem chk_point (h : Blk w c (chkC d file many P st dead) 74) : w.rangeAt c 3 P := by
  intro j x hx
  refine h.cell ?_
  rw [Nat.add_comm]
  show (P ++ _)[j]? = some x
  rw [List.getElem?_append_left (List.getElem?_eq_some_iff.1 hx).1]
  exact hx
set_option maxRecDepth 100000 in
set_option maxHeartbeats 2000000 in
theorem chk_last0 (hb : Blk w c (chkC d file many P st dead) 74) (hf : file < 0) :
    Calls Tryz.prog 22 #[.pointer (some ⟨c, 0, none⟩)] w fun e w' => e = .returned (.tuple #[rngV 0 (.slice none 0 0), .agg signZ.toArray, .bool false]) ∧ Kept (fun _ => False) w w' := by
  obtain ⟨W, hW⟩ : ∃ W : World, W = (w.alloc (.cells #[.int .i64 0, .slice none 0 0] 55)).alloc (.cells signZ.toArray 63) := ⟨_, rfl⟩
  have HJ := Lib.hid (show LastJ w W by rw [hW]; exact last_start w)
  have c0 := (hb.kept HJ.out.kept id).cell (i := 0) rfl
  have c1 := (hb.kept HJ.out.kept id).cell (i := 1) rfl
  have y1 : decide (file < 0) = true := decide_eq_true hf
  clear hb hf
  go_enter Tryz.func22, Tryz.ntmps22
  go_upto_region 1 with (fail)
  generalize hWx : World.alloc _ _ = Wx
  obtain rfl : W = Wx := by rw [hW, ← hWx]; rfl
  clear hW hWx
  have iS : (Tryz.prog.info? 63).map (·.size) = some signZ.length := by rw [signZ_len]; exact info_signed_
  have IS := Lib.hid iS
  clear iS
  go_upto_region 2 with (fail)
  have r0 := HJ.out.o1.cell (i := 0) rfl
  have r1 := HJ.out.o1.cell (i := 1) rfl
  have z0 := HJ.out.o1.free 0
  have z1 := HJ.out.o1.free 1
  obtain ⟨WA, hWA⟩ : ∃ WA, (W.setCell ⟨w.heap.size, 0, none⟩ (.int .i64 0)).setCell ⟨w.heap.size, 1, none⟩ (.slice none 0 0) = WA := ⟨_, rfl⟩
  have hset1 : Blk WA w.heap.size [.int .i64 0, .slice none 0 0] 55 := by rw [← hWA]; exact (HJ.out.o1.set 0 (.int .i64 0)).set 1 (.slice none 0 0)
  have k1 : Kept (· = w.heap.size) W WA := by rw [← hWA]; exact (kept_cell W w.heap.size 0 _).trans (kept_cell _ w.heap.size 1 _)
  have ho2 := HJ.out.o2.kept k1 (by omega)
  have hset2 := ho2.setCells 0 signZ (by omega)
  rw [splice_whole (by rfl)] at hset2
  have k2 : Kept (· = w.heap.size + 1) WA (WA.setCells (w.heap.size + 1) 0 signZ) := kept_setCells _ _ _ _
  have HX := Lib.hid (And.intro trivial (And.intro (ho2.there 0 36 (by rw [signZ_len]; omega)) (And.intro (hset1.kept k2 (by omega)) (And.intro hset2 ((HJ.out.kept.then_ k1 (fun i hi e => by omega)).then_ k2 (fun i hi e => by omega))))))
  have oz : ∀ v ∈ signZ, v.oneCell' = true := by
    intro v hv
    rw [List.mem_append, List.mem_cons] at hv
    rcases hv with (rfl | hv) | hv
    · rfl
    · rw [zeros, List.mem_replicate] at hv
      rw [hv.2]; rfl
    · simp at hv
      rcases hv with rfl | rfl | rfl <;> rfl
  have OZ := Lib.hid oz
  clear hset1 k1 ho2 hset2 k2 oz
  refine wp_region_lit ?_
  refine wpList_plain rfl (fun K hK => ?_)
  go_simp
  refine hK _ _ ?_
  clear hK K
  refine wpList_plain rfl (fun K hK => ?_)
  go_simp
  refine hK _ _ ?_
  clear hK K
  refine wpList_plain rfl (fun K hK => ?_)
  go_simp
  try rw [hWA]
  refine hK _ _ ?_
  clear hK K
  refine wpList_store_mid rfl 63 _ _ rfl (w.heap.size + 1) 0 signZ.toArray rfl rfl HX.out.2.1 (by rw [List.size_toArray]; exact IS.out) (all_oneCell_toArray OZ.out) ?_
  go_wp2_with fail
  exact bodyPost_ret (results2_word HX.out.2.2.1 HX.out.2.2.2.1 rfl rfl rfl Tryz.underlying55 rfl info_range_ Tryz.underlying63 rfl IS.out) rfl ⟨rfl, HX.out.2.2.2.2⟩
end
end Go.Proofs.YtlgeijbgkipliaaGreatDoor

namespace Go.Proofs.YtlgeijbgkipliaaGreatDoor
open Go.RowKit
end Go.Proofs.YtlgeijbgkipliaaGreatDoor

namespace Go.Proofs.YtlgeijbgkipliaaGreatDoor
open Go.RowKit
end Go.Proofs.YtlgeijbgkipliaaGreatDoor

namespace Go.Proofs.YtlgeijbgkipliaaGreatDoor
open Go.RowKit
structure ChkM where
  file : Int
  many : Int
  starts : Int
  dead : Bool
def ChkM.next (C : ChkM) : Bool := decide (C.file < 0) || decide (3 ≤ C.many)
def ChkM.full (C : ChkM) (M : DiskM) (f : By) : Bool := decide (M.cap - M.total < (f.length : Int)) || (C.next && (decide (1000 ≤ C.file + 1) || decide (100 ≤ M.files.length)))
def ChkM.lays (C : ChkM) (M : DiskM) (f : By) : Int × DiskM := if C.next then freshM M C.file f else layM M C.file f
def ChkM.behind (C : ChkM) (y : Int) : ChkM :=
  if y = 0 then (if C.next then { C with file := C.file + 1, many := 1 } else { C with many := C.many + 1 }) else { C with dead := C.dead || decide (y = 61) }
def putM (C : ChkM) (M : DiskM) (ok : Bool) (f : By) : Int × ChkM × DiskM :=
  if offB M C.starts C.dead then (61, { C with dead := true }, M)
  else if ok = false then (2, C, M)
  else if C.full M f then (60, C, M)
  else ((C.lays M f).1, C.behind (C.lays M f).1, (C.lays M f).2)
theorem putM_off {C : ChkM} {M : DiskM} {ok : Bool} {f : By} (h : offB M C.starts C.dead = true) : putM C M ok f = (61, { C with dead := true }, M) := by unfold putM; rw [if_pos h]
theorem putM_arg {C : ChkM} {M : DiskM} {f : By} (h : offB M C.starts C.dead = false) : putM C M false f = (2, C, M) := by unfold putM; rw [if_neg (by rw [h]; simp), if_pos rfl]
theorem putM_full {C : ChkM} {M : DiskM} {f : By} (h : offB M C.starts C.dead = false) (h2 : C.full M f = true) : putM C M true f = (60, C, M) := by unfold putM; rw [if_neg (by rw [h]; simp), if_neg (by simp), if_pos h2]
theorem putM_lays {C : ChkM} {M : DiskM} {f : By} (h : offB M C.starts C.dead = false) (h2 : C.full M f = false) : putM C M true f = ((C.lays M f).1, C.behind (C.lays M f).1, (C.lays M f).2) := by unfold putM; rw [if_neg (by rw [h]; simp), if_neg (by simp), if_neg (by rw [h2]; simp)]
end Go.Proofs.YtlgeijbgkipliaaGreatDoor

namespace Go.Proofs.YtlgeijbgkipliaaGreatDoor
open Go.RowKit
def LastTo (w : World) (size : Int) (L : List By) (n : Nat) (z : Int) (root : By) (i : Int) (sig : ByteArray) (M : List By) (m : Nat) (e : Ending) (w' : World) : Prop :=
  ∃ a c b d, e = .returned (.tuple #[rngV size (.slice a n c), signedV z root i sig (.slice b m d), .bool true]) ∧
    Hid ((Row w' 57 32 (.slice a n c) (hcells L) ∧ ∀ k, (Value.slice a n c).ownBlock = some k → w.heap.size ≤ k) ∧ (Row w' 57 32 (.slice b m d) (hcells M) ∧ ∀ k, (Value.slice b m d).ownBlock = some k → w.heap.size ≤ k) ∧ (∀ k, (Value.slice a n c).ownBlock = some k → ¬ (Value.slice b m d).ownBlock = some k) ∧ Kept (fun _ => False) w w')
def LsS (p : Nat) (size : Int) (u : Value) (z : Int) (root : By) (i : Int) (sig : ByteArray) (v : Value) (W : World) : Prop :=
  W.cell? ⟨p, 0, none⟩ = some (.int .i64 size) ∧ W.cell? ⟨p, 1, none⟩ = some u ∧ W.rangeAt p 2 (signedC z root i sig v)
theorem LsS.turn {Z : Nat → Prop} {p : Nat} {size : Int} {u : Value} {z : Int} {root : By} {i : Int} {sig : ByteArray} {v : Value} {W W' : World} (h : LsS p size u z root i sig v W) (hk : Kept Z W W') (hZ : ¬ Z p) : LsS p size u z root i sig v W' :=
  ⟨hk.cell h.1 hZ, hk.cell h.2.1 hZ, fun j x hx => hk.cell (h.2.2 j x hx) hZ⟩
section
variable {w0 w w' : World} {d c : Nat} {file many : Int} {st : Int} {dead : Bool}
set_option maxRecDepth 100000 in
set_option maxHeartbeats 4000000 in
theorem chk_last (size : Int) (a b : Option Addr) (n ca m cb : Nat) (L M : List By) (z : Int) (root : By) (i : Int) (sig : ByteArray) (hb : Blk w c (chkC d file many (pointC size (.slice a n ca) z root i sig (.slice b m cb)) st dead) 74) (hf : 0 ≤ file)
    (hr : root.length = 32) (hL : View w 32 (.slice a n ca) (hcells L)) (hM : View w 32 (.slice b m cb) (hcells M)) (h1 : ∀ x ∈ L, x.length = 32) (h2 : ∀ x ∈ M, x.length = 32) (l1 : L.length ≤ 100000) (l2 : M.length ≤ 100000) :
    Calls Tryz.prog 22 #[.pointer (some ⟨c, 0, none⟩)] w (LastTo w size L n z root i sig M m) := by
  obtain ⟨W, hW⟩ : ∃ W : World, W = (w.alloc (.cells #[.int .i64 0, .slice none 0 0] 55)).alloc (.cells signZ.toArray 63) := ⟨_, rfl⟩
  have HJ := Lib.hid (show LastJ w W by rw [hW]; exact last_start w)
  have c0 := (hb.kept HJ.out.kept id).cell (i := 0) rfl
  have c1 := (hb.kept HJ.out.kept id).cell (i := 1) rfl
  have HP := Lib.hid (chk_point (hb.kept HJ.out.kept id))
  have y1 : decide (file < 0) = false := decide_eq_false (by omega)
  have HO := Lib.hid (own_any W size a b n ca m cb L M z root i sig hr (hL.same HJ.out.kept (by omega)) (hM.same HJ.out.kept (by omega)) h1 h2 l1 l2)
  have HR := Lib.hid hr
  have ip : (Tryz.prog.info? 72).map (·.size) = some (pointC size (.slice a n ca) z root i sig (.slice b m cb)).length := by rw [pointC_len hr]; exact info_point
  have IP := Lib.hid ip
  have HWs := Lib.hid (show W.heap.size = w.heap.size + 2 by rw [hW, World.size_alloc, World.size_alloc])
  clear hb hf hL hM h1 h2 l1 l2 hr ip
  go_enter Tryz.func22, Tryz.ntmps22
  go_upto_region 1 with (fail)
  generalize hWx : World.alloc _ _ = Wx
  obtain rfl : W = Wx := by rw [hW, ← hWx]; rfl
  clear hW hWx
  go_upto_region 4 with (first
    | ((with_reducible show wpList _ _ _ (⟨some 27, _, _, _, _, _⟩ :: _) _ _); refine wpList_load_mid rfl 72 _ rfl c 3 rfl (pointC size (.slice a n ca) z root i sig (.slice b m cb)) _ HP.out Tryz.underlying72 rfl IP.out ?_)
    | (go_at_call 71; refine HO.out.mono ?_; rintro e w1 ⟨a1, ca1, b1, cb1, rfl, H1⟩)
    | ((with_reducible show wpList _ _ _ (⟨none, .store _ (.tmp 5) _, _, _, _, _⟩ :: _) _ _); refine wpList_store_mid rfl 72 _ _ rfl w1.heap.size 0 (pointC size (.slice a1 n ca1) z root i sig (.slice b1 m cb1)).toArray rfl rfl ?t1 ?t2 ?t3 ?_))
  case t1 => exact (Blk.new w1 pointZ 72).there 0 _ (by rw [List.size_toArray, pointC_len HR.out, pointZ_len]; omega)
  case t2 => rw [List.size_toArray, pointC_len HR.out]; exact info_point
  case t3 => exact all_oneCell_toArray (point_one rfl rfl)
  have HS := Lib.hid (show Blk ((w1.alloc (.cells pointZ.toArray 72)).setCells w1.heap.size 0 (pointC size (.slice a1 n ca1) z root i sig (.slice b1 m cb1))) w1.heap.size (pointC size (.slice a1 n ca1) z root i sig (.slice b1 m cb1)) 72 ∧ Kept (fun _ => False) w1 ((w1.alloc (.cells pointZ.toArray 72)).setCells w1.heap.size 0 (pointC size (.slice a1 n ca1) z root i sig (.slice b1 m cb1))) from by
    have hq := (Blk.new w1 pointZ 72).setCells 0 (pointC size (.slice a1 n ca1) z root i sig (.slice b1 m cb1)) (by rw [pointC_len HR.out, pointZ_len]; omega)
    rw [splice_whole (by rw [pointC_len HR.out, pointZ_len])] at hq
    exact ⟨hq, ((Kept.refl (fun _ => False) w1).alloc _).then_ (kept_setCells _ _ _ _) (fun i hi e => by omega)⟩)
  generalize hWW : World.setCells _ _ _ _ = W7
  have HS : Hid (Blk W7 w1.heap.size (pointC size (.slice a1 n ca1) z root i sig (.slice b1 m cb1)) 72 ∧ Kept (fun _ => False) w1 W7) := Lib.hid (by rw [← hWW]; exact HS.out)
  clear hWW c0 c1 HP HO
  obtain ⟨q0, q1, -⟩ := pointC_at (size := size) (u := .slice a1 n ca1) (z := z) (i := i) (sig := sig) (v := .slice b1 m cb1) HR.out
  refine wp_region_held_drew (S := LsS w1.heap.size size (.slice a1 n ca1) z root i sig (.slice b1 m cb1)) (by kernel_rfl) ⟨HS.out.1.drew.cell q0, HS.out.1.drew.cell q1, point_signed HS.out.1.drew⟩ (fun hH0 => ?_)
  have HD := Lib.hid (show Kept (fun _ => False) w1 W7.drew from HS.out.2.drew)
  have hz1 := H1.out.2.2.2.size
  have hs1 := HWs.out
  have HJ8 := Lib.hid (HJ.out.turn (H1.out.2.2.2.trans HD.out))
  generalize World.drew W7 = Wd at *
  clear HS HJ q0 q1
  have iS : (Tryz.prog.info? 63).map (·.size) = some (signedC z root i sig (.slice b1 m cb1)).length := by rw [signedC_len HR.out]; exact info_signed_
  refine tk 0 rfl (fun _ _ _ h => h) hH0 ?_
  refine tk (v := .agg #[.int .i64 size, .slice a1 n ca1]) 1 rfl (fun _ _ _ h => h) hH0 ?_ (hy := Or.inl ⟨by rfl, fun w hSw => by have hq := hSw.1; have hq2 := hSw.2.1; clear hSw; go_simp⟩)
  refine tk 2 rfl (fun _ _ _ h => h) hH0 ?_
  refine tky 3 rfl (fun _ _ _ h => h) (yieldsIf_load_mid (by rfl) _ _ rfl _ _ rfl (signedC z root i sig (.slice b1 m cb1)) _ (fun w h => h.2.2) Tryz.underlying63 rfl iS) hH0 ?_
  refine rd1 4 (fun K hK => ?_)
  rw [if_pos (by rfl)]
  refine wp_store_mid _ _ _ rfl w.heap.size 0 #[.int .i64 size, .slice a1 n ca1] rfl rfl (HJ8.out.o1.there 0 2 (by simp)) info_range_ (by simp [Value.oneCell']) ?_
  simp only [Act.put]
  have hset := HJ8.out.o1.setCells 0 [.int .i64 size, .slice a1 n ca1] (by simp)
  rw [splice_whole (by rfl)] at hset
  have hk9 : Kept (· = w.heap.size) Wd (Wd.setCells w.heap.size 0 [.int .i64 size, .slice a1 n ca1]) := kept_setCells _ _ _ _
  refine hK.out _ _ (hH0.turn hk9 (by omega)) (fun hHz => ?_)
  clear hK K hH0
  have ho2 := (HJ8.out.o2.kept hk9 (by omega))
  have hst2 := ho2.setCells 0 (signedC z root i sig (.slice b1 m cb1)) (by rw [signedC_len HR.out, signZ_len]; omega)
  rw [splice_whole (by rw [signedC_len HR.out, signZ_len])] at hst2
  have hk10 : Kept (· = w.heap.size + 1) (Wd.setCells w.heap.size 0 [.int .i64 size, .slice a1 n ca1]) ((Wd.setCells w.heap.size 0 [.int .i64 size, .slice a1 n ca1]).setCells (w.heap.size + 1) 0 (signedC z root i sig (.slice b1 m cb1))) := kept_setCells _ _ _ _
  refine rd1 5 (fun K hK => ?_)
  rw [if_pos (by rfl)]
  refine wp_store_mid _ _ _ rfl (w.heap.size + 1) 0 (signedC z root i sig (.slice b1 m cb1)).toArray rfl rfl (ho2.there 0 _ (by rw [List.size_toArray, signedC_len HR.out, signZ_len]; omega)) (by rw [List.size_toArray]; exact iS) (all_oneCell_toArray (signed_one _ _ _ _ _ rfl)) ?_
  simp only [Act.put]
  refine hK.out _ _ (hHz.turn hk10 (by omega)) (fun hHy => ?_)
  clear hK K hHz
  refine tk 6 rfl (fun _ _ _ h => h) hHy ?_
  refine wpAnyH_done (by kernel_rfl) ?_ _
  go_wp2_with fail
  have n1 := H1.out.1.2
  have n2 := H1.out.2.1.2
  refine bodyPost_ret (results2_word (hset.kept hk10 (by omega)) hst2 rfl rfl rfl Tryz.underlying55 rfl info_range_ Tryz.underlying63 rfl iS) rfl ⟨a1, ca1, b1, cb1, rfl, Lib.hid ⟨⟨?_, fun k q => by have := n1 k q; omega⟩, ⟨?_, fun k q => by have := n2 k q; omega⟩, H1.out.2.2.1, ?_⟩⟩
  · exact ((H1.out.1.1.kept HD.out (fun _ _ => id)).kept hk9 (fun k q e => by have := n1 k q; omega)).kept hk10 (fun k q e => by have := n1 k q; omega)
  · exact ((H1.out.2.1.1.kept HD.out (fun _ _ => id)).kept hk9 (fun k q e => by have := n2 k q; omega)).kept hk10 (fun k q e => by have := n2 k q; omega)
  · exact (HJ8.out.kept.then_ hk9 (fun i hi e => by omega)).then_ hk10 (fun i hi e => by omega)
end
end Go.Proofs.YtlgeijbgkipliaaGreatDoor

namespace Go.Proofs.YtlgeijbgkipliaaGreatDoor
open Go.RowKit
theorem point_fold {root : By} (hr : root.length = 32) (size : Int) (u : Value) (z i : Int) (s : ByteArray) (v : Value) :
    (signedC z root i s v).zipIdx.foldl (fun (cs : Array Value) (x : Value × Nat) => cs.setIfInBounds (2 + x.snd) x.fst) (.int .i64 size :: u :: ((.int .i64 0 :: zeros 32) ++ [.int .i64 0, .string ⟨#[]⟩, .slice none 0 0]) : List Value).toArray = (pointC size u z root i s v).toArray := by
  have hl := signedC_len (size := z) (root := root) (i := i) (s := s) (v := v) hr
  have hz : ((.int .i64 0 :: zeros 32) ++ [.int .i64 0, .string ⟨#[]⟩, .slice none 0 0] : List Value).length = 36 := by rw [List.length_append, List.length_cons, zeros_len]; rfl
  rw [foldzAt _ _ 2 0 (by rw [hl, List.length_cons, List.length_cons, hz]; omega)]
  congr 1
  unfold splice pointC
  rw [hl]
  generalize ((.int .i64 0 :: zeros 32) ++ [.int .i64 0, .string ⟨#[]⟩, .slice none 0 0] : List Value) = Z at *
  show _ :: _ :: (signedC z root i s v ++ Z.drop 36) = _
  rw [List.drop_of_length_le (by omega), List.append_nil]
theorem built_point (parts : List (Nat × Value)) : (Tryz.prog).built 72 parts = Instr.fill ((#[(0, 2), (2, 36)] : Array (Nat × Nat))[·]?) pointZ.toArray parts := by kernel_rfl
set_option maxRecDepth 100000 in
theorem built_point2 {root : By} (hr : root.length = 32) (size : Int) (u : Value) (z i : Int) (s : ByteArray) (v : Value) : (Tryz.prog).built 72 [(0, .agg #[.int .i64 size, u]), (1, .agg (signedC z root i s v).toArray)] = some (pointC size u z root i s v).toArray := by
  have hl := signedC_len (size := z) (root := root) (i := i) (s := s) (v := v) hr
  rw [built_point, ← point_fold hr size u z i s v]
  have hz : pointZ.toArray.size = 38 := by rw [List.size_toArray, pointZ_len]
  simp only [Instr.fill, Value.cells]
  simp [hl, pointZ_len, zeros_len]
theorem wp_build_point {op : Oper} {a : Act} {W : World} {K : Act → World → Prop} {Q : Exit → Act → World → Prop} (x y : Tmp) (ho : op.op = .build 72 #[(0, .tmp x), (1, .tmp y)]) {root : By} (hr : root.length = 32) (size : Int) (u : Value) (z i : Int) (s : ByteArray) (v : Value)
    (hx : a.tmps.getD x undef = .agg #[.int .i64 size, u]) (hy : a.tmps.getD y undef = .agg (signedC z root i s v).toArray)
    (h : K (a.put op.dst (.agg (pointC size u z root i s v).toArray)) W) : op.wp Tryz.prog a W K Q := by
  have e : (#[(0, .tmp x), (1, .tmp y)].map fun (i, x) => (i, a.eval x) : Array (Nat × Value)).toList = [(0, .agg #[.int .i64 size, u]), (1, .agg (signedC z root i s v).toArray)] := by
    have e1 : a.eval (.tmp x) = .agg #[.int .i64 size, u] := hx
    have e2 : a.eval (.tmp y) = .agg (signedC z root i s v).toArray := hy
    simp [e1, e2]
  exact wp_build _ _ ho (by rw [e, built_point2 hr]; rfl) (by rw [e, built_point2 hr]; exact h)
structure PtM where
  size : Nat
  hs : List By
  z : Nat
  root : By
  i : Nat
  sig : ByteArray
  path : List By
structure PtM.Ok (p : PtM) : Prop where
  h32 : ∀ x ∈ p.hs, x.length = 32
  hlen : p.hs.length ≤ 64
  p32 : ∀ x ∈ p.path, x.length = 32
  p3 : p.path.length = 3
  hok : rngOk (p.size : Int) p.hs.length
  hsize : p.size ≤ 4096
  hr : p.root.length = 32
  hz : p.z ≤ 4096
  hi : p.i < 8
  hsg : p.sig.size = 16384
def PtM.may (p : PtM) : Bool := decide ((p.z : Int) = (p.size : Int) ∧ p.root = rootH p.hs)
def PtM.bytes (p : PtM) : By := pbytesF p.size p.hs p.z p.root p.i p.sig p.path
def PtM.frame (p : PtM) : By := frameF p.bytes
def PtM.cells (p : PtM) (u v : Value) : List Value := pointC (p.size : Int) u (p.z : Int) p.root (p.i : Int) p.sig v
theorem PtM.cells_len {p : PtM} (h : p.Ok) (u v : Value) : (p.cells u v).length = 38 := pointC_len h.hr
theorem PtM.bytes_len {p : PtM} (h : p.Ok) : p.bytes.length ≤ 30000 := by
  have h1 := hputF_len (z := p.z) (i := p.i) (root := p.root) (sig := p.sig) (path := p.path) h.hr h.hz h.hi h.hsg h.p3 h.p32
  have h2 : (numL p.size).length ≤ 100 := numL_len (U64n.small (by have := h.hsize; omega))
  have h3 : (hashesF p.hs).length ≤ 2100 := by unfold hashesF; rw [List.length_append, numL_small (by have := h.hlen; omega), flatten_len32 h.h32, List.length_singleton]; have := h.hlen; omega
  unfold PtM.bytes pbytesF
  rw [List.length_append, List.length_append]
  omega
end Go.Proofs.YtlgeijbgkipliaaGreatDoor

namespace Go.Proofs.YtlgeijbgkipliaaGreatDoor
open Go.RowKit
def PtM.of (sz sd : Nat) : PtM := ⟨ptSize sz, ptHs sz sd, ptSize sz, ptRoot sz sd, sd % 8, ptSig sz sd, ptPath sd⟩
theorem PtM.of_ok (sz sd : Nat) : (PtM.of sz sd).Ok := by
  have h1 := ptHs_ok sz sd
  have h2 := ptHs_len sz sd
  have h3 := ptSize_le sz
  have h4 := ptRoot_32 sz sd
  have h5 := ptSig_size sz sd
  have h6 := ptHs_32 (sz := sz) (sd := sd)
  have h7 := ptPath_32 (sd := sd)
  have h8 : (ptPath sd).length = 3 := rfl
  have h9 : sd % 8 < 8 := Nat.mod_lt _ (by decide)
  unfold PtM.of
  generalize ptSize sz = zq at *
  generalize ptHs sz sd = hq_ at *
  generalize ptRoot sz sd = rq at *
  generalize ptSig sz sd = sq at *
  generalize ptPath sd = pq at *
  generalize sd % 8 = iq at *
  exact ⟨h6, by show hq_.length ≤ 64; omega, h7, h8, h1, h3, h4, h3, h9, h5⟩
theorem PtM.of_may (sz sd : Nat) : (PtM.of sz sd).may = true := decide_eq_true ⟨rfl, rfl⟩
def PtM.same (p q : PtM) : Bool := decide ((p.size : Int) = (q.size : Int) ∧ p.hs = q.hs) && decide (((p.z : Int) = (q.z : Int) ∧ p.root = q.root) ∧ (p.i : Int) = (q.i : Int) ∧ p.sig = q.sig ∧ p.path = q.path)
theorem two_stored (w1 : World) (x y : List Value) (hy : y.length = 36) :
    ((w1.alloc (.cells x.toArray 55)).alloc (.cells signZ.toArray 63)).there (w1.heap.size + 1) 0 y.toArray.size ∧ ∀ W2, ((w1.alloc (.cells x.toArray 55)).alloc (.cells signZ.toArray 63)).setCells (w1.heap.size + 1) 0 y = W2 →
      Blk W2 w1.heap.size x 55 ∧ Blk W2 (w1.heap.size + 1) y 63 ∧ Kept (fun _ => False) w1 W2 := by
  have b0 := (Blk.new w1 x 55).alloc (.cells signZ.toArray 63)
  have b1 := Blk.new (w1.alloc (.cells x.toArray 55)) signZ 63
  rw [World.size_alloc] at b1
  have k1 : Kept (fun _ => False) w1 ((w1.alloc (.cells x.toArray 55)).alloc (.cells signZ.toArray 63)) := ((Kept.refl _ _).alloc _).alloc _
  refine ⟨b1.there 0 _ (by rw [List.size_toArray, hy, signZ_len]; omega), fun W2 e => ?_⟩
  have b2 := b1.setCells 0 y (by rw [hy, signZ_len]; omega)
  rw [splice_whole (by rw [hy, signZ_len])] at b2
  have k2 := kept_setCells ((w1.alloc (.cells x.toArray 55)).alloc (.cells signZ.toArray 63)) (w1.heap.size + 1) 0 y
  rw [e] at b2 k2
  exact ⟨b0.kept k2 (by omega), b2, k1.then_ k2 (fun i hi q => by omega)⟩
theorem info_signed_of {z : Int} {root : By} {i : Int} {s : ByteArray} {v : Value} (hr : root.length = 32) : (Tryz.prog.info? 63).map (·.size) = some (signedC z root i s v).toArray.size := by rw [List.size_toArray, signedC_len hr]; exact info_signed_
theorem pathRow {w : World} {pb : Nat} {l : List By} (h : Blk w pb (hcells l) 57) (h32 : ∀ x ∈ l, x.length = 32) (h3 : l.length = 3) : Row w 57 32 (.slice (some ⟨pb, 0, none⟩) 3 3) (hcells l) :=
  Or.inr ⟨pb, 3, 3, [], rfl, by rw [hcells_len h32, h3], by rw [List.append_nil]; exact h, Nat.le_refl _, by rw [hcells_len h32, h3]; exact Nat.le_refl _, by decide⟩
theorem pathView {w : World} {pb : Nat} {l : List By} (h : Blk w pb (hcells l) 57) (h32 : ∀ x ∈ l, x.length = 32) (h3 : l.length = 3) : View w 32 (.slice (some ⟨pb, 0, none⟩) 3 3) (hcells l) := (pathRow h h32 h3).view
set_option maxRecDepth 100000 in
set_option maxHeartbeats 4000000 in
theorem is_any {w : World} {d c : Nat} {file many : Int} {st : Int} {dead : Bool} {p : PtM} (hp : p.Ok) (a b : Option Addr) (ca cb : Nat) (sz sd : Nat) (hsz : sz < 65536) (hsd : sd < 256) (hb : Blk w c (chkC d file many (p.cells (.slice a p.hs.length ca) (.slice b 3 cb)) st dead) 74) (hf : 0 ≤ file)
    (hL : View w 32 (.slice a p.hs.length ca) (hcells p.hs)) (hM : View w 32 (.slice b 3 cb) (hcells p.path)) (ht : Tab w) :
    Calls Tryz.prog 29 #[.agg (ptC sz sd).toArray, .pointer (some ⟨c, 0, none⟩)] w fun e w' => e = .returned (.bool (p.same (PtM.of sz sd))) ∧ Kept (fun _ => False) w w' := by
  have k0 : Kept (fun _ => False) w (w.alloc (.cells (ptC sz sd).toArray 52)) := (Kept.refl _ _).alloc _
  have HOF := Lib.hid (pt_of _ sz sd hsz hsd (ht.same k0))
  have hq := PtM.of_ok sz sd
  have hq2 : PtM.of sz sd = ⟨ptSize sz, ptHs sz sd, ptSize sz, ptRoot sz sd, sd % 8, ptSig sz sd, ptPath sd⟩ := rfl
  have em : ((sd : Int) % 8) = ((sd % 8 : Nat) : Int) := by omega
  unfold PtOf at HOF
  rw [em] at HOF
  clear em
  generalize PtM.of sz sd = q at *
  obtain ⟨q1, q2, q3, q4, q5, q6, q7⟩ := q
  simp only [PtM.mk.injEq] at hq2
  obtain ⟨rfl, rfl, e3, rfl, rfl, rfl, rfl⟩ := hq2
  subst e3
  generalize ptSize sz = zq at *
  generalize ptHs sz sd = hq_ at *
  generalize ptRoot sz sd = rq at *
  generalize ptSig sz sd = sq at *
  generalize ptPath sd = pq at *
  generalize sd % 8 = iq at *
  have HQ := Lib.hid hq
  have HP := Lib.hid (And.intro hp (And.intro hL (And.intro hM (And.intro hb k0))))
  clear hp hL hM hb k0 ht hq
  have hq32 : rq.length = 32 := HQ.out.hr
  have hl3 : pq.length = 3 := HQ.out.p3
  go_enter Tryz.func29, Tryz.ntmps29
  go_upto_region 2 with first
    | (go_at_call 21; refine HOF.out.mono ?_; rintro e w1 ⟨a1, c1, pb, rfl, H1⟩; have HS := Lib.hid (two_stored w1 [.int .i64 (zq : Int), .slice a1 hq_.length c1] (signedC (zq : Int) rq (iq : Int) sq (.slice (some ⟨pb, 0, none⟩) 3 3)) (signedC_len hq32)))
    | ((with_reducible show wpList _ _ _ (⟨none, .store _ (.tmp 6) _, _, _, _, _⟩ :: _) _ _); refine wpList_store_mid rfl 63 _ _ rfl (w1.heap.size + 1) 0 (signedC (zq : Int) rq (iq : Int) sq (.slice (some ⟨pb, 0, none⟩) 3 3)).toArray rfl rfl HS.out.1 (info_signed_of hq32) (all_oneCell_toArray (signed_one _ _ _ _ _ rfl)) ?_)
  generalize hW2 : World.setCells _ _ _ _ = W2
  have H2 := Lib.hid (HS.out.2 W2 hW2)
  clear hW2 HS HOF
  have K02 := Lib.hid (HP.out.2.2.2.2.trans (H1.out.2.2.2.2.trans H2.out.2.2))
  have HLA := Lib.hid (chk_last (w := W2) (p.size : Int) a b p.hs.length ca 3 cb p.hs p.path (p.z : Int) p.root (p.i : Int) p.sig (HP.out.2.2.2.1.kept K02.out id) hf HP.out.1.hr (HP.out.2.1.same K02.out (by omega)) (HP.out.2.2.1.same K02.out (by omega)) HP.out.1.h32 HP.out.1.p32 (by have := HP.out.1.hlen; omega) (by have := HP.out.1.p3; omega))
  have hr32 : p.root.length = 32 := HP.out.1.hr
  go_upto_region 3 with first
    | (go_at_call 22; refine HLA.out.mono ?_; rintro e w3 ⟨a3, c3, b3, d3, rfl, H3⟩; have HS := Lib.hid (two_stored w3 [.int .i64 (p.size : Int), .slice a3 p.hs.length c3] (signedC (p.z : Int) p.root (p.i : Int) p.sig (.slice b3 3 d3)) (signedC_len hr32)))
    | ((with_reducible show wpList _ _ _ (⟨none, .store _ (.tmp 8) _, _, _, _, _⟩ :: _) _ _); refine wpList_store_mid rfl 63 _ _ rfl (w3.heap.size + 1) 0 (signedC (p.z : Int) p.root (p.i : Int) p.sig (.slice b3 3 d3)).toArray rfl rfl HS.out.1 (info_signed_of hr32) (all_oneCell_toArray (signed_one _ _ _ _ _ rfl)) ?_)
  generalize hW4 : World.setCells _ _ _ _ = W4
  have H4 := Lib.hid (HS.out.2 W4 hW4)
  clear hW4 HS HLA
  have K24 := Lib.hid (H3.out.2.2.2.trans H4.out.2.2)
  have x0 := H4.out.1.cell (i := 0) rfl
  have x1 := H4.out.1.cell (i := 1) rfl
  have hr1 := H2.out.1.kept K24.out id
  have y0 := hr1.cell (i := 0) rfl
  have y1 := hr1.cell (i := 1) rfl
  have HV1 := Lib.hid ((H3.out.1.1.kept H4.out.2.2 (fun _ _ => id)).view)
  have HV2 := Lib.hid ((H3.out.2.1.1.kept H4.out.2.2 (fun _ _ => id)).view)
  have HV3 := Lib.hid ((H1.out.1.kept (H2.out.2.2.trans K24.out) (fun _ _ => id)).view)
  have HV4 := Lib.hid (pathView (H1.out.2.2.1.kept (H2.out.2.2.trans K24.out) id) HQ.out.p32 hl3)
  have HSA := Lib.hid (rsame5_any W4 (p.size : Int) (zq : Int) a3 a1 p.hs.length c3 hq_.length c1 p.hs hq_ HV1.out HV3.out HP.out.1.h32 HQ.out.h32 (by have := HP.out.1.hlen; omega) (by have := HQ.out.hlen; show hq_.length ≤ _; have h : hq_.length ≤ 64 := HQ.out.hlen; omega))
  have HSB := Lib.hid (fun (W : World) (k : Kept (fun _ => False) W4 W) => same10_any W (p.z : Int) (zq : Int) p.root rq (p.i : Int) (iq : Int) p.sig sq b3 (some ⟨pb, 0, none⟩) 3 d3 3 3 p.path pq HP.out.1.hr hq32 (HV2.out.same k (by omega)) (HV4.out.same k (by omega)) HP.out.1.p32 HQ.out.p32 (by have := HP.out.1.p3; omega) (by omega))
  have HA := Lib.hid (show ∀ X, Kept (fun _ => False) W4 X → X.rangeAt (w3.heap.size + 1) 0 (signedC (p.z : Int) p.root (p.i : Int) p.sig (.slice b3 3 d3)) ∧ X.rangeAt (w1.heap.size + 1) 0 (signedC (zq : Int) rq (iq : Int) sq (.slice (some ⟨pb, 0, none⟩) 3 3)) from fun X k => ⟨(H4.out.2.1.kept k id).range0, (H2.out.2.1.kept (K24.out.trans k) id).range0⟩)
  have K04 := Lib.hid (K02.out.trans K24.out)
  have is1 : (Tryz.prog.info? 63).map (·.size) = some (signedC (p.z : Int) p.root (p.i : Int) p.sig (.slice b3 3 d3)).length := by rw [signedC_len hr32]; exact info_signed_
  have is2 : (Tryz.prog.info? 63).map (·.size) = some (signedC (zq : Int) rq (iq : Int) sq (.slice (some ⟨pb, 0, none⟩) 3 3)).length := by rw [signedC_len hq32]; exact info_signed_
  have IS := Lib.hid (And.intro is1 is2)
  have HSM := Lib.hid (show p.same ⟨zq, hq_, zq, rq, iq, sq, pq⟩ = (decide ((p.size : Int) = (zq : Int) ∧ p.hs = hq_) && decide (((p.z : Int) = (zq : Int) ∧ p.root = rq) ∧ (p.i : Int) = (iq : Int) ∧ p.sig = sq ∧ p.path = pq)) from rfl)
  clear hr1 H1 H2 H3 H4 HV1 HV2 HV3 HV4 HP HQ is1 is2
  generalize decide ((p.size : Int) = (zq : Int) ∧ p.hs = hq_) = D1 at *
  generalize decide (((p.z : Int) = (zq : Int) ∧ p.root = rq) ∧ (p.i : Int) = (iq : Int) ∧ p.sig = sq ∧ p.path = pq) = D2 at *
  cases D1 with
  | false =>
    go_wp2_with (go_at_call 87; refine HSA.out.mono ?_; rintro e w5 ⟨rfl, k5⟩)
    go_ret
    exact ⟨by rw [HSM.out]; rfl, K04.out.trans k5⟩
  | true =>
    go_wp2_with first
      | (go_at_call 87; refine HSA.out.mono ?_; rintro e w5 ⟨rfl, k5⟩; have HR := Lib.hid (HA.out w5 k5))
      | ((with_reducible show wpList _ _ _ (⟨some 28, _, _, _, _, _⟩ :: _) _ _); refine wpList_load_wanted (by rfl) 63 _ rfl (w3.heap.size + 1) 0 rfl _ _ HR.out.1 Tryz.underlying63 rfl IS.out.1 ?_)
      | ((with_reducible show wpList _ _ _ (⟨some 29, _, _, _, _, _⟩ :: _) _ _); refine wpList_load_wanted (by rfl) 63 _ rfl (w1.heap.size + 1) 0 rfl _ _ HR.out.2 Tryz.underlying63 rfl IS.out.2 ?_)
      | (go_at_call 24; refine (HSB.out w5 k5).mono ?_; rintro e w6 ⟨rfl, k6⟩)
    go_ret
    exact ⟨by rw [HSM.out]; rfl, (K04.out.trans k5).trans k6⟩
end Go.Proofs.YtlgeijbgkipliaaGreatDoor
