/- Package speculumlaw34: an act that came in; Head, Great. Package speculumlaw34: the head of an act. What Sign leaves in the law KeyringOnce; what holds all through its tests. The law KeyringOnce: no head is signed. -/
import Derived.Test.YtaimokclhcfohaaDoorUKeyringOnce24
import Derived.Test.YtaimokclhcfohaaDoorUKeyringOnce36
import Derived.Test.YtaimokclhcfohaaDoorUKeyringOnce01
set_option linter.unusedVariables false
set_option linter.unusedSimpArgs false
namespace Go.Proofs.YtaimokclhcfohaaDoor
open Go.RowKit Go.WideShapes Go.ChangeShapes Go.Joins

theorem c_act34 : Tryd.prog.cellsOf 59 = 39 := by kernel_rfl
theorem c_str : Tryd.prog.cellsOf 9 = 1 := by kernel_rfl
/-- The cells of an act. -/
structure ActL (X : List Value) (k z o N M : Int) (C : List Value) (s : ByteArray) : Prop where
  len : X.length = 39
  c0 : X[0]? = some (.int .u8 k)
  c1 : X[1]? = some (.int .u8 z)
  c2 : X[2]? = some (.int .u8 o)
  c3 : (X.drop 3).take 33 = C
  c36 : X[36]? = some (.int .i64 N)
  c37 : X[37]? = some (.int .i64 M)
  c38 : X[38]? = some (.string s)
  k0 : 0 ≤ k ∧ k ≤ 255
  z0 : 0 ≤ z ∧ z ≤ 255
  o0 : 0 ≤ o ∧ o ≤ 255
  n0 : -9223372036854775808 ≤ N ∧ N ≤ 9223372036854775807
  m0 : -9223372036854775808 ≤ M ∧ M ≤ 9223372036854775807
  s0 : s.size ≤ maxLen
  head : ∃ (size : Int) (root : By), root.length = 32 ∧ -9223372036854775808 ≤ size ∧ size ≤ 9223372036854775807 ∧ C = headC size root
theorem one_at {cs : List Value} {v : Value} {i : Nat} (h : (cs.drop i).take 1 = [v]) : cs[i]? = some v := by
  have e5 := congrArg (·[0]?) h
  simpa [List.getElem?_take, List.getElem?_drop] using e5
set_option maxRecDepth 100000 in
theorem act34_in {H : Type} {enc : TypeId × Value → H} {W : World} {base : Nat} {spare : Nat → Bool} {hd : Bool} {fuel : Nat} {cs : List Value} {x : DataW H × List MemPlace}
    (h : DataW.trod enc Tryd.prog W base spare hd fuel 59 cs = some x) : ∃ k z o N M C s, ActL cs k z o N M C s := by
  obtain ⟨xs, n, _, _, hcl, hl, hg⟩ := DataW.trod_struct Tryd.underlying59 h
  match xs, hl with
  | [y0, y1, y2, y3, y4, y5, y6], _ =>
    have g0 := hg 0 _ rfl
    have g1 := hg 1 _ rfl
    have g2 := hg 2 _ rfl
    have g3 := hg 3 _ rfl
    have g4 := hg 4 _ rfl
    have g5 := hg 5 _ rfl
    have g6 := hg 6 _ rfl
    rw [c_act34] at hcl
    simp [c_u8] at g0 g1 g2
    simp [c_head] at g3
    simp [c_int] at g4 g5
    simp [c_str] at g6
    obtain ⟨a0, e0, _, w0⟩ := DataW.trod_int Tryd.underlying5 g0
    obtain ⟨a1, e1, _, w1⟩ := DataW.trod_int Tryd.underlying5 g1
    obtain ⟨a2, e2, _, w2⟩ := DataW.trod_int Tryd.underlying5 g2
    obtain ⟨size, root, hr, s1, s2, e3⟩ := trod_head g3
    obtain ⟨a4, e4, _, w4⟩ := DataW.trod_int Tryd.underlying3 g4
    obtain ⟨a5, e5, _, w5⟩ := DataW.trod_int Tryd.underlying3 g5
    obtain ⟨a6, e6, _, w6⟩ := DataW.trod_string Tryd.underlying9 g6
    exact ⟨a0, a1, a2, a4, a5, headC size root, a6, hcl, one_at (i := 0) (by simpa using e0), one_at (i := 1) (by simpa using e1), one_at e2, e3, one_at e4, one_at e5, one_at e6, wf_u8 w0, wf_u8 w1, wf_u8 w2, wf_i64 w4, wf_i64 w5, w6, size, root, hr, s1, s2, rfl⟩
/-- The acts that came in. -/
def Acts34 (w : World) (ad : Option Addr) (len : Nat) : Prop := ∀ i, i < len → ∃ X k z o N M C s, ActL X k z o N M C s ∧ ElemAt w ad 39 i X
set_option maxRecDepth 100000 in
theorem acts34_of {H : Type} {enc : TypeId × Value → H} {w : World} {base : Nat} {v : Value} {dd : DataW H} {p : List MemPlace} (hv : Value.okWide Tryd.prog w .any base 55 v) (h : DataW.Trod enc Tryd.prog w 0 (fun _ => true) true 55 v dd p) :
    ∃ a len cap, v = .slice a len cap ∧ len ≤ maxLen ∧ Acts34 w a len := by
  obtain ⟨a, len, cap, rfl, hl, hx⟩ := open_rows Tryd.underlying55 c_act34 (by omega) hv h
  refine ⟨a, len, cap, rfl, hl, fun i hi => ?_⟩
  obtain ⟨cs, m, x, _, he, ht⟩ := hx i hi
  obtain ⟨k, z, o, N, M, C, s, ha⟩ := act34_in ht
  exact ⟨cs, k, z, o, N, M, C, s, ha, he⟩
/-- What Great says. -/
def GreatPost (w : World) (ad : Option Addr) (len most : Nat) (e : Ending) (w' : World) : Prop := ∃ b, e = .returned (.bool b) ∧ (b = false → len ≤ most ∧ ∀ i, i < len → ∃ X k z o N M C s, ActL X k z o N M C s ∧ ElemAt w ad 39 i X ∧ s.size ≤ 300) ∧ w = w'
set_option maxRecDepth 100000 in
/-- Great, of any acts. -/
theorem great34 (w : World) (ad : Option Addr) (len cap : Nat) (most : Nat) (hm : most ≤ 1000) (hl : len ≤ maxLen) (h : Acts34 w ad len) :
    Calls Tryd.prog 13 #[.slice ad len cap, .int .i64 (most : Int)] w (GreatPost w ad len most) := by
  have hl2 : len ≤ 9223372036854775807 := hl
  go_enter Tryd.func13, Tryd.ntmps13
  go_wp2_with fail
  go_loop [5] (fun x => ∃ i : Nat, i ≤ len ∧ x = .int .i64 (i : Int) ∧ ∀ j, j < i → ∃ X k z o N M C s, ActL X k z o N M C s ∧ ElemAt w ad 39 j X ∧ s.size ≤ 300) (fun x => len - (intOf x).toNat)
  case atStart => exact ⟨0, by omega, rfl, fun j hj => by omega⟩
  case round =>
    obtain ⟨i, hi, rfl, hall⟩ := hrel
    by_cases hlt : i < len
    · have x1 : decide ((i : Int) < (len : Int)) = true := by simp; omega
      obtain ⟨X, k, z, o, N, M, C, s, hX, hE⟩ := h i hlt
      have hE' := hE
      obtain ⟨b, off, rfl, hb, hc⟩ := hE
      have q := hc 38 _ hX.c38
      by_cases hs : 300 < s.size
      · have x2 : decide ((300 : Int) < (s.size : Int)) = true := by simp; omega
        have x3 : decide (300 < s.size) = true := by simp; omega
        go_wp2_with fail
        go_ret
        exact ⟨true, rfl, (fun h => by cases h), rfl⟩
      · have x2 : decide ((300 : Int) < (s.size : Int)) = false := by simp; omega
        have x3 : decide (300 < s.size) = false := by simp; omega
        go_wp2_with fail
        go_round
        case rel => exact ⟨i + 1, by omega, by go_num, fun j hj => by
          rcases Nat.lt_or_ge j i with q | q
          · exact hall j q
          · obtain rfl : j = i := by omega
            exact ⟨X, k, z, o, N, M, C, s, hX, hE', by omega⟩⟩
        case measure => simp [intOf]; omega
    · have x1 : decide ((i : Int) < (len : Int)) = false := by simp; omega
      by_cases hmm : most < len
      · have x2 : decide ((most : Int) < (len : Int)) = true := by simp; omega
        go_wp2_with fail
        go_ret
        exact ⟨true, rfl, (fun h => by cases h), rfl⟩
      · have x2 : decide ((most : Int) < (len : Int)) = false := by simp; omega
        go_wp2_with fail
        go_ret
        exact ⟨false, rfl, (fun _ => ⟨by omega, fun j hj => hall j (by omega)⟩), rfl⟩
end Go.Proofs.YtaimokclhcfohaaDoor

namespace Go.Proofs.YtaimokclhcfohaaDoor
open Go.RowKit

/-- The root that an act's head has. -/
abbrev rootA (o : Int) : By := UInt8.ofNat (o % 3).toNat :: 4 :: List.replicate 30 0
theorem rootA_len (o : Int) : (rootA o).length = 32 := by simp
/-- The head of an act. -/
abbrev hdA (z o : Int) : Hd := ((1 + z % 20).toNat, rootA o)
theorem hdA_ok {z : Int} (o : Int) (hz : 0 ≤ z) : HdOk (hdA z o) := ⟨by show 1 ≤ (1 + z % 20).toNat; omega, by show (1 + z % 20).toNat ≤ 4096; omega, rootA_len o⟩
theorem c_act34' : (Tryd.prog.info? 59).map (·.size) = some 39 := by kernel_rfl
set_option maxRecDepth 100000 in
set_option maxHeartbeats 1000000 in
theorem act_head (w : World) {X : List Value} {k z o N M : Int} {C : List Value} {s : ByteArray} (hX : ActL X k z o N M C s) :
    Calls Tryd.prog 14 #[.agg X.toArray] w fun e w' => e = .returned (headV ((hdA z o).1 : Int) (hdA z o).2) ∧ Kept (fun _ => False) w w' := by
  have hb := (Blk.new w X 59).alloc (.cells (headC 0 zeroRoot).toArray 25)
  have hr := Blk.new (w.alloc (.cells X.toArray 59)) (headC 0 zeroRoot) 25
  rw [World.size_alloc] at hr
  have hk : Kept (fun _ => False) w ((w.alloc (.cells X.toArray 59)).alloc (.cells (headC 0 zeroRoot).toArray 25)) := ((Kept.refl _ _).alloc _).alloc _
  have HB := Lib.hid (And.intro hb (And.intro hr hk))
  have z0 := hX.z0
  have o0 := hX.o0
  obtain ⟨zz, hzz⟩ : ∃ zz : Nat, 1 + z % 20 = (zz : Int) := ⟨(1 + z % 20).toNat, by omega⟩
  obtain ⟨oo, hoo⟩ : ∃ oo : UInt8, o % 3 = (oo.toNat : Int) := ⟨UInt8.ofNat (o % 3).toNat, by simp; omega⟩
  have ez : hdA z o = (zz, oo :: 4 :: List.replicate 30 0) := by
    have h1 : (1 + z % 20).toNat = zz := by omega
    have h2 : UInt8.ofNat (o % 3).toNat = oo := by rw [hoo]; simp
    show ((1 + z % 20).toNat, rootA o) = _
    rw [h1]
    show (zz, UInt8.ofNat (o % 3).toNat :: 4 :: List.replicate 30 0) = _
    rw [h2]
  rw [ez]
  have HX := Lib.hid hX
  have zl : zz ≤ 20 := by omega
  have a1 : IntKind.i64.wrap z = z := IntWalk.i64_in _ (by omega)
  have a2 : IntKind.i64.wrap (zz : Int) = (zz : Int) := IntWalk.i64_in _ (by omega)
  have a3 : wrap64 z = z := IntWalk.wrap64_in _ (by omega)
  have a4 : wrap64 (zz : Int) = (zz : Int) := IntWalk.wrap64_in _ (by omega)
  have HZ := Lib.hid (And.intro hzz hoo)
  clear hb hr hk hX ez hzz hoo
  go_enter Tryd.func14, Tryd.ntmps14
  go_upto_region 1 with fail
  generalize hW : World.alloc _ _ = W
  have HW : Hid (Blk W w.heap.size X 59 ∧ Blk W (w.heap.size + 1) (headC 0 zeroRoot) 25 ∧ Kept (fun _ => False) w W) := Lib.hid (by rw [← hW]; exact HB.out)
  clear hW HB
  have c1 := HW.out.1.cell HX.out.c1
  have c2 := HW.out.1.cell HX.out.c2
  have hzz := HZ.out.1
  have hoo := HZ.out.2
  go_wp2_with ((with_reducible show wpList _ _ _ (⟨none, .store _ (.tmp 2) _, _, _, _, _⟩ :: _) _ _); refine wpList_store_mid rfl 25 _ _ rfl (w.heap.size + 1) 0 (headC (zz : Int) (oo :: 4 :: List.replicate 30 0)).toArray rfl rfl ?hth ?hi ?h1 ?_)
  case hth => exact HW.out.2.1.there 0 _ (by rw [List.size_toArray, headC_len (by simp), headC_len (by simp)]; omega)
  case hi => exact (by rw [List.size_toArray, headC_len (by simp)]; exact info_head)
  case h1 => exact all_oneCell_toArray head_oneCell
  have hf := HW.out.2.1.setCells 0 (headC (zz : Int) (oo :: 4 :: List.replicate 30 0)) (by rw [headC_len (by simp), headC_len (by simp)]; omega)
  rw [splice_whole (by rw [headC_len (by simp), headC_len (by simp)])] at hf
  refine bodyPost_ret (hf.result rfl rfl Tryd.underlying25 rfl (by rw [headC_len (by simp)]; exact info_head)) rfl ⟨rfl, ?_⟩
  exact HW.out.2.2.then_ (kept_setCells _ (w.heap.size + 1) 0 _) (fun i hi e => by omega)
theorem ActL.one {X : List Value} {k z o N M : Int} {C : List Value} {s : ByteArray} (hX : ActL X k z o N M C s) : ∀ v ∈ X, v.oneCell' = true := by
  intro v hv
  obtain ⟨j, hj⟩ := List.mem_iff_getElem?.1 hv
  have hl := (List.getElem?_eq_some_iff.1 hj).1
  rw [hX.len] at hl
  have key : ∀ u : Value, X[j]? = some u → u.oneCell' = true → v.oneCell' = true := fun u h1 h2 => by rw [hj] at h1; cases h1; exact h2
  by_cases h3 : 3 ≤ j ∧ j < 36
  · obtain ⟨size, root, hr, -, -, hC⟩ := hX.head
    have e := hX.c3
    rw [hC] at e
    refine head_oneCell (size := size) (root := root) v ?_
    rw [← e]
    refine List.mem_of_getElem? (i := j - 3) ?_
    rw [List.getElem?_take, if_pos (by omega), List.getElem?_drop, show 3 + (j - 3) = j by omega, hj]
  · have : j = 0 ∨ j = 1 ∨ j = 2 ∨ j = 36 ∨ j = 37 ∨ j = 38 := by omega
    rcases this with rfl | rfl | rfl | rfl | rfl | rfl
    · exact key _ hX.c0 rfl
    · exact key _ hX.c1 rfl
    · exact key _ hX.c2 rfl
    · exact key _ hX.c36 rfl
    · exact key _ hX.c37 rfl
    · exact key _ hX.c38 rfl
/-- New memory, into which so many cells are stored. -/
theorem store_new (w4 : World) (Z K : List Value) (t : TypeId) (hl : K.length = Z.length) : (w4.alloc (.cells Z.toArray t)).there w4.heap.size 0 K.toArray.size ∧ Blk ((w4.alloc (.cells Z.toArray t)).setCells w4.heap.size 0 K) w4.heap.size K t ∧ Kept (fun _ => False) w4 ((w4.alloc (.cells Z.toArray t)).setCells w4.heap.size 0 K) := by
  have hb := Blk.new w4 Z t
  have h2 := hb.setCells 0 K (by omega)
  rw [splice_whole (by omega)] at h2
  exact ⟨hb.there 0 _ (by rw [List.size_toArray]; omega), h2, ((Kept.refl (fun _ => False) w4).alloc _).then_ (kept_setCells _ w4.heap.size 0 _) (fun i hi e => by omega)⟩
abbrev act0C : List Value := .int .u8 0 :: .int .u8 0 :: .int .u8 0 :: (headC 0 zeroRoot ++ [.int .i64 0, .int .i64 0, .string ⟨#[]⟩])
theorem act0_len : act0C.length = 39 := by rw [List.length_cons, List.length_cons, List.length_cons, List.length_append, headC_len (by simp)]; rfl
end Go.Proofs.YtaimokclhcfohaaDoor

namespace Go.Proofs.YtaimokclhcfohaaDoor
open Go.RowKit

/-- The key, and the heads by their keys. -/
abbrev Lcs (kb bb : Nat) (K : List Value) (L : List Hd) : List Loc := [(kb, K, 23), (bb, hdC (byH L), 57)]
theorem sign_cases {w0 w : World} {d r : Nat} {sd : ByteArray} {L : List Hd} {s : Int} {M : DiskM} {Lc : List Loc} {hz : Hd} (hU : Up w0 w d r ⟨sd, L, s, false⟩ M Lc) (hM : UpM L s M) (hr : Rises 0 L) (h8 : L.length ≤ 8) (hh : HdOk hz) :
    (Calls Tryd.prog 5 #[.pointer (some ⟨r, 0, none⟩), headV (hz.1 : Int) hz.2] w fun e w' => ∃ x, x ≠ 0 ∧ e = .returned (.tuple #[.agg signed0C.toArray, .int .i64 x]) ∧
      Hid ((∃ M', UpM L s M' ∧ Up w0 w' d r ⟨sd, L, s, false⟩ M' Lc) ∨ (∃ M', DnM L hz s M' ∧ Dn w0 w' d M' Lc))) ∨
    (∃ m L', m < 8 ∧ L'.length = m + 1 ∧ L'[m]? = some hz ∧ Rises 0 L' ∧ (L' = L ∨ (L' = L ++ [hz] ∧ m = L.length)) ∧
      Calls Tryd.prog 5 #[.pointer (some ⟨r, 0, none⟩), headV (hz.1 : Int) hz.2] w fun e w' => ∃ M', UpM L' s M' ∧ SignUp w0 w d r Lc hz.1 hz.2 m ⟨sd, L', s, false⟩ M' e w') := by
  obtain ⟨B, S, h, g⟩ := hU
  have hH := Up.held h g
  obtain ⟨u1, u2, u3⟩ := hM.up
  have ho : RingM.over ⟨sd, L, s, false⟩ M = false := by simp [RingM.over, u1, u2]
  rcases next_cases hr h8 hh with ⟨m, e1, e2, e3⟩ | ⟨x, e1, e2⟩ | ⟨e1, e2, e3⟩
  · refine Or.inr ⟨m, L, by omega, e1, e2, hr, Or.inl rfl, ?_⟩
    exact (held_again hH hz.1 hz.2 (by have := hh.2.1; omega) hh.2.2 ho m (by omega) e3).mono fun e w' q => ⟨M, hM, sign_up h g (signed_as hh.2.2 q)⟩
  · refine Or.inl ?_
    exact (held_refused hH hz.1 hz.2 hh.2.2 ho 0 false x e2 e1).mono fun e w' q => by
      have q := sign_no_up h g q
      exact ⟨x, e1, q.1, Lib.hid (Or.inl ⟨M, hM, q.2⟩)⟩
  · rcases hM.keepR hh hr e3 e1 with ⟨M', k1, k2⟩ | ⟨M', k1, k2⟩
    · refine Or.inr ⟨L.length, L ++ [hz], e1, by simp, by simp, e3, Or.inr ⟨rfl, rfl⟩, ?_⟩
      exact (held_fresh hH hz.1 hz.2 hh.1 (by have := hh.2.1; omega) hh.2.2 ho L.length e1 rfl e2 M' k1 u3).mono fun e w' q => ⟨M', k2, sign_up h g (signed_as hh.2.2 q)⟩
    · refine Or.inl ?_
      exact (held_fails hH hz.1 hz.2 (by have := hh.2.1; omega) hh.2.2 ho L.length e2 61 M' k1 (by decide) u3).mono fun e w' q => by
        have q := sign_no_up h g q
        exact ⟨61, by decide, q.1, Lib.hid (Or.inr ⟨M', k2, q.2.dn⟩)⟩
/-- What holds all through the law's first test. -/
abbrev S27 (w8 w' : World) (sb hb kb bb m q : Nat) (Y H K Hm : List Value) (zm zq hz : Int) : Prop :=
  w'.rangeAt sb 0 Y ∧ w'.rangeAt sb 0 H ∧ w'.rangeAt hb 0 H ∧ w'.rangeAt kb 0 K ∧ w'.rangeAt bb (m * 33) Hm ∧ w'.cell? ⟨bb, m * 33, none⟩ = some (.int .i64 zm) ∧ w'.cell? ⟨bb, q * 33, none⟩ = some (.int .i64 zq) ∧ w'.cell? ⟨hb, 0, none⟩ = some (.int .i64 hz) ∧ Kept (fun _ => False) w8 w'
theorem s27_next {w8 w1 w2 : World} {sb hb kb bb m q : Nat} {Y H K Hm : List Value} {zm zq hz : Int} (h : S27 w8 w1 sb hb kb bb m q Y H K Hm zm zq hz) (hl : sb < w8.heap.size ∧ hb < w8.heap.size ∧ kb < w8.heap.size ∧ bb < w8.heap.size) (k : Kept (fun _ => False) w1 w2) : S27 w8 w2 sb hb kb bb m q Y H K Hm zm zq hz := by
  obtain ⟨h1, h2, h3, h4, h5, h6, h7, h8, h9⟩ := h
  have := h9.size
  exact ⟨rangeAt_kept h1 k (by omega) id, rangeAt_kept h2 k (by omega) id, rangeAt_kept h3 k (by omega) id, rangeAt_kept h4 k (by omega) id, rangeAt_kept h5 k (by omega) id, k.cell h6 id, k.cell h7 id, k.cell h8 id, h9.trans k⟩
theorem rangeAt_pre {w : World} {b o : Nat} {A B : List Value} (h : w.rangeAt b o (A ++ B)) : w.rangeAt b o A := fun j v hv => h j v (by rw [List.getElem?_append_left (List.getElem?_eq_some_iff.1 hv).1]; exact hv)
theorem hd_range {w : World} {b : Nat} {t : TypeId} {l : List Hd} (h : Blk w b (hdC l) t) (h32 : ∀ x ∈ l, x.2.length = 32) {m : Nat} {a : Hd} (ha : l[m]? = some a) : w.rangeAt b (m * 33) (headC (a.1 : Int) a.2) ∧ w.cell? ⟨b, m * 33, none⟩ = some (.int .i64 (a.1 : Int)) := by
  have e := hdC_at h32 m ha
  have hr : w.rangeAt b (m * 33) (headC (a.1 : Int) a.2) := by
    intro j v hv
    refine h.cell ?_
    rw [← e] at hv
    have hj : j < 33 := by have := (List.getElem?_eq_some_iff.1 hv).1; rw [List.length_take] at this; omega
    rw [List.getElem?_take, if_pos hj, List.getElem?_drop] at hv
    exact hv
  exact ⟨hr, hr 0 _ rfl⟩
theorem s27_of {w8 : World} {sb hb kb bb m q : Nat} {Y H K : List Value} {l : List Hd} {a p : Hd} {size : Int} {root : By} {i : Int} {sig : ByteArray} {v : Value} (h1 : Blk w8 sb Y 31) (h2 : Blk w8 hb H 25) (h3 : Blk w8 kb K 23) (h4 : Blk w8 bb (hdC l) 57)
    (h32 : ∀ x ∈ l, x.2.length = 32) (hY : Y = signedC size root i sig v) (hH : H = headC size root) (ha : l[m]? = some a) (hp : l[q]? = some p) : S27 w8 w8.drew sb hb kb bb m q Y H K (headC (a.1 : Int) a.2) (a.1 : Int) (p.1 : Int) size := by
  refine ⟨h1.drew.range0, ?_, h2.drew.range0, h3.drew.range0, (hd_range h4.drew h32 ha).1, (hd_range h4.drew h32 ha).2, (hd_range h4.drew h32 hp).2, h2.drew.cell (by rw [hH]; rfl), (Kept.refl _ _).drew⟩
  have := h1.drew.range0
  rw [hY] at this
  rw [hH]
  exact rangeAt_pre this
theorem Up.put {w0 w : World} {d r b : Nat} {R : RingM} {M : DiskM} {c : List Value} {t : TypeId} {Lc : List Loc} (h : Up w0 w d r R M ((b, c, t) :: Lc)) (off : Nat) (vs : List Value) (hl : off + vs.length ≤ c.length) (hn : ∀ x ∈ Lc, x.1 ≠ b) :
    w.there b off vs.toArray.size ∧ Up w0 (w.setCells b off vs) d r R M ((b, splice c off vs, t) :: Lc) ∧ Kept (· = b) w (w.setCells b off vs) := by
  have hb := h.dn.blk (y := (b, c, t)) (by simp)
  have hk := kept_setCells w b off vs
  exact ⟨hb.there off _ (by rw [List.size_toArray]; exact hl), h.turn hk (hb.setCells off vs hl) hn, hk⟩
theorem Dn.put {w0 w : World} {d b : Nat} {M : DiskM} {c : List Value} {t : TypeId} {Lc : List Loc} (h : Dn w0 w d M ((b, c, t) :: Lc)) (off : Nat) (vs : List Value) (hl : off + vs.length ≤ c.length) (hn : ∀ x ∈ Lc, x.1 ≠ b) :
    w.there b off vs.toArray.size ∧ Dn w0 (w.setCells b off vs) d M ((b, splice c off vs, t) :: Lc) ∧ Kept (· = b) w (w.setCells b off vs) := by
  have hb := h.blk (y := (b, c, t)) (by simp)
  have hk := kept_setCells w b off vs
  exact ⟨hb.there off _ (by rw [List.size_toArray]; exact hl), h.turn hk (hb.setCells off vs hl) hn, hk⟩
/-- What is there when Sign has refused, or failed: the zero value is stored. -/
theorem sign_none {w0 w : World} {d r sb : Nat} {sd : ByteArray} {L : List Hd} {s : Int} {hz : Hd} {Lc : List Loc} {X : List Value} {t : TypeId} (hX : X.length = 36) (hn : ∀ x ∈ Lc, x.1 ≠ sb)
    (h : (∃ M', UpM L s M' ∧ Up w0 w d r ⟨sd, L, s, false⟩ M' ((sb, X, t) :: Lc)) ∨ (∃ M', DnM L hz s M' ∧ Dn w0 w d M' ((sb, X, t) :: Lc))) :
    w.there sb 0 signed0C.toArray.size ∧ ((∃ M', UpM L s M' ∧ Up w0 (w.setCells sb 0 signed0C) d r ⟨sd, L, s, false⟩ M' Lc) ∨ (∃ M', DnM L hz s M' ∧ Dn w0 (w.setCells sb 0 signed0C) d M' Lc)) := by
  rcases h with ⟨M', h1, h2⟩ | ⟨M', h1, h2⟩
  · obtain ⟨p1, p2, -⟩ := h2.put 0 signed0C (by rw [signed0_len, hX]; omega) hn
    exact ⟨p1, Or.inl ⟨M', h1, p2.fewer (fun x q => List.mem_cons_of_mem _ q)⟩⟩
  · obtain ⟨p1, p2, -⟩ := h2.put 0 signed0C (by rw [signed0_len, hX]; omega) hn
    exact ⟨p1, Or.inr ⟨M', h1, p2.fewer (fun x q => List.mem_cons_of_mem _ q)⟩⟩
theorem Blk.ne34 {w : World} {b b' : Nat} {c c' : List Value} {t t' : TypeId} (h : Blk w b c t) (h' : Blk w b' c' t') (ht : t ≠ t') : b ≠ b' := by
  rintro rfl
  unfold Blk at h h'
  rw [h] at h'
  cases h'
  exact ht rfl
theorem rises_lt {L : List Hd} {last : Nat} (h : Rises last L) {q : Nat} {a b : Hd} (ha : L[q]? = some a) (hb : L[q + 1]? = some b) : a.1 < b.1 := by
  induction L generalizing last q with
  | nil => simp at ha
  | cons x r ih =>
    obtain ⟨_, _, h3⟩ := h
    cases q with
    | zero =>
      simp at ha
      subst ha
      cases r with
      | nil => simp at hb
      | cons y r => simp at hb; subst hb; exact h3.2.1
    | succ q => exact ih h3 (by simpa using ha) (by simpa using hb)
theorem once_at {L L' : List Hd} {hz : Hd} {m : Nat} (hL' : L'.length = m + 1) (hm : L'[m]? = some hz) (hr : Rises 0 L') (h8 : m < 8) (hl8 : L.length ≤ 8) (hLL : L' = L ∨ (L' = L ++ [hz] ∧ m = L.length)) :
    ∃ a p q, (0 < m → q + 1 = m ∧ p.1 < hz.1) ∧ q < 8 ∧ (byH L)[m]? = some a ∧ (byH L)[q]? = some p ∧ (a = hz ∨ a = (0, zeroRoot)) ∧ (byH L).set m hz = byH L' ∧ max L.length (m + 1) = m + 1 := by
  have h1 : ∃ a, (byH L)[m]? = some a ∧ (a = hz ∨ a = (0, zeroRoot)) ∧ (byH L).set m hz = byH L' ∧ max L.length (m + 1) = m + 1 := by
    rcases hLL with rfl | ⟨rfl, rfl⟩
    · have e : (byH L')[m]? = some hz := by rw [byH_in (by omega)]; exact hm
      exact ⟨hz, e, Or.inl rfl, byH_again e, by omega⟩
    · exact ⟨_, byH_out (Nat.le_refl _) h8, Or.inr rfl, byH_snoc h8, by omega⟩
  obtain ⟨a, e1, e2, e3, e4⟩ := h1
  rcases Nat.eq_zero_or_pos m with h0 | h0
  · subst h0
    exact ⟨a, a, 0, fun h => by omega, by omega, e1, e1, e2, e3, e4⟩
  · have hq : L[m - 1]? = L'[m - 1]? := by
      rcases hLL with rfl | ⟨rfl, rfl⟩
      · rfl
      · rw [List.getElem?_append_left (by omega)]
    obtain ⟨p, hp⟩ : ∃ p, L'[m - 1]? = some p := ⟨_, List.getElem?_eq_getElem (by omega)⟩
    have hlen : m - 1 < L.length := (List.getElem?_eq_some_iff.1 (hq.trans hp)).1
    exact ⟨a, p, m - 1, fun _ => ⟨by omega, rises_lt hr hp (by rw [show m - 1 + 1 = m by omega]; exact hm)⟩, by omega, e1, by rw [byH_in hlen, hq, hp], e2, e3, e4⟩
/-- Numbers that the walk meets. -/
theorem nums27 {m q : Nat} (m8 : m < 8) (hq : 0 < m → q + 1 = m) (q8 : q < 8) : decide ((m : Int) < 0) = false ∧ decide ((8 : Int) ≤ (m : Int)) = false ∧ (m : Int) < 8 ∧ (q : Int) < 8 ∧ wrap64 ((m : Int) + 1) = (m : Int) + 1 ∧ IntKind.i64.wrap ((m : Int) + 1) = (m : Int) + 1 ∧ IntKind.i64.wrap (m : Int) = (m : Int) ∧ wrap64 (m : Int) = (m : Int) ∧
    (m = 0 → decide ((0 : Int) < (m : Int)) = false) ∧ (0 < m → decide ((0 : Int) < (m : Int)) = true ∧ IntKind.i64.wrap ((m : Int) - 1) = (q : Int) ∧ wrap64 ((m : Int) - 1) = (q : Int)) := by
  have h1 : (0 : Int) ≤ m ∧ (m : Int) < 8 := by omega
  refine ⟨by simp, by simp; omega, by omega, by omega, IntWalk.wrap64_in _ (by omega), IntWalk.i64_in _ (by omega), IntWalk.i64_in _ (by omega), IntWalk.wrap64_in _ (by omega), fun h => by simp; omega, fun h => ?_⟩
  have e : (m : Int) - 1 = (q : Int) := by have := hq h; omega
  rw [e]
  exact ⟨by simp; omega, IntWalk.i64_in _ (by omega), IntWalk.wrap64_in _ (by omega)⟩
theorem nums27z {zz pp : Int} (hz : 1 ≤ zz) : (zz != 0) = true ∧ (zz == 0) = false ∧ decide (zz = 0) = false ∧ (pp < zz → decide (zz ≤ pp) = false) := ⟨by simp; omega, by simp; omega, by simp; omega, fun h => by simp; omega⟩
theorem max_cast {a b : Nat} (h : max a (b + 1) = b + 1) : max (a : Int) ((b : Int) + 1) = ((b + 1 : Nat) : Int) := by omega
/-- What one holds behind an act. -/
def MidR (w0 wr : World) (d : Nat) (sd : ByteArray) (K X H : List Value) (hb xb kb bb : Nat) (hz : Hd) (i n : Nat) (v : Value) (told : Nat) : Prop :=
  ∃ M L s, L.length = told ∧ Rises 0 L ∧ told ≤ 8 ∧ 0 ≤ s ∧ s ≤ 5 * (i : Int) + n ∧
    ((∃ r, v = .pointer (some ⟨r, 0, none⟩) ∧ UpM L s M ∧ Up w0 wr d r ⟨sd, L, s, false⟩ M [(hb, H, 25), (xb, X, 59), (kb, K, 23), (bb, hdC (byH L), 57)]) ∨
      (DnM L hz s M ∧ Dn w0 wr d M [(hb, H, 25), (xb, X, 59), (kb, K, 23), (bb, hdC (byH L), 57)]))
/-- What one holds at the head of the law's loop. -/
def OutR (w0 wr : World) (d kb bb : Nat) (sd : ByteArray) (K : List Value) (i : Nat) (v : Value) (told : Nat) : Prop :=
  ∃ r M L s, v = .pointer (some ⟨r, 0, none⟩) ∧ L.length = told ∧ Rises 0 L ∧ told ≤ 8 ∧ UpM L s M ∧ 0 ≤ s ∧ s ≤ 5 * (i : Int) ∧ Up w0 wr d r ⟨sd, L, s, false⟩ M (Lcs kb bb K L)
/-- The same, the disk up; down. -/
def MidU (w0 wr : World) (d : Nat) (sd : ByteArray) (K X H : List Value) (hb xb kb bb : Nat) (i n : Nat) (v : Value) (told : Nat) : Prop :=
  ∃ r M L s, v = .pointer (some ⟨r, 0, none⟩) ∧ L.length = told ∧ Rises 0 L ∧ told ≤ 8 ∧ 0 ≤ s ∧ s ≤ 5 * (i : Int) + n ∧ UpM L s M ∧ Up w0 wr d r ⟨sd, L, s, false⟩ M [(hb, H, 25), (xb, X, 59), (kb, K, 23), (bb, hdC (byH L), 57)]
def MidD (w0 wr : World) (d : Nat) (K X H : List Value) (hb xb kb bb : Nat) (hz : Hd) (i n : Nat) (told : Nat) : Prop :=
  ∃ M L s, L.length = told ∧ Rises 0 L ∧ told ≤ 8 ∧ 0 ≤ s ∧ s ≤ 5 * (i : Int) + n ∧ DnM L hz s M ∧ Dn w0 wr d M [(hb, H, 25), (xb, X, 59), (kb, K, 23), (bb, hdC (byH L), 57)]
theorem MidR.parts {w0 wr : World} {d : Nat} {sd : ByteArray} {K X H : List Value} {hb xb kb bb : Nat} {hz : Hd} {i n : Nat} {v : Value} {told : Nat} (h : MidR w0 wr d sd K X H hb xb kb bb hz i n v told) : MidU w0 wr d sd K X H hb xb kb bb i n v told ∨ MidD w0 wr d K X H hb xb kb bb hz i n told := by
  obtain ⟨M, L, s, h1, h2, h3, h4, h5, h6⟩ := h
  rcases h6 with ⟨r, h7, h8, h9⟩ | ⟨h7, h8⟩
  · exact Or.inl ⟨r, M, L, s, h7, h1, h2, h3, h4, h5, h8, h9⟩
  · exact Or.inr ⟨M, L, s, h1, h2, h3, h4, h5, h7, h8⟩
/-- What holds in the law's inner loop. -/
def LoopR (w0 wr : World) (d : Nat) (sd : ByteArray) (K X H : List Value) (hb xb kb bb : Nat) (hz : Hd) (i n : Nat) (v : Value) (told : Nat) : Prop :=
  n ≤ 4 ∧ (MidU w0 wr d sd K X H hb xb kb bb i n v told ∨ (n ≤ 3 ∧ MidD w0 wr d K X H hb xb kb bb hz i n told))
theorem MidU.out {w0 wr : World} {d : Nat} {sd : ByteArray} {K X H : List Value} {hb xb kb bb : Nat} {i n : Nat} {v : Value} {told : Nat} (h : MidU w0 wr d sd K X H hb xb kb bb i n v told) (hn : n ≤ 4) : OutR w0 wr d kb bb sd K (i + 1) v told := by
  obtain ⟨r, M, L, s, h1, h2, h3, h4, h5, h6, h7, h8⟩ := h
  exact ⟨r, M, L, s, h1, h2, h3, h4, h7, h5, by omega, h8.fewer (fun x q => List.mem_cons_of_mem _ (List.mem_cons_of_mem _ q))⟩
/-- The head that was signed last. -/
def lastH (L : List Hd) : Hd := L.getLast?.getD (0, zeroRoot)
theorem last_up {w0 w : World} {d r : Nat} {R : RingM} {M : DiskM} {Lc : List Loc} (h : Up w0 w d r R M Lc) :
    Calls Tryd.prog 6 #[.pointer (some ⟨r, 0, none⟩)] w fun e w' => e = .returned (.tuple #[headV ((lastH R.signed).1 : Int) (lastH R.signed).2, .bool (!R.signed.isEmpty)]) ∧ Kept (fun _ => False) w w' := by
  obtain ⟨S, hS⟩ := h.ring
  cases hl : R.signed.length with
  | zero =>
    have e : R.signed = [] := List.eq_nil_of_length_eq_zero hl
    rw [e]
    exact ring_last0 hS e
  | succ m =>
    obtain ⟨a, ha⟩ : ∃ a, R.signed[m]? = some a := ⟨_, List.getElem?_eq_getElem (by omega)⟩
    have e : lastH R.signed = a := by unfold lastH; rw [List.getLast?_eq_getElem?, hl, Nat.add_sub_cancel, ha]; rfl
    have e2 : R.signed.isEmpty = false := by cases hR : R.signed with
      | nil => rw [hR] at hl; cases hl
      | cons x y => rfl
    rw [e, e2]
    exact ring_last hS m a ha hl
theorem lastH_32 {L : List Hd} (h : ∀ x ∈ L, HdOk x) : (lastH L).2.length = 32 := by
  unfold lastH
  cases hg : L.getLast? with
  | none => simp
  | some x => exact (h x (List.mem_of_getLast? hg)).2.2
/-- What holds all through the law's second test. -/
abbrev S47 (w8 w' : World) (lb hb bb q : Nat) (HL H HB : List Value) : Prop := w'.rangeAt lb 0 HL ∧ w'.rangeAt hb 0 H ∧ w'.rangeAt bb (q * 33) HB ∧ Kept (fun _ => False) w8 w'
end Go.Proofs.YtaimokclhcfohaaDoor

namespace Go.Proofs.YtaimokclhcfohaaDoor
open Go.RowKit

set_option maxRecDepth 100000 in
set_option maxHeartbeats 8000000 in
theorem once_else {w wc : World} {d r hb xb kb bb i : Nat} {Md : DiskM} {sd : ByteArray} {K : By} {C X H C' : List Value} {k z o N M : Int} {s : ByteArray} {hz : Hd} {L : List Hd} {s1 : Int} {Q : Exit → Act → World → Prop} {g0 g1 g2 g4 g6 g10 g13 g14 g15 g16 g17 g18 g19 g20 g21 g22 g23 g24 g25 g26 g27 g28 g29 g30 g31 g32 g33 g34 g35 g36 g37 g38 g39 g40 g41 g42 g43 g44 g45 g46 g47 g48 g49 g50 g51 g52 g53 g54 g57 g58 g59 g60 g61 g62 g63 g64 g65 g66 g67 g68 g69 g70 g71 g72 g73 g74 g75 g76 g77 g78 g79 g80 g81 g82 g83 g84 g85 g86 g87 g88 g89 g90 g91 g92 g93 g94 g95 g96 g97 g98 g99 g100 g101 g102 g103 g104 g105 g106 g107 g108 g109 g110 g111 g112 g113 g114 g115 g116 g117 g118 g119 g120 g121 g122 g123 g124 g125 g126 g127 g128 g129 g130 g131 g132 g133 g134 g135 g136 g137 g138 g139 g140 g141 g142 g143 g144 g145 g146 g147 g148 g149 g150 g151 g152 g153 g154 g155 g156 g157 g158 g159 g160 g161 g162 g163 g164 g165 g166 g167 g168 g169 g170 g171 g172 g173 g174 g175 g176 g177 g178 g179 g180 g181 g182 g183 g184 g185 g186 g187 g188 g189 g190 g191 g192 g193 g194 g195 g196 g197 g198 g199 g200 g201 g202 g203 g204 g205 g206 g207 g208 g209 g210 g211 g212 g213 g214 g215 g216 g217 g218 g219 g220 g221 g222 g223 g224 g225 g226 g227 g228 g229 g230 g231 g232 g233 g234 g235 g236 g237 g238 g239 g240 g241 g242 g243 g244 g245 : Value} {code : Code} (hcode : codeCond 56 (Tryd.f4.body.getD .skip) = some code) (HZ : Hid (True ∧ HdOk hz)) (HHC : Hid (H = headC (hz.1 : Int) hz.2 ∧ H.length = 33)) (HC : Hid (C = bytes8 K)) (HKEY : Hid (K = rootF (leavesF sd.data.toList) ∧ List.length K = 32)) (HX : Hid (ActL X k z o N M C' s)) (k0 : 0 ≤ k ∧ k ≤ 255) (hr : Rises 0 L) (h8 : L.length ≤ 8) (hM : UpM L s1 Md) (s0 : 0 ≤ s1) (sI : s1 ≤ 5 * (i : Int)) (hU : Up w wc d r ⟨sd, L, s1, false⟩ Md ((hb, H, 25) :: (xb, X, 59) :: Lcs kb bb C L))
    (HP : ∀ c a (k : Nat) v w, Q (.panic c) (Act.put a (some k) v) w → Q (.panic c) a w) (HEND : ∀ (told2 : Nat) (v14 v64 v65 v66 v63 v67 v68 v13 v69 v70 v71 v72 v73 v15 v74 v75 v76 v77 v78 v79 v80 v81 v82 v83 v84 v85 v86 v87 v88 v89 v90 v91 v92 v93 v94 v95 v96 v97 v98 v99 v100 v101 v102 v103 v104 v105 v106 v107 v108 v109 v110 v111 v112 v113 v114 v115 v116 v117 v118 v119 v120 v121 v122 v123 v124 v125 v126 v2 v127 v128 v129 v130 v131 v132 v133 v135 v134 v136 v137 v138 v139 v141 v140 v142 v143 v144 v145 v146 v147 v148 : Value) (w' : World), Hid (MidR w w' d sd C X H hb xb kb bb hz i 0 (.pointer (some ⟨r, 0, none⟩)) told2) → Q .normal ⟨List.toArray (g0 :: g1 :: v2 :: (.pointer (some ⟨d, 0, none⟩)) :: g4 :: (.pointer (some ⟨r, 0, none⟩)) :: g6 :: (.pointer (some ⟨kb, 0, none⟩)) :: (.pointer (some ⟨bb, 0, none⟩)) :: (.int .i64 (told2 : Int)) :: g10 :: (.pointer (some ⟨xb, 0, none⟩)) :: (.pointer (some ⟨hb, 0, none⟩)) :: v13 :: v14 :: v15 :: g16 :: g17 :: g18 :: g19 :: g20 :: g21 :: g22 :: g23 :: g24 :: g25 :: g26 :: g27 :: g28 :: g29 :: g30 :: g31 :: g32 :: g33 :: g34 :: g35 :: g36 :: g37 :: g38 :: g39 :: g40 :: g41 :: g42 :: g43 :: g44 :: g45 :: g46 :: g47 :: g48 :: g49 :: g50 :: g51 :: g52 :: g53 :: g54 :: (.int .u8 (k % 13)) :: (.bool false) :: g57 :: g58 :: g59 :: g60 :: g61 :: g62 :: v63 :: v64 :: v65 :: v66 :: v67 :: v68 :: v69 :: v70 :: v71 :: v72 :: v73 :: v74 :: v75 :: v76 :: v77 :: v78 :: v79 :: v80 :: v81 :: v82 :: v83 :: v84 :: v85 :: v86 :: v87 :: v88 :: v89 :: v90 :: v91 :: v92 :: v93 :: v94 :: v95 :: v96 :: v97 :: v98 :: v99 :: v100 :: v101 :: v102 :: v103 :: v104 :: v105 :: v106 :: v107 :: v108 :: v109 :: v110 :: v111 :: v112 :: v113 :: v114 :: v115 :: v116 :: v117 :: v118 :: v119 :: v120 :: v121 :: v122 :: v123 :: v124 :: v125 :: v126 :: v127 :: v128 :: v129 :: v130 :: v131 :: v132 :: v133 :: v134 :: v135 :: v136 :: v137 :: v138 :: v139 :: v140 :: v141 :: v142 :: v143 :: v144 :: v145 :: v146 :: v147 :: v148 :: g149 :: g150 :: g151 :: g152 :: g153 :: g154 :: g155 :: g156 :: g157 :: g158 :: g159 :: g160 :: g161 :: g162 :: g163 :: g164 :: g165 :: g166 :: g167 :: g168 :: g169 :: g170 :: g171 :: g172 :: g173 :: g174 :: g175 :: g176 :: g177 :: g178 :: g179 :: g180 :: g181 :: g182 :: g183 :: g184 :: g185 :: g186 :: g187 :: g188 :: g189 :: g190 :: g191 :: g192 :: g193 :: g194 :: g195 :: g196 :: g197 :: g198 :: g199 :: g200 :: g201 :: g202 :: g203 :: g204 :: g205 :: g206 :: g207 :: g208 :: g209 :: g210 :: g211 :: g212 :: g213 :: g214 :: g215 :: g216 :: g217 :: g218 :: g219 :: g220 :: g221 :: g222 :: g223 :: g224 :: g225 :: g226 :: g227 :: g228 :: g229 :: g230 :: g231 :: g232 :: g233 :: g234 :: g235 :: g236 :: g237 :: g238 :: g239 :: g240 :: g241 :: g242 :: g243 :: g244 :: g245 :: []), []⟩ w') :
    Code.wp Tryd.prog code Q ⟨List.toArray (g0 :: g1 :: g2 :: (.pointer (some ⟨d, 0, none⟩)) :: g4 :: (.pointer (some ⟨r, 0, none⟩)) :: g6 :: (.pointer (some ⟨kb, 0, none⟩)) :: (.pointer (some ⟨bb, 0, none⟩)) :: (.int .i64 (L.length : Int)) :: g10 :: (.pointer (some ⟨xb, 0, none⟩)) :: (.pointer (some ⟨hb, 0, none⟩)) :: g13 :: g14 :: g15 :: g16 :: g17 :: g18 :: g19 :: g20 :: g21 :: g22 :: g23 :: g24 :: g25 :: g26 :: g27 :: g28 :: g29 :: g30 :: g31 :: g32 :: g33 :: g34 :: g35 :: g36 :: g37 :: g38 :: g39 :: g40 :: g41 :: g42 :: g43 :: g44 :: g45 :: g46 :: g47 :: g48 :: g49 :: g50 :: g51 :: g52 :: g53 :: g54 :: (.int .u8 (k % 13)) :: (.bool false) :: g57 :: g58 :: g59 :: g60 :: g61 :: g62 :: g63 :: g64 :: g65 :: g66 :: g67 :: g68 :: g69 :: g70 :: g71 :: g72 :: g73 :: g74 :: g75 :: g76 :: g77 :: g78 :: g79 :: g80 :: g81 :: g82 :: g83 :: g84 :: g85 :: g86 :: g87 :: g88 :: g89 :: g90 :: g91 :: g92 :: g93 :: g94 :: g95 :: g96 :: g97 :: g98 :: g99 :: g100 :: g101 :: g102 :: g103 :: g104 :: g105 :: g106 :: g107 :: g108 :: g109 :: g110 :: g111 :: g112 :: g113 :: g114 :: g115 :: g116 :: g117 :: g118 :: g119 :: g120 :: g121 :: g122 :: g123 :: g124 :: g125 :: g126 :: g127 :: g128 :: g129 :: g130 :: g131 :: g132 :: g133 :: g134 :: g135 :: g136 :: g137 :: g138 :: g139 :: g140 :: g141 :: g142 :: g143 :: g144 :: g145 :: g146 :: g147 :: g148 :: g149 :: g150 :: g151 :: g152 :: g153 :: g154 :: g155 :: g156 :: g157 :: g158 :: g159 :: g160 :: g161 :: g162 :: g163 :: g164 :: g165 :: g166 :: g167 :: g168 :: g169 :: g170 :: g171 :: g172 :: g173 :: g174 :: g175 :: g176 :: g177 :: g178 :: g179 :: g180 :: g181 :: g182 :: g183 :: g184 :: g185 :: g186 :: g187 :: g188 :: g189 :: g190 :: g191 :: g192 :: g193 :: g194 :: g195 :: g196 :: g197 :: g198 :: g199 :: g200 :: g201 :: g202 :: g203 :: g204 :: g205 :: g206 :: g207 :: g208 :: g209 :: g210 :: g211 :: g212 :: g213 :: g214 :: g215 :: g216 :: g217 :: g218 :: g219 :: g220 :: g221 :: g222 :: g223 :: g224 :: g225 :: g226 :: g227 :: g228 :: g229 :: g230 :: g231 :: g232 :: g233 :: g234 :: g235 :: g236 :: g237 :: g238 :: g239 :: g240 :: g241 :: g242 :: g243 :: g244 :: g245 :: []), []⟩ wc := by
  have HP := Lib.hid HP
  have HEND := Lib.hid HEND
  simp only [Tryd.f4, Option.getD_some, codeSeq, codeBlock, codeCond, Nat.reduceEqDiff, ↓reduceIte, Option.none_or, Option.or_none, Option.some_or, Option.some.injEq] at hcode
  subst hcode
  have hblk := hU.dn.blk (y := (xb, X, 59)) (by simp)
  have c36 := hblk.cell HX.out.c36
  have c37 := hblk.cell HX.out.c37
  have HU := Lib.hid hU
  have HM := Lib.hid (And.intro hr (And.intro h8 (And.intro s0 sI)))
  by_cases h6 : k % 13 = 6
  · have y2 : (k % 13 == 6) = true := by simpa using h6
    have y3 : decide (k % 13 = 6) = true := decide_eq_true h6
    obtain ⟨M', he, hD⟩ := hM.crash hr h8 hz N
    have HCR := Lib.hid (hU.dn.crash N HX.out.n0 he)
    have HD := Lib.hid hD
    clear hblk hU hr h8 s0 sI hM he hD h6
    go_wp2_with (go_at_call 11; refine HCR.out.mono ?_; rintro e w9 ⟨rfl, hk9⟩; have HK9 := Lib.hid hk9; clear hk9)
    obtain ⟨q1, q2, q3, q4⟩ := HM.out
    exact (Lib.hid ⟨M', L, s1, rfl, q1, q2, q3, Int.le_trans q4 (by simp), Or.inr ⟨HD.out, HK9.out⟩⟩)
  · have y2 : (k % 13 == 6) = false := by simpa using h6
    have y3 : decide (k % 13 = 6) = false := decide_eq_false h6
    by_cases h9 : k % 13 = 9
    · have y4 : (k % 13 == 9) = true := by simpa using h9
      have y5 : decide (k % 13 = 9) = true := decide_eq_true h9
      have y6 : bits .and .i64 N 7 = N % 8 := i64_mask 3 (by decide) N
      obtain ⟨M', he, hD⟩ := hM.fail (n := N % 8) (by omega) M
      have HCR := Lib.hid (hU.fail (N % 8) M (by omega) HX.out.m0 he)
      have HD := Lib.hid hD
      clear hblk hU hr h8 s0 sI hM he hD h9
      go_wp2_with (go_at_call 16; refine HCR.out.mono ?_; rintro e w9 ⟨rfl, hk9⟩; have HK9 := Lib.hid hk9; clear hk9)
      obtain ⟨q1, q2, q3, q4⟩ := HM.out
      exact (Lib.hid ⟨M', L, s1, rfl, q1, q2, q3, Int.le_trans q4 (by simp), Or.inl ⟨r, rfl, HD.out, HK9.out⟩⟩)
    · have y4 : (k % 13 == 9) = false := by simpa using h9
      have y5 : decide (k % 13 = 9) = false := decide_eq_false h9
      have HD := Lib.hid hM
      clear hblk hU hr h8 s0 sI hM
      go_wp2_with fail
      obtain ⟨q1, q2, q3, q4⟩ := HM.out
      exact (Lib.hid ⟨Md, L, s1, rfl, q1, q2, q3, Int.le_trans q4 (by simp), Or.inl ⟨r, rfl, HD.out, HU.out⟩⟩)

end Go.Proofs.YtaimokclhcfohaaDoor
