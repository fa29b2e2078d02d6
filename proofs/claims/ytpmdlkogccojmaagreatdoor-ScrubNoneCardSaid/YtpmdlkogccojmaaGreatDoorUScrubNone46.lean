/- Scr6 Scr7 Scr8 -/
import Derived.Laws.StructEq
import Derived.Test.YtpmdlkogccojmaaGreatDoorUScrubNone43
import Derived.Test.YtpmdlkogccojmaaGreatDoorUScrubNone45
import Derived.Test.YtpmdlkogccojmaaGreatDoorUScrubNone38
set_option linter.unusedVariables false
set_option linter.unusedSimpArgs false
set_option maxRecDepth 100000
set_option maxHeartbeats 16000000
namespace Go.Proofs.YtpmdlkogccojmaaGreatDoor
open Go.RowKit
abbrev keyV (k : By) : Value:=.agg (bytes8 k).toArray
theorem scan_no (w : World) (v : Value) (k : By) (hv : NoDisk w v) :
  Calls Tryz.prog 8 #[v, keyV k] w fun e w'=>e = .returned (.tuple #[.slice none 0 0, .int .i64 1])∧Kept (fun _=>False) w w':=by
 have ka : Kept (fun _=>False) w (w.alloc (.cells (bytes8 k).toArray 24)):=(Kept.refl _ _).alloc _
 have HU:=Lib.hid (up_no _ v (hv.kept ka))
 have HS:=Lib.hid (size_no _ v 0 (hv.kept ka))
 clear hv
 go_enter Tryz.func8, Tryz.ntmps8
 go_wp2_with (first | (go_at_call 24; refine HU.out.mono ?_; rintro e w' ⟨rfl, rfl⟩) | (go_at_call 34; refine HS.out.mono ?_; rintro e w' ⟨rfl, rfl⟩))
 go_ret2
 exact ⟨rfl, ka⟩
theorem scan_down {wz w : World} {d : Nat} {M : DiskM} {Os : List Ob} (h : Ows wz w d M Os) (hdn : M.down = true) (k : By) :
  Calls Tryz.prog 8 #[.pointer (some ⟨d, 0, none⟩), keyV k] w fun e w'=>e = .returned (.tuple #[.slice none 0 0, .int .i64 61])∧Kept (fun _=>False) w w':=by
 have ka : Kept (fun _=>False) w (w.alloc (.cells (bytes8 k).toArray 24)):=(Kept.refl _ _).alloc _
 have h1:=h.same ka
 have HU:=Lib.hid (h1.isup (b:=false) (by rw [hdn]; rfl))
 have hz : M.sizeR 0 = (0, 61):=by simp [DiskM.sizeR, DiskM.has, hdn]
 have HS:=Lib.hid (show Calls Tryz.prog 34 #[.pointer (some ⟨d, 0, none⟩), .int .i64 0] _ _ from by obtain ⟨B, h1⟩:=h1; exact size_ap h1.ap 0 (by omega) hz)
 clear h h1 hz hdn
 go_enter Tryz.func8, Tryz.ntmps8
 go_wp2_with (first | (go_at_call 24; refine HU.out.mono ?_; rintro e w' ⟨rfl, rfl⟩) | (go_at_call 34; refine HS.out.mono ?_; rintro e w' ⟨rfl, rfl⟩))
 go_ret2
 exact ⟨rfl, ka⟩
def EntRel (M : DiskM) (n : Nat) (E : List Fd) : Prop:=(n = 0∧E = []∧∀ x ∈ M.files, x.1 < 1000) ∨ ∃ b pos ps, M.files = [(1000, b)]∧LoadsTo b pos ps∧n = ps.length∧E = (if pos < b.length then [((1 : Int), (1000 : Int), (pos : Int))] else [])
def EntGen (w0 w : World) (d s : Nat) (l : List Fd) (M : DiskM) (e : Ending) (w' : World) : Prop:=∃ n E a c, EntRel M n E∧n ≤ 64∧e = .returned (.slice a n c)∧Hid (ScanAt w0 w' d s (l ++ E)∧E.length ≤ 1∧KeptS w w')
theorem ent_gen {wz w0 w : World} {d s : Nat} {M : DiskM} {Os : List Ob} {l : List Fd} (h : Ows wz w d M Os) (hS : ScanAt w0 w d s l) (hl : l.length ≤ 1000) (hdn : M.down = false) (hall : (∀ x ∈ M.files, x.1 < 1000) ∨ ∃ b, M.files = [(1000, b)]) :
  Calls Tryz.prog 36 #[.pointer (some ⟨s, 0, none⟩)] w (EntGen w0 w d s l M):=by
 rcases hall with ha | ⟨b, hf⟩
 ·refine (scrEntries0 h hS.disk ha).mono ?_
  rintro e w' ⟨rfl, hk⟩
  exact ⟨0, [], none, 0, Or.inl ⟨rfl, rfl, ha⟩, by omega, rfl, Lib.hid ⟨by rw [List.append_nil]; exact hS.same hk, by simp, KeptS.of hk⟩⟩
 ·refine (scrEntries1 h hS hl hf hdn).mono ?_
  rintro e w' ⟨pos, ps, a, c, hL, rfl, HH⟩
  refine ⟨ps.length, _, a, c, Or.inr ⟨b, pos, ps, hf, hL, rfl, rfl⟩, hL.1.len, rfl, Lib.hid ⟨HH.out.1, by split <;> simp, HH.out.2.2.2⟩⟩
def ScanRel (M : DiskM) (L : List Fd) : Prop:=∃ n E, EntRel M n E∧L = oddsF (M.files.map (·.1)) ++ E ++ (if 0 < n then [((7 : Int), (1000 : Int), (n : Int))] else [])
def ScanTo (w : World) (M : DiskM) (e : Ending) (w' : World) : Prop:=∃ L a c, ScanRel M L∧L.length ≤ 10∧e = .returned (.tuple #[.slice a L.length c, .int .i64 0])∧Hid (Row w' 29 3 (.slice a L.length c) (findV L)∧Kept (fun _=>False) w w')
theorem ScanAt.rowOf {w0 w : World} {d s : Nat} {l : List Fd} (h : ScanAt w0 w d s l) : ∃ a c, w.cell? ⟨s, 1, none⟩ = some (.slice a l.length c)∧Hid (Row w 29 3 (.slice a l.length c) (findV l)∧Kept (fun _=>False) w0 w):=by
 obtain ⟨⟨a, n, c, h1, h2, h3⟩, h4, h5⟩:=h
 obtain ⟨_, _, _, ev, hn, _⟩:=h2.form (by omega)
 cases ev
 rw [findV_len] at hn
 obtain rfl : n = l.length:=by omega
 exact ⟨a, c, h1.cell (i:=1) rfl, Lib.hid ⟨h2, h4⟩⟩
theorem oddsF_len (ns : List Int) : (oddsF ns).length ≤ 1:=by unfold oddsF; split <;> simp
theorem scan_new (w : World) (d : Nat) (k : By) : ScanAt w ((w.alloc (.cells (bytes8 k).toArray 24)).alloc (.cells #[.pointer (some ⟨d, 0, none⟩), .slice none 0 0] 90)) d (w.heap.size + 1) []:=by
 have h:=Blk.new (w.alloc (.cells (bytes8 k).toArray 24)) [.pointer (some ⟨d, 0, none⟩), .slice none 0 0] 90
 simp only [World.size_alloc] at h
 exact ⟨⟨none, 0, 0, h, Row.nil _ _ _, fun k q=>by simp [Value.ownBlock] at q⟩, ((Kept.refl _ _).alloc _).alloc _, by omega⟩
theorem scan_there (w3 : World) : ((w3.alloc (.cells rng0.toArray 92)).alloc (.cells signed0C.toArray 51)).there w3.heap.size 0 rng0.toArray.size∧(((w3.alloc (.cells rng0.toArray 92)).alloc (.cells signed0C.toArray 51)).setCells w3.heap.size 0 rng0).there (w3.heap.size + 1) 0 signed0C.length:=by
 have b0:=(Blk.new w3 rng0 92).alloc (.cells signed0C.toArray 51)
 have b1:=Blk.new (w3.alloc (.cells rng0.toArray 92)) signed0C 51
 simp only [World.size_alloc] at b1
 exact ⟨b0.there 0 _ (Nat.le_refl _), (b1.kept (kept_setCells _ _ _ _) (by omega)).there 0 _ (by omega)⟩
theorem scan_stored (w3 : World) {W : World} (hW : W = (((w3.alloc (.cells rng0.toArray 92)).alloc (.cells signed0C.toArray 51)).setCells w3.heap.size 0 rng0).setCells (w3.heap.size + 1) 0 signed0C) : Blk W w3.heap.size rng0 92∧Kept (fun _=>False) w3 W:=by
 have b0:=(Blk.new w3 rng0 92).alloc (.cells signed0C.toArray 51)
 have b1:=b0.setCells 0 rng0 (Nat.le_refl _)
 rw [splice_whole rfl] at b1
 rw [hW]
 exact ⟨b1.kept (kept_setCells _ _ _ _) (by omega), (((Kept.refl (fun _=>False) w3).alloc _).alloc _).then_ ((kept_setCells _ _ _ _).mono (S':=fun i=>w3.heap.size ≤ i) (fun i _ e=>by omega) |>.trans ((kept_setCells _ _ _ _).mono (S':=fun i=>w3.heap.size ≤ i) (fun i _ e=>by omega))) (fun i hi e=>by omega)⟩
theorem scan_up {wz w : World} {d : Nat} {M : DiskM} {Os : List Ob} (h : Ows wz w d M Os) (hdn : M.down = false) (k : By)
  (hall : (∀ x ∈ M.files, 1000 ≤ x.1) ∨ M.files = [(5, [])]) (hall2 : (∀ x ∈ M.files, x.1 < 1000) ∨ ∃ b, M.files = [(1000, b)]) :
  Calls Tryz.prog 8 #[.pointer (some ⟨d, 0, none⟩), keyV k] w (ScanTo w M):=by
 have hS0:=scan_new w d k
 have HO:=Lib.hid h
 have HU:=Lib.hid ((h.same ((Kept.refl _ _).alloc (.cells (bytes8 k).toArray 24))).isup (b:=true) (by rw [hdn]; rfl))
 have HP:=Lib.hid (scrPoints h hS0 (by simp) hdn hall)
 have HE:=Lib.hid (fun w4 l (hS : ScanAt w w4 d (w.heap.size + 1) l) (hl : l.length ≤ 1000)=>ent_gen (h.same hS.kept) hS hl hdn hall2)
 have hol:=oddsF_len (M.files.map (·.1))
 have HR:=Lib.hid (show ScanRel M = fun L=>∃ n E, EntRel M n E∧L = oddsF (M.files.map (·.1)) ++ E ++ (if 0 < n then [((7 : Int), (1000 : Int), (n : Int))] else []) from rfl)
 generalize oddsF (M.files.map (·.1)) = O at *
 clear h hdn hall hall2 hS0
 go_enter Tryz.func8, Tryz.ntmps8
 go_upto_region 6 with (first
  | (go_at_call 24; refine HU.out.mono ?_; rintro e w' ⟨rfl, rfl⟩)
  | (go_at_call 35; refine HP.out.mono ?_; rintro e w3 ⟨rfl, hS3⟩; have HS3:=Lib.hid hS3; clear hS3)
  | ((with_reducible show wpList _ _ _ (⟨none, .store _ (.tmp 9) _, _, _, _, _⟩::_) _ _); refine wpList_store_mid rfl 92 _ _ rfl w3.heap.size 0 rng0.toArray rfl rfl ?ht1 ?hi1 ?h11 ?_)
  | ((with_reducible show wpList _ _ _ (⟨none, .store _ (.tmp 10) _, _, _, _, _⟩::_) _ _); refine wpList_store_mid rfl 51 _ _ rfl (w3.heap.size + 1) 0 signed0C.toArray rfl rfl ?ht2 ?hi2 ?h12 ?_))
 case ht1=>exact (scan_there w3).1
 case hi1=>kernel_rfl
 case h11=>kernel_rfl
 case ht2=>exact (scan_there w3).2
 case hi2=>exact (by first | exact info_signed0 | (rw [List.size_toArray]; exact info_signed0))
 case h12=>exact signed0_one
 generalize hw4 : World.setCells _ (w3.heap.size + 1) 0 _ = w4
 have q4:=scan_stored w3 (W:=w4) (by rw [← hw4]; rfl)
 have hS4 : ScanAt w w4 d (w.heap.size + 1) O:=HS3.out.same q4.2
 have HE4:=Lib.hid (HE.out w4 O hS4 (by omega))
 have HB4:=Lib.hid q4.1
 clear hw4 q4 hS4 HE HS3 HP HU
 generalize w3.heap.size = rb at *
 go_upto_region 9 with (go_at_call 36; refine HE4.out.mono ?_; rintro e w5 ⟨n, E, a, c, hE, hn, rfl, H5⟩)
 have c5:=(H5.out.2.2.blk HB4.out (by decide) (by decide)).cell (i:=0) rfl
 have HE5:=Lib.hid hE
 have hn9 : n ≤ 9223372036854775807:=by omega
 have HN:=Lib.hid hn
 clear hE hn HE4 HB4
 by_cases h0 : 0 < n
 ·have y1 : decide (0 < (n : Int)) = true:=decide_eq_true (by omega)
  have y2 : decide (0 < n) = true:=decide_eq_true h0
  have HFI:=Lib.hid (find_any H5.out.1 (Kept.refl _ _) 7 1000 (n : Int) (by rw [List.length_append]; have:=H5.out.2.1; omega))
  have HL:=Lib.hid (show ScanRel M (O ++ E ++ [((7 : Int), (1000 : Int), (n : Int))]) from by rw [HR.out]; exact ⟨n, E, HE5.out, by rw [if_pos h0]⟩)
  have HO2:=Lib.hid hol
  clear h0 hol
  go_wp2_with (go_at_call 38; refine HFI.out.mono ?_; rintro e w6 ⟨rfl, hS6, -, -⟩; obtain ⟨xa, xc, cx, HX⟩:=hS6.rowOf)
  go_ret2
  refine ⟨O ++ E ++ [((7 : Int), (1000 : Int), (n : Int))], xa, xc, HL.out, ?_, by simp, HX⟩
  have:=H5.out.2.1
  have:=HO2.out
  simp only [List.length_append, List.length_cons, List.length_nil]
  omega
 ·obtain rfl : n = 0:=by omega
  have HL:=Lib.hid (show ScanRel M (O ++ E) from by rw [HR.out]; exact ⟨0, E, HE5.out, by simp⟩)
  obtain ⟨xa, xc, cx, HX⟩:=H5.out.1.rowOf
  have HO2:=Lib.hid hol
  clear h0 hol
  go_wp2_with fail
  go_ret2
  refine ⟨O ++ E, xa, xc, HL.out, ?_, by simp, HX⟩
  have:=H5.out.2.1
  have:=HO2.out
  simp only [List.length_append]
  omega
theorem findV_at {L : List Fd} {i : Nat} {x : Fd} (h : L[i]? = some x) (j : Nat) (v : Value) (hv : (fdC x)[j]? = some v) : (findV L)[i * 3 + j]? = some v:=by
 induction L generalizing i with
 | nil=>simp at h
 | cons a r ih =>
  have e : findV (a::r) = fdC a ++ findV r:=by simp [findV]
  rw [e]
  cases i with
  | zero =>
   simp at h
   subst h
   have hj:=(List.getElem?_eq_some_iff.1 hv).1
   rw [List.getElem?_append_left (by simpa using hj)]
   simpa using hv
  | succ i =>
   have hl : (fdC a).length = 3:=rfl
   rw [List.getElem?_append_right (by omega), hl, show (i + 1) * 3 + j - 3 = i * 3 + j by omega]
   exact ih (by simpa using h)
theorem fds_of_row {w : World} {e : TypeId} {a : Option Addr} {n c : Nat} {L : List Fd} (h : Row w e 3 (.slice a n c) (findV L)) : Fds w a L:=by
 intro i x hx
 rcases h with ⟨h, hL⟩ | ⟨g, n', cap, rest, hv, h1, hb, _⟩
 ·have:=findV_at hx 0 _ rfl
  rw [hL] at this
  simp at this
 ·cases hv
  refine ⟨g, 0, rfl, hb.lt, fun j v hv=>?_⟩
  rw [Nat.zero_add]
  refine hb.cell ?_
  have:=findV_at hx j v hv
  rw [List.getElem?_append_left (List.getElem?_eq_some_iff.1 this).1]
  exact this
theorem found_any {wz w : World} {d : Nat} {M : DiskM} {Os : List Ob} (h : Ows wz w d M Os) (hdn : M.down = false)
  (hall : (∀ x ∈ M.files, 1000 ≤ x.1) ∨ M.files = [(5, [])]) (hall2 : (∀ x ∈ M.files, x.1 < 1000) ∨ ∃ b, M.files = [(1000, b)]) (Lw : List Fd) (hdet : ∀ L, ScanRel M L → L = Lw) (a' : Option Addr) (n c' : Nat) (hn : n = Lw.length) (hw : Fds w a' Lw) (hl : Lw.length ≤ 10) :
  Calls Tryz.prog 30 #[.pointer (some ⟨d, 0, none⟩), .slice a' n c'] w fun e w'=>e = .returned (.bool true)∧Kept (fun _=>False) w w':=by
 subst hn
 have HS:=Lib.hid (scan_up h hdn (List.replicate 32 0) hall hall2)
 have HD:=Lib.hid (And.intro hdet (And.intro hw hl))
 have hl9 : Lw.length ≤ 9223372036854775807:=by omega
 clear h hdn hall hall2 hdet hw hl
 go_enter Tryz.func30, Tryz.ntmps30
 go_wp2_with (go_at_call 8; refine HS.out.mono ?_; rintro e w2 ⟨L, a, c, hR, -, rfl, HX⟩; obtain rfl:=HD.out.1 L hR; clear hR)
 go_loopw [7] (fun y wr=>∃ i : Nat, i ≤ L.length∧y = .int .i64 (i : Int)∧Hid (Kept (fun _=>False) w2 wr)) (fun y _=>L.length - (intOf y).toNat)
 case atStart=>exact ⟨0, Nat.zero_le _, rfl, Lib.hid (Kept.refl _ _)⟩
 case round =>
  obtain ⟨i, hi, rfl, HK⟩:=hrel
  by_cases hlt : i < L.length
  ·have y1 : decide ((i : Int) < (L.length : Int)) = true:=decide_eq_true (by omega)
   have y2 : decide (i < L.length) = true:=decide_eq_true hlt
   obtain ⟨x, hx⟩ : ∃ x, L[i]? = some x:=⟨_, List.getElem?_eq_getElem hlt⟩
   obtain ⟨g, off, rfl, c0, c1, c2⟩:=(fds_of_row (HX.out.1.kept HK.out (fun _ _=>id))).cell hx
   obtain ⟨g', off', rfl, d0, d1, d2⟩:=(HD.out.2.1.same ((HX.out.2.trans HK.out).below_of)).cell hx
   obtain ⟨k, f, p⟩:=x
   dsimp only at c0 c1 c2 d0 d1 d2
   clear hx
   go_wp2_with fail
   go_quiet (fail)
   go_wp2_with fail
   go_roundw
   case rel=>exact ⟨i + 1, by omega, by go_num, Lib.hid (HK.out.trans ((Kept.refl _ _).drewN _))⟩
   case measure=>simp [intOf]; omega
  ·obtain rfl : i = L.length:=by omega
   have y1 : decide ((L.length : Int) < (L.length : Int)) = false:=decide_eq_false (by omega)
   have y2 : decide (L.length < L.length) = false:=decide_eq_false (by omega)
   clear hi hlt
   go_wp2_with fail
   go_ret
   exact ⟨rfl, HX.out.2.trans HK.out⟩
section
variable {w0 w w' : World} {d : Nat} {M M' : DiskM} {Os : List Ob} {y : Int}
theorem Ows.dcreate (h : Ows w0 w d M Os) (n : Int) (n0 : -9223372036854775808 ≤ n∧n ≤ 9223372036854775807) (hc : M.files.length + M.loose.length < 300000000) (he : M.create n = (y, M')) :
  Calls Tryz.prog 31 #[.pointer (some ⟨d, 0, none⟩), .int .i64 n] w fun e w'=>e = .returned (.int .i64 y)∧Ows w0 w' d M' Os:=by
 obtain ⟨B, h⟩:=h
 exact (create_ap h.ap n n0 hc he).mono fun e w' q=>⟨q.1, B, h.to q.2.2 q.2.1⟩
theorem Ows.dappend (h : Ows w0 w d M Os) (n : Int) (n0 : -9223372036854775808 ≤ n∧n ≤ 9223372036854775807) (s : ByteArray) (hc : M.files.length + M.loose.length < 300000000) (he : M.append n s.data.toList = (y, M')) :
  Calls Tryz.prog 33 #[.pointer (some ⟨d, 0, none⟩), .int .i64 n, .string s] w fun e w'=>e = .returned (.int .i64 y)∧Ows w0 w' d M' Os:=by
 obtain ⟨B, h⟩:=h
 exact (append_ap h.ap n n0 s hc he).mono fun e w' q=>⟨q.1, B, h.to q.2.2 q.2.1⟩
theorem Ows.ddelete (h : Ows w0 w d M Os) (n : Int) (n0 : -9223372036854775808 ≤ n∧n ≤ 9223372036854775807) (he : M.delete n = (y, M')) :
  Calls Tryz.prog 32 #[.pointer (some ⟨d, 0, none⟩), .int .i64 n] w fun e w'=>e = .returned (.int .i64 y)∧Ows w0 w' d M' Os:=by
 obtain ⟨B, h⟩:=h
 exact (delete_ap h.ap n n0 he).mono fun e w' q=>⟨q.1, B, h.to q.2.2 q.2.1⟩
end
def scrM (files : List (Int × By)) (loose : List (Int × Nat)) : DiskM:=⟨files, loose, 1000, false, 0, false, 0, 0⟩
theorem scr_create5 : (scrM [] []).create 5 = (0, scrM [(5, [])] []):=by rfl
theorem scr_delete5 : (scrM [(5, [])] []).delete 5 = (0, scrM [] []):=by rfl
theorem scr_create1000 : (scrM [] []).create 1000 = (0, scrM [(1000, [])] []):=by rfl
theorem scr_append (s : By) (hs : s.length = 14) : (scrM [(1000, [])] []).append 1000 s = (0, scrM [(1000, s)] [(1000, 14)]):=by
 have h1 : (scrM [(1000, [])] []).has 1000 = 0:=by rfl
 have h2 : (scrM [(1000, [])] []).cap - (scrM [(1000, [])] []).total = 1000:=by rfl
 have h3 : (scrM [(1000, [])] []).sinks = false:=by rfl
 have h4 : (scrM [(1000, [])] []).appended 1000 s = scrM [(1000, s)] [(1000, 14)]:=by
  unfold DiskM.appended
  rw [hs]
  rfl
 unfold DiskM.append
 rw [h1, h2, h3, h4]
 rw [if_neg (by simp), if_neg (by omega), if_neg (by simp)]
 rfl
theorem scr_det0 : ∀ L, ScanRel (scrM [] []) L → L = []:=by
 rintro L ⟨n, E, hE, rfl⟩
 rcases hE with ⟨rfl, rfl, _⟩ | ⟨b, pos, ps, hf, _⟩
 ·rfl
 ·simp [scrM] at hf
theorem scr_det5 : ∀ L, ScanRel (scrM [(5, [])] []) L → L = [(2, 5, 0)]:=by
 rintro L ⟨n, E, hE, rfl⟩
 rcases hE with ⟨rfl, rfl, _⟩ | ⟨b, pos, ps, hf, _⟩
 ·rfl
 ·simp [scrM] at hf
theorem loads_a {s : By} (h1 : cutF s = some ([97], [120])) (h2 : cutF [120] = none) (h3 : s.length = 14) (h4 : s.drop 13 = [120]) {pos : Nat} {ps : List By} (h : Loads s pos ps) : (pos = 0∧ps = []) ∨ (pos = 13∧ps = [[97]]):=by
 induction h with
 | start=>exact Or.inl ⟨rfl, rfl⟩
 | more h0 hc hl hp ih =>
  rcases ih with ⟨rfl, rfl⟩ | ⟨rfl, rfl⟩
  ·rw [List.drop_zero, h1] at hc
   cases hc
   right
   rw [h3]
   exact ⟨rfl, rfl⟩
  ·rw [h4, h2] at hc
   cases hc
theorem scr_det1000 {s : By} (h1 : cutF s = some ([97], [120])) (h2 : cutF [120] = none) (h3 : s.length = 14) (h4 : s.drop 13 = [120]) : ∀ L, ScanRel (scrM [(1000, s)] [(1000, 14)]) L → L = [(1, 1000, 13), (7, 1000, 1)]:=by
 rintro L ⟨n, E, hE, rfl⟩
 rcases hE with ⟨_, _, ha⟩ | ⟨b, pos, ps, hf, hL, rfl, rfl⟩
 ·have:=ha (1000, s) (by simp [scrM])
  simp at this
 ·have hf : [((1000 : Int), s)] = [(1000, b)]:=hf
  obtain rfl : s = b:=by simpa using hf
  rcases loads_a h1 h2 h3 h4 hL.1 with ⟨rfl, rfl⟩ | ⟨rfl, rfl⟩
  ·exfalso
   rcases hL.2 with q | q | ⟨x, q, q2⟩
   ·simp at q
   ·rw [List.drop_zero, h1] at q; cases q
   ·rw [List.drop_zero, h1] at q; cases q; simp at q2
  ·rw [h3]
   rfl
theorem frame_a : (frameF [97] ++ [120]).length = 14∧cutF (frameF [97] ++ [120]) = some ([97], [120])∧(frameF [97] ++ [120]).drop 13 = [120]∧cutF [120] = none:=by
 have hl : (frameF [97]).length = 13:=by rw [frameF_len]; rfl
 exact ⟨by rw [List.length_append, hl]; rfl, cutF_frame [97] [120] (by decide), by rw [List.drop_append, hl]; simp [List.drop_of_length_le, hl], by unfold cutF; rw [if_pos (by decide)]⟩
theorem fds_new1 (w : World) (x : Fd) : Fds (w.alloc (.cells (fdC x).toArray 29)) (some ⟨w.heap.size, 0, none⟩) [x]:=by
 intro i y hy
 cases i with
 | zero =>
  simp at hy
  subst hy
  have hb:=Blk.new w (fdC x) 29
  exact ⟨_, 0, rfl, hb.lt, fun j v hv=>by simpa using hb.cell hv⟩
 | succ i=>simp at hy
theorem fds_new2 (w : World) (x y : Fd) : Fds (w.alloc (.cells (fdC x ++ fdC y).toArray 29)) (some ⟨w.heap.size, 0, none⟩) [x, y]:=by
 intro i z hz
 have hb:=Blk.new w (fdC x ++ fdC y) 29
 match i, hz with
 | 0, hz =>
  simp at hz
  subst hz
  exact ⟨_, 0, rfl, hb.lt, fun j v hv=>by
   have:=hb.cell (i:=j) (v:=v) (by rw [List.getElem?_append_left (List.getElem?_eq_some_iff.1 hv).1]; exact hv)
   simpa using this⟩
 | 1, hz =>
  simp at hz
  subst hz
  exact ⟨_, 0, rfl, hb.lt, fun j v hv=>by
   have:=hb.cell (i:=3 + j) (v:=v) (by rw [List.getElem?_append_right (by simp)]; simpa using hv)
   simpa using this⟩
 | i + 2, hz=>simp at hz
section
variable {wz w : World} {d : Nat} {Os : List Ob}
theorem found0 (h : Ows wz w d (scrM [] []) Os) : Calls Tryz.prog 30 #[.pointer (some ⟨d, 0, none⟩), .slice none 0 0] w fun e w'=>e = .returned (.bool true)∧Kept (fun _=>False) w w' :=
 found_any h rfl (Or.inl (fun x hx=>by cases hx)) (Or.inl (fun x hx=>by cases hx)) [] scr_det0 none 0 0 rfl (fun i x hx=>by simp at hx) (by simp)
theorem found5 (h : Ows wz w d (scrM [(5, [])] []) Os) {a : Option Addr} {c : Nat} (hw : Fds w a [(2, 5, 0)]) : Calls Tryz.prog 30 #[.pointer (some ⟨d, 0, none⟩), .slice a 1 c] w fun e w'=>e = .returned (.bool true)∧Kept (fun _=>False) w w' :=
 found_any h rfl (Or.inr rfl) (Or.inl (fun x hx=>by simp [scrM] at hx; subst hx; decide)) [(2, 5, 0)] scr_det5 a 1 c rfl hw (by simp)
theorem found1000 {s : By} (h : Ows wz w d (scrM [(1000, s)] [(1000, 14)]) Os) (h1 : cutF s = some ([97], [120])) (h2 : cutF [120] = none) (h3 : s.length = 14) (h4 : s.drop 13 = [120]) {a : Option Addr} {c : Nat} (hw : Fds w a [(1, 1000, 13), (7, 1000, 1)]) : Calls Tryz.prog 30 #[.pointer (some ⟨d, 0, none⟩), .slice a 2 c] w fun e w'=>e = .returned (.bool true)∧Kept (fun _=>False) w w' :=
 found_any h rfl (Or.inl (fun x hx=>by simp [scrM] at hx; subst hx; show (1000 : Int) ≤ 1000; omega)) (Or.inr ⟨s, rfl⟩) [(1, 1000, 13), (7, 1000, 1)] (scr_det1000 h1 h2 h3 h4) a 2 c rfl hw (by simp)
end
theorem scr_few : (scrM [(1000, [])] []).files.length + (scrM [(1000, [])] []).loose.length < 300000000:=by
 show 1 + 0 < 300000000
 omega
theorem scr_append2 {wz w : World} {d : Nat} {Os : List Ob} {x : ByteArray} {s : By} (h : Ows wz w d (scrM [(1000, [])] []) Os) (hx : x.data.toList = s) (hs : s.length = 14) :
  Calls Tryz.prog 33 #[.pointer (some ⟨d, 0, none⟩), .int .i64 1000, .string x] w fun e w'=>e = .returned (.int .i64 0)∧Ows wz w' d (scrM [(1000, s)] [(1000, 14)]) Os:=by
 subst hx
 exact h.dappend 1000 ⟨by decide, by decide⟩ x scr_few (scr_append _ hs)
theorem scrubbed_any (w : World) (ht : Tab w) : Calls Tryz.prog 6 #[] w fun e w'=>e = .returned (.bool true)∧Kept (fun _=>False) w w':=by
 have HT:=Lib.hid ht
 clear ht
 obtain ⟨t, htt⟩ : ∃ t : ByteArray, t = ⟨(frameF [97]).toArray⟩:=⟨_, rfl⟩
 have HP:=Lib.hid (show ∀ w1, Tab w1 → Calls Tryz.prog 29 #[.string ⟨#[97]⟩] w1 fun e w'=>e = .returned (.tuple #[.string t, .int .i64 0])∧Kept (fun _=>False) w1 w' from fun w1 ht=>by rw [htt]; exact frame_any w1 ⟨#[97]⟩ (by decide) ht)
 obtain ⟨s, hs⟩ : ∃ s, s = frameF [97] ++ [120]:=⟨_, rfl⟩
 obtain ⟨f1, f2, f3, f4⟩:=frame_a
 rw [← hs] at f1 f2 f3
 have htd : t.data.toList = frameF [97]:=by rw [htt]
 have hts : t.size = 13:=by
  have : t.data.toList.length = 13:=by rw [htd, frameF_len]; rfl
  simpa using this
 have HF:=Lib.hid (And.intro f1 (And.intro f2 (And.intro f3 (And.intro f4 (show (t ++ ⟨#[120]⟩).data.toList = s from by rw [hs, ← htd]; simp)))))
 clear f1 f2 f3 f4 hs htd htt
 have HAP:=Lib.hid (fun w7 d (h : Ows w w7 d (scrM [(1000, [])] []) [])=>scr_append2 h HF.out.2.2.2.2 HF.out.1)
 go_enter Tryz.func6, Tryz.ntmps6
 go_upto_region 5 with (first
  | (go_at_call 7; refine (new_ok _ 1000 (by omega) (by omega)).mono ?_; rintro e w1 hnew; obtain ⟨d, rfl, hA1, k1⟩:=Apart.made _ hnew; have HO1 : Hid (Ows w w1 d (scrM [] []) []):=Lib.hid (Ows.made hA1 HT.out k1); clear hnew hA1 k1)
  | (go_at_call 29; refine (HP.out _ HO1.out.tab).mono ?_; rintro e w2 ⟨rfl, k2⟩; have HO2:=Lib.hid (HO1.out.same k2); clear k2)
  | (go_at_call 30; with_reducible refine (found0 HO2.out).mono ?_; rintro e w3 ⟨rfl, k3⟩; have HO3:=Lib.hid (HO2.out.same k3); clear k3)
  | (go_at_call 31; with_reducible refine (HO3.out.dcreate 5 (by omega) (by decide) scr_create5).mono ?_; rintro e w4 ⟨rfl, h4⟩; have HO4:=Lib.hid h4; clear h4)
  | (go_at_call 30; refine (found5 (HO4.out.same ((Kept.refl _ _).alloc _)) (fds_new1 w4 (2, 5, 0))).mono ?_; rintro e w5 ⟨rfl, k5⟩; have HO5:=Lib.hid ((HO4.out.same ((Kept.refl _ _).alloc _)).same k5); clear k5)
  | (go_at_call 32; with_reducible refine (HO5.out.ddelete 5 (by omega) scr_delete5).mono ?_; rintro e w6 ⟨rfl, h6⟩; have HO6:=Lib.hid h6; clear h6)
  | (go_at_call 31; with_reducible refine (HO6.out.dcreate 1000 (by omega) (by decide) scr_create1000).mono ?_; rintro e w7 ⟨rfl, h7⟩; have HO7:=Lib.hid h7; clear h7)
  | (go_at_call 33; refine (HAP.out w7 d HO7.out).mono ?_; rintro e w8 ⟨rfl, h8⟩; have HO8:=Lib.hid h8; clear h8))
 go_wp2_with (go_at_call 30; refine (found1000 (HO8.out.same ((Kept.refl _ _).alloc _)) HF.out.2.1 HF.out.2.2.2.1 HF.out.1 HF.out.2.2.1 (fds_new2 w8 (1, 1000, 13) (7, 1000, 1))).mono ?_; rintro e w9 ⟨rfl, k9⟩; have HO9:=Lib.hid ((HO8.out.same ((Kept.refl _ _).alloc _)).same k9); clear k9)
 go_ret
 exact ⟨rfl, HO9.out.old⟩
end Go.Proofs.YtpmdlkogccojmaaGreatDoor
