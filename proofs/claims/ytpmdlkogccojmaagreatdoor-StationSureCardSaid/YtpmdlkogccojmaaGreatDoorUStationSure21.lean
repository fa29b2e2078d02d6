/- Lam4 Lam5 Lam6 Lam7 -/
import Derived.Lib.LazyBuf
import Derived.BigQuiet
import Derived.Test.YtpmdlkogccojmaaGreatDoorUStationSure19
import Derived.Test.YtpmdlkogccojmaaGreatDoorUStationSure20
import Derived.Test.YtpmdlkogccojmaaGreatDoorUStationSure07
set_option linter.unusedVariables false
set_option linter.unusedSimpArgs false
set_option maxRecDepth 100000
set_option maxHeartbeats 16000000
namespace Go.Proofs.YtpmdlkogccojmaaGreatDoor
open Go.RowKit
structure SignSt (w wr : World) (sb ob : Nat) (v : Value) (P : List By) (sv ov : Value) (A B : By) : Prop where
 s : BldR wr sb sv A
 o : BldR wr ob ov B
 sOwn : ∀ q, sv.ownBlock = some q → sb ≤ q∧q ≠ ob
 oOwn : ∀ q, ov.ownBlock = some q → sb ≤ q∧q ≠ sb∧sv.ownBlock ≠ some q
 pub : Row wr 24 32 v (hcells P)
 pOwn : ∀ q, v.ownBlock = some q → q < sb
 base : w.heap.size ≤ sb
 kept : Kept (fun _=>False) w wr
 ne : sb < ob
section
variable {w wr w' : World} {sb ob : Nat} {v sv ov : Value} {P : List By} {A B : By}
theorem SignSt.same (h : SignSt w wr sb ob v P sv ov A B) (k : Kept (fun _=>False) wr w') : SignSt w w' sb ob v P sv ov A B :=
 ⟨h.s.same k, h.o.same k, h.sOwn, h.oOwn, h.pub.kept k (fun _ _=>id), h.pOwn, h.base, h.kept.trans k, h.ne⟩
theorem SignSt.writeS (h : SignSt w wr sb ob v P sv ov A B) (s : By) (hl : A.length + s.length ≤ 1000000000) :
  Calls Tryz.prog 120 #[.pointer (some ⟨sb, 0, none⟩), .string ⟨s.toArray⟩] wr fun e w'=>e = .returned (.tuple #[.int .i64 (⟨s.toArray⟩ : ByteArray).size, .nilIface])∧∃ sv', SignSt w w' sb ob v P sv' ov (A ++ s) B:=by
 have hz : (⟨s.toArray⟩ : ByteArray).size = s.length:=by show s.toArray.size = _; simp
 refine (writeString_r ⟨s.toArray⟩ h.s (by rw [hz]; exact hl)).mono ?_
 rintro e w2 ⟨sv', rfl, hb, hk, ho⟩
 have hne:=h.ne
 have holt:=h.o.lt
 refine ⟨rfl, sv', hb, h.o.kept hk (fun e=>?_) (fun q hq e=>?_), fun q hq=>?_, fun q hq=>?_, h.pub.kept hk (fun q hq e=>?_), h.pOwn, h.base, h.kept.then_ hk (fun i hi e=>?_), h.ne⟩
 ·rcases e with e | e
  ·omega
  ·exact (h.sOwn _ e).2 rfl
 ·rcases e with e | e
  ·exact (h.oOwn q hq).2.1 e
  ·exact (h.oOwn q hq).2.2 e
 ·rcases ho q hq with e | e
  ·exact h.sOwn q e
  ·omega
 ·obtain ⟨h1, h2, h3⟩:=h.oOwn q hq
  refine ⟨h1, h2, fun e=>?_⟩
  rcases ho q e with e' | e'
  ·exact h3 e'
  ·have:=h.o.2.lt hq; omega
 ·have hp:=h.pOwn q hq
  rcases e with e | e
  ·omega
  ·have:=(h.sOwn q e).1; omega
 ·have hbs:=h.base
  rcases e with e | e
  ·omega
  ·have:=(h.sOwn i e).1; omega
theorem SignSt.writeO (h : SignSt w wr sb ob v P sv ov A B) (s : By) (hl : B.length + s.length ≤ 1000000000) :
  Calls Tryz.prog 120 #[.pointer (some ⟨ob, 0, none⟩), .string ⟨s.toArray⟩] wr fun e w'=>e = .returned (.tuple #[.int .i64 (⟨s.toArray⟩ : ByteArray).size, .nilIface])∧∃ ov', SignSt w w' sb ob v P sv ov' A (B ++ s):=by
 have hz : (⟨s.toArray⟩ : ByteArray).size = s.length:=by show s.toArray.size = _; simp
 refine (writeString_r ⟨s.toArray⟩ h.o (by rw [hz]; exact hl)).mono ?_
 rintro e w2 ⟨ov', rfl, hb, hk, ho⟩
 have hne:=h.ne
 have hslt:=h.s.lt
 refine ⟨rfl, ov', h.s.kept hk (fun e=>?_) (fun q hq e=>?_), hb, h.sOwn, fun q hq=>?_, h.pub.kept hk (fun q hq e=>?_), h.pOwn, h.base, h.kept.then_ hk (fun i hi e=>?_), h.ne⟩
 ·rcases e with e | e
  ·omega
  ·exact (h.oOwn _ e).2.1 rfl
 ·rcases e with e | e
  ·exact (h.sOwn q hq).2 e
  ·exact (h.oOwn q e).2.2 hq
 ·rcases ho q hq with e | e
  ·exact h.oOwn q e
  ·refine ⟨by omega, by omega, fun e2=>?_⟩
   have:=h.s.2.lt e2; omega
 ·have hp:=h.pOwn q hq
  rcases e with e | e
  ·omega
  ·have:=(h.oOwn q e).1; omega
 ·have hbs:=h.base
  rcases e with e | e
  ·omega
  ·have:=(h.oOwn i e).1; omega
end
theorem secretsF_succ (seed : By) (index : Nat) (d : By) (k : Nat) : secretsF seed index d (k + 1) = secretsF seed index d k ++ secretF seed index k (bitAt d k):=by
 unfold secretsF
 rw [List.range_succ, List.flatMap_append]
 simp
theorem othersF_succ (seed : By) (index : Nat) (d : By) (k : Nat) (h : By) (hh : (publicF seed index)[2 * k + 1 - bitAt d k]? = some h) : othersF seed index d (k + 1) = othersF seed index d k ++ h:=by
 unfold othersF
 rw [List.range_succ, List.flatMap_append]
 simp [hh]
theorem sign_any (w : World) (seed : ByteArray) (index : Nat) (d : By) (hd : d.length = 32) (hs : seed.size ≤ 1000) (h1 : index < 2147483648) (ht : Tab w) :
  Calls Tryz.prog 117 #[.string seed, .int .i64 (index : Int), hashV d] w fun e w'=>e = .returned (.string ⟨(signF seed.data.toList index d).toArray⟩)∧Kept (fun _=>False) w w':=by
 have k0 : Kept (fun _=>False) w (w.alloc (.cells (bytes8 d).toArray 24)):=(Kept.refl _ _).alloc _
 have hbd:=Blk.new w (bytes8 d) 24
 have h32:=public_32 seed.data.toList index
 have hL:=publicF_len seed.data.toList index
 have hpub : Calls Tryz.prog 128 #[.string seed, .int .i64 (index : Int)] (w.alloc (.cells (bytes8 d).toArray 24)) (fun e w2=>∃ g cap, e = .returned (.slice (some ⟨g, 0, none⟩) 512 cap)∧Hid (w2.rangeAt w.heap.size 0 (bytes8 d)∧Row w2 24 32 (.slice (some ⟨g, 0, none⟩) 512 cap) (hcells (publicF seed.data.toList index))∧g < w2.heap.size∧Kept (fun _=>False) w w2)):=by
  refine (public_any _ seed index hs h1 (ht.same k0)).mono ?_
  rintro e w2 ⟨v, rfl, hrow, hown, hk⟩
  have hrow2:=hrow
  rcases hrow with ⟨rfl, hx⟩ | ⟨g, n, cap, rest, rfl, q1, q2, q3, q4, q5⟩
  ·have:=hcells_len h32
   rw [hx, hL] at this
   simp at this
  ·rw [hcells_len h32, hL] at q1
   obtain rfl : n = 512:=by omega
   exact ⟨g, cap, rfl, Lib.hid ⟨(hbd.kept hk id).range0, hrow2, q2.lt, k0.trans hk⟩⟩
 have HP:=Lib.hid hpub
 have HD:=Lib.hid (show (Tryz.prog.info? 24).map (·.size) = some (bytes8 d).length by rw [bytes8_len, hd]; exact info_h32)
 have HH:=Lib.hid (fun w'=>hash_any w' d hd)
 have heq:=fun w a l c=>run_eql_slice_nil (P:=Tryz.prog) w 47 24 a l c Tryz.underlying47
 clear hpub hbd k0
 go_enter Tryz.func117, Tryz.ntmps117
 go_wp2_with (first | (go_at_call 128; refine HP.out.mono ?_; rintro e w2 ⟨g, cap, rfl, HG⟩) | ((with_reducible show wpList _ _ _ (⟨some 18, _, _, _, _, _⟩::_) _ _); refine wpList_load_mid rfl 24 _ rfl w.heap.size 0 rfl (bytes8 d) _ HG.out.1 Tryz.underlying24 rfl HD.out ?_) | (go_at_call 101; refine (HH.out _).mono ?_; rintro e w3 ⟨rfl, hk3⟩))
 have hst0 : SignSt w ((w3.alloc (.cells #[.pointer none, .slice none 0 0] 199)).alloc (.cells #[.pointer none, .slice none 0 0] 199)) w3.heap.size (w3.heap.size + 1) (.slice (some ⟨g, 0, none⟩) 512 cap) (publicF seed.data.toList index) (.slice none 0 0) (.slice none 0 0) (secretsF seed.data.toList index d 0) (othersF seed.data.toList index d 0):=by
  have ka : Kept (fun _=>False) w3 ((w3.alloc (.cells #[.pointer none, .slice none 0 0] 199)).alloc (.cells #[.pointer none, .slice none 0 0] 199)):=((Kept.refl _ _).alloc _).alloc _
  have ho:=BldR.fresh (w3.alloc (.cells #[.pointer none, .slice none 0 0] 199))
  rw [World.size_alloc] at ho
  refine ⟨(BldR.fresh w3).same ((Kept.refl _ _).alloc _), ho, fun q hq=>by simp [Value.ownBlock] at hq, fun q hq=>by simp [Value.ownBlock] at hq, (HG.out.2.1.kept hk3 (fun _ _=>id)).kept ka (fun _ _=>id), fun q hq=>?_, ?_, (HG.out.2.2.2.trans hk3).trans ka, Nat.lt_succ_self _⟩
  ·simp [Value.ownBlock] at hq
   have:=HG.out.2.2.1
   have:=hk3.size
   omega
  ·exact Nat.le_trans HG.out.2.2.2.size hk3.size
 have HS0:=Lib.hid hst0
 clear hst0
 generalize hsb : w3.heap.size = sb at *
 clear hsb
 go_loopw [20] (fun x wr=>∃ k : Nat, x = .int .i64 (k : Int)∧k ≤ 256∧∃ sv ov, SignSt w wr sb (sb + 1) (.slice (some ⟨g, 0, none⟩) 512 cap) (publicF seed.data.toList index) sv ov (secretsF seed.data.toList index d k) (othersF seed.data.toList index d k)) (fun x _=>256 - (intOf x).toNat)
 case atStart=>exact ⟨0, rfl, by omega, _, _, HS0.out⟩
 case round =>
  obtain ⟨k, rfl, hk, sv, ov, hst⟩:=hrel
  by_cases hlt : k < 256
  ·have z1 : decide ((k : Int) < 256) = true:=decide_eq_true (by omega)
   have z2 : decide (k < 256) = true:=decide_eq_true hlt
   have hbit:=fun w'=>bit_any w' ⟨d.toArray⟩ k (by show k / 8 < d.toArray.size; rw [List.size_toArray, hd]; omega) (by omega)
   have hbl:=bitAt_lt d k
   have e0 : bitAt (⟨d.toArray⟩ : ByteArray).data.toList k = bitAt d k:=rfl
   rw [e0] at hbit
   clear e0
   have hss:=secretsF_succ seed.data.toList index d k
   have hos:=othersF_succ seed.data.toList index d k
   generalize bitAt d k = bt at *
   obtain ⟨m, hm⟩ : ∃ m, 2 * k + 1 - bt = m:=⟨_, rfl⟩
   rw [hm] at hos
   obtain ⟨O, hO⟩ : ∃ O, (publicF seed.data.toList index)[m]? = some O:=⟨_, List.getElem?_eq_getElem (by rw [hL]; omega)⟩
   have hos:=hos O hO
   have hO32:=h32 O (List.mem_of_getElem? hO)
   have hsec:=secret_any wr seed index k bt hs h1 hlt hbl (ht.same hst.kept)
   have hS32:=secretF_len seed.data.toList index k bt
   generalize secretF seed.data.toList index k bt = S at *
   have hla:=secretsF_len seed.data.toList index d k
   have hlb:=othersF_len seed.data.toList index d k (by omega)
   have hw1 : ∀ w2, Kept (fun _=>False) wr w2 → Calls Tryz.prog 120 #[.pointer (some ⟨sb, 0, none⟩), .string ⟨S.toArray⟩] w2 (fun e w4=>e = .returned (.tuple #[.int .i64 (⟨S.toArray⟩ : ByteArray).size, .nilIface])∧Hid ((∃ sv', SignSt w w4 sb (sb + 1) (.slice (some ⟨g, 0, none⟩) 512 cap) (publicF seed.data.toList index) sv' ov (secretsF seed.data.toList index d (k + 1)) (othersF seed.data.toList index d k))∧w4.rangeAt g (m * 32) (bytes8 O))):=by
    intro w2 hk2
    refine ((hst.same hk2).writeS S (by omega)).mono ?_
    rintro e w4 ⟨rfl, sv', h4⟩
    rw [← hss] at h4
    have hr:=rangeAt_mid (h4.pub.view.range rfl (by omega)) (m * 32) 32
    rw [hcells_at h32 m O hO, Nat.zero_add] at hr
    exact ⟨rfl, Lib.hid ⟨⟨sv', h4⟩, hr⟩⟩
   have hw2 : ∀ w4, (∃ sv', SignSt w w4 sb (sb + 1) (.slice (some ⟨g, 0, none⟩) 512 cap) (publicF seed.data.toList index) sv' ov (secretsF seed.data.toList index d (k + 1)) (othersF seed.data.toList index d k)) → ∀ w5, Kept (fun _=>False) w4 w5 → Calls Tryz.prog 120 #[.pointer (some ⟨sb + 1, 0, none⟩), .string ⟨O.toArray⟩] w5 (fun e w6=>e = .returned (.tuple #[.int .i64 (⟨O.toArray⟩ : ByteArray).size, .nilIface])∧Hid (∃ sv' ov', SignSt w w6 sb (sb + 1) (.slice (some ⟨g, 0, none⟩) 512 cap) (publicF seed.data.toList index) sv' ov' (secretsF seed.data.toList index d (k + 1)) (othersF seed.data.toList index d (k + 1)))):=by
    rintro w4 ⟨sv', h4⟩ w5 hk5
    refine ((h4.same hk5).writeO O (by omega)).mono ?_
    rintro e w6 ⟨rfl, ov', h6⟩
    rw [← hos] at h6
    exact ⟨rfl, Lib.hid ⟨sv', ov', h6⟩⟩
   have HB:=Lib.hid hbit
   have HS:=Lib.hid hsec
   have HHS:=Lib.hid (fun w'=>hash_any w' S hS32)
   have HHO:=Lib.hid (fun w'=>hash_any w' O hO32)
   have HW1:=Lib.hid hw1
   have HW2:=Lib.hid hw2
   have HIO:=Lib.hid (show (Tryz.prog.info? 24).map (·.size) = some (bytes8 O).length by rw [bytes8_len, hO32]; exact info_h32)
   have HL:=Lib.hid hlt
   have j1 : (k : Int) < 256:=by omega
   have j2 : (0 : Int) ≤ (k : Int):=by omega
   have j3 : (bt : Int) < 2:=by omega
   have j4 : (0 : Int) ≤ (bt : Int):=by omega
   have j5 : 2 * (k : Int) + 1 - (bt : Int) = (m : Int):=by omega
   have j6 : (m : Int) < 512:=by omega
   have j7 : (0 : Int) ≤ (m : Int):=by omega
   clear hbit hsec hw1 hw2 hss hos hla hlb hO32 hS32 hO hm hst hbl hlt hL h32 hd heq
   go_wp2_with (first | (go_at_call 131; refine (HB.out _).mono ?_; rintro e w' ⟨rfl, rfl⟩) | (go_at_call 149; refine HS.out.mono ?_; rintro e w1 ⟨rfl, hk1⟩) | (go_at_call 101; with_reducible refine (HHS.out _).mono ?_; rintro e w2 ⟨rfl, hk2⟩) | (go_at_call 120; with_reducible refine (HW1.out _ (hk1.trans hk2)).mono ?_; rintro e w4 ⟨rfl, HM⟩) | ((with_reducible show wpList _ _ _ (⟨some 40, _, _, _, _, _⟩::_) _ _); refine wpList_load_mid rfl 24 _ rfl g (m * 32) rfl (bytes8 O) _ HM.out.2 Tryz.underlying24 rfl HIO.out ?_) | (go_at_call 101; with_reducible refine (HHO.out _).mono ?_; rintro e w5 ⟨rfl, hk5⟩) | (go_at_call 120; with_reducible refine (HW2.out _ HM.out.1 _ hk5).mono ?_; rintro e w6 ⟨rfl, HF⟩))
   obtain ⟨sv', ov', h6⟩:=HF.out
   exact ⟨⟨k + 1, rfl, HL.out, sv', ov', h6⟩, check_meas0 HL.out⟩
  ·have z1 : decide ((k : Int) < 256) = false:=decide_eq_false (by omega)
   have z2 : decide (k < 256) = false:=decide_eq_false hlt
   obtain rfl : k = 256:=by omega
   have hsig : signF seed.data.toList index d = secretsF seed.data.toList index d 256 ++ othersF seed.data.toList index d 256:=rfl
   have hla:=secretsF_len seed.data.toList index d 256
   have hlb:=othersF_len seed.data.toList index d 256 (Nat.le_refl _)
   generalize secretsF seed.data.toList index d 256 = A at *
   generalize othersF seed.data.toList index d 256 = B at *
   have hA : A ≠ []:=fun e=>by rw [e] at hla; simp at hla
   have hB : B ≠ []:=fun e=>by rw [e] at hlb; simp at hlb
   have hs1 : Calls Tryz.prog 125 #[.pointer (some ⟨sb, 0, none⟩)] wr (fun e w1=>e = .returned (.string ⟨A.toArray⟩)∧Hid (BldR w1 (sb + 1) ov B∧Kept (fun _=>False) w w1)):=by
    refine (string_r hst.s hA (by omega)).mono ?_
    rintro e w1 ⟨rfl, hk1⟩
    refine ⟨rfl, Lib.hid ⟨hst.o.kept hk1 (fun e=>(hst.sOwn _ e).2 rfl) (fun q hq e=>(hst.oOwn q hq).2.2 e), hst.kept.then_ hk1 (fun i hi e=>?_)⟩⟩
    have:=(hst.sOwn i e).1
    have:=hst.base
    omega
   have hs2 : ∀ w1, Hid (BldR w1 (sb + 1) ov B∧Kept (fun _=>False) w w1) → Calls Tryz.prog 125 #[.pointer (some ⟨sb + 1, 0, none⟩)] w1 (fun e w2=>e = .returned (.string ⟨B.toArray⟩)∧Kept (fun _=>False) w w2):=by
    intro w1 H1
    refine (string_r H1.out.1 hB (by omega)).mono ?_
    rintro e w2 ⟨rfl, hk2⟩
    refine ⟨rfl, H1.out.2.then_ hk2 (fun i hi e=>?_)⟩
    have:=(hst.oOwn i e).1
    have:=hst.base
    omega
   have HS1:=Lib.hid hs1
   have HS2:=Lib.hid hs2
   have HSG:=Lib.hid hsig
   have x1 : (⟨A.toArray⟩ : ByteArray).size + (⟨B.toArray⟩ : ByteArray).size ≤ 16384:=by show A.toArray.size + B.toArray.size ≤ 16384; simp; omega
   clear hs1 hs2 hsig hst hla hlb hA hB hlt hL h32 hd heq
   go_wp2_with (first | (go_at_call 125; with_reducible refine HS1.out.mono ?_; rintro e w1 ⟨rfl, H1⟩) | (go_at_call 125; with_reducible refine (HS2.out _ H1).mono ?_; rintro e w2 ⟨rfl, hkf⟩))
   go_ret
   exact ⟨by rw [HSG.out, ← bstr_cat]; rfl, hkf⟩
theorem splice_get {c : List Value} {o : Nat} {vs : List Value} (h : o + vs.length ≤ c.length) (j : Nat) : (splice c o vs)[j]? = if j < o then c[j]? else if j < o + vs.length then vs[j - o]? else c[j]?:=by
 unfold splice
 have h1 : (c.take o).length = o:=by simp; omega
 split
 ·rw [List.append_assoc, List.getElem?_append_left (by omega), List.getElem?_take_of_lt (by omega)]
 ·split
  ·rw [List.append_assoc, List.getElem?_append_right (by omega), List.getElem?_append_left (by omega), h1]
  ·rw [List.getElem?_append_right (by rw [List.length_append]; omega), List.length_append, h1, List.getElem?_drop]
   congr 1
   omega
theorem splice_comm {c xs ys : List Value} {o1 o2 : Nat} (h1 : o1 + xs.length ≤ o2) (h2 : o2 + ys.length ≤ c.length) : splice (splice c o2 ys) o1 xs = splice (splice c o1 xs) o2 ys:=by
 apply List.ext_getElem?
 intro j
 rw [splice_get (by rw [splice_len h2]; omega), splice_get h2, splice_get (by rw [splice_len (by omega)]; omega), splice_get (by omega)]
 by_cases a : j < o1
 ·rw [if_pos a, if_pos (by omega), if_pos (by omega), if_pos a]
 ·by_cases b : j < o1 + xs.length
  ·rw [if_neg a, if_pos b, if_pos (by omega), if_neg a, if_pos b]
  ·rw [if_neg a, if_neg b]
   by_cases c2 : j < o2
   ·rw [if_pos c2, if_pos c2, if_neg a, if_neg b]
   ·rw [if_neg c2, if_neg c2]
    by_cases d : j < o2 + ys.length
    ·rw [if_pos d, if_pos d]
    ·rw [if_neg d, if_neg d, if_neg a, if_neg b]
theorem listTo_two {L : List By} (h : ∀ x ∈ L, x.length = 32) (hL : L.length = 512) (k bt : Nat) (hk : k < 256) (hb : bt < 2) (X Y : By) (hX : L[2 * k + bt]? = some X) (hY : L[2 * k + 1 - bt]? = some Y) :
  splice (splice (listTo L (2 * k)) ((2 * k + bt) * 32) (bytes8 X)) ((2 * k + 1 - bt) * 32) (bytes8 Y) = listTo L (2 * (k + 1)):=by
 have hX32:=h X (List.mem_of_getElem? hX)
 have hY32:=h Y (List.mem_of_getElem? hY)
 have hl:=listTo_len h hL (2 * k) (by omega)
 rcases (show bt = 0 ∨ bt = 1 by omega) with rfl | rfl
 ·rw [Nat.add_zero] at hX ⊢
  rw [Nat.sub_zero] at hY ⊢
  rw [listTo_step h hL (2 * k) X hX, listTo_step h hL (2 * k + 1) Y hY]
  rfl
 ·rw [Nat.add_sub_cancel] at hY ⊢
  rw [splice_comm (by rw [bytes8_len]; omega) (by rw [bytes8_len, hl]; omega), listTo_step h hL (2 * k) Y hY, listTo_step h hL (2 * k + 1) X hX]
  rfl
theorem recoveredF_len (sig d : By) : (recoveredF sig d).length = 512:=by unfold recoveredF; rw [List.length_map, List.length_range]
theorem recoveredF_at (sig d : By) (k : Nat) (hk : k < 512) : (recoveredF sig d)[k]? = some (saidF sig d k):=by
 unfold recoveredF
 rw [List.getElem?_map, List.getElem?_range hk]
 rfl
theorem recovered_32 (sig d : By) (hs : sig.length = 16384) : ∀ x ∈ recoveredF sig d, x.length = 32:=by
 intro x hx
 unfold recoveredF at hx
 obtain ⟨k, hk, rfl⟩:=List.mem_map.1 hx
 rw [List.mem_range] at hk
 unfold saidF
 split
 ·exact shownF_len _
 ·rw [List.length_take, List.length_drop]; omega
theorem recovered_bit (sig d : By) (k : Nat) (hk : k < 256) : (recoveredF sig d)[2 * k + bitAt d k]? = some (shownF ((sig.drop (k * 32)).take 32)):=by
 have hb:=bitAt_lt d k
 rw [recoveredF_at _ _ _ (by omega)]
 unfold saidF
 rw [show (2 * k + bitAt d k) / 2 = k by omega, if_pos (by omega)]
theorem recovered_other (sig d : By) (k : Nat) (hk : k < 256) : (recoveredF sig d)[2 * k + 1 - bitAt d k]? = some ((sig.drop ((256 + k) * 32)).take 32):=by
 have hb:=bitAt_lt d k
 rw [recoveredF_at _ _ _ (by omega)]
 unfold saidF
 rw [show (2 * k + 1 - bitAt d k) / 2 = k by omega, if_neg (by omega)]
theorem Blk.result2 {P : Program} {w : World} {b : Nat} {c : List Value} {t ty : TypeId} {d : TypeDesc} {fn : Func} {p u : Tmp} {tmps : Array Value} (h : Blk w b c t) (hf : fn.results = #[.cell p ty, .tmp u]) (hp : tmps.getD p undef = .pointer (some ⟨b, 0, none⟩))
  (hu : P.underlying ty = some d) (hd : (match d with | .struct _ | .array _ _=>true | _=>false) = true) (hi : (P.info? ty).map (·.size) = some c.length) :
  (results fn tmps).run P w = .ok (.tuple #[.agg c.toArray, tmps.getD u undef]) w:=by
 have hp' : tmps[p]?.getD undef = .pointer (some ⟨b, 0, none⟩):=by simpa using hp
 simp [results, hf, hp', asAddr, run_loadVar_row w b t ty c.toArray (0, 0) d h hu hd (by rw [hi, List.size_toArray])]
theorem extract_drop (s : ByteArray) (a b : Nat) : (s.extract a b).data.toList = (s.data.toList.drop a).take (b - a):=by
 rw [ByteArray.data_extract, Array.toList_extract, List.extract_eq_take_drop]
theorem recover_any (w : World) (sig : ByteArray) (d : By) (hsz : sig.size = 16384) (hd : d.length = 32) (ht : Tab w) :
  Calls Tryz.prog 98 #[.string sig, hashV d] w fun e w'=>e = .returned (.tuple #[hashV (leafF (recoveredF sig.data.toList d)), .int .i64 0])∧Kept (fun _=>False) w w':=by
 have hbd:=(Blk.new w (bytes8 d) 24).alloc (.cells (zeros 32).toArray 24)
 have hbr:=Blk.new (w.alloc (.cells (bytes8 d).toArray 24)) (zeros 32) 24
 rw [World.size_alloc] at hbr
 have k0 : Kept (fun _=>False) w ((w.alloc (.cells (bytes8 d).toArray 24)).alloc (.cells (zeros 32).toArray 24)):=((Kept.refl _ _).alloc _).alloc _
 have hsl : sig.data.toList.length = 16384:=by rw [bstr_len, hsz]
 have h32:=recovered_32 sig.data.toList d hsl
 have hL:=recoveredF_len sig.data.toList d
 have HRB:=Lib.hid (recovered_bit sig.data.toList d)
 have HRO:=Lib.hid (recovered_other sig.data.toList d)
 have hmk:=make_hashes
 have hz0:=listTo_zero (recoveredF sig.data.toList d)
 generalize zeros 16384 = Z at hmk hz0
 have HZ:=Lib.hid hz0
 clear hz0
 generalize recoveredF sig.data.toList d = R at *
 have HRD:=Lib.hid (And.intro hbd.range0 (show (Tryz.prog.info? 24).map (·.size) = some (bytes8 d).length by rw [bytes8_len, hd]; exact info_h32))
 have hhash : Calls Tryz.prog 101 #[hashV d] ((w.alloc (.cells (bytes8 d).toArray 24)).alloc (.cells (zeros 32).toArray 24)) (fun e w3=>e = .returned (.string ⟨d.toArray⟩)∧Hid (Blk w3 (w.heap.size + 1) (zeros 32) 24∧Kept (fun _=>False) w w3)) :=
  (hash_any _ d hd).mono (fun e w3 q=>⟨q.1, Lib.hid ⟨hbr.kept q.2 id, k0.trans q.2⟩⟩)
 have HH:=Lib.hid hhash
 clear hhash hbd hbr k0
 go_enter Tryz.func98, Tryz.ntmps98
 go_wp2_with (first | ((with_reducible show wpList _ _ _ (⟨some 16, _, _, _, _, _⟩::_) _ _); refine wpList_load_mid rfl 24 _ rfl w.heap.size 0 rfl (bytes8 d) _ HRD.out.1 Tryz.underlying24 rfl HRD.out.2 ?_) | (go_at_call 101; refine HH.out.mono ?_; rintro e w3 ⟨rfl, H3⟩))
 have hp0 : Blk (w3.alloc (.cells Z.toArray 24)) w3.heap.size (listTo R 0) 24:=by rw [HZ.out]; exact Blk.new w3 Z 24
 have hlt3 : w.heap.size + 1 < w3.heap.size:=H3.out.1.lt
 generalize hpb : w3.heap.size = pb at *
 go_loopw [19] (fun x wr=>∃ k : Nat, x = .int .i64 (k : Int)∧k ≤ 256∧Blk wr pb (listTo R (2 * k)) 24∧Blk wr (w.heap.size + 1) (zeros 32) 24∧Kept (fun _=>False) w wr) (fun x _=>256 - (intOf x).toNat)
 case atStart=>exact ⟨0, rfl, by omega, hp0, H3.out.1.alloc _, H3.out.2.alloc _⟩
 case round =>
  obtain ⟨k, rfl, hk, hblk, hrb, hkw⟩:=hrel
  by_cases hlt : k < 256
  ·have z1 : decide ((k : Int) < 256) = true:=decide_eq_true (by omega)
   have z2 : decide (k < 256) = true:=decide_eq_true hlt
   have hbit:=fun w'=>bit_any w' ⟨d.toArray⟩ k (by show k / 8 < d.toArray.size; rw [List.size_toArray, hd]; omega) (by omega)
   have hbl:=bitAt_lt d k
   have e0 : bitAt (⟨d.toArray⟩ : ByteArray).data.toList k = bitAt d k:=rfl
   rw [e0] at hbit
   clear e0
   have hX:=HRB.out k hlt
   have hY:=HRO.out k hlt
   generalize bitAt d k = bt at *
   have hx1 : (sig.extract (k * 32) ((k + 1) * 32)).data.toList = (sig.data.toList.drop (k * 32)).take 32:=by rw [extract_drop]; congr 1; omega
   have hx2 : (sig.extract (k * 32) ((k + 1) * 32)).size = 32:=by rw [ByteArray.size_extract]; omega
   have hy2 : 32 ≤ (sig.extract ((256 + k) * 32) sig.size).size:=by rw [ByteArray.size_extract]; omega
   have hy1 : ((sig.extract ((256 + k) * 32) sig.size).extract 0 32).data.toList = (sig.data.toList.drop ((256 + k) * 32)).take 32:=by
    rw [extract_drop, extract_drop, List.drop_zero, List.take_take, hsz]
    congr 1
    omega
   have hun : unhashAt (sig.extract ((256 + k) * 32) sig.size) = #[hashV ((sig.data.toList.drop ((256 + k) * 32)).take 32), .string ((sig.extract ((256 + k) * 32) sig.size).extract 32 (sig.extract ((256 + k) * 32) sig.size).size), .bool true]:=by
    unfold unhashAt; rw [if_pos hy2, hy1]
   rw [hsz] at hun
   have hX32:=h32 _ (List.mem_of_getElem? hX)
   have hY32:=h32 _ (List.mem_of_getElem? hY)
   have hshn:=fun w' ht=>shown_any w' (sig.extract (k * 32) ((k + 1) * 32)) (by rw [hx2]; omega) ht
   rw [hx1] at hshn
   have hunh:=fun w'=>unhash_any w' (sig.extract ((256 + k) * 32) 16384) (by unfold Short; rw [ByteArray.size_extract]; omega)
   rw [hun] at hunh
   generalize shownF ((sig.data.toList.drop (k * 32)).take 32) = X at *
   generalize (sig.data.toList.drop ((256 + k) * 32)).take 32 = Y at *
   generalize (sig.extract ((256 + k) * 32) 16384).extract 32 (sig.extract ((256 + k) * 32) 16384).size = T at *
   have htwo:=listTo_two h32 hL k bt hlt hbl X Y hX hY
   have hlen:=listTo_len h32 hL (2 * k) (by omega)
   obtain ⟨m1, hm1⟩ : ∃ m, 2 * k + bt = m:=⟨_, rfl⟩
   obtain ⟨m2, hm2⟩ : ∃ m, 2 * k + 1 - bt = m:=⟨_, rfl⟩
   obtain ⟨p1, hp1⟩ : ∃ m, k * 32 = m:=⟨_, rfl⟩
   obtain ⟨p2, hp2⟩ : ∃ m, (k + 1) * 32 = m:=⟨_, rfl⟩
   obtain ⟨p3, hp3⟩ : ∃ m, (256 + k) * 32 = m:=⟨_, rfl⟩
   rw [hm1, hm2] at htwo
   rw [hp1, hp2] at hshn
   rw [hp3] at hunh
   have HB:=Lib.hid hbit
   have HSH:=Lib.hid hshn
   have HUN:=Lib.hid hunh
   have HT:=Lib.hid htwo
   have HLN:=Lib.hid hlen
   have HXY:=Lib.hid (And.intro hX32 hY32)
   have HL:=Lib.hid hlt
   have HM:=Lib.hid (And.intro (show m1 < 512 by omega) (show m2 < 512 by omega))
   have r1 : (p1 : Int) ≤ (p2 : Int):=by omega
   have r2 : (p2 : Int) ≤ (16384 : Int):=by omega
   have r3 : (p3 : Int) ≤ (16384 : Int):=by omega
   have r4 : (0 : Int) ≤ (p1 : Int):=by omega
   have r5 : (0 : Int) ≤ (p3 : Int):=by omega
   have j1 : (m1 : Int) < 512:=by omega
   have j2 : (m2 : Int) < 512:=by omega
   have j3 : (k : Int) < 256:=by omega
   have j4 : (0 : Int) ≤ (k : Int):=by omega
   have j5 : (bt : Int) < 2:=by omega
   have j6 : (0 : Int) ≤ (bt : Int):=by omega
   have i1 : 2 * (k : Int) + (bt : Int) = (m1 : Int):=by omega
   have i2 : 2 * (k : Int) + 1 - (bt : Int) = (m2 : Int):=by omega
   have c1 : IntKind.i64.wrap ((k : Int) * 32) = (p1 : Int):=by rw [IntWalk.i64_in _ (by omega)]; omega
   have c2 : IntKind.i64.wrap ((k : Int) + 1) = (k : Int) + 1:=IntWalk.i64_in _ (by clear c1; omega)
   have c3 : IntKind.i64.wrap (((k : Int) + 1) * 32) = (p2 : Int):=by clear c1 c2; rw [IntWalk.i64_in _ (by omega)]; omega
   have c4 : IntKind.i64.wrap (256 + (k : Int)) = 256 + (k : Int):=IntWalk.i64_in _ (by clear c1 c2 c3; omega)
   have c5 : IntKind.i64.wrap ((256 + (k : Int)) * 32) = (p3 : Int):=by clear c1 c2 c3 c4; rw [IntWalk.i64_in _ (by omega)]; omega
   clear hbit hshn hunh htwo hlen hX32 hY32 hX hY hx1 hx2 hy1 hy2 hun hm1 hm2 hp1 hp2 hp3 hlt hL h32 hd hbl hsl
   go_wp2_with (first | (go_at_call 131; refine (HB.out _).mono ?_; rintro e w' ⟨rfl, rfl⟩))
   go_quiet (fail)
   go_wp2_with (first | (go_at_call 132; refine (HSH.out _ (ht.same (hkw.drewN _))).mono ?_; rintro e w4 ⟨rfl, hk4⟩) | ((with_reducible show wpList _ _ _ (⟨none, .store _ (.tmp 44) _, _, _, _, _⟩::_) _ _); refine wpList_store_mid rfl 24 _ _ rfl pb (m1 * 32) (bytes8 X).toArray rfl rfl ?htha ?hia ?h1a ?_) | (go_at_call 133; refine (HUN.out _).mono ?_; rintro e w6 ⟨rfl, hk6⟩) | ((with_reducible show wpList _ _ _ (⟨none, .store _ (.tmp 57) _, _, _, _, _⟩::_) _ _); refine wpList_store_mid rfl 24 _ _ rfl pb (m2 * 32) (bytes8 Y).toArray rfl rfl ?hthb ?hib ?h1b ?_))
   case htha =>
    have e32 : (bytes8 X).toArray.size = 32:=by rw [List.size_toArray, bytes8_len, HXY.out.1]
    rw [e32]
    exact ((hblk.drewN _).kept hk4 id).there (m1 * 32) 32 (by rw [HLN.out]; have:=HM.out.1; omega)
   case hia=>first | exact info_hash HXY.out.1 | simpa using info_hash HXY.out.1
   case h1a=>first | exact all_oneCell_toArray (fun y hy=>u8_oneCell y hy) | exact fun y hy=>u8_oneCell y hy
   case hthb =>
    have e32 : (bytes8 Y).toArray.size = 32:=by rw [List.size_toArray, bytes8_len, HXY.out.2]
    rw [e32]
    have hb5:=((hblk.drewN nq).kept hk4 id).setCells (m1 * 32) (bytes8 X) (by rw [bytes8_len, HXY.out.1, HLN.out]; have:=HM.out.1; omega)
    exact (hb5.kept hk6 id).there (m2 * 32) 32 (by rw [splice_len (by rw [bytes8_len, HXY.out.1, HLN.out]; have:=HM.out.1; omega), HLN.out]; have:=HM.out.2; omega)
   case hib=>first | exact info_hash HXY.out.2 | simpa using info_hash HXY.out.2
   case h1b=>first | exact all_oneCell_toArray (fun y hy=>u8_oneCell y hy) | exact fun y hy=>u8_oneCell y hy
   have hb5:=((hblk.drewN nq).kept hk4 id).setCells (m1 * 32) (bytes8 X) (by rw [bytes8_len, HXY.out.1, HLN.out]; have:=HM.out.1; omega)
   have hb7:=(hb5.kept hk6 id).setCells (m2 * 32) (bytes8 Y) (by rw [bytes8_len, HXY.out.2, splice_len (by rw [bytes8_len, HXY.out.1, HLN.out]; have:=HM.out.1; omega), HLN.out]; have:=HM.out.2; omega)
   rw [HT.out] at hb7
   have ka:=kept_setCells w4 pb (m1 * 32) (bytes8 X)
   have kb:=kept_setCells w6 pb (m2 * 32) (bytes8 Y)
   have hr7:=((((hrb.drewN nq).kept hk4 id).kept ka (by omega)).kept hk6 id).kept kb (by omega)
   have hlw : w.heap.size < pb:=by omega
   exact ⟨⟨k + 1, rfl, HL.out, hb7, hr7, (((((hkw.drewN nq).trans hk4).then_ ka (fun i hi e=>by omega)).trans hk6).then_ kb (fun i hi e=>by omega))⟩, check_meas0 HL.out⟩
  ·have z1 : decide ((k : Int) < 256) = false:=decide_eq_false (by omega)
   have z2 : decide (k < 256) = false:=decide_eq_false hlt
   obtain rfl : k = 256:=by omega
   rw [show 2 * 256 = 512 from rfl, listTo_all hL] at hblk
   have hv : View wr 32 (.slice (some ⟨pb, 0, none⟩) 512 512) (hcells R):=(show Row wr 24 32 (.slice (some ⟨pb, 0, none⟩) 512 512) (hcells R) from Or.inr ⟨pb, 512, 512, [], rfl, by rw [hcells_len h32, hL], by rw [List.append_nil]; exact hblk, Nat.le_refl _, by rw [hcells_len h32, hL]; exact Nat.le_add_right _ _, by unfold maxLen; omega⟩).view
   have hlf:=(leaf_any wr _ R hv h32 hL (ht.same hkw)).mono (R':=fun e w4=>e = .returned (hashV (leafF R))∧Hid (Blk w4 (w.heap.size + 1) (zeros 32) 24∧Kept (fun _=>False) w w4)) (fun e w4 q=>⟨q.1, Lib.hid ⟨hrb.kept q.2 id, hkw.trans q.2⟩⟩)
   have hl2 : (leafF R).length = 32:=shaF_len _
   generalize hF : leafF R = F at *
   have HFE:=Lib.hid hF
   have HLF:=Lib.hid hlf
   have HF:=Lib.hid hl2
   have HI:=Lib.hid (show (Tryz.prog.info? 24).map (·.size) = some (bytes8 F).length by rw [bytes8_len, hl2]; exact info_h32)
   clear hF hlf hl2 hv hblk hrb hlt hL h32 hd hsl hmk
   go_wp2_with (first | (go_at_call 127; refine HLF.out.mono ?_; rintro e w4 ⟨rfl, H4⟩) | ((with_reducible show wpList _ _ _ (⟨none, .store _ (.tmp 4) _, _, _, _, _⟩::_) _ _); refine wpList_store_mid rfl 24 _ _ rfl (w.heap.size + 1) 0 (bytes8 F).toArray rfl rfl ?hthc ?hic ?h1c ?_))
   case hthc=>exact (hash_stored H4.out.1 (zeros_len 32) HF.out).1
   case hic=>first | exact info_hash HF.out | simpa using info_hash HF.out
   case h1c=>first | exact all_oneCell_toArray (fun y hy=>u8_oneCell y hy) | exact fun y hy=>u8_oneCell y hy
   have hst:=hash_stored H4.out.1 (zeros_len 32) HF.out
   refine bodyPost_ret (hst.2.result2 rfl rfl Tryz.underlying24 rfl HI.out) rfl ⟨by first | rfl | (rw [HFE.out]; rfl), ?_⟩
   exact H4.out.2.then_ (kept_setCells _ _ _ _) (fun i hi e=>by omega)
end Go.Proofs.YtpmdlkogccojmaaGreatDoor
