/- Lam4 Lam5 Lam6 Lam7 -/
import Derived.Lib.LazyBuf
import Derived.BigQuiet
import Derived.Test.YtpmdlkogccojmaaGreatDoorUStationNone18
import Derived.Test.YtpmdlkogccojmaaGreatDoorUStationNone19
import Derived.Test.YtpmdlkogccojmaaGreatDoorUStationNone06
set_option linter.unusedVariables false
set_option linter.unusedSimpArgs false
namespace Go.Proofs.YtpmdlkogccojmaaGreatDoor
open Go.RowKit
structure SignSt (w wr : World) (sb ob : Nat) (v : Value) (P : List By) (sv ov : Value) (A B : By) : Prop where
  s : BldR wr sb sv A
  o : BldR wr ob ov B
  sOwn : ∀ q, sv.ownBlock = some q → sb ≤ q ∧ q ≠ ob
  oOwn : ∀ q, ov.ownBlock = some q → sb ≤ q ∧ q ≠ sb ∧ sv.ownBlock ≠ some q
  pub : Row wr 24 32 v (hcells P)
  pOwn : ∀ q, v.ownBlock = some q → q < sb
  base : w.heap.size ≤ sb
  kept : Kept (fun _ => False) w wr
  ne : sb < ob
section
variable {w wr w' : World} {sb ob : Nat} {v sv ov : Value} {P : List By} {A B : By}
theorem SignSt.same (h : SignSt w wr sb ob v P sv ov A B) (k : Kept (fun _ => False) wr w') : SignSt w w' sb ob v P sv ov A B :=
  ⟨h.s.same k, h.o.same k, h.sOwn, h.oOwn, h.pub.kept k (fun _ _ => id), h.pOwn, h.base, h.kept.trans k, h.ne⟩
theorem SignSt.writeS (h : SignSt w wr sb ob v P sv ov A B) (s : By) (hl : A.length + s.length ≤ 1000000000) :
    Calls Tryz.prog 120 #[.pointer (some ⟨sb, 0, none⟩), .string ⟨s.toArray⟩] wr fun e w' => e = .returned (.tuple #[.int .i64 (⟨s.toArray⟩ : ByteArray).size, .nilIface]) ∧ ∃ sv', SignSt w w' sb ob v P sv' ov (A ++ s) B := by
  have hz : (⟨s.toArray⟩ : ByteArray).size = s.length := by show s.toArray.size = _; simp
  refine (writeString_r ⟨s.toArray⟩ h.s (by rw [hz]; exact hl)).mono ?_
  rintro e w2 ⟨sv', rfl, hb, hk, ho⟩
  have hne := h.ne
  have holt := h.o.lt
  refine ⟨rfl, sv', hb, h.o.kept hk (fun e => ?_) (fun q hq e => ?_), fun q hq => ?_, fun q hq => ?_, h.pub.kept hk (fun q hq e => ?_), h.pOwn, h.base, h.kept.then_ hk (fun i hi e => ?_), h.ne⟩
  · rcases e with e | e
    · omega
    · exact (h.sOwn _ e).2 rfl
  · rcases e with e | e
    · exact (h.oOwn q hq).2.1 e
    · exact (h.oOwn q hq).2.2 e
  · rcases ho q hq with e | e
    · exact h.sOwn q e
    · omega
  · obtain ⟨h1, h2, h3⟩ := h.oOwn q hq
    refine ⟨h1, h2, fun e => ?_⟩
    rcases ho q e with e' | e'
    · exact h3 e'
    · have := h.o.2.lt hq; omega
  · have hp := h.pOwn q hq
    rcases e with e | e
    · omega
    · have := (h.sOwn q e).1; omega
  · have hbs := h.base
    rcases e with e | e
    · omega
    · have := (h.sOwn i e).1; omega
theorem SignSt.writeO (h : SignSt w wr sb ob v P sv ov A B) (s : By) (hl : B.length + s.length ≤ 1000000000) :
    Calls Tryz.prog 120 #[.pointer (some ⟨ob, 0, none⟩), .string ⟨s.toArray⟩] wr fun e w' => e = .returned (.tuple #[.int .i64 (⟨s.toArray⟩ : ByteArray).size, .nilIface]) ∧ ∃ ov', SignSt w w' sb ob v P sv ov' A (B ++ s) := by
  have hz : (⟨s.toArray⟩ : ByteArray).size = s.length := by show s.toArray.size = _; simp
  refine (writeString_r ⟨s.toArray⟩ h.o (by rw [hz]; exact hl)).mono ?_
  rintro e w2 ⟨ov', rfl, hb, hk, ho⟩
  have hne := h.ne
  have hslt := h.s.lt
  refine ⟨rfl, ov', h.s.kept hk (fun e => ?_) (fun q hq e => ?_), hb, h.sOwn, fun q hq => ?_, h.pub.kept hk (fun q hq e => ?_), h.pOwn, h.base, h.kept.then_ hk (fun i hi e => ?_), h.ne⟩
  · rcases e with e | e
    · omega
    · exact (h.oOwn _ e).2.1 rfl
  · rcases e with e | e
    · exact (h.sOwn q hq).2 e
    · exact (h.oOwn q e).2.2 hq
  · rcases ho q hq with e | e
    · exact h.oOwn q e
    · refine ⟨by omega, by omega, fun e2 => ?_⟩
      have := h.s.2.lt e2; omega
  · have hp := h.pOwn q hq
    rcases e with e | e
    · omega
    · have := (h.oOwn q e).1; omega
  · have hbs := h.base
    rcases e with e | e
    · omega
    · have := (h.oOwn i e).1; omega
end
theorem secretsF_succ (seed : By) (index : Nat) (d : By) (k : Nat) : secretsF seed index d (k + 1) = secretsF seed index d k ++ secretF seed index k (bitAt d k) := by
  unfold secretsF
  rw [List.range_succ, List.flatMap_append]
  simp
theorem othersF_succ (seed : By) (index : Nat) (d : By) (k : Nat) (h : By) (hh : (publicF seed index)[2 * k + 1 - bitAt d k]? = some h) : othersF seed index d (k + 1) = othersF seed index d k ++ h := by
  unfold othersF
  rw [List.range_succ, List.flatMap_append]
  simp [hh]
end Go.Proofs.YtpmdlkogccojmaaGreatDoor

namespace Go.Proofs.YtpmdlkogccojmaaGreatDoor
open Go.RowKit
set_option maxRecDepth 100000 in
set_option maxHeartbeats 1000000 in
theorem sign_any (w : World) (seed : ByteArray) (index : Nat) (d : By) (hd : d.length = 32) (hs : seed.size ≤ 1000) (h1 : index < 2147483648) (ht : Tab w) :
    Calls Tryz.prog 117 #[.string seed, .int .i64 (index : Int), hashV d] w fun e w' => e = .returned (.string ⟨(signF seed.data.toList index d).toArray⟩) ∧ Kept (fun _ => False) w w' := by
  have k0 : Kept (fun _ => False) w (w.alloc (.cells (bytes8 d).toArray 24)) := (Kept.refl _ _).alloc _
  have hbd := Blk.new w (bytes8 d) 24
  have h32 := public_32 seed.data.toList index
  have hL := publicF_len seed.data.toList index
  have hpub : Calls Tryz.prog 128 #[.string seed, .int .i64 (index : Int)] (w.alloc (.cells (bytes8 d).toArray 24)) (fun e w2 => ∃ g cap, e = .returned (.slice (some ⟨g, 0, none⟩) 512 cap) ∧ Hid (w2.rangeAt w.heap.size 0 (bytes8 d) ∧ Row w2 24 32 (.slice (some ⟨g, 0, none⟩) 512 cap) (hcells (publicF seed.data.toList index)) ∧ g < w2.heap.size ∧ Kept (fun _ => False) w w2)) := by
    refine (public_any _ seed index hs h1 (ht.same k0)).mono ?_
    rintro e w2 ⟨v, rfl, hrow, hown, hk⟩
    have hrow2 := hrow
    rcases hrow with ⟨rfl, hx⟩ | ⟨g, n, cap, rest, rfl, q1, q2, q3, q4, q5⟩
    · have := hcells_len h32
      rw [hx, hL] at this
      simp at this
    · rw [hcells_len h32, hL] at q1
      obtain rfl : n = 512 := by omega
      exact ⟨g, cap, rfl, Lib.hid ⟨(hbd.kept hk id).range0, hrow2, q2.lt, k0.trans hk⟩⟩
  have HP := Lib.hid hpub
  have HD := Lib.hid (show (Tryz.prog.info? 24).map (·.size) = some (bytes8 d).length by rw [bytes8_len, hd]; exact info_h32)
  have HH := Lib.hid (fun w' => hash_any w' d hd)
  have heq := fun w a l c => run_eql_slice_nil (P := Tryz.prog) w 47 24 a l c Tryz.underlying47
  clear hpub hbd k0
  go_enter Tryz.func117, Tryz.ntmps117
  go_wp2_with (first | (go_at_call 128; refine HP.out.mono ?_; rintro e w2 ⟨g, cap, rfl, HG⟩) | ((with_reducible show wpList _ _ _ (⟨some 18, _, _, _, _, _⟩ :: _) _ _); refine wpList_load_mid rfl 24 _ rfl w.heap.size 0 rfl (bytes8 d) _ HG.out.1 Tryz.underlying24 rfl HD.out ?_) | (go_at_call 101; refine (HH.out _).mono ?_; rintro e w3 ⟨rfl, hk3⟩))
  have hst0 : SignSt w ((w3.alloc (.cells #[.pointer none, .slice none 0 0] 199)).alloc (.cells #[.pointer none, .slice none 0 0] 199)) w3.heap.size (w3.heap.size + 1) (.slice (some ⟨g, 0, none⟩) 512 cap) (publicF seed.data.toList index) (.slice none 0 0) (.slice none 0 0) (secretsF seed.data.toList index d 0) (othersF seed.data.toList index d 0) := by
    have ka : Kept (fun _ => False) w3 ((w3.alloc (.cells #[.pointer none, .slice none 0 0] 199)).alloc (.cells #[.pointer none, .slice none 0 0] 199)) := ((Kept.refl _ _).alloc _).alloc _
    have ho := BldR.fresh (w3.alloc (.cells #[.pointer none, .slice none 0 0] 199))
    rw [World.size_alloc] at ho
    refine ⟨(BldR.fresh w3).same ((Kept.refl _ _).alloc _), ho, fun q hq => by simp [Value.ownBlock] at hq, fun q hq => by simp [Value.ownBlock] at hq, (HG.out.2.1.kept hk3 (fun _ _ => id)).kept ka (fun _ _ => id), fun q hq => ?_, ?_, (HG.out.2.2.2.trans hk3).trans ka, Nat.lt_succ_self _⟩
    · simp [Value.ownBlock] at hq
      have := HG.out.2.2.1
      have := hk3.size
      omega
    · exact Nat.le_trans HG.out.2.2.2.size hk3.size
  have HS0 := Lib.hid hst0
  clear hst0
  generalize hsb : w3.heap.size = sb at *
  clear hsb
  go_loopw [20] (fun x wr => ∃ k : Nat, x = .int .i64 (k : Int) ∧ k ≤ 256 ∧ ∃ sv ov, SignSt w wr sb (sb + 1) (.slice (some ⟨g, 0, none⟩) 512 cap) (publicF seed.data.toList index) sv ov (secretsF seed.data.toList index d k) (othersF seed.data.toList index d k)) (fun x _ => 256 - (intOf x).toNat)
  case atStart => exact ⟨0, rfl, by omega, _, _, HS0.out⟩
  case round =>
    obtain ⟨k, rfl, hk, sv, ov, hst⟩ := hrel
    by_cases hlt : k < 256
    · have z1 : decide ((k : Int) < 256) = true := decide_eq_true (by omega)
      have z2 : decide (k < 256) = true := decide_eq_true hlt
      have hbit := fun w' => bit_any w' ⟨d.toArray⟩ k (by show k / 8 < d.toArray.size; rw [List.size_toArray, hd]; omega) (by omega)
      have hbl := bitAt_lt d k
      have e0 : bitAt (⟨d.toArray⟩ : ByteArray).data.toList k = bitAt d k := rfl
      rw [e0] at hbit
      clear e0
      have hss := secretsF_succ seed.data.toList index d k
      have hos := othersF_succ seed.data.toList index d k
      generalize bitAt d k = bt at *
      obtain ⟨m, hm⟩ : ∃ m, 2 * k + 1 - bt = m := ⟨_, rfl⟩
      rw [hm] at hos
      obtain ⟨O, hO⟩ : ∃ O, (publicF seed.data.toList index)[m]? = some O := ⟨_, List.getElem?_eq_getElem (by rw [hL]; omega)⟩
      have hos := hos O hO
      have hO32 := h32 O (List.mem_of_getElem? hO)
      have hsec := secret_any wr seed index k bt hs h1 hlt hbl (ht.same hst.kept)
      have hS32 := secretF_len seed.data.toList index k bt
      generalize secretF seed.data.toList index k bt = S at *
      have hla := secretsF_len seed.data.toList index d k
      have hlb := othersF_len seed.data.toList index d k (by omega)
      have hw1 : ∀ w2, Kept (fun _ => False) wr w2 → Calls Tryz.prog 120 #[.pointer (some ⟨sb, 0, none⟩), .string ⟨S.toArray⟩] w2 (fun e w4 => e = .returned (.tuple #[.int .i64 (⟨S.toArray⟩ : ByteArray).size, .nilIface]) ∧ Hid ((∃ sv', SignSt w w4 sb (sb + 1) (.slice (some ⟨g, 0, none⟩) 512 cap) (publicF seed.data.toList index) sv' ov (secretsF seed.data.toList index d (k + 1)) (othersF seed.data.toList index d k)) ∧ w4.rangeAt g (m * 32) (bytes8 O))) := by
        intro w2 hk2
        refine ((hst.same hk2).writeS S (by omega)).mono ?_
        rintro e w4 ⟨rfl, sv', h4⟩
        rw [← hss] at h4
        have hr := rangeAt_mid (h4.pub.view.range rfl (by omega)) (m * 32) 32
        rw [hcells_at h32 m O hO, Nat.zero_add] at hr
        exact ⟨rfl, Lib.hid ⟨⟨sv', h4⟩, hr⟩⟩
      have hw2 : ∀ w4, (∃ sv', SignSt w w4 sb (sb + 1) (.slice (some ⟨g, 0, none⟩) 512 cap) (publicF seed.data.toList index) sv' ov (secretsF seed.data.toList index d (k + 1)) (othersF seed.data.toList index d k)) → ∀ w5, Kept (fun _ => False) w4 w5 → Calls Tryz.prog 120 #[.pointer (some ⟨sb + 1, 0, none⟩), .string ⟨O.toArray⟩] w5 (fun e w6 => e = .returned (.tuple #[.int .i64 (⟨O.toArray⟩ : ByteArray).size, .nilIface]) ∧ Hid (∃ sv' ov', SignSt w w6 sb (sb + 1) (.slice (some ⟨g, 0, none⟩) 512 cap) (publicF seed.data.toList index) sv' ov' (secretsF seed.data.toList index d (k + 1)) (othersF seed.data.toList index d (k + 1)))) := by
        rintro w4 ⟨sv', h4⟩ w5 hk5
        refine ((h4.same hk5).writeO O (by omega)).mono ?_
        rintro e w6 ⟨rfl, ov', h6⟩
        rw [← hos] at h6
        exact ⟨rfl, Lib.hid ⟨sv', ov', h6⟩⟩
      have HB := Lib.hid hbit
      have HS := Lib.hid hsec
      have HHS := Lib.hid (fun w' => hash_any w' S hS32)
      have HHO := Lib.hid (fun w' => hash_any w' O hO32)
      have HW1 := Lib.hid hw1
      have HW2 := Lib.hid hw2
      have HIO := Lib.hid (show (Tryz.prog.info? 24).map (·.size) = some (bytes8 O).length by rw [bytes8_len, hO32]; exact info_h32)
      have HL := Lib.hid hlt
      have j1 : (k : Int) < 256 := by omega
      have j2 : (0 : Int) ≤ (k : Int) := by omega
      have j3 : (bt : Int) < 2 := by omega
      have j4 : (0 : Int) ≤ (bt : Int) := by omega
      have j5 : 2 * (k : Int) + 1 - (bt : Int) = (m : Int) := by omega
      have j6 : (m : Int) < 512 := by omega
      have j7 : (0 : Int) ≤ (m : Int) := by omega
      clear hbit hsec hw1 hw2 hss hos hla hlb hO32 hS32 hO hm hst hbl hlt hL h32 hd heq
      go_wp2_with (first | (go_at_call 131; refine (HB.out _).mono ?_; rintro e w' ⟨rfl, rfl⟩) | (go_at_call 149; refine HS.out.mono ?_; rintro e w1 ⟨rfl, hk1⟩) | (go_at_call 101; with_reducible refine (HHS.out _).mono ?_; rintro e w2 ⟨rfl, hk2⟩) | (go_at_call 120; with_reducible refine (HW1.out _ (hk1.trans hk2)).mono ?_; rintro e w4 ⟨rfl, HM⟩) | ((with_reducible show wpList _ _ _ (⟨some 40, _, _, _, _, _⟩ :: _) _ _); refine wpList_load_mid rfl 24 _ rfl g (m * 32) rfl (bytes8 O) _ HM.out.2 Tryz.underlying24 rfl HIO.out ?_) | (go_at_call 101; with_reducible refine (HHO.out _).mono ?_; rintro e w5 ⟨rfl, hk5⟩) | (go_at_call 120; with_reducible refine (HW2.out _ HM.out.1 _ hk5).mono ?_; rintro e w6 ⟨rfl, HF⟩))
      obtain ⟨sv', ov', h6⟩ := HF.out
      exact ⟨⟨k + 1, rfl, HL.out, sv', ov', h6⟩, check_meas0 HL.out⟩
    · have z1 : decide ((k : Int) < 256) = false := decide_eq_false (by omega)
      have z2 : decide (k < 256) = false := decide_eq_false hlt
      obtain rfl : k = 256 := by omega
      have hsig : signF seed.data.toList index d = secretsF seed.data.toList index d 256 ++ othersF seed.data.toList index d 256 := rfl
      have hla := secretsF_len seed.data.toList index d 256
      have hlb := othersF_len seed.data.toList index d 256 (Nat.le_refl _)
      generalize secretsF seed.data.toList index d 256 = A at *
      generalize othersF seed.data.toList index d 256 = B at *
      have hA : A ≠ [] := fun e => by rw [e] at hla; simp at hla
      have hB : B ≠ [] := fun e => by rw [e] at hlb; simp at hlb
      have hs1 : Calls Tryz.prog 125 #[.pointer (some ⟨sb, 0, none⟩)] wr (fun e w1 => e = .returned (.string ⟨A.toArray⟩) ∧ Hid (BldR w1 (sb + 1) ov B ∧ Kept (fun _ => False) w w1)) := by
        refine (string_r hst.s hA (by omega)).mono ?_
        rintro e w1 ⟨rfl, hk1⟩
        refine ⟨rfl, Lib.hid ⟨hst.o.kept hk1 (fun e => (hst.sOwn _ e).2 rfl) (fun q hq e => (hst.oOwn q hq).2.2 e), hst.kept.then_ hk1 (fun i hi e => ?_)⟩⟩
        have := (hst.sOwn i e).1
        have := hst.base
        omega
      have hs2 : ∀ w1, Hid (BldR w1 (sb + 1) ov B ∧ Kept (fun _ => False) w w1) → Calls Tryz.prog 125 #[.pointer (some ⟨sb + 1, 0, none⟩)] w1 (fun e w2 => e = .returned (.string ⟨B.toArray⟩) ∧ Kept (fun _ => False) w w2) := by
        intro w1 H1
        refine (string_r H1.out.1 hB (by omega)).mono ?_
        rintro e w2 ⟨rfl, hk2⟩
        refine ⟨rfl, H1.out.2.then_ hk2 (fun i hi e => ?_)⟩
        have := (hst.oOwn i e).1
        have := hst.base
        omega
      have HS1 := Lib.hid hs1
      have HS2 := Lib.hid hs2
      have HSG := Lib.hid hsig
      have x1 : (⟨A.toArray⟩ : ByteArray).size + (⟨B.toArray⟩ : ByteArray).size ≤ 16384 := by show A.toArray.size + B.toArray.size ≤ 16384; simp; omega
      clear hs1 hs2 hsig hst hla hlb hA hB hlt hL h32 hd heq
      go_wp2_with (first | (go_at_call 125; with_reducible refine HS1.out.mono ?_; rintro e w1 ⟨rfl, H1⟩) | (go_at_call 125; with_reducible refine (HS2.out _ H1).mono ?_; rintro e w2 ⟨rfl, hkf⟩))
      go_ret
      exact ⟨by rw [HSG.out, ← bstr_cat]; rfl, hkf⟩
end Go.Proofs.YtpmdlkogccojmaaGreatDoor

namespace Go.Proofs.YtpmdlkogccojmaaGreatDoor
open Go.RowKit
theorem Blk.result2 {P : Program} {w : World} {b : Nat} {c : List Value} {t ty : TypeId} {d : TypeDesc} {fn : Func} {p u : Tmp} {tmps : Array Value} (h : Blk w b c t) (hf : fn.results = #[.cell p ty, .tmp u]) (hp : tmps.getD p undef = .pointer (some ⟨b, 0, none⟩))
    (hu : P.underlying ty = some d) (hd : (match d with | .struct _ | .array _ _ => true | _ => false) = true) (hi : (P.info? ty).map (·.size) = some c.length) :
    (results fn tmps).run P w = .ok (.tuple #[.agg c.toArray, tmps.getD u undef]) w := by
  have hp' : tmps[p]?.getD undef = .pointer (some ⟨b, 0, none⟩) := by simpa using hp
  simp [results, hf, hp', asAddr, run_loadVar_row w b t ty c.toArray (0, 0) d h hu hd (by rw [hi, List.size_toArray])]
end Go.Proofs.YtpmdlkogccojmaaGreatDoor

namespace Go.Proofs.YtpmdlkogccojmaaGreatDoor
open Go.RowKit
end Go.Proofs.YtpmdlkogccojmaaGreatDoor
