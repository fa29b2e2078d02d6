/- Acts39 SuS1 SuSReg SuS4 -/
import Derived.OpenShut
import Derived.Deep.RegionHeld3
import Derived.Test.YtpmdlkogccojmaaGreatDoorUStationSure43
import Derived.Test.YtpmdlkogccojmaaGreatDoorUStationSure45
import Derived.Test.YtpmdlkogccojmaaGreatDoorUStationSure44
import Derived.Test.YtpmdlkogccojmaaGreatDoorUStationSure02
import Derived.Test.YtpmdlkogccojmaaGreatDoorUStationSure01
import Derived.Test.YtpmdlkogccojmaaGreatDoorUStationSure39
set_option linter.unusedVariables false
set_option linter.unusedSimpArgs false
set_option maxRecDepth 100000
set_option maxHeartbeats 16000000
namespace Go.Proofs.YtpmdlkogccojmaaGreatDoor
open Go.RowKit Go.WideShapes Go.ChangeShapes Go.Joins
structure Act39 where
 k : Int
 N : Int
 M : Int
 s : ByteArray
abbrev Act39.cells (x : Act39) : List Value:=[.int .u8 x.k, .int .i64 x.N, .int .i64 x.M, .string x.s]
structure Act39At (w : World) (ad : Option Addr) (i : Nat) (x : Act39) : Prop where
 cells : ElemAt w ad 4 i x.cells
 size : x.s.size ≤ maxLen
 k0 : 0 ≤ x.k∧x.k ≤ 255
 n0 : -9223372036854775808 ≤ x.N∧x.N ≤ 9223372036854775807
 m0 : -9223372036854775808 ≤ x.M∧x.M ≤ 9223372036854775807
def Acts39 (w : World) (ad : Option Addr) (A : List Act39) : Prop:=∀ i x, A[i]? = some x → Act39At w ad i x
theorem c_act39 : Tryz.prog.cellsOf 74 = 4:=by kernel_rfl
theorem c_u8_39 : Tryz.prog.cellsOf 5 = 1:=by kernel_rfl
theorem c_int_39 : Tryz.prog.cellsOf 3 = 1:=by kernel_rfl
theorem c_str_39 : Tryz.prog.cellsOf 9 = 1:=by kernel_rfl
theorem one_at39 {cs : List Value} {v : Value} {i : Nat} (h : (cs.drop i).take 1 = [v]) : cs[i]? = some v:=by
 have e5:=congrArg (·[0]?) h
 simpa [List.getElem?_take, List.getElem?_drop] using e5
theorem act39_in {H : Type} {enc : TypeId × Value → H} {W : World} {base : Nat} {spare : Nat → Bool} {hd : Bool} {fuel : Nat} {cs : List Value} {x : DataW H × List MemPlace}
  (h : DataW.trod enc Tryz.prog W base spare hd fuel 74 cs = some x) : ∃ y : Act39, cs = y.cells∧y.s.size ≤ maxLen∧(0 ≤ y.k∧y.k ≤ 255)∧(-9223372036854775808 ≤ y.N∧y.N ≤ 9223372036854775807)∧(-9223372036854775808 ≤ y.M∧y.M ≤ 9223372036854775807):=by
 obtain ⟨xs, n, _, _, hcl, hl, hg⟩:=DataW.trod_struct Tryz.underlying74 h
 match xs, hl with
 | [y0, y1, y2, y3], _ =>
  have g0:=hg 0 _ rfl
  have g1:=hg 1 _ rfl
  have g2:=hg 2 _ rfl
  have g3:=hg 3 _ rfl
  rw [c_act39] at hcl
  simp [c_u8_39, c_int_39, c_str_39] at g0 g1 g2 g3
  obtain ⟨a0, e0, _, w0⟩:=DataW.trod_int Tryz.underlying5 g0
  obtain ⟨a1, e1, _, w1⟩:=DataW.trod_int Tryz.underlying3 g1
  obtain ⟨a2, e2, _, w2⟩:=DataW.trod_int Tryz.underlying3 g2
  obtain ⟨a3, e3, _, w3⟩:=DataW.trod_string Tryz.underlying9 g3
  have q0:=one_at39 (i:=0) (by simpa using e0)
  have q1:=one_at39 (i:=1) (by simpa using e1)
  have q2:=one_at39 (i:=2) (by simpa using e2)
  have q3:=one_at39 (i:=3) (by simpa using e3)
  refine ⟨⟨a0, a1, a2, a3⟩, ?_, w3, wf_u8 w0, wf_i64 w1, wf_i64 w2⟩
  match cs, hcl with
  | [b0, b1, b2, b3], _ =>
   simp at q0 q1 q2 q3
   subst q0; subst q1; subst q2; subst q3
   rfl
theorem acts39_of {H : Type} {enc : TypeId × Value → H} {w : World} {base : Nat} {v : Value} {dd : DataW H} {p : List MemPlace} (hv : Value.okWide Tryz.prog w .any base 70 v) (h : DataW.Trod enc Tryz.prog w 0 (fun _=>true) true 70 v dd p) :
  ∃ (a : Option Addr) (A : List Act39) (c : Nat), v = .slice a A.length c∧A.length ≤ maxLen∧Acts39 w a A:=by
 obtain ⟨a, len, cap, rfl, hl, hx⟩:=open_rows Tryz.underlying70 c_act39 (by omega) hv h
 have hex : ∀ i, ∃ y : Act39, i < len → Act39At w a i y:=fun i=>by
  by_cases hi : i < len
  ·obtain ⟨cs, m, x, _, he, ht⟩:=hx i hi
   obtain ⟨y, rfl, h1, h2, h3, h4⟩:=act39_in ht
   exact ⟨y, fun _=>⟨he, h1, h2, h3, h4⟩⟩
  ·exact ⟨⟨0, 0, 0, ⟨#[]⟩⟩, fun h=>absurd h hi⟩
 obtain ⟨V, hV⟩ : ∃ V : Nat → Act39, ∀ i, i < len → Act39At w a i (V i):=⟨fun i=>Classical.choose (hex i), fun i=>Classical.choose_spec (hex i)⟩
 have hlen : ((List.range len).map V).length = len:=by rw [List.length_map, List.length_range]
 refine ⟨a, (List.range len).map V, cap, by rw [hlen], by rw [hlen]; exact hl, fun i x hi=>?_⟩
 have hlt : i < len:=by have:=(List.getElem?_eq_some_iff.1 hi).1; omega
 rw [List.getElem?_map, List.getElem?_range hlt] at hi
 simp only [Option.map_some, Option.some.injEq] at hi
 subst hi
 exact hV i hlt
def GreatPost39 (w : World) (A : List Act39) (most : Nat) (e : Ending) (w' : World) : Prop:=∃ b, e = .returned (.bool b)∧(b = false → A.length ≤ most∧∀ x ∈ A, x.s.size ≤ 300)∧w = w'
theorem dec_gt39 {a b : Nat} (h : a < b) : decide ((a : Int) < (b : Int)) = true∧decide (a < b) = true:=⟨decide_eq_true (by omega), decide_eq_true h⟩
theorem dec_le39 {a b : Nat} (h : ¬ a < b) : decide ((a : Int) < (b : Int)) = false∧decide (a < b) = false:=⟨decide_eq_false (by omega), decide_eq_false h⟩
theorem great39 (w : World) (ad : Option Addr) (A : List Act39) (cap : Nat) (most : Nat) (hm : most ≤ 1000) (hl : A.length ≤ maxLen) (h : Acts39 w ad A) :
  Calls Tryz.prog 21 #[.slice ad A.length cap, .int .i64 (most : Int)] w (GreatPost39 w A most):=by
 have hl2 : A.length ≤ 9223372036854775807:=hl
 have HA:=Lib.hid h
 clear h hl
 go_enter Tryz.func21, Tryz.ntmps21
 go_wp2_with fail
 go_loop [5] (fun x=>∃ i : Nat, i ≤ A.length∧x = .int .i64 (i : Int)∧Hid (∀ j y, A[j]? = some y → j < i → y.s.size ≤ 300)) (fun x=>A.length - (intOf x).toNat)
 case atStart=>exact ⟨0, Nat.zero_le _, rfl, Lib.hid (fun j y _ hj=>absurd hj (Nat.not_lt_zero _))⟩
 case round =>
  obtain ⟨i, hi, rfl, HS⟩:=hrel
  by_cases hlt : i < A.length
  ·obtain ⟨y1, y2⟩:=dec_gt39 hlt
   obtain ⟨x, hx⟩ : ∃ x, A[i]? = some x:=⟨_, List.getElem?_eq_getElem hlt⟩
   have hact:=HA.out i x hx
   obtain ⟨b, off, rfl, hb, hc⟩:=hact.cells
   have hcl : w.cell? ⟨b, off + i * 4 + 3, none⟩ = some (.string x.s):=hc 3 _ rfl
   by_cases h3 : 300 < x.s.size
   ·have z1 : decide ((300 : Int) < (x.s.size : Int)) = true:=(dec_gt39 h3).1
    have z2 : decide (300 < x.s.size) = true:=(dec_gt39 h3).2
    clear hi h3 hact hc hb hx
    go_wp2_with fail
    go_ret
    exact ⟨true, rfl, (fun h=>by cases h), rfl⟩
   ·have z1 : decide ((300 : Int) < (x.s.size : Int)) = false:=(dec_le39 h3).1
    have z2 : decide (300 < x.s.size) = false:=(dec_le39 h3).2
    have HS3 : Hid (∀ j y, A[j]? = some y → j < i + 1 → y.s.size ≤ 300):=by
     refine Lib.hid ?_
     intro j q hq hj
     rcases Nat.lt_or_ge j i with z | z
     ·exact HS.out j q hq z
     ·obtain rfl : j = i:=by omega
      rw [hx] at hq
      cases hq
      omega
    clear hi h3 hact hc hb hx
    go_wp2_with fail
    go_round
    case rel=>exact ⟨i + 1, hlt, by go_num, HS3⟩
    case measure=>simp [intOf]; omega
  ·obtain rfl : i = A.length:=by omega
   obtain ⟨y1, y2⟩:=dec_le39 hlt
   have hS : ∀ x ∈ A, x.s.size ≤ 300:=fun x hx=>by
    obtain ⟨j, hj, e⟩:=List.getElem_of_mem hx
    exact HS.out j x (by rw [List.getElem?_eq_getElem hj, e]) hj
   have HF:=Lib.hid hS
   clear hi hlt hS
   by_cases hmm : most < A.length
   ·obtain ⟨t1, t2⟩:=dec_gt39 hmm
    clear hmm
    go_wp2_with fail
    go_ret
    exact ⟨true, rfl, (fun h=>by cases h), rfl⟩
   ·obtain ⟨t1, t2⟩:=dec_le39 hmm
    have HM:=Lib.hid (Nat.le_of_not_lt hmm)
    clear hmm
    go_wp2_with fail
    go_ret
    exact ⟨false, rfl, (fun _=>⟨HM.out, HF.out⟩), rfl⟩
end Go.Proofs.YtpmdlkogccojmaaGreatDoor
namespace Go.Proofs.YtpmdlkogccojmaaGreatDoor
open Go.RowKit
def By8 (b L : List Hd) : Prop:=b.length = 8∧∀ (n : Nat) (x : Hd), b[n]? = some x → x = (0, zeroRoot) ∨ L[n]? = some x
theorem By8.more {b L : List Hd} (h : By8 b L) (L2 : List Hd) : By8 b (L ++ L2) :=
 ⟨h.1, fun n x hx=>(h.2 n x hx).imp id (fun q=>by rw [List.getElem?_append_left (List.getElem?_eq_some_iff.1 q).1]; exact q)⟩
theorem By8.set {b L : List Hd} {m : Nat} {y : Hd} (h : By8 b L) (hm : L[m]? = some y) : By8 (b.set m y) L:=by
 refine ⟨by rw [List.length_set]; exact h.1, fun n x hx=>?_⟩
 rw [List.getElem?_set] at hx
 split at hx
 ·split at hx
  ·rename_i e _
   cases hx
   subst e
   exact Or.inr hm
  ·cases hx
 ·exact h.2 n x hx
theorem by8_new : By8 (List.replicate 8 (0, zeroRoot)) []:=⟨by simp, fun n x hx=>Or.inl (List.eq_of_mem_replicate (List.mem_of_getElem? hx))⟩
theorem By8.h32 {b L : List Hd} (h : By8 b L) (hr : Rises 0 L) : ∀ x ∈ b, x.2.length = 32:=by
 intro x hx
 obtain ⟨n, hn⟩:=List.getElem?_of_mem hx
 rcases h.2 n x hn with rfl | q
 ·simp
 ·exact (hr.ok x (List.mem_of_getElem? q)).2.2
structure LogOk (b L : List Hd) (E : List By) (i : Nat) : Prop where
 rises : Rises 0 L
 few : L.length ≤ 8
 good : GoodL L E
 by8 : By8 b L
 len : E.length ≤ i
theorem LogOk.up {b L : List Hd} {E : List By} {i j : Nat} (h : LogOk b L E i) (hij : i ≤ j) : LogOk b L E j:=⟨h.rises, h.few, h.good, h.by8, by have:=h.len; omega⟩
theorem LogOk.entry {b L : List Hd} {E E' : List By} {i : Nat} (h : LogOk b L E i) {p : By} (hE : E' = E ∨ E' = E ++ [p]) : LogOk b L E' (i + 1):=by
 rcases hE with rfl | rfl
 ·exact h.up (by omega)
 ·exact ⟨h.rises, h.few, h.good.more _, h.by8, by rw [List.length_append]; have:=h.len; simp; omega⟩
theorem LogOk.sign {b L L' : List Hd} {E : List By} {i : Nat} (h : LogOk b L E i) (hL : L' = L ∨ L' = L ++ [(E.length, rootE E)]) (hr : Rises 0 L') (h8 : L'.length ≤ 8) : LogOk b L' E (i + 1):=by
 rcases hL with rfl | rfl
 ·exact h.up (by omega)
 ·exact ⟨hr, h8, h.good.snoc, h.by8.more _, by have:=h.len; omega⟩
theorem LogOk.told {b L : List Hd} {E : List By} {i m : Nat} (h : LogOk b L E i) {y : Hd} (hm : L[m]? = some y) : LogOk (b.set m y) L E i:=⟨h.rises, h.few, h.good, h.by8.set hm, h.len⟩
abbrev keepO (kb bb : Nat) (C : List Value) (b : List Hd) : List Ob:=[.blk kb C 24, .blk bb (hdC b) 72]
def StaW (w0 w : World) (d s : Nat) (sd : ByteArray) (L : List Hd) (E : List By) (st : Int) (fl : Bool) (X : Nat) (Os : List Ob) : Prop :=
 ∃ r g lv Sr Sg M, UpS 20000 L E st fl X M∧Ows w0 w d M (staO s r g lv ⟨sd, L, st, false⟩ ⟨E, st, false⟩ Sr Sg Os)
def DnW (w0 w : World) (d : Nat) (L : List Hd) (E : List By) (st : Int) (X : Nat) (Os : List Ob) : Prop:=∃ M, DnS 20000 L E st X M∧Ows w0 w d M Os
section
variable {w0 w w' : World} {d s kb bb xb : Nat} {M : DiskM} {sd : ByteArray} {L : List Hd} {E : List By} {st : Int} {fl : Bool} {X Y : Nat} {Os Os' : List Ob} {C XC : List Value} {b : List Hd} {x : Ob}
theorem StaW.sub (h : StaW w0 w d s sd L E st fl X Os) (hs : Os'.Sublist Os) (hX : X ≤ Y) : StaW w0 w d s sd L E st fl Y Os':=by
 obtain ⟨r, g, lv, Sr, Sg, M, h1, h2⟩:=h
 exact ⟨r, g, lv, Sr, Sg, M, h1.more hX, h2.sub (((hs.cons_cons _).cons_cons _).cons_cons _)⟩
theorem StaW.add (h : StaW w0 w d s sd L E st fl X Os) (hk : Kept (fun _=>False) w w') (hx : x.holds w' d) (ho : ∀ k, x.own k → w.heap.size ≤ k) : StaW w0 w' d s sd L E st fl X (x::Os):=by
 obtain ⟨r, g, lv, Sr, Sg, M, h1, h2⟩:=h
 exact ⟨r, g, lv, Sr, Sg, M, h1, Ows.mv' (A:=[_, _, _]) (h2.add hk hx ho)⟩
theorem StaW.same (h : StaW w0 w d s sd L E st fl X Os) (hk : Kept (fun _=>False) w w') : StaW w0 w' d s sd L E st fl X Os:=by
 obtain ⟨r, g, lv, Sr, Sg, M, h1, h2⟩:=h
 exact ⟨r, g, lv, Sr, Sg, M, h1, h2.same hk⟩
theorem StaW.has (h : StaW w0 w d s sd L E st fl X Os) (hx : x ∈ Os) : x.holds w d:=by
 obtain ⟨r, g, lv, Sr, Sg, M, h1, h2⟩:=h
 exact h2.has (x:=x) (by simp [hx])
theorem StaW.old (h : StaW w0 w d s sd L E st fl X Os) : Kept (fun _=>False) w0 w:=by
 obtain ⟨r, g, lv, Sr, Sg, M, h1, h2⟩:=h
 exact h2.old
theorem StaW.tab (h : StaW w0 w d s sd L E st fl X Os) : Tab w:=by
 obtain ⟨r, g, lv, Sr, Sg, M, h1, h2⟩:=h
 exact h2.tab
theorem StaW.isup (h : StaW w0 w d s sd L E st fl X Os) : Calls Tryz.prog 24 #[.pointer (some ⟨d, 0, none⟩)] w fun e w'=>e = .returned (.bool true)∧w = w':=by
 obtain ⟨r, g, lv, Sr, Sg, M, h1, h2⟩:=h
 exact h2.isup (by rw [h1.up.1]; rfl)
theorem StaUp.sta {cp : Int} (h : StaUp w0 w d s Os sd 20000 L E st fl X) : StaW w0 w d s sd L E st fl X Os:=by
 obtain ⟨r, g, lv, Sr, Sg, M, Ls, h1, h2, _⟩:=h
 exact ⟨r, g, lv, Sr, Sg, M, h1, h2.sub ((((List.sublist_append_right Ls Os).cons_cons _).cons_cons _).cons_cons _)⟩
def SuO (w0 w : World) (d s kb bb : Nat) (sd : ByteArray) (C : List Value) (i : Nat) (v : Value) (n : Nat) : Prop :=
 ∃ L E b st fl, n = E.length∧LogOk b L E i∧(0 ≤ st∧st ≤ 20 * (i : Int))∧StaW w0 w d s sd L E st fl (212 * i) (.row v E::keepO kb bb C b)
def SuQ (w0 w : World) (d s kb bb xb : Nat) (sd : ByteArray) (C XC : List Value) (i : Nat) (st : Int) (v8 : Value) (n8 : Nat) (v12 : Value) (n12 : Nat) : Prop :=
  ∃ L E8 E12 b Rs, n8 = E8.length ∧ n12 = E12.length ∧ Ob.row v8 E8 ∈ Rs ∧ Ob.row v12 E12 ∈ Rs ∧ E8.length ≤ i + 1 ∧ E12.length ≤ i + 1 ∧
    ((∃ fl, LogOk b L E8 (i + 1) ∧ StaW w0 w d s sd L E8 st fl (212 * (i + 1)) (Rs ++ .blk xb XC 74 :: keepO kb bb C b)) ∨
     (∃ E', (E' = E8 ∨ E' = E12) ∧ LogOk b L E' (i + 1) ∧ DnW w0 w d L E' st (212 * (i + 1)) (Rs ++ .blk xb XC 74 :: keepO kb bb C b)))
def SuE (w0 w : World) (d t kb bb xb : Nat) (sd : ByteArray) (C XC : List Value) (i : Nat) (st : Int) (v : Value) (n : Nat) : Prop :=
 ∃ L E b st' fl, n = E.length∧LogOk b L E (i + 1)∧(st ≤ st'∧st' ≤ st + 20)∧StaW w0 w d t sd L E st' fl (212 * (i + 1)) (.row v E::.blk xb XC 74::keepO kb bb C b)
end
section
variable {w w' : World}
theorem texts22_any {a b : Option Addr} {n m c e : Nat} {k l : List By} (hk : View w 1 (.slice a n c) (strV k)) (hl : View w 1 (.slice b m e) (strV l)) :
  Calls Tryz.prog 26 #[.slice a n c, .slice b m e] w fun e w'=>e = .returned (.bool (decide (k = l)))∧Kept (fun _=>False) w w':=by
 obtain ⟨rfl, hn⟩:=hk.len1
 obtain ⟨rfl, _⟩:=hl.len1
 unfold maxLen at hn
 by_cases hlen : k.length = l.length
 ·have hn2 : l.length ≤ 9223372036854775807:=by omega
  have z1 : ((k.length : Int) == (k.length : Int)) = true:=beq_self_eq_true _
  rw [← hlen]
  have HL:=Lib.hid hlen
  have HV:=Lib.hid (And.intro hk hl)
  clear hlen hk hl
  go_enter Tryz.func26, Tryz.ntmps26
  go_wp2_with fail
  go_loopw [5] (fun x wr=>∃ i : Nat, i ≤ k.length∧x = .int .i64 (i : Int)∧Hid (k.take i = l.take i∧Kept (fun _=>False) w wr)) (fun x _=>k.length - (intOf x).toNat)
  case atStart=>exact ⟨0, Nat.zero_le _, rfl, Lib.hid ⟨by simp, Kept.refl _ _⟩⟩
  case round =>
   obtain ⟨i, hi, rfl, HS⟩:=hrel
   by_cases hlt : i < k.length
   ·obtain ⟨y1, y2⟩:=int_lt hlt
    have hlm : i < l.length:=by have:=HL.out; omega
    obtain ⟨p, hp⟩ : ∃ p, k[i]? = some p:=⟨_, List.getElem?_eq_getElem hlt⟩
    obtain ⟨q, hq⟩ : ∃ q, l[i]? = some q:=⟨_, List.getElem?_eq_getElem hlm⟩
    obtain ⟨g1, o1, rfl, c1⟩:=(HV.out.1.same HS.out.2 (by omega)).text1 hp
    obtain ⟨g2, o2, rfl, c2⟩:=(HV.out.2.same HS.out.2 (by omega)).text1 hq
    have hlz : (i : Int) < (l.length : Int):=by omega
    have hlz2 : i < l.length:=hlm
    by_cases hpq : p = q
    ·subst hpq
     have HT : Hid (k.take (i + 1) = l.take (i + 1)):=Lib.hid (by rw [List.take_add_one, List.take_add_one, hp, hq, HS.out.1])
     clear hp hq
     go_wp2_with fail
     go_quiet (fail)
     go_wp2_with fail
     exact ⟨⟨i + 1, by omega, by go_num, Lib.hid ⟨HT.out, HS.out.2.trans ((Kept.refl _ _).drewN _)⟩⟩, by simp [intOf]; omega⟩
    ·have z2 : (p == q) = false:=by simpa using hpq
     have hne : decide (k = l) = false:=decide_eq_false (by rintro rfl; rw [hp] at hq; cases hq; exact hpq rfl)
     clear hp hq
     go_wp2_with fail
     go_quiet (fail)
     go_wp2_with fail
     go_ret
     rw [hne]
     exact ⟨rfl, HS.out.2.trans ((Kept.refl _ _).drewN _)⟩
   ·obtain rfl : i = k.length:=by omega
    obtain ⟨y1, y2⟩:=int_ge hlt
    have hkl : decide (k = l) = true:=decide_eq_true (by
     have:=HS.out.1
     rwa [List.take_length, HL.out, List.take_length] at this)
    clear hi hlt
    go_wp2_with fail
    go_ret
    rw [hkl]
    exact ⟨rfl, HS.out.2⟩
 ·have z1 : ((k.length : Int) == (l.length : Int)) = false:=by simp; omega
  have z2 : decide ((k.length : Int) = (l.length : Int)) = false:=decide_eq_false (by omega)
  have z3 : decide (k.length = l.length) = false:=decide_eq_false hlen
  have hne : decide (k = l) = false:=decide_eq_false (by rintro rfl; exact hlen rfl)
  rw [hne]
  clear hk hl hlen
  go_enter Tryz.func26, Tryz.ntmps26
  go_wp2_with fail
  go_ret
  exact ⟨rfl, Kept.refl _ _⟩
theorem cat_copy {W : World} {v : Value} {E : List By} (h : Row W 9 1 v (strV E)) (hk : Kept (fun _=>False) W w) (hE : E.length ≤ 100000) :
  ∃ (a1 : Option Addr) (n1 c1 : Nat) (w1 : World), (Builtin.append_ #[54, 54] 54 #[.slice none 0 0, v]).run Tryz.prog w = .ok (.slice a1 n1 c1) w1∧Kept (fun _=>False) w w1 ∧
   Hid (Row w1 9 1 (.slice a1 n1 c1) (strV E)∧Kept (fun _=>False) W w1∧∀ k, (Value.slice a1 n1 c1).ownBlock = some k → W.heap.size ≤ k):=by
 obtain ⟨i0, hi, hz0, hz1, hz3⟩:=info_parts info_str
 obtain ⟨x1, W1, r1, row1, k1, f1⟩:=(Row.nil w 9 1).append_view (P:=Tryz.prog) (t:=54) (h.kept hk (fun _ _=>id)).view Tryz.underlying54 hi hz0 hz1 rfl (by omega) (by rw [hz3]; decide) (one_str E) (by rw [strV_len]; simp; omega) 54
 have k1' : Kept (fun _=>False) w W1:=k1.mono (fun k _ q=>by simp [Value.ownBlock] at q)
 have hz:=hk.size
 have o1 : ∀ k, x1.ownBlock = some k → W.heap.size ≤ k:=fun k q=>by
  rcases f1 k q with z | z
  ·simp [Value.ownBlock] at z
  ·omega
 rw [List.nil_append] at row1
 obtain ⟨a1, m1, c1, rfl, _⟩:=row1.shape
 exact ⟨a1, m1, c1, W1, r1, k1', Lib.hid ⟨row1, hk.trans k1', o1⟩⟩
theorem cat_one {W : World} {x1 : Value} {E : List By} {p : By} {b : Nat} (h : Row w 9 1 x1 (strV E)∧Kept (fun _=>False) W w∧∀ k, x1.ownBlock = some k → W.heap.size ≤ k) (hb : Blk w b [.string ⟨p.toArray⟩] 9) (hE : E.length ≤ 100000) :
  ∃ (a2 : Option Addr) (c2 : Nat) (w2 : World), (Builtin.append_ #[54, 54] 54 #[x1, .slice (some ⟨b, 0, none⟩) 1 1]).run Tryz.prog w = .ok (.slice a2 (E.length + 1) c2) w2 ∧
   Hid (Row w2 9 1 (.slice a2 (E.length + 1) c2) (strV (E ++ [p]))∧Kept (fun _=>False) W w2∧∀ k, (Value.slice a2 (E.length + 1) c2).ownBlock = some k → W.heap.size ≤ k):=by
 obtain ⟨row1, k1, o1⟩:=h
 obtain ⟨i0, hi, hz0, hz1, hz3⟩:=info_parts info_str
 have hr : Row w 9 1 (.slice (some ⟨b, 0, none⟩) 1 1) (strV [p]):=Row.fresh1 hb rfl (by omega) (by omega)
 obtain ⟨x2, W2, r2, row2, k2, f2⟩:=row1.append_view (P:=Tryz.prog) (t:=54) hr.view Tryz.underlying54 hi hz0 hz1 rfl (by omega) (by rw [hz3]; decide) (one_str [p]) (by rw [strV_len, strV_len]; simp; omega) 54
 have hz:=k1.size
 rw [← strV_append] at row2
 obtain ⟨a2, m2, c2, rfl, _⟩:=row2.shape
 obtain rfl : m2 = E.length + 1:=by
  have:=row2.view.len1.1
  rw [List.length_append] at this
  simpa using this
 refine ⟨a2, c2, W2, r2, Lib.hid ⟨row2, k1.then_ k2 (fun k hk q=>by have:=o1 k q; omega), fun k q=>?_⟩⟩
 rcases f2 k q with z | z
 ·exact o1 k z
 ·omega
end
section
variable {w0 w : World} {d s r g kb bb : Nat} {M : DiskM} {Os : List Ob} {R : RingM} {G : SegM} {Sr Sg : Nat → Prop} {lv : Value} {C : List Value} {E E8 : List By}
abbrev S28 (w8 w' : World) (sb kb bb m : Nat) (Y H K Hm : List Value) (zm hz : Int) : Prop :=
 w'.rangeAt sb 0 Y∧w'.rangeAt sb 0 H∧w'.rangeAt kb 0 K∧w'.rangeAt bb (m * 33) Hm∧w'.cell? ⟨bb, m * 33, none⟩ = some (.int .i64 zm)∧w'.cell? ⟨sb, 0, none⟩ = some (.int .i64 hz)∧Kept (fun _=>False) w8 w'
theorem s28_next {w8 w1 w2 : World} {sb kb bb m : Nat} {Y H K Hm : List Value} {zm hz : Int} (h : S28 w8 w1 sb kb bb m Y H K Hm zm hz) (hl : sb < w8.heap.size∧kb < w8.heap.size∧bb < w8.heap.size) (k : Kept (fun _=>False) w1 w2) : S28 w8 w2 sb kb bb m Y H K Hm zm hz:=by
 obtain ⟨h1, h2, h3, h4, h5, h6, h7⟩:=h
 have:=h7.size
 exact ⟨rangeAt_kept h1 k (by omega) id, rangeAt_kept h2 k (by omega) id, rangeAt_kept h3 k (by omega) id, rangeAt_kept h4 k (by omega) id, k.cell h5 id, k.cell h6 id, h7.trans k⟩
theorem sus_pre {w : World} {b o : Nat} {A B : List Value} (h : w.rangeAt b o (A ++ B)) : w.rangeAt b o A:=fun j v hv=>h j v (by rw [List.getElem?_append_left (List.getElem?_eq_some_iff.1 hv).1]; exact hv)
theorem sus_hd {w : World} {b : Nat} {t : TypeId} {l : List Hd} (h : Blk w b (hdC l) t) (h32 : ∀ x ∈ l, x.2.length = 32) {m : Nat} {a : Hd} (ha : l[m]? = some a) : w.rangeAt b (m * 33) (headC (a.1 : Int) a.2)∧w.cell? ⟨b, m * 33, none⟩ = some (.int .i64 (a.1 : Int)):=by
 have e:=hdC_at h32 m ha
 have hr : w.rangeAt b (m * 33) (headC (a.1 : Int) a.2):=by
  intro j v hv
  refine h.cell ?_
  rw [← e] at hv
  have hj : j < 33:=by have:=(List.getElem?_eq_some_iff.1 hv).1; rw [List.length_take] at this; omega
  rw [List.getElem?_take, if_pos hj, List.getElem?_drop] at hv
  exact hv
 exact ⟨hr, hr 0 _ rfl⟩
theorem s28_of {w8 : World} {sb kb bb m : Nat} {Y H K : List Value} {l : List Hd} {a : Hd} {size : Int} {root : By} {i : Int} {sig : ByteArray} {v : Value} (h1 : Blk w8 sb Y 51) (h3 : Blk w8 kb K 24) (h4 : Blk w8 bb (hdC l) 72)
  (h32 : ∀ x ∈ l, x.2.length = 32) (hY : Y = signedC size root i sig v) (hH : H = headC size root) (ha : l[m]? = some a) : S28 w8 w8.drew sb kb bb m Y H K (headC (a.1 : Int) a.2) (a.1 : Int) size:=by
 have e : w8.drew.rangeAt sb 0 H:=by
  have:=h1.drew.range0
  rw [hY] at this
  rw [hH]
  exact sus_pre this
 exact ⟨h1.drew.range0, e, h3.drew.range0, (sus_hd h4.drew h32 ha).1, (sus_hd h4.drew h32 ha).2, e 0 _ (by rw [hH]; rfl), (Kept.refl _ _).drew⟩
theorem sus_keyAt (h : Ows w0 w d M Os) (hm : Ob.blk kb C 24 ∈ Os) : w.rangeAt kb 0 C:=(show Blk w kb C 24 from h.has hm).range0
theorem sus_key (h : Ows w0 w d M (staO s r g lv R G Sr Sg Os)) (hC : C = bytes8 (rootF (leavesF R.seed.data.toList))) : Calls Tryz.prog 16 #[.pointer (some ⟨s, 0, none⟩)] w fun e w'=>e = .returned (.agg C.toArray)∧Ows w0 w' d M (staO s r g lv R G Sr Sg Os):=by
 rw [hC]
 exact sta_key h
theorem sus_texts {x : Option Addr} {c : Nat} {a : Option Addr} {m e : Nat} {y : Bool} (h : Ows w0 w d M (.row (.slice x E.length c) E::staO s r g lv R G Sr Sg Os)) (hm : Ob.row (.slice a m e) E8 ∈ Os) (hy : decide (E = E8) = y) :
  Calls Tryz.prog 26 #[.slice x E.length c, .slice a m e] w fun e w'=>e = .returned (.bool y)∧Ows w0 w' d M (staO s r g lv R G Sr Sg Os):=by
 have h1 : Row w 9 1 (.slice x E.length c) (strV E):=h.has (x:=.row (.slice x E.length c) E) (by simp)
 have h2 : Row w 9 1 (.slice a m e) (strV E8):=h.has (x:=.row (.slice a m e) E8) (by simp [hm])
 rw [← hy]
 exact (texts22_any h1.view h2.view).mono fun e w' q=>⟨q.1, (h.same q.2).drop⟩
end
def susOps20 : Array Oper:=#[
 ⟨some 61, .move (.tmp 8), 54, "outright.go:56", #[], none⟩,
 ⟨some 62, .call { callee := .builtin .append, args := #[.const (.slice none 0 0), .tmp 61], argTypes := #[54, 54] }, 54, "outright.go:56", #[⟨0, .data⟩], none⟩,
 ⟨some 63, .fieldAddr 74 (.tmp 11) 3, 0, "outright.go:56", #[], none⟩,
 ⟨some 64, .load 9 (.tmp 63), 9, "outright.go:56", #[⟨2, .data⟩], none⟩,
 ⟨some 65, .buildSlice 54 1 #[(0, .tmp 64)], 54, "outright.go:56", #[⟨3, .data⟩], none⟩,
 ⟨some 66, .call { callee := .builtin .append, args := #[.tmp 62, .tmp 65], argTypes := #[54, 54] }, 54, "outright.go:56", #[⟨1, .data⟩, ⟨4, .data⟩, ⟨1, .chain⟩], none⟩,
 ⟨some 12, .assign (.tmp 66), 54, "outright.go:56", #[⟨5, .data⟩, ⟨5, .chain⟩, ⟨0, .phase⟩, ⟨1, .phase⟩, ⟨2, .phase⟩, ⟨3, .phase⟩, ⟨4, .phase⟩, ⟨5, .phase⟩], none⟩]
section
variable {W w w1 : World} {x : Value} {E : List By} {p : By} {a : Addr} {v : Value}
theorem sus_blk (h : w.alloc (.cells (#[.string ⟨p.toArray⟩] : Array Value) 9) = w1) : Blk w1 w.heap.size [.string ⟨p.toArray⟩] 9:=by rw [← h]; exact Blk.new w [.string ⟨p.toArray⟩] 9
theorem sus_kepta {b : Obj} (hk : Kept (fun _=>False) W w) (h : w.alloc b = w1) : Kept (fun _=>False) W w1:=by rw [← h]; exact hk.alloc _
theorem sus_cella {b : Obj} (hk : w.cell? a = some v) (h : w.alloc b = w1) : w1.cell? a = some v:=by rw [← h]; exact ((Kept.refl (fun _=>False) w).alloc b).cell hk id
theorem sus_rowa {b : Obj} (hr : Row w 9 1 x (strV E)∧Kept (fun _=>False) W w∧∀ k, x.ownBlock = some k → W.heap.size ≤ k) (h : w.alloc b = w1) : Row w1 9 1 x (strV E)∧Kept (fun _=>False) W w1∧∀ k, x.ownBlock = some k → W.heap.size ≤ k :=
 ⟨hr.1.kept (sus_kepta (Kept.refl _ _) h) (fun _ _=>id), sus_kepta hr.2.1 h, hr.2.2⟩
end
theorem sus_reg20 {xb : Nat} {sv : Value} {W : World} {E : List By} {p : By} {Q : Exit → Act → World → Prop} {u0 u1 u2 u3 u4 u5 u6 u7 u9 u10 u12 u13 u14 u15 u16 u17 u18 u19 u20 u21 u22 u23 u24 u25 u26 u27 u28 u29 u30 u31 u32 u33 u34 u35 u36 u37 u38 u39 u40 u41 u42 u43 u44 u45 u46 u47 u48 u49 u50 u51 u52 u53 u54 u55 u56 u57 u58 u59 u60 u61 u62 u63 u64 u65 u66 u67 u68 u69 u70 u71 u72 u73 u74 u75 u76 u77 u78 u79 u80 u81 u82 u83 u84 u85 u86 u87 u88 u89 u90 u91 u92 u93 u94 u95 u96 u97 u98 u99 u100 u101 u102 u103 u104 u105 u106 u107 u108 u109 u110 u111 u112 u113 u114 u115 u116 u117 u118 u119 u120 u121 u122 u123 u124 u125 u126 u127 u128 u129 u130 u131 u132 u133 u134 u135 u136 u137 u138 u139 u140 u141 u142 u143 u144 u145 u146 u147 u148 u149 u150 u151 u152 u153 u154 u155 u156 u157 u158 u159 u160 u161 u162 u163 u164 u165 u166 u167 u168 u169 u170 u171 u172 u173 u174 u175 u176 u177 u178 u179 u180 u181 u182 u183 u184 u185 u186 u187 u188 u189 u190 u191 u192 u193 u194 u195 u196 u197 u198 u199 u200 u201 u202 u203 u204 u205 u206 u207 u208 u209 u210 u211 u212 u213 u214 u215 u216 u217 u218 u219 u220 u221 u222 u223 u224 u225 u226 u227 u228 u229 u230 u231 u232 u233 u234 u235 u236 u237 u238 u239 u240 u241 u242 u243 u244 : Value}
  (hs : Row W 9 1 sv (strV E)) (hc : W.cell? ⟨xb, 3, none⟩ = some (.string ⟨p.toArray⟩)) (hn : E.length ≤ 100000)
  (HP : ∀ c a (k : Nat) v w, Q (.panic c) (Act.put a (some k) v) w → Q (.panic c) a w) (HQ : ∀ (a2 : Option Addr) (c2 : Nat) (w2 : World) (v61 v62 v63 v64 v65 v66 : Value), Hid (Row w2 9 1 (.slice a2 (E.length + 1) c2) (strV (E ++ [p]))∧Kept (fun _=>False) W w2∧∀ k, (Value.slice a2 (E.length + 1) c2).ownBlock = some k → W.heap.size ≤ k) → Q .normal ⟨List.toArray (u0::u1::u2::u3::u4::u5::u6::u7::(sv)::u9::u10::(.pointer (some ⟨xb, 0, none⟩))::(.slice a2 (E.length + 1) c2)::u13::u14::u15::u16::u17::u18::u19::u20::u21::u22::u23::u24::u25::u26::u27::u28::u29::u30::u31::u32::u33::u34::u35::u36::u37::u38::u39::u40::u41::u42::u43::u44::u45::u46::u47::u48::u49::u50::u51::u52::u53::u54::u55::u56::u57::u58::u59::u60::v61::v62::v63::v64::v65::v66::u67::u68::u69::u70::u71::u72::u73::u74::u75::u76::u77::u78::u79::u80::u81::u82::u83::u84::u85::u86::u87::u88::u89::u90::u91::u92::u93::u94::u95::u96::u97::u98::u99::u100::u101::u102::u103::u104::u105::u106::u107::u108::u109::u110::u111::u112::u113::u114::u115::u116::u117::u118::u119::u120::u121::u122::u123::u124::u125::u126::u127::u128::u129::u130::u131::u132::u133::u134::u135::u136::u137::u138::u139::u140::u141::u142::u143::u144::u145::u146::u147::u148::u149::u150::u151::u152::u153::u154::u155::u156::u157::u158::u159::u160::u161::u162::u163::u164::u165::u166::u167::u168::u169::u170::u171::u172::u173::u174::u175::u176::u177::u178::u179::u180::u181::u182::u183::u184::u185::u186::u187::u188::u189::u190::u191::u192::u193::u194::u195::u196::u197::u198::u199::u200::u201::u202::u203::u204::u205::u206::u207::u208::u209::u210::u211::u212::u213::u214::u215::u216::u217::u218::u219::u220::u221::u222::u223::u224::u225::u226::u227::u228::u229::u230::u231::u232::u233::u234::u235::u236::u237::u238::u239::u240::u241::u242::u243::u244::[]), []⟩ w2) :
  Code.wp Tryz.prog (Code.region 20 susOps20 true) Q ⟨List.toArray (u0::u1::u2::u3::u4::u5::u6::u7::(sv)::u9::u10::(.pointer (some ⟨xb, 0, none⟩))::u12::u13::u14::u15::u16::u17::u18::u19::u20::u21::u22::u23::u24::u25::u26::u27::u28::u29::u30::u31::u32::u33::u34::u35::u36::u37::u38::u39::u40::u41::u42::u43::u44::u45::u46::u47::u48::u49::u50::u51::u52::u53::u54::u55::u56::u57::u58::u59::u60::u61::u62::u63::u64::u65::u66::u67::u68::u69::u70::u71::u72::u73::u74::u75::u76::u77::u78::u79::u80::u81::u82::u83::u84::u85::u86::u87::u88::u89::u90::u91::u92::u93::u94::u95::u96::u97::u98::u99::u100::u101::u102::u103::u104::u105::u106::u107::u108::u109::u110::u111::u112::u113::u114::u115::u116::u117::u118::u119::u120::u121::u122::u123::u124::u125::u126::u127::u128::u129::u130::u131::u132::u133::u134::u135::u136::u137::u138::u139::u140::u141::u142::u143::u144::u145::u146::u147::u148::u149::u150::u151::u152::u153::u154::u155::u156::u157::u158::u159::u160::u161::u162::u163::u164::u165::u166::u167::u168::u169::u170::u171::u172::u173::u174::u175::u176::u177::u178::u179::u180::u181::u182::u183::u184::u185::u186::u187::u188::u189::u190::u191::u192::u193::u194::u195::u196::u197::u198::u199::u200::u201::u202::u203::u204::u205::u206::u207::u208::u209::u210::u211::u212::u213::u214::u215::u216::u217::u218::u219::u220::u221::u222::u223::u224::u225::u226::u227::u228::u229::u230::u231::u232::u233::u234::u235::u236::u237::u238::u239::u240::u241::u242::u243::u244::[]), []⟩ W:=by
 have HQ:=Lib.hid HQ
 have HS:=Lib.hid hs
 have HN:=Lib.hid hn
 have hk0 : Kept (fun _=>False) W W.drew:=(Kept.refl _ _).drew
 have hS0 : W.drew.cell? ⟨xb, 3, none⟩ = some (.string ⟨p.toArray⟩)∧Kept (fun _=>False) W W.drew:=⟨hk0.cell hc id, hk0⟩
 have HC:=Lib.hid hc
 clear hs hn hk0 hc
 unfold susOps20
 refine wp_region_held_drew (S:=(fun w'=>w'.cell? ⟨xb, 3, none⟩ = some (.string ⟨p.toArray⟩)∧Kept (fun _=>False) W w')) (by kernel_rfl) hS0 (fun hH0=>?_)
 clear hS0
 generalize World.drew W = Wd at hH0 ⊢
 refine tk 0 rfl (HP · · _ _ ·) hH0 ?_
 refine tk 2 rfl (HP · · _ _ ·) hH0 ?_
 refine tk 3 rfl (HP · · _ _ ·) hH0 ?_
 refine wpAnyH_ready (rs:=[1, 4]) (by kernel_rfl) (by simp) ?_
 refine AllReadyH.cons (o := ⟨some 62, .call { callee := .builtin .append, args := #[.const (.slice none 0 0), .tmp 61], argTypes := #[54, 54] }, 54, "outright.go:56", #[⟨0, .data⟩], none⟩) rfl (fun K hK => ?_) ?_
 ·obtain ⟨a1, n1, c1, w1, hr1, kx, HR⟩:=cat_copy HS.out hH0.2 HN.out
  first | have HB:=Lib.hid (HB.out.kept kx id) | skip
  (with_reducible refine step_append_run2 ?_ ?_ ?_ 54 54 ?_ _ _ ?_ ?_ _ _ hr1 ?_)
  exact rfl
  rotate_left 2
  exact rfl
  exact rfl
  exact rfl
  try simp only [lyA, lyB, lyC, lyD]
  refine hK.out _ _ (⟨kx.cell hH0.1 id, hH0.2.trans kx⟩) (fun hH1=>?_)
  clear hK K
  try simp only [lyA, lyB, lyC, lyD]
  refine rd1 4 (fun K hK=>?_)
  go_simp
  generalize hwb : World.alloc _ _ = wb
  have HB:=Lib.hid (sus_blk hwb)
  first | have HR:=Lib.hid (sus_rowa HR.out hwb) | skip
  refine hK.out _ _ (⟨sus_cella hH1.1 hwb, sus_kepta hH1.2 hwb⟩) (fun hH2=>?_)
  clear hK K
  try simp only [lyA, lyB, lyC, lyD]
  generalize (World.heap _).size = xs at HB ⊢
  refine rd1 5 (fun K hK=>?_)
  obtain ⟨a2, c2, w2, hr2, HR2⟩:=cat_one HR.out HB.out HN.out
  (with_reducible refine step_append_run2 ?_ ?_ ?_ 54 54 ?_ _ _ ?_ ?_ _ _ hr2 ?_)
  exact rfl
  rotate_left 2
  exact rfl
  exact rfl
  exact rfl
  try simp only [lyA, lyB, lyC, lyD]
  refine hK.out _ _ (⟨HR2.out.2.1.cell HC.out id, HR2.out.2.1⟩) (fun hH3=>?_)
  clear hK K
  try simp only [lyA, lyB, lyC, lyD]
  refine tk 6 rfl (HP · · _ _ ·) hH3 ?_
  refine wpAnyH_done (by kernel_rfl) ?_ _
  exact HQ.out a2 c2 _ _ _ _ _ _ _ HR2
 refine AllReadyH.cons (o := ⟨some 65, .buildSlice 54 1 #[(0, .tmp 64)], 54, "outright.go:56", #[⟨3, .data⟩], none⟩) rfl (fun K hK => ?_) AllReadyH.nil
 go_simp
 generalize hwb : World.alloc _ _ = wb
 have HB:=Lib.hid (sus_blk hwb)
 first | have HR:=Lib.hid (sus_rowa HR.out hwb) | skip
 refine hK.out _ _ (⟨sus_cella hH0.1 hwb, sus_kepta hH0.2 hwb⟩) (fun hH1=>?_)
 clear hK K
 try simp only [lyA, lyB, lyC, lyD]
 generalize (World.heap _).size = xs at HB ⊢
 refine rd1 1 (fun K hK=>?_)
 obtain ⟨a1, n1, c1, w1, hr1, kx, HR⟩:=cat_copy HS.out hH1.2 HN.out
 first | have HB:=Lib.hid (HB.out.kept kx id) | skip
 (with_reducible refine step_append_run2 ?_ ?_ ?_ 54 54 ?_ _ _ ?_ ?_ _ _ hr1 ?_)
 exact rfl
 rotate_left 2
 exact rfl
 exact rfl
 exact rfl
 try simp only [lyA, lyB, lyC, lyD]
 refine hK.out _ _ (⟨kx.cell hH1.1 id, hH1.2.trans kx⟩) (fun hH2=>?_)
 clear hK K
 try simp only [lyA, lyB, lyC, lyD]
 refine rd1 5 (fun K hK=>?_)
 obtain ⟨a2, c2, w2, hr2, HR2⟩:=cat_one HR.out HB.out HN.out
 (with_reducible refine step_append_run2 ?_ ?_ ?_ 54 54 ?_ _ _ ?_ ?_ _ _ hr2 ?_)
 exact rfl
 rotate_left 2
 exact rfl
 exact rfl
 exact rfl
 try simp only [lyA, lyB, lyC, lyD]
 refine hK.out _ _ (⟨HR2.out.2.1.cell HC.out id, HR2.out.2.1⟩) (fun hH3=>?_)
 clear hK K
 try simp only [lyA, lyB, lyC, lyD]
 refine tk 6 rfl (HP · · _ _ ·) hH3 ?_
 refine wpAnyH_done (by kernel_rfl) ?_ _
 exact HQ.out a2 c2 _ _ _ _ _ _ _ HR2
def susOps28 : Array Oper:=#[
 ⟨some 86, .load 24 (.tmp 7), 24, "outright.go:64", #[], none⟩,
 ⟨some 87, .load 51 (.tmp 13), 51, "outright.go:64", #[], none⟩,
 ⟨some 88, .call { callee := .value (.func 22), args := #[.tmp 86, .tmp 87], argTypes := #[24, 51] }, 31, "outright.go:64", #[⟨0, .data⟩, ⟨1, .data⟩], none⟩,
 ⟨some 89, .binOp .neq 31 (.tmp 88) (.const (.int .i64 0)) 31, 4, "outright.go:64", #[⟨2, .data⟩], none⟩,
 ⟨some 90, .move (.tmp 89), 4, "outright.go:64", #[⟨3, .data⟩, ⟨2, .chain⟩], none⟩,
 ⟨some 91, .move (.tmp 15), 3, "outright.go:64", #[⟨4, .guard⟩], some (4, false)⟩,
 ⟨some 92, .binOp .lss 3 (.tmp 91) (.const (.int .i64 0)) 3, 4, "outright.go:64", #[⟨5, .data⟩, ⟨4, .guard⟩], some (4, false)⟩,
 ⟨some 93, .pick (.tmp 90) (.const (.bool true)) (.tmp 92), 4, "outright.go:64", #[⟨4, .data⟩, ⟨6, .data⟩], none⟩,
 ⟨some 94, .move (.tmp 93), 4, "outright.go:64", #[⟨7, .data⟩, ⟨4, .chain⟩], none⟩,
 ⟨some 95, .move (.tmp 15), 3, "outright.go:64", #[⟨8, .guard⟩], some (8, false)⟩,
 ⟨some 96, .binOp .geq 3 (.tmp 95) (.const (.int .i64 8)) 3, 4, "outright.go:64", #[⟨9, .data⟩, ⟨8, .guard⟩], some (8, false)⟩,
 ⟨some 97, .pick (.tmp 94) (.const (.bool true)) (.tmp 96), 4, "outright.go:64", #[⟨8, .data⟩, ⟨10, .data⟩], none⟩,
 ⟨some 98, .move (.tmp 97), 4, "outright.go:64", #[⟨11, .data⟩, ⟨8, .chain⟩], none⟩,
 ⟨some 99, .move (.tmp 15), 3, "outright.go:64", #[⟨12, .guard⟩], some (12, false)⟩,
 ⟨some 100, .indexAddr 72 (.tmp 9) (.tmp 99), 0, "outright.go:64", #[⟨13, .data⟩, ⟨12, .guard⟩], some (12, false)⟩,
 ⟨some 101, .fieldAddr 46 (.tmp 100) 0, 0, "outright.go:64", #[⟨14, .data⟩, ⟨12, .guard⟩], some (12, false)⟩,
 ⟨some 102, .load 3 (.tmp 101), 3, "outright.go:64", #[⟨15, .data⟩, ⟨12, .guard⟩], some (12, false)⟩,
 ⟨some 103, .binOp .neq 3 (.tmp 102) (.const (.int .i64 0)) 3, 4, "outright.go:64", #[⟨16, .data⟩, ⟨12, .guard⟩], some (12, false)⟩,
 ⟨some 104, .move (.tmp 103), 4, "outright.go:64", #[⟨17, .data⟩, ⟨12, .chain⟩, ⟨12, .guard⟩], some (12, false)⟩,
 ⟨some 105, .move (.tmp 15), 3, "outright.go:64", #[⟨18, .guard⟩], some (18, true)⟩,
 ⟨some 106, .indexAddr 72 (.tmp 9) (.tmp 105), 0, "outright.go:64", #[⟨19, .data⟩, ⟨18, .guard⟩], some (18, true)⟩,
 ⟨some 107, .load 46 (.tmp 106), 46, "outright.go:64", #[⟨20, .data⟩, ⟨18, .guard⟩], some (18, true)⟩,
 ⟨some 108, .fieldAddr 51 (.tmp 13) 0, 0, "outright.go:64", #[⟨18, .guard⟩], some (18, true)⟩,
 ⟨some 109, .load 46 (.tmp 108), 46, "outright.go:64", #[⟨22, .data⟩, ⟨18, .guard⟩], some (18, true)⟩,
 ⟨some 110, .binOp .neq 46 (.tmp 107) (.tmp 109) 46, 4, "outright.go:64", #[⟨21, .data⟩, ⟨23, .data⟩, ⟨18, .guard⟩], some (18, true)⟩,
 ⟨some 111, .pick (.tmp 104) (.tmp 110) (.const (.bool false)), 4, "outright.go:64", #[⟨18, .data⟩, ⟨24, .data⟩, ⟨12, .guard⟩], some (12, false)⟩,
 ⟨some 112, .pick (.tmp 98) (.const (.bool true)) (.tmp 111), 4, "outright.go:64", #[⟨12, .data⟩, ⟨25, .data⟩], none⟩,
 ⟨some 113, .move (.tmp 112), 4, "outright.go:64", #[⟨26, .data⟩, ⟨18, .chain⟩], none⟩,
 ⟨some 114, .fieldAddr 51 (.tmp 13) 0, 0, "outright.go:64", #[⟨27, .guard⟩], some (27, false)⟩,
 ⟨some 115, .fieldAddr 46 (.tmp 114) 0, 0, "outright.go:64", #[⟨28, .data⟩, ⟨27, .guard⟩], some (27, false)⟩,
 ⟨some 116, .load 3 (.tmp 115), 3, "outright.go:64", #[⟨29, .data⟩, ⟨27, .guard⟩], some (27, false)⟩,
 ⟨some 117, .move (.tmp 8), 54, "outright.go:64", #[⟨27, .guard⟩], some (27, false)⟩,
 ⟨some 118, .call { callee := .builtin .len, args := #[.tmp 117], argTypes := #[54] }, 3, "outright.go:64", #[⟨31, .data⟩, ⟨27, .guard⟩], some (27, false)⟩,
 ⟨some 119, .binOp .neq 3 (.tmp 116) (.tmp 118) 3, 4, "outright.go:64", #[⟨30, .data⟩, ⟨32, .data⟩, ⟨27, .guard⟩], some (27, false)⟩,
 ⟨some 120, .pick (.tmp 113) (.const (.bool true)) (.tmp 119), 4, "outright.go:64", #[⟨27, .data⟩, ⟨33, .data⟩], none⟩]
theorem sus_reg28A {w8 : World} {sb kb bb m N sc : Nat} {sa : Option Addr} {Y H C : List Value} {Q : Exit → Act → World → Prop} {u0 u1 u2 u3 u4 u5 u6 u10 u11 u12 u14 u16 u17 u18 u19 u20 u21 u22 u23 u24 u25 u26 u27 u28 u29 u30 u31 u32 u33 u34 u35 u36 u37 u38 u39 u40 u41 u42 u43 u44 u45 u46 u47 u48 u49 u50 u51 u52 u53 u54 u55 u56 u57 u58 u59 u60 u61 u62 u63 u64 u65 u66 u67 u68 u69 u70 u71 u72 u73 u74 u75 u76 u77 u78 u79 u80 u81 u82 u83 u84 u85 u86 u87 u88 u89 u90 u91 u92 u93 u94 u95 u96 u97 u98 u99 u100 u101 u102 u103 u104 u105 u106 u107 u108 u109 u110 u111 u112 u113 u114 u115 u116 u117 u118 u119 u120 u121 u122 u123 u124 u125 u126 u127 u128 u129 u130 u131 u132 u133 u134 u135 u136 u137 u138 u139 u140 u141 u142 u143 u144 u145 u146 u147 u148 u149 u150 u151 u152 u153 u154 u155 u156 u157 u158 u159 u160 u161 u162 u163 u164 u165 u166 u167 u168 u169 u170 u171 u172 u173 u174 u175 u176 u177 u178 u179 u180 u181 u182 u183 u184 u185 u186 u187 u188 u189 u190 u191 u192 u193 u194 u195 u196 u197 u198 u199 u200 u201 u202 u203 u204 u205 u206 u207 u208 u209 u210 u211 u212 u213 u214 u215 u216 u217 u218 u219 u220 u221 u222 u223 u224 u225 u226 u227 u228 u229 u230 u231 u232 u233 u234 u235 u236 u237 u238 u239 u240 u241 u242 u243 u244 : Value} (HCK : Hid (∀ w', Kept (fun _=>False) w8 w' → Calls Tryz.prog 22 #[.agg C.toArray, .agg Y.toArray] w' fun e w2=>e = .returned (.int .i64 0)∧Kept (fun _=>False) w' w2)) (HL3 : Hid (sb < w8.heap.size∧kb < w8.heap.size∧bb < w8.heap.size)) (HIh : Hid ((Tryz.prog.info? 46).map (·.size) = some H.length)) (HIk : Hid ((Tryz.prog.info? 24).map (·.size) = some C.length)) (HIy : Hid ((Tryz.prog.info? 51).map (·.size) = some Y.length)) (hneq : ∀ w', (binOp .neq 46 (.agg H.toArray) (.agg H.toArray)).run Tryz.prog w' = .ok (.bool false) w') (i0 : decide ((m : Int) < 0) = false) (i1 : decide ((8 : Int) ≤ (m : Int)) = false) (i2 : (m : Int) < 8) (i6 : IntKind.i64.wrap (m : Int) = (m : Int)) (i7 : wrap64 (m : Int) = (m : Int)) (z1 : ((N : Int) == (N : Int)) = true) (z2 : ((N : Int) != (N : Int)) = false) (j1 : ((N : Int) != 0) = true) (j2 : ((N : Int) == 0) = false) (j3 : decide ((N : Int) = 0) = false) (SA : (fun w'=>S28 w8 w' sb kb bb m Y H C (H) (N : Int) (N : Int)) w8.drew)
  (HP : ∀ c a (k : Nat) v w, Q (.panic c) (Act.put a (some k) v) w → Q (.panic c) a w) (HQ : ∀ (v86 v87 v88 v89 v90 v91 v92 v93 v94 v95 v96 v97 v98 v99 v100 v101 v102 v103 v104 v105 v106 v107 v108 v109 v110 v111 v112 v113 v114 v115 v116 v117 v118 v119 : Value) (w' : World), (fun w'=>S28 w8 w' sb kb bb m Y H C (H) (N : Int) (N : Int)) w' → Q .normal ⟨List.toArray (u0::u1::u2::u3::u4::u5::u6::(.pointer (some ⟨kb, 0, none⟩))::(.slice sa N sc)::(.pointer (some ⟨bb, 0, none⟩))::u10::u11::u12::(.pointer (some ⟨sb, 0, none⟩))::u14::(.int .i64 (m : Int))::u16::u17::u18::u19::u20::u21::u22::u23::u24::u25::u26::u27::u28::u29::u30::u31::u32::u33::u34::u35::u36::u37::u38::u39::u40::u41::u42::u43::u44::u45::u46::u47::u48::u49::u50::u51::u52::u53::u54::u55::u56::u57::u58::u59::u60::u61::u62::u63::u64::u65::u66::u67::u68::u69::u70::u71::u72::u73::u74::u75::u76::u77::u78::u79::u80::u81::u82::u83::u84::u85::v86::v87::v88::v89::v90::v91::v92::v93::v94::v95::v96::v97::v98::v99::v100::v101::v102::v103::v104::v105::v106::v107::v108::v109::v110::v111::v112::v113::v114::v115::v116::v117::v118::v119::(.bool false)::u121::u122::u123::u124::u125::u126::u127::u128::u129::u130::u131::u132::u133::u134::u135::u136::u137::u138::u139::u140::u141::u142::u143::u144::u145::u146::u147::u148::u149::u150::u151::u152::u153::u154::u155::u156::u157::u158::u159::u160::u161::u162::u163::u164::u165::u166::u167::u168::u169::u170::u171::u172::u173::u174::u175::u176::u177::u178::u179::u180::u181::u182::u183::u184::u185::u186::u187::u188::u189::u190::u191::u192::u193::u194::u195::u196::u197::u198::u199::u200::u201::u202::u203::u204::u205::u206::u207::u208::u209::u210::u211::u212::u213::u214::u215::u216::u217::u218::u219::u220::u221::u222::u223::u224::u225::u226::u227::u228::u229::u230::u231::u232::u233::u234::u235::u236::u237::u238::u239::u240::u241::u242::u243::u244::[]), []⟩ w') :
  Code.wp Tryz.prog (Code.region 28 susOps28 true) Q ⟨List.toArray (u0::u1::u2::u3::u4::u5::u6::(.pointer (some ⟨kb, 0, none⟩))::(.slice sa N sc)::(.pointer (some ⟨bb, 0, none⟩))::u10::u11::u12::(.pointer (some ⟨sb, 0, none⟩))::u14::(.int .i64 (m : Int))::u16::u17::u18::u19::u20::u21::u22::u23::u24::u25::u26::u27::u28::u29::u30::u31::u32::u33::u34::u35::u36::u37::u38::u39::u40::u41::u42::u43::u44::u45::u46::u47::u48::u49::u50::u51::u52::u53::u54::u55::u56::u57::u58::u59::u60::u61::u62::u63::u64::u65::u66::u67::u68::u69::u70::u71::u72::u73::u74::u75::u76::u77::u78::u79::u80::u81::u82::u83::u84::u85::u86::u87::u88::u89::u90::u91::u92::u93::u94::u95::u96::u97::u98::u99::u100::u101::u102::u103::u104::u105::u106::u107::u108::u109::u110::u111::u112::u113::u114::u115::u116::u117::u118::u119::u120::u121::u122::u123::u124::u125::u126::u127::u128::u129::u130::u131::u132::u133::u134::u135::u136::u137::u138::u139::u140::u141::u142::u143::u144::u145::u146::u147::u148::u149::u150::u151::u152::u153::u154::u155::u156::u157::u158::u159::u160::u161::u162::u163::u164::u165::u166::u167::u168::u169::u170::u171::u172::u173::u174::u175::u176::u177::u178::u179::u180::u181::u182::u183::u184::u185::u186::u187::u188::u189::u190::u191::u192::u193::u194::u195::u196::u197::u198::u199::u200::u201::u202::u203::u204::u205::u206::u207::u208::u209::u210::u211::u212::u213::u214::u215::u216::u217::u218::u219::u220::u221::u222::u223::u224::u225::u226::u227::u228::u229::u230::u231::u232::u233::u234::u235::u236::u237::u238::u239::u240::u241::u242::u243::u244::[]), []⟩ w8:=by
 have HQ:=Lib.hid HQ
 unfold susOps28
 refine wp_region_held_drew (S:=(fun w'=>S28 w8 w' sb kb bb m Y H C (H) (N : Int) (N : Int))) (by kernel_rfl) SA (fun hH0=>?_)
 refine tky 0 rfl (HP · · _ _ ·) (yieldsIf_load_mid (by rfl) _ _ rfl (kb) (0) rfl (C) _ (fun w q=>q.2.2.1) Tryz.underlying24 rfl HIk.out) hH0 ?_
 refine tky 1 rfl (HP · · _ _ ·) (yieldsIf_load_mid (by rfl) _ _ rfl (sb) (0) rfl (Y) _ (fun w q=>q.1) Tryz.underlying51 rfl HIy.out) hH0 ?_
 refine rd1 2 (fun K hK=>?_)
 go_simp
 refine (HCK.out _ hH0.2.2.2.2.2.2).mono ?_
 rintro e w12 ⟨rfl, hk12⟩
 refine hK.out _ _ (s28_next hH0 HL3.out hk12) (fun hH1=>?_)
 clear hK K
 try simp only [lyA, lyB, lyC, lyD]
 refine tk 3 rfl (HP · · _ _ ·) hH1 ?_
 refine tk 4 rfl (HP · · _ _ ·) hH1 ?_
 refine tk 5 rfl (HP · · _ _ ·) hH1 ?_
 refine tk 6 rfl (HP · · _ _ ·) hH1 ?_
 refine tk 7 rfl (HP · · _ _ ·) hH1 ?_
 refine tk 8 rfl (HP · · _ _ ·) hH1 ?_
 refine tk 9 rfl (HP · · _ _ ·) hH1 ?_
 refine tk 10 rfl (HP · · _ _ ·) hH1 ?_
 refine tk 11 rfl (HP · · _ _ ·) hH1 ?_
 refine tk 12 rfl (HP · · _ _ ·) hH1 ?_
 refine tk 13 rfl (HP · · _ _ ·) hH1 ?_
 refine tk 14 rfl (HP · · _ _ ·) hH1 ?_
 refine tk 15 rfl (HP · · _ _ ·) hH1 ?_
 refine tk 16 rfl (HP · · _ _ ·) hH1 ?_
 refine tk 17 rfl (HP · · _ _ ·) hH1 ?_
 refine tk 18 rfl (HP · · _ _ ·) hH1 ?_
 refine tk 19 rfl (HP · · _ _ ·) hH1 ?_
 refine tk 20 rfl (HP · · _ _ ·) hH1 ?_
 refine tky 21 rfl (HP · · _ _ ·) (yieldsIf_load_mid (by rfl) _ _ rfl (bb) (m * 33) rfl (H) _ (fun w q=>q.2.2.2.1) Tryz.underlying46 rfl HIh.out) hH1 ?_
 refine tk 22 rfl (HP · · _ _ ·) hH1 ?_
 refine tky 23 rfl (HP · · _ _ ·) (yieldsIf_load_mid (by rfl) _ _ rfl (sb) (0) rfl (H) _ (fun w q=>q.2.1) Tryz.underlying46 rfl HIh.out) hH1 ?_
 refine tk 24 rfl (HP · · _ _ ·) hH1 ?_
 refine tk 25 rfl (HP · · _ _ ·) hH1 ?_
 refine tk 26 rfl (HP · · _ _ ·) hH1 ?_
 refine tk 27 rfl (HP · · _ _ ·) hH1 ?_
 refine tk 28 rfl (HP · · _ _ ·) hH1 ?_
 refine tk 29 rfl (HP · · _ _ ·) hH1 ?_
 refine tk 30 rfl (HP · · _ _ ·) hH1 ?_
 refine tk 31 rfl (HP · · _ _ ·) hH1 ?_
 refine tk 32 rfl (HP · · _ _ ·) hH1 ?_
 refine tk 33 rfl (HP · · _ _ ·) hH1 ?_
 refine tk 34 rfl (HP · · _ _ ·) hH1 ?_
 refine wpAnyH_done (by kernel_rfl) ?_ _
 exact HQ.out _ _ _ _ _ _ _ _ _ _ _ _ _ _ _ _ _ _ _ _ _ _ _ _ _ _ _ _ _ _ _ _ _ _ _ hH1
theorem sus_reg28F {w8 : World} {sb kb bb m N sc : Nat} {sa : Option Addr} {Y H C : List Value} {Q : Exit → Act → World → Prop} {u0 u1 u2 u3 u4 u5 u6 u10 u11 u12 u14 u16 u17 u18 u19 u20 u21 u22 u23 u24 u25 u26 u27 u28 u29 u30 u31 u32 u33 u34 u35 u36 u37 u38 u39 u40 u41 u42 u43 u44 u45 u46 u47 u48 u49 u50 u51 u52 u53 u54 u55 u56 u57 u58 u59 u60 u61 u62 u63 u64 u65 u66 u67 u68 u69 u70 u71 u72 u73 u74 u75 u76 u77 u78 u79 u80 u81 u82 u83 u84 u85 u86 u87 u88 u89 u90 u91 u92 u93 u94 u95 u96 u97 u98 u99 u100 u101 u102 u103 u104 u105 u106 u107 u108 u109 u110 u111 u112 u113 u114 u115 u116 u117 u118 u119 u120 u121 u122 u123 u124 u125 u126 u127 u128 u129 u130 u131 u132 u133 u134 u135 u136 u137 u138 u139 u140 u141 u142 u143 u144 u145 u146 u147 u148 u149 u150 u151 u152 u153 u154 u155 u156 u157 u158 u159 u160 u161 u162 u163 u164 u165 u166 u167 u168 u169 u170 u171 u172 u173 u174 u175 u176 u177 u178 u179 u180 u181 u182 u183 u184 u185 u186 u187 u188 u189 u190 u191 u192 u193 u194 u195 u196 u197 u198 u199 u200 u201 u202 u203 u204 u205 u206 u207 u208 u209 u210 u211 u212 u213 u214 u215 u216 u217 u218 u219 u220 u221 u222 u223 u224 u225 u226 u227 u228 u229 u230 u231 u232 u233 u234 u235 u236 u237 u238 u239 u240 u241 u242 u243 u244 : Value} (HCK : Hid (∀ w', Kept (fun _=>False) w8 w' → Calls Tryz.prog 22 #[.agg C.toArray, .agg Y.toArray] w' fun e w2=>e = .returned (.int .i64 0)∧Kept (fun _=>False) w' w2)) (HL3 : Hid (sb < w8.heap.size∧kb < w8.heap.size∧bb < w8.heap.size)) (HIh : Hid ((Tryz.prog.info? 46).map (·.size) = some H.length)) (HIk : Hid ((Tryz.prog.info? 24).map (·.size) = some C.length)) (HIy : Hid ((Tryz.prog.info? 51).map (·.size) = some Y.length)) (hneq : ∀ w', (binOp .neq 46 (.agg H.toArray) (.agg H.toArray)).run Tryz.prog w' = .ok (.bool false) w') (i0 : decide ((m : Int) < 0) = false) (i1 : decide ((8 : Int) ≤ (m : Int)) = false) (i2 : (m : Int) < 8) (i6 : IntKind.i64.wrap (m : Int) = (m : Int)) (i7 : wrap64 (m : Int) = (m : Int)) (z1 : ((N : Int) == (N : Int)) = true) (z2 : ((N : Int) != (N : Int)) = false) (SA : (fun w'=>S28 w8 w' sb kb bb m Y H C (headC 0 zeroRoot) 0 (N : Int)) w8.drew)
  (HP : ∀ c a (k : Nat) v w, Q (.panic c) (Act.put a (some k) v) w → Q (.panic c) a w) (HQ : ∀ (v86 v87 v88 v89 v90 v91 v92 v93 v94 v95 v96 v97 v98 v99 v100 v101 v102 v103 v104 v105 v106 v107 v108 v109 v110 v111 v112 v113 v114 v115 v116 v117 v118 v119 : Value) (w' : World), (fun w'=>S28 w8 w' sb kb bb m Y H C (headC 0 zeroRoot) 0 (N : Int)) w' → Q .normal ⟨List.toArray (u0::u1::u2::u3::u4::u5::u6::(.pointer (some ⟨kb, 0, none⟩))::(.slice sa N sc)::(.pointer (some ⟨bb, 0, none⟩))::u10::u11::u12::(.pointer (some ⟨sb, 0, none⟩))::u14::(.int .i64 (m : Int))::u16::u17::u18::u19::u20::u21::u22::u23::u24::u25::u26::u27::u28::u29::u30::u31::u32::u33::u34::u35::u36::u37::u38::u39::u40::u41::u42::u43::u44::u45::u46::u47::u48::u49::u50::u51::u52::u53::u54::u55::u56::u57::u58::u59::u60::u61::u62::u63::u64::u65::u66::u67::u68::u69::u70::u71::u72::u73::u74::u75::u76::u77::u78::u79::u80::u81::u82::u83::u84::u85::v86::v87::v88::v89::v90::v91::v92::v93::v94::v95::v96::v97::v98::v99::v100::v101::v102::v103::v104::v105::v106::v107::v108::v109::v110::v111::v112::v113::v114::v115::v116::v117::v118::v119::(.bool false)::u121::u122::u123::u124::u125::u126::u127::u128::u129::u130::u131::u132::u133::u134::u135::u136::u137::u138::u139::u140::u141::u142::u143::u144::u145::u146::u147::u148::u149::u150::u151::u152::u153::u154::u155::u156::u157::u158::u159::u160::u161::u162::u163::u164::u165::u166::u167::u168::u169::u170::u171::u172::u173::u174::u175::u176::u177::u178::u179::u180::u181::u182::u183::u184::u185::u186::u187::u188::u189::u190::u191::u192::u193::u194::u195::u196::u197::u198::u199::u200::u201::u202::u203::u204::u205::u206::u207::u208::u209::u210::u211::u212::u213::u214::u215::u216::u217::u218::u219::u220::u221::u222::u223::u224::u225::u226::u227::u228::u229::u230::u231::u232::u233::u234::u235::u236::u237::u238::u239::u240::u241::u242::u243::u244::[]), []⟩ w') :
  Code.wp Tryz.prog (Code.region 28 susOps28 true) Q ⟨List.toArray (u0::u1::u2::u3::u4::u5::u6::(.pointer (some ⟨kb, 0, none⟩))::(.slice sa N sc)::(.pointer (some ⟨bb, 0, none⟩))::u10::u11::u12::(.pointer (some ⟨sb, 0, none⟩))::u14::(.int .i64 (m : Int))::u16::u17::u18::u19::u20::u21::u22::u23::u24::u25::u26::u27::u28::u29::u30::u31::u32::u33::u34::u35::u36::u37::u38::u39::u40::u41::u42::u43::u44::u45::u46::u47::u48::u49::u50::u51::u52::u53::u54::u55::u56::u57::u58::u59::u60::u61::u62::u63::u64::u65::u66::u67::u68::u69::u70::u71::u72::u73::u74::u75::u76::u77::u78::u79::u80::u81::u82::u83::u84::u85::u86::u87::u88::u89::u90::u91::u92::u93::u94::u95::u96::u97::u98::u99::u100::u101::u102::u103::u104::u105::u106::u107::u108::u109::u110::u111::u112::u113::u114::u115::u116::u117::u118::u119::u120::u121::u122::u123::u124::u125::u126::u127::u128::u129::u130::u131::u132::u133::u134::u135::u136::u137::u138::u139::u140::u141::u142::u143::u144::u145::u146::u147::u148::u149::u150::u151::u152::u153::u154::u155::u156::u157::u158::u159::u160::u161::u162::u163::u164::u165::u166::u167::u168::u169::u170::u171::u172::u173::u174::u175::u176::u177::u178::u179::u180::u181::u182::u183::u184::u185::u186::u187::u188::u189::u190::u191::u192::u193::u194::u195::u196::u197::u198::u199::u200::u201::u202::u203::u204::u205::u206::u207::u208::u209::u210::u211::u212::u213::u214::u215::u216::u217::u218::u219::u220::u221::u222::u223::u224::u225::u226::u227::u228::u229::u230::u231::u232::u233::u234::u235::u236::u237::u238::u239::u240::u241::u242::u243::u244::[]), []⟩ w8:=by
 have HQ:=Lib.hid HQ
 unfold susOps28
 refine wp_region_held_drew (S:=(fun w'=>S28 w8 w' sb kb bb m Y H C (headC 0 zeroRoot) 0 (N : Int))) (by kernel_rfl) SA (fun hH0=>?_)
 refine tky 0 rfl (HP · · _ _ ·) (yieldsIf_load_mid (by rfl) _ _ rfl (kb) (0) rfl (C) _ (fun w q=>q.2.2.1) Tryz.underlying24 rfl HIk.out) hH0 ?_
 refine tky 1 rfl (HP · · _ _ ·) (yieldsIf_load_mid (by rfl) _ _ rfl (sb) (0) rfl (Y) _ (fun w q=>q.1) Tryz.underlying51 rfl HIy.out) hH0 ?_
 refine rd1 2 (fun K hK=>?_)
 go_simp
 refine (HCK.out _ hH0.2.2.2.2.2.2).mono ?_
 rintro e w12 ⟨rfl, hk12⟩
 refine hK.out _ _ (s28_next hH0 HL3.out hk12) (fun hH1=>?_)
 clear hK K
 try simp only [lyA, lyB, lyC, lyD]
 refine tk 3 rfl (HP · · _ _ ·) hH1 ?_
 refine tk 4 rfl (HP · · _ _ ·) hH1 ?_
 refine tk 5 rfl (HP · · _ _ ·) hH1 ?_
 refine tk 6 rfl (HP · · _ _ ·) hH1 ?_
 refine tk 7 rfl (HP · · _ _ ·) hH1 ?_
 refine tk 8 rfl (HP · · _ _ ·) hH1 ?_
 refine tk 9 rfl (HP · · _ _ ·) hH1 ?_
 refine tk 10 rfl (HP · · _ _ ·) hH1 ?_
 refine tk 11 rfl (HP · · _ _ ·) hH1 ?_
 refine tk 12 rfl (HP · · _ _ ·) hH1 ?_
 refine tk 13 rfl (HP · · _ _ ·) hH1 ?_
 refine tk 14 rfl (HP · · _ _ ·) hH1 ?_
 refine tk 15 rfl (HP · · _ _ ·) hH1 ?_
 refine tk 16 rfl (HP · · _ _ ·) hH1 ?_
 refine tk 17 rfl (HP · · _ _ ·) hH1 ?_
 refine tk 18 rfl (HP · · _ _ ·) hH1 ?_
 refine tk0 19 rfl (HP · · _ _ ·) hH1 ?_
 refine tk0 20 rfl (HP · · _ _ ·) hH1 ?_
 refine tk0 21 rfl (HP · · _ _ ·) hH1 ?_
 refine tk0 22 rfl (HP · · _ _ ·) hH1 ?_
 refine tk0 23 rfl (HP · · _ _ ·) hH1 ?_
 refine tk0 24 rfl (HP · · _ _ ·) hH1 ?_
 refine tk 25 rfl (HP · · _ _ ·) hH1 ?_
 refine tk 26 rfl (HP · · _ _ ·) hH1 ?_
 refine tk 27 rfl (HP · · _ _ ·) hH1 ?_
 refine tk 28 rfl (HP · · _ _ ·) hH1 ?_
 refine tk 29 rfl (HP · · _ _ ·) hH1 ?_
 refine tk 30 rfl (HP · · _ _ ·) hH1 ?_
 refine tk 31 rfl (HP · · _ _ ·) hH1 ?_
 refine tk 32 rfl (HP · · _ _ ·) hH1 ?_
 refine tk 33 rfl (HP · · _ _ ·) hH1 ?_
 refine tk 34 rfl (HP · · _ _ ·) hH1 ?_
 refine wpAnyH_done (by kernel_rfl) ?_ _
 exact HQ.out _ _ _ _ _ _ _ _ _ _ _ _ _ _ _ _ _ _ _ _ _ _ _ _ _ _ _ _ _ _ _ _ _ _ _ hH1
theorem sus_reg28 {w8 : World} {sb kb bb m N sc : Nat} {sa : Option Addr} {Y H C : List Value} {Q : Exit → Act → World → Prop} {u0 u1 u2 u3 u4 u5 u6 u10 u11 u12 u14 u16 u17 u18 u19 u20 u21 u22 u23 u24 u25 u26 u27 u28 u29 u30 u31 u32 u33 u34 u35 u36 u37 u38 u39 u40 u41 u42 u43 u44 u45 u46 u47 u48 u49 u50 u51 u52 u53 u54 u55 u56 u57 u58 u59 u60 u61 u62 u63 u64 u65 u66 u67 u68 u69 u70 u71 u72 u73 u74 u75 u76 u77 u78 u79 u80 u81 u82 u83 u84 u85 u86 u87 u88 u89 u90 u91 u92 u93 u94 u95 u96 u97 u98 u99 u100 u101 u102 u103 u104 u105 u106 u107 u108 u109 u110 u111 u112 u113 u114 u115 u116 u117 u118 u119 u120 u121 u122 u123 u124 u125 u126 u127 u128 u129 u130 u131 u132 u133 u134 u135 u136 u137 u138 u139 u140 u141 u142 u143 u144 u145 u146 u147 u148 u149 u150 u151 u152 u153 u154 u155 u156 u157 u158 u159 u160 u161 u162 u163 u164 u165 u166 u167 u168 u169 u170 u171 u172 u173 u174 u175 u176 u177 u178 u179 u180 u181 u182 u183 u184 u185 u186 u187 u188 u189 u190 u191 u192 u193 u194 u195 u196 u197 u198 u199 u200 u201 u202 u203 u204 u205 u206 u207 u208 u209 u210 u211 u212 u213 u214 u215 u216 u217 u218 u219 u220 u221 u222 u223 u224 u225 u226 u227 u228 u229 u230 u231 u232 u233 u234 u235 u236 u237 u238 u239 u240 u241 u242 u243 u244 : Value} (HCK : Hid (∀ w', Kept (fun _=>False) w8 w' → Calls Tryz.prog 22 #[.agg C.toArray, .agg Y.toArray] w' fun e w2=>e = .returned (.int .i64 0)∧Kept (fun _=>False) w' w2)) (HL3 : Hid (sb < w8.heap.size∧kb < w8.heap.size∧bb < w8.heap.size)) (HIh : Hid ((Tryz.prog.info? 46).map (·.size) = some H.length)) (HIk : Hid ((Tryz.prog.info? 24).map (·.size) = some C.length)) (HIy : Hid ((Tryz.prog.info? 51).map (·.size) = some Y.length)) (hneq : ∀ w', (binOp .neq 46 (.agg H.toArray) (.agg H.toArray)).run Tryz.prog w' = .ok (.bool false) w') (i0 : decide ((m : Int) < 0) = false) (i1 : decide ((8 : Int) ≤ (m : Int)) = false) (i2 : (m : Int) < 8) (i6 : IntKind.i64.wrap (m : Int) = (m : Int)) (i7 : wrap64 (m : Int) = (m : Int)) (z1 : ((N : Int) == (N : Int)) = true) (z2 : ((N : Int) != (N : Int)) = false) (j1 : ((N : Int) != 0) = true) (j2 : ((N : Int) == 0) = false) (j3 : decide ((N : Int) = 0) = false) (HSA : Hid (S28 w8 w8.drew sb kb bb m Y H C H (N : Int) (N : Int) ∨ S28 w8 w8.drew sb kb bb m Y H C (headC 0 zeroRoot) 0 (N : Int)))
  (HP : ∀ c a (k : Nat) v w, Q (.panic c) (Act.put a (some k) v) w → Q (.panic c) a w) (HQ : ∀ (v86 v87 v88 v89 v90 v91 v92 v93 v94 v95 v96 v97 v98 v99 v100 v101 v102 v103 v104 v105 v106 v107 v108 v109 v110 v111 v112 v113 v114 v115 v116 v117 v118 v119 : Value) (w' : World), (fun w'=>Kept (fun _=>False) w8 w') w' → Q .normal ⟨List.toArray (u0::u1::u2::u3::u4::u5::u6::(.pointer (some ⟨kb, 0, none⟩))::(.slice sa N sc)::(.pointer (some ⟨bb, 0, none⟩))::u10::u11::u12::(.pointer (some ⟨sb, 0, none⟩))::u14::(.int .i64 (m : Int))::u16::u17::u18::u19::u20::u21::u22::u23::u24::u25::u26::u27::u28::u29::u30::u31::u32::u33::u34::u35::u36::u37::u38::u39::u40::u41::u42::u43::u44::u45::u46::u47::u48::u49::u50::u51::u52::u53::u54::u55::u56::u57::u58::u59::u60::u61::u62::u63::u64::u65::u66::u67::u68::u69::u70::u71::u72::u73::u74::u75::u76::u77::u78::u79::u80::u81::u82::u83::u84::u85::v86::v87::v88::v89::v90::v91::v92::v93::v94::v95::v96::v97::v98::v99::v100::v101::v102::v103::v104::v105::v106::v107::v108::v109::v110::v111::v112::v113::v114::v115::v116::v117::v118::v119::(.bool false)::u121::u122::u123::u124::u125::u126::u127::u128::u129::u130::u131::u132::u133::u134::u135::u136::u137::u138::u139::u140::u141::u142::u143::u144::u145::u146::u147::u148::u149::u150::u151::u152::u153::u154::u155::u156::u157::u158::u159::u160::u161::u162::u163::u164::u165::u166::u167::u168::u169::u170::u171::u172::u173::u174::u175::u176::u177::u178::u179::u180::u181::u182::u183::u184::u185::u186::u187::u188::u189::u190::u191::u192::u193::u194::u195::u196::u197::u198::u199::u200::u201::u202::u203::u204::u205::u206::u207::u208::u209::u210::u211::u212::u213::u214::u215::u216::u217::u218::u219::u220::u221::u222::u223::u224::u225::u226::u227::u228::u229::u230::u231::u232::u233::u234::u235::u236::u237::u238::u239::u240::u241::u242::u243::u244::[]), []⟩ w') :
  Code.wp Tryz.prog (Code.region 28 susOps28 true) Q ⟨List.toArray (u0::u1::u2::u3::u4::u5::u6::(.pointer (some ⟨kb, 0, none⟩))::(.slice sa N sc)::(.pointer (some ⟨bb, 0, none⟩))::u10::u11::u12::(.pointer (some ⟨sb, 0, none⟩))::u14::(.int .i64 (m : Int))::u16::u17::u18::u19::u20::u21::u22::u23::u24::u25::u26::u27::u28::u29::u30::u31::u32::u33::u34::u35::u36::u37::u38::u39::u40::u41::u42::u43::u44::u45::u46::u47::u48::u49::u50::u51::u52::u53::u54::u55::u56::u57::u58::u59::u60::u61::u62::u63::u64::u65::u66::u67::u68::u69::u70::u71::u72::u73::u74::u75::u76::u77::u78::u79::u80::u81::u82::u83::u84::u85::u86::u87::u88::u89::u90::u91::u92::u93::u94::u95::u96::u97::u98::u99::u100::u101::u102::u103::u104::u105::u106::u107::u108::u109::u110::u111::u112::u113::u114::u115::u116::u117::u118::u119::u120::u121::u122::u123::u124::u125::u126::u127::u128::u129::u130::u131::u132::u133::u134::u135::u136::u137::u138::u139::u140::u141::u142::u143::u144::u145::u146::u147::u148::u149::u150::u151::u152::u153::u154::u155::u156::u157::u158::u159::u160::u161::u162::u163::u164::u165::u166::u167::u168::u169::u170::u171::u172::u173::u174::u175::u176::u177::u178::u179::u180::u181::u182::u183::u184::u185::u186::u187::u188::u189::u190::u191::u192::u193::u194::u195::u196::u197::u198::u199::u200::u201::u202::u203::u204::u205::u206::u207::u208::u209::u210::u211::u212::u213::u214::u215::u216::u217::u218::u219::u220::u221::u222::u223::u224::u225::u226::u227::u228::u229::u230::u231::u232::u233::u234::u235::u236::u237::u238::u239::u240::u241::u242::u243::u244::[]), []⟩ w8:=by
 have HP:=Lib.hid HP
 have HQ:=Lib.hid HQ
 rcases HSA.out with SA | SA
 ·exact sus_reg28A HCK HL3 HIh HIk HIy hneq i0 i1 i2 i6 i7 z1 z2 j1 j2 j3 SA HP.out (fun v86 v87 v88 v89 v90 v91 v92 v93 v94 v95 v96 v97 v98 v99 v100 v101 v102 v103 v104 v105 v106 v107 v108 v109 v110 v111 v112 v113 v114 v115 v116 v117 v118 v119 w' hS=>HQ.out v86 v87 v88 v89 v90 v91 v92 v93 v94 v95 v96 v97 v98 v99 v100 v101 v102 v103 v104 v105 v106 v107 v108 v109 v110 v111 v112 v113 v114 v115 v116 v117 v118 v119 w' hS.2.2.2.2.2.2)
 ·exact sus_reg28F HCK HL3 HIh HIk HIy hneq i0 i1 i2 i6 i7 z1 z2 SA HP.out (fun v86 v87 v88 v89 v90 v91 v92 v93 v94 v95 v96 v97 v98 v99 v100 v101 v102 v103 v104 v105 v106 v107 v108 v109 v110 v111 v112 v113 v114 v115 v116 v117 v118 v119 w' hS=>HQ.out v86 v87 v88 v89 v90 v91 v92 v93 v94 v95 v96 v97 v98 v99 v100 v101 v102 v103 v104 v105 v106 v107 v108 v109 v110 v111 v112 v113 v114 v115 v116 v117 v118 v119 w' hS.2.2.2.2.2.2)
def susOps44 : Array Oper:=#[
 ⟨some 170, .move (.tmp 18), 31, "outright.go:85", #[], none⟩,
 ⟨some 171, .binOp .neq 31 (.tmp 170) (.const (.int .i64 0)) 31, 4, "outright.go:85", #[⟨0, .data⟩], none⟩,
 ⟨some 172, .move (.tmp 171), 4, "outright.go:85", #[⟨1, .data⟩], none⟩,
 ⟨some 173, .move (.tmp 17), 44, "outright.go:85", #[⟨2, .guard⟩], some (2, false)⟩,
 ⟨some 174, .call { callee := .value (.func 16), args := #[.tmp 173], argTypes := #[44] }, 24, "outright.go:85", #[⟨3, .data⟩, ⟨2, .chain⟩, ⟨2, .guard⟩], some (2, false)⟩,
 ⟨some 175, .load 24 (.tmp 7), 24, "outright.go:85", #[⟨2, .guard⟩], some (2, false)⟩,
 ⟨some 176, .binOp .neq 24 (.tmp 174) (.tmp 175) 24, 4, "outright.go:85", #[⟨4, .data⟩, ⟨5, .data⟩, ⟨2, .guard⟩], some (2, false)⟩,
 ⟨some 177, .pick (.tmp 172) (.const (.bool true)) (.tmp 176), 4, "outright.go:85", #[⟨2, .data⟩, ⟨6, .data⟩], none⟩,
 ⟨some 178, .move (.tmp 177), 4, "outright.go:85", #[⟨7, .data⟩, ⟨4, .chain⟩], none⟩,
 ⟨some 179, .move (.tmp 17), 44, "outright.go:85", #[⟨8, .guard⟩], some (8, false)⟩,
 ⟨some 180, .call { callee := .value (.func 18), args := #[.tmp 179], argTypes := #[44] }, 54, "outright.go:85", #[⟨9, .data⟩, ⟨8, .chain⟩, ⟨8, .guard⟩], some (8, false)⟩,
 ⟨some 181, .move (.tmp 8), 54, "outright.go:85", #[⟨8, .guard⟩], some (8, false)⟩,
 ⟨some 182, .call { callee := .value (.func 26), args := #[.tmp 180, .tmp 181], argTypes := #[54, 54] }, 4, "outright.go:85", #[⟨10, .data⟩, ⟨11, .data⟩, ⟨10, .chain⟩, ⟨8, .guard⟩], some (8, false)⟩,
 ⟨some 183, .unOp .not 4 (.tmp 182), 4, "outright.go:85", #[⟨12, .data⟩, ⟨8, .guard⟩], some (8, false)⟩,
 ⟨some 184, .move (.tmp 183), 4, "outright.go:85", #[⟨13, .data⟩, ⟨12, .chain⟩, ⟨8, .guard⟩], some (8, false)⟩,
 ⟨some 185, .move (.tmp 17), 44, "outright.go:85", #[⟨14, .guard⟩], some (14, true)⟩,
 ⟨some 186, .call { callee := .value (.func 18), args := #[.tmp 185], argTypes := #[44] }, 54, "outright.go:85", #[⟨15, .data⟩, ⟨14, .chain⟩, ⟨14, .guard⟩], some (14, true)⟩,
 ⟨some 187, .move (.tmp 12), 54, "outright.go:85", #[⟨14, .guard⟩], some (14, true)⟩,
 ⟨some 188, .call { callee := .value (.func 26), args := #[.tmp 186, .tmp 187], argTypes := #[54, 54] }, 4, "outright.go:85", #[⟨16, .data⟩, ⟨17, .data⟩, ⟨16, .chain⟩, ⟨14, .guard⟩], some (14, true)⟩,
 ⟨some 189, .unOp .not 4 (.tmp 188), 4, "outright.go:85", #[⟨18, .data⟩, ⟨14, .guard⟩], some (14, true)⟩,
 ⟨some 190, .pick (.tmp 184) (.tmp 189) (.const (.bool false)), 4, "outright.go:85", #[⟨14, .data⟩, ⟨19, .data⟩, ⟨8, .guard⟩], some (8, false)⟩,
 ⟨some 191, .pick (.tmp 178) (.const (.bool true)) (.tmp 190), 4, "outright.go:85", #[⟨8, .data⟩, ⟨20, .data⟩], none⟩]
theorem sus_reg44A {w0 w8 : World} {d t r g kb n8 sc n12 ac : Nat} {sa aa : Option Addr} {M : DiskM} {Os : List Ob} {R : RingM} {G : SegM} {Sr Sg : Nat → Prop} {lv : Value} {C : List Value} {E8 E12 : List By} {Q : Exit → Act → World → Prop} {u0 u1 u2 u3 u4 u5 u6 u9 u10 u11 u13 u14 u15 u16 u19 u20 u21 u22 u23 u24 u25 u26 u27 u28 u29 u30 u31 u32 u33 u34 u35 u36 u37 u38 u39 u40 u41 u42 u43 u44 u45 u46 u47 u48 u49 u50 u51 u52 u53 u54 u55 u56 u57 u58 u59 u60 u61 u62 u63 u64 u65 u66 u67 u68 u69 u70 u71 u72 u73 u74 u75 u76 u77 u78 u79 u80 u81 u82 u83 u84 u85 u86 u87 u88 u89 u90 u91 u92 u93 u94 u95 u96 u97 u98 u99 u100 u101 u102 u103 u104 u105 u106 u107 u108 u109 u110 u111 u112 u113 u114 u115 u116 u117 u118 u119 u120 u121 u122 u123 u124 u125 u126 u127 u128 u129 u130 u131 u132 u133 u134 u135 u136 u137 u138 u139 u140 u141 u142 u143 u144 u145 u146 u147 u148 u149 u150 u151 u152 u153 u154 u155 u156 u157 u158 u159 u160 u161 u162 u163 u164 u165 u166 u167 u168 u169 u170 u171 u172 u173 u174 u175 u176 u177 u178 u179 u180 u181 u182 u183 u184 u185 u186 u187 u188 u189 u190 u191 u192 u193 u194 u195 u196 u197 u198 u199 u200 u201 u202 u203 u204 u205 u206 u207 u208 u209 u210 u211 u212 u213 u214 u215 u216 u217 u218 u219 u220 u221 u222 u223 u224 u225 u226 u227 u228 u229 u230 u231 u232 u233 u234 u235 u236 u237 u238 u239 u240 u241 u242 u243 u244 : Value}
  (h : Ows w0 w8 d M (staO t r g lv R G Sr Sg Os)) (hC : C = bytes8 (rootF (leavesF R.seed.data.toList))) (hm : Ob.blk kb C 24 ∈ Os∧Ob.row (.slice sa n8 sc) E8 ∈ Os∧Ob.row (.slice aa n12 ac) E12 ∈ Os) (HIk : Hid ((Tryz.prog.info? 24).map (·.size) = some C.length)) (hneq : ∀ w', (binOp .neq 24 (.agg C.toArray) (.agg C.toArray)).run Tryz.prog w' = .ok (.bool false) w') (hy1 : decide (G.entries = E8) = true)
  (HP : ∀ c a (k : Nat) v w, Q (.panic c) (Act.put a (some k) v) w → Q (.panic c) a w) (HQ : ∀ (v170 v171 v172 v173 v174 v175 v176 v177 v178 v179 v180 v181 v182 v183 v184 v185 v186 v187 v188 v189 v190 : Value) (w' : World), Hid (Ows w0 w' d M (staO t r g lv R G Sr Sg Os)) → Q .normal ⟨List.toArray (u0::u1::u2::u3::u4::u5::u6::(.pointer (some ⟨kb, 0, none⟩))::(.slice sa n8 sc)::u9::u10::u11::(.slice aa n12 ac)::u13::u14::u15::u16::(.pointer (some ⟨t, 0, none⟩))::(.int .i64 0)::u19::u20::u21::u22::u23::u24::u25::u26::u27::u28::u29::u30::u31::u32::u33::u34::u35::u36::u37::u38::u39::u40::u41::u42::u43::u44::u45::u46::u47::u48::u49::u50::u51::u52::u53::u54::u55::u56::u57::u58::u59::u60::u61::u62::u63::u64::u65::u66::u67::u68::u69::u70::u71::u72::u73::u74::u75::u76::u77::u78::u79::u80::u81::u82::u83::u84::u85::u86::u87::u88::u89::u90::u91::u92::u93::u94::u95::u96::u97::u98::u99::u100::u101::u102::u103::u104::u105::u106::u107::u108::u109::u110::u111::u112::u113::u114::u115::u116::u117::u118::u119::u120::u121::u122::u123::u124::u125::u126::u127::u128::u129::u130::u131::u132::u133::u134::u135::u136::u137::u138::u139::u140::u141::u142::u143::u144::u145::u146::u147::u148::u149::u150::u151::u152::u153::u154::u155::u156::u157::u158::u159::u160::u161::u162::u163::u164::u165::u166::u167::u168::u169::v170::v171::v172::v173::v174::v175::v176::v177::v178::v179::v180::v181::v182::v183::v184::v185::v186::v187::v188::v189::v190::(.bool false)::u192::u193::u194::u195::u196::u197::u198::u199::u200::u201::u202::u203::u204::u205::u206::u207::u208::u209::u210::u211::u212::u213::u214::u215::u216::u217::u218::u219::u220::u221::u222::u223::u224::u225::u226::u227::u228::u229::u230::u231::u232::u233::u234::u235::u236::u237::u238::u239::u240::u241::u242::u243::u244::[]), []⟩ w') :
  Code.wp Tryz.prog (Code.region 44 susOps44 true) Q ⟨List.toArray (u0::u1::u2::u3::u4::u5::u6::(.pointer (some ⟨kb, 0, none⟩))::(.slice sa n8 sc)::u9::u10::u11::(.slice aa n12 ac)::u13::u14::u15::u16::(.pointer (some ⟨t, 0, none⟩))::(.int .i64 0)::u19::u20::u21::u22::u23::u24::u25::u26::u27::u28::u29::u30::u31::u32::u33::u34::u35::u36::u37::u38::u39::u40::u41::u42::u43::u44::u45::u46::u47::u48::u49::u50::u51::u52::u53::u54::u55::u56::u57::u58::u59::u60::u61::u62::u63::u64::u65::u66::u67::u68::u69::u70::u71::u72::u73::u74::u75::u76::u77::u78::u79::u80::u81::u82::u83::u84::u85::u86::u87::u88::u89::u90::u91::u92::u93::u94::u95::u96::u97::u98::u99::u100::u101::u102::u103::u104::u105::u106::u107::u108::u109::u110::u111::u112::u113::u114::u115::u116::u117::u118::u119::u120::u121::u122::u123::u124::u125::u126::u127::u128::u129::u130::u131::u132::u133::u134::u135::u136::u137::u138::u139::u140::u141::u142::u143::u144::u145::u146::u147::u148::u149::u150::u151::u152::u153::u154::u155::u156::u157::u158::u159::u160::u161::u162::u163::u164::u165::u166::u167::u168::u169::u170::u171::u172::u173::u174::u175::u176::u177::u178::u179::u180::u181::u182::u183::u184::u185::u186::u187::u188::u189::u190::u191::u192::u193::u194::u195::u196::u197::u198::u199::u200::u201::u202::u203::u204::u205::u206::u207::u208::u209::u210::u211::u212::u213::u214::u215::u216::u217::u218::u219::u220::u221::u222::u223::u224::u225::u226::u227::u228::u229::u230::u231::u232::u233::u234::u235::u236::u237::u238::u239::u240::u241::u242::u243::u244::[]), []⟩ w8:=by
 have HQ:=Lib.hid HQ
 have HO:=Lib.hid (h.same (Kept.refl _ _).drew)
 have HC:=Lib.hid hC
 have HM:=Lib.hid (show Ob.blk kb C 24 ∈ staO t r g lv R G Sr Sg Os∧Ob.row (.slice sa n8 sc) E8 ∈ Os∧Ob.row (.slice aa n12 ac) E12 ∈ Os from ⟨by simp [hm.1], hm.2⟩)
 clear h hC hm
 unfold susOps44
 refine wp_region_held_drew (S:=(fun w'=>w'.rangeAt kb 0 C)) (by kernel_rfl) (sus_keyAt HO.out HM.out.1) (fun hH0=>?_)
 generalize World.drew w8 = Wd at HO hH0 ⊢
 refine tk 0 rfl (HP · · _ _ ·) hH0 ?_
 refine tk 1 rfl (HP · · _ _ ·) hH0 ?_
 refine tk 2 rfl (HP · · _ _ ·) hH0 ?_
 refine tk 3 rfl (HP · · _ _ ·) hH0 ?_
 refine tky 5 rfl (HP · · _ _ ·) (yieldsIf_load_mid (by rfl) _ _ rfl (kb) (0) rfl (C) _ (fun w q=>q) Tryz.underlying24 rfl HIk.out) hH0 ?_
 refine rd1 4 (fun K hK=>?_)
 go_simp
 refine (sus_key HO.out HC.out).mono ?_
 rintro e wk ⟨rfl, hk⟩
 have HO:=Lib.hid hk
 clear hk
 refine hK.out _ _ (sus_keyAt HO.out HM.out.1) (fun hH1=>?_)
 clear hK K
 try simp only [lyA, lyB, lyC, lyD]
 refine tk 6 rfl (HP · · _ _ ·) hH1 ?_
 refine tk 7 rfl (HP · · _ _ ·) hH1 ?_
 refine tk 8 rfl (HP · · _ _ ·) hH1 ?_
 refine tk 9 rfl (HP · · _ _ ·) hH1 ?_
 refine tk 11 rfl (HP · · _ _ ·) hH1 ?_
 refine rd1 10 (fun K hK=>?_)
 go_simp
 refine (sta_log HO.out).mono ?_
 rintro e wl ⟨xa, xc, rfl, hl⟩
 have HOL:=Lib.hid hl
 clear hl
 refine hK.out _ _ (sus_keyAt HOL.out (by simp [HM.out.1])) (fun hH2=>?_)
 clear hK K
 try simp only [lyA, lyB, lyC, lyD]
 refine rd1 12 (fun K hK=>?_)
 go_simp
 refine (sus_texts HOL.out HM.out.2.1 hy1).mono ?_
 rintro e wt ⟨rfl, ht⟩
 have HO:=Lib.hid ht
 clear ht HOL
 refine hK.out _ _ (sus_keyAt HO.out HM.out.1) (fun hH3=>?_)
 clear hK K
 try simp only [lyA, lyB, lyC, lyD]
 refine tk 13 rfl (HP · · _ _ ·) hH3 ?_
 refine tk 14 rfl (HP · · _ _ ·) hH3 ?_
 refine tk0 15 rfl (HP · · _ _ ·) hH3 ?_
 refine tk0 16 rfl (HP · · _ _ ·) hH3 ?_
 refine tk0 17 rfl (HP · · _ _ ·) hH3 ?_
 refine tk0 18 rfl (HP · · _ _ ·) hH3 ?_
 refine tk0 19 rfl (HP · · _ _ ·) hH3 ?_
 refine tk 20 rfl (HP · · _ _ ·) hH3 ?_
 refine tk 21 rfl (HP · · _ _ ·) hH3 ?_
 refine wpAnyH_done (by kernel_rfl) ?_ _
 exact HQ.out _ _ _ _ _ _ _ _ _ _ _ _ _ _ _ _ _ _ _ _ _ _ HO
theorem sus_reg44B {w0 w8 : World} {d t r g kb n8 sc n12 ac : Nat} {sa aa : Option Addr} {M : DiskM} {Os : List Ob} {R : RingM} {G : SegM} {Sr Sg : Nat → Prop} {lv : Value} {C : List Value} {E8 E12 : List By} {Q : Exit → Act → World → Prop} {u0 u1 u2 u3 u4 u5 u6 u9 u10 u11 u13 u14 u15 u16 u19 u20 u21 u22 u23 u24 u25 u26 u27 u28 u29 u30 u31 u32 u33 u34 u35 u36 u37 u38 u39 u40 u41 u42 u43 u44 u45 u46 u47 u48 u49 u50 u51 u52 u53 u54 u55 u56 u57 u58 u59 u60 u61 u62 u63 u64 u65 u66 u67 u68 u69 u70 u71 u72 u73 u74 u75 u76 u77 u78 u79 u80 u81 u82 u83 u84 u85 u86 u87 u88 u89 u90 u91 u92 u93 u94 u95 u96 u97 u98 u99 u100 u101 u102 u103 u104 u105 u106 u107 u108 u109 u110 u111 u112 u113 u114 u115 u116 u117 u118 u119 u120 u121 u122 u123 u124 u125 u126 u127 u128 u129 u130 u131 u132 u133 u134 u135 u136 u137 u138 u139 u140 u141 u142 u143 u144 u145 u146 u147 u148 u149 u150 u151 u152 u153 u154 u155 u156 u157 u158 u159 u160 u161 u162 u163 u164 u165 u166 u167 u168 u169 u170 u171 u172 u173 u174 u175 u176 u177 u178 u179 u180 u181 u182 u183 u184 u185 u186 u187 u188 u189 u190 u191 u192 u193 u194 u195 u196 u197 u198 u199 u200 u201 u202 u203 u204 u205 u206 u207 u208 u209 u210 u211 u212 u213 u214 u215 u216 u217 u218 u219 u220 u221 u222 u223 u224 u225 u226 u227 u228 u229 u230 u231 u232 u233 u234 u235 u236 u237 u238 u239 u240 u241 u242 u243 u244 : Value}
  (h : Ows w0 w8 d M (staO t r g lv R G Sr Sg Os)) (hC : C = bytes8 (rootF (leavesF R.seed.data.toList))) (hm : Ob.blk kb C 24 ∈ Os∧Ob.row (.slice sa n8 sc) E8 ∈ Os∧Ob.row (.slice aa n12 ac) E12 ∈ Os) (HIk : Hid ((Tryz.prog.info? 24).map (·.size) = some C.length)) (hneq : ∀ w', (binOp .neq 24 (.agg C.toArray) (.agg C.toArray)).run Tryz.prog w' = .ok (.bool false) w') (hy1 : decide (G.entries = E8) = false) (hy2 : decide (G.entries = E12) = true)
  (HP : ∀ c a (k : Nat) v w, Q (.panic c) (Act.put a (some k) v) w → Q (.panic c) a w) (HQ : ∀ (v170 v171 v172 v173 v174 v175 v176 v177 v178 v179 v180 v181 v182 v183 v184 v185 v186 v187 v188 v189 v190 : Value) (w' : World), Hid (Ows w0 w' d M (staO t r g lv R G Sr Sg Os)) → Q .normal ⟨List.toArray (u0::u1::u2::u3::u4::u5::u6::(.pointer (some ⟨kb, 0, none⟩))::(.slice sa n8 sc)::u9::u10::u11::(.slice aa n12 ac)::u13::u14::u15::u16::(.pointer (some ⟨t, 0, none⟩))::(.int .i64 0)::u19::u20::u21::u22::u23::u24::u25::u26::u27::u28::u29::u30::u31::u32::u33::u34::u35::u36::u37::u38::u39::u40::u41::u42::u43::u44::u45::u46::u47::u48::u49::u50::u51::u52::u53::u54::u55::u56::u57::u58::u59::u60::u61::u62::u63::u64::u65::u66::u67::u68::u69::u70::u71::u72::u73::u74::u75::u76::u77::u78::u79::u80::u81::u82::u83::u84::u85::u86::u87::u88::u89::u90::u91::u92::u93::u94::u95::u96::u97::u98::u99::u100::u101::u102::u103::u104::u105::u106::u107::u108::u109::u110::u111::u112::u113::u114::u115::u116::u117::u118::u119::u120::u121::u122::u123::u124::u125::u126::u127::u128::u129::u130::u131::u132::u133::u134::u135::u136::u137::u138::u139::u140::u141::u142::u143::u144::u145::u146::u147::u148::u149::u150::u151::u152::u153::u154::u155::u156::u157::u158::u159::u160::u161::u162::u163::u164::u165::u166::u167::u168::u169::v170::v171::v172::v173::v174::v175::v176::v177::v178::v179::v180::v181::v182::v183::v184::v185::v186::v187::v188::v189::v190::(.bool false)::u192::u193::u194::u195::u196::u197::u198::u199::u200::u201::u202::u203::u204::u205::u206::u207::u208::u209::u210::u211::u212::u213::u214::u215::u216::u217::u218::u219::u220::u221::u222::u223::u224::u225::u226::u227::u228::u229::u230::u231::u232::u233::u234::u235::u236::u237::u238::u239::u240::u241::u242::u243::u244::[]), []⟩ w') :
  Code.wp Tryz.prog (Code.region 44 susOps44 true) Q ⟨List.toArray (u0::u1::u2::u3::u4::u5::u6::(.pointer (some ⟨kb, 0, none⟩))::(.slice sa n8 sc)::u9::u10::u11::(.slice aa n12 ac)::u13::u14::u15::u16::(.pointer (some ⟨t, 0, none⟩))::(.int .i64 0)::u19::u20::u21::u22::u23::u24::u25::u26::u27::u28::u29::u30::u31::u32::u33::u34::u35::u36::u37::u38::u39::u40::u41::u42::u43::u44::u45::u46::u47::u48::u49::u50::u51::u52::u53::u54::u55::u56::u57::u58::u59::u60::u61::u62::u63::u64::u65::u66::u67::u68::u69::u70::u71::u72::u73::u74::u75::u76::u77::u78::u79::u80::u81::u82::u83::u84::u85::u86::u87::u88::u89::u90::u91::u92::u93::u94::u95::u96::u97::u98::u99::u100::u101::u102::u103::u104::u105::u106::u107::u108::u109::u110::u111::u112::u113::u114::u115::u116::u117::u118::u119::u120::u121::u122::u123::u124::u125::u126::u127::u128::u129::u130::u131::u132::u133::u134::u135::u136::u137::u138::u139::u140::u141::u142::u143::u144::u145::u146::u147::u148::u149::u150::u151::u152::u153::u154::u155::u156::u157::u158::u159::u160::u161::u162::u163::u164::u165::u166::u167::u168::u169::u170::u171::u172::u173::u174::u175::u176::u177::u178::u179::u180::u181::u182::u183::u184::u185::u186::u187::u188::u189::u190::u191::u192::u193::u194::u195::u196::u197::u198::u199::u200::u201::u202::u203::u204::u205::u206::u207::u208::u209::u210::u211::u212::u213::u214::u215::u216::u217::u218::u219::u220::u221::u222::u223::u224::u225::u226::u227::u228::u229::u230::u231::u232::u233::u234::u235::u236::u237::u238::u239::u240::u241::u242::u243::u244::[]), []⟩ w8:=by
 have HQ:=Lib.hid HQ
 have HO:=Lib.hid (h.same (Kept.refl _ _).drew)
 have HC:=Lib.hid hC
 have HM:=Lib.hid (show Ob.blk kb C 24 ∈ staO t r g lv R G Sr Sg Os∧Ob.row (.slice sa n8 sc) E8 ∈ Os∧Ob.row (.slice aa n12 ac) E12 ∈ Os from ⟨by simp [hm.1], hm.2⟩)
 clear h hC hm
 unfold susOps44
 refine wp_region_held_drew (S:=(fun w'=>w'.rangeAt kb 0 C)) (by kernel_rfl) (sus_keyAt HO.out HM.out.1) (fun hH0=>?_)
 generalize World.drew w8 = Wd at HO hH0 ⊢
 refine tk 0 rfl (HP · · _ _ ·) hH0 ?_
 refine tk 1 rfl (HP · · _ _ ·) hH0 ?_
 refine tk 2 rfl (HP · · _ _ ·) hH0 ?_
 refine tk 3 rfl (HP · · _ _ ·) hH0 ?_
 refine tky 5 rfl (HP · · _ _ ·) (yieldsIf_load_mid (by rfl) _ _ rfl (kb) (0) rfl (C) _ (fun w q=>q) Tryz.underlying24 rfl HIk.out) hH0 ?_
 refine rd1 4 (fun K hK=>?_)
 go_simp
 refine (sus_key HO.out HC.out).mono ?_
 rintro e wk ⟨rfl, hk⟩
 have HO:=Lib.hid hk
 clear hk
 refine hK.out _ _ (sus_keyAt HO.out HM.out.1) (fun hH1=>?_)
 clear hK K
 try simp only [lyA, lyB, lyC, lyD]
 refine tk 6 rfl (HP · · _ _ ·) hH1 ?_
 refine tk 7 rfl (HP · · _ _ ·) hH1 ?_
 refine tk 8 rfl (HP · · _ _ ·) hH1 ?_
 refine tk 9 rfl (HP · · _ _ ·) hH1 ?_
 refine tk 11 rfl (HP · · _ _ ·) hH1 ?_
 refine rd1 10 (fun K hK=>?_)
 go_simp
 refine (sta_log HO.out).mono ?_
 rintro e wl ⟨xa, xc, rfl, hl⟩
 have HOL:=Lib.hid hl
 clear hl
 refine hK.out _ _ (sus_keyAt HOL.out (by simp [HM.out.1])) (fun hH2=>?_)
 clear hK K
 try simp only [lyA, lyB, lyC, lyD]
 refine rd1 12 (fun K hK=>?_)
 go_simp
 refine (sus_texts HOL.out HM.out.2.1 hy1).mono ?_
 rintro e wt ⟨rfl, ht⟩
 have HO:=Lib.hid ht
 clear ht HOL
 refine hK.out _ _ (sus_keyAt HO.out HM.out.1) (fun hH3=>?_)
 clear hK K
 try simp only [lyA, lyB, lyC, lyD]
 refine tk 13 rfl (HP · · _ _ ·) hH3 ?_
 refine tk 14 rfl (HP · · _ _ ·) hH3 ?_
 refine tk 15 rfl (HP · · _ _ ·) hH3 ?_
 refine tk 17 rfl (HP · · _ _ ·) hH3 ?_
 refine rd1 16 (fun K hK=>?_)
 go_simp
 refine (sta_log HO.out).mono ?_
 rintro e wl ⟨xa, xc, rfl, hl⟩
 have HOL:=Lib.hid hl
 clear hl
 refine hK.out _ _ (sus_keyAt HOL.out (by simp [HM.out.1])) (fun hH4=>?_)
 clear hK K
 try simp only [lyA, lyB, lyC, lyD]
 refine rd1 18 (fun K hK=>?_)
 go_simp
 refine (sus_texts HOL.out HM.out.2.2 hy2).mono ?_
 rintro e wt ⟨rfl, ht⟩
 have HO:=Lib.hid ht
 clear ht HOL
 refine hK.out _ _ (sus_keyAt HO.out HM.out.1) (fun hH5=>?_)
 clear hK K
 try simp only [lyA, lyB, lyC, lyD]
 refine tk 19 rfl (HP · · _ _ ·) hH5 ?_
 refine tk 20 rfl (HP · · _ _ ·) hH5 ?_
 refine tk 21 rfl (HP · · _ _ ·) hH5 ?_
 refine wpAnyH_done (by kernel_rfl) ?_ _
 exact HQ.out _ _ _ _ _ _ _ _ _ _ _ _ _ _ _ _ _ _ _ _ _ _ HO
def susOps57 : Array Oper:=#[
 ⟨some 216, .move (.tmp 21), 3, "outright.go:98", #[], none⟩,
 ⟨some 217, .indexAddr 72 (.tmp 9) (.tmp 216), 0, "outright.go:98", #[⟨0, .data⟩], none⟩,
 ⟨some 218, .fieldAddr 46 (.tmp 217) 0, 0, "outright.go:98", #[⟨1, .data⟩], none⟩,
 ⟨some 219, .load 3 (.tmp 218), 3, "outright.go:98", #[⟨2, .data⟩], none⟩,
 ⟨some 220, .binOp .neq 3 (.tmp 219) (.const (.int .i64 0)) 3, 4, "outright.go:98", #[⟨3, .data⟩], none⟩,
 ⟨some 221, .move (.tmp 220), 4, "outright.go:98", #[⟨4, .data⟩], none⟩,
 ⟨some 222, .move (.tmp 21), 3, "outright.go:98", #[⟨5, .guard⟩], some (5, true)⟩,
 ⟨some 223, .indexAddr 72 (.tmp 9) (.tmp 222), 0, "outright.go:98", #[⟨6, .data⟩, ⟨5, .guard⟩], some (5, true)⟩,
 ⟨some 224, .fieldAddr 46 (.tmp 223) 0, 0, "outright.go:98", #[⟨7, .data⟩, ⟨5, .guard⟩], some (5, true)⟩,
 ⟨some 225, .load 3 (.tmp 224), 3, "outright.go:98", #[⟨8, .data⟩, ⟨5, .guard⟩], some (5, true)⟩,
 ⟨some 226, .move (.tmp 19), 47, "outright.go:98", #[⟨5, .guard⟩], some (5, true)⟩,
 ⟨some 227, .call { callee := .builtin .len, args := #[.tmp 226], argTypes := #[47] }, 3, "outright.go:98", #[⟨10, .data⟩, ⟨5, .guard⟩], some (5, true)⟩,
 ⟨some 228, .binOp .gtr 3 (.tmp 225) (.tmp 227) 3, 4, "outright.go:98", #[⟨9, .data⟩, ⟨11, .data⟩, ⟨5, .guard⟩], some (5, true)⟩,
 ⟨some 229, .move (.tmp 228), 4, "outright.go:98", #[⟨12, .data⟩, ⟨5, .chain⟩, ⟨5, .guard⟩], some (5, true)⟩,
 ⟨some 230, .move (.tmp 19), 47, "outright.go:98", #[⟨13, .guard⟩], some (13, false)⟩,
 ⟨some 231, .move (.tmp 21), 3, "outright.go:98", #[⟨13, .guard⟩], some (13, false)⟩,
 ⟨some 232, .indexAddr 72 (.tmp 9) (.tmp 231), 0, "outright.go:98", #[⟨15, .data⟩, ⟨13, .guard⟩], some (13, false)⟩,
 ⟨some 233, .fieldAddr 46 (.tmp 232) 0, 0, "outright.go:98", #[⟨16, .data⟩, ⟨13, .guard⟩], some (13, false)⟩,
 ⟨some 234, .load 3 (.tmp 233), 3, "outright.go:98", #[⟨17, .data⟩, ⟨13, .guard⟩], some (13, false)⟩,
 ⟨some 235, .slice 47 (.tmp 230) none (some (.tmp 234)) none, 47, "outright.go:98", #[⟨14, .data⟩, ⟨18, .data⟩, ⟨13, .guard⟩], some (13, false)⟩,
 ⟨some 236, .call { callee := .value (.func 28), args := #[.tmp 235], argTypes := #[47] }, 24, "outright.go:98", #[⟨19, .data⟩, ⟨13, .chain⟩, ⟨13, .guard⟩], some (13, false)⟩,
 ⟨some 237, .move (.tmp 21), 3, "outright.go:98", #[⟨13, .guard⟩], some (13, false)⟩,
 ⟨some 238, .indexAddr 72 (.tmp 9) (.tmp 237), 0, "outright.go:98", #[⟨21, .data⟩, ⟨13, .guard⟩], some (13, false)⟩,
 ⟨some 239, .fieldAddr 46 (.tmp 238) 1, 0, "outright.go:98", #[⟨22, .data⟩, ⟨13, .guard⟩], some (13, false)⟩,
 ⟨some 240, .load 24 (.tmp 239), 24, "outright.go:98", #[⟨23, .data⟩, ⟨13, .guard⟩], some (13, false)⟩,
 ⟨some 241, .binOp .neq 24 (.tmp 236) (.tmp 240) 24, 4, "outright.go:98", #[⟨20, .data⟩, ⟨24, .data⟩, ⟨13, .guard⟩], some (13, false)⟩,
 ⟨some 242, .pick (.tmp 229) (.const (.bool true)) (.tmp 241), 4, "outright.go:98", #[⟨13, .data⟩, ⟨25, .data⟩, ⟨5, .guard⟩], some (5, true)⟩,
 ⟨some 243, .pick (.tmp 221) (.tmp 242) (.const (.bool false)), 4, "outright.go:98", #[⟨5, .data⟩, ⟨26, .data⟩], none⟩]
theorem sus_reg57A {w8 : World} {bb m N lc z : Nat} {la : Option Addr} {K : List Value} {Q : Exit → Act → World → Prop} {u0 u1 u2 u3 u4 u5 u6 u7 u8 u10 u11 u12 u13 u14 u15 u16 u17 u18 u20 u22 u23 u24 u25 u26 u27 u28 u29 u30 u31 u32 u33 u34 u35 u36 u37 u38 u39 u40 u41 u42 u43 u44 u45 u46 u47 u48 u49 u50 u51 u52 u53 u54 u55 u56 u57 u58 u59 u60 u61 u62 u63 u64 u65 u66 u67 u68 u69 u70 u71 u72 u73 u74 u75 u76 u77 u78 u79 u80 u81 u82 u83 u84 u85 u86 u87 u88 u89 u90 u91 u92 u93 u94 u95 u96 u97 u98 u99 u100 u101 u102 u103 u104 u105 u106 u107 u108 u109 u110 u111 u112 u113 u114 u115 u116 u117 u118 u119 u120 u121 u122 u123 u124 u125 u126 u127 u128 u129 u130 u131 u132 u133 u134 u135 u136 u137 u138 u139 u140 u141 u142 u143 u144 u145 u146 u147 u148 u149 u150 u151 u152 u153 u154 u155 u156 u157 u158 u159 u160 u161 u162 u163 u164 u165 u166 u167 u168 u169 u170 u171 u172 u173 u174 u175 u176 u177 u178 u179 u180 u181 u182 u183 u184 u185 u186 u187 u188 u189 u190 u191 u192 u193 u194 u195 u196 u197 u198 u199 u200 u201 u202 u203 u204 u205 u206 u207 u208 u209 u210 u211 u212 u213 u214 u215 u216 u217 u218 u219 u220 u221 u222 u223 u224 u225 u226 u227 u228 u229 u230 u231 u232 u233 u234 u235 u236 u237 u238 u239 u240 u241 u242 u243 u244 : Value} (HRT : Hid (∀ w', Kept (fun _=>False) w8 w' → Calls Tryz.prog 28 #[.slice la z lc] w' fun e w2=>e = .returned (.agg K.toArray)∧Kept (fun _=>False) w' w2)) (hbb : Hid (bb < w8.heap.size)) (HIk : Hid ((Tryz.prog.info? 24).map (·.size) = some K.length)) (hneq : ∀ w', (binOp .neq 24 (.agg K.toArray) (.agg K.toArray)).run Tryz.prog w' = .ok (.bool false) w') (hrun : ∀ w0, (Instr.slice 47 (.slice la N lc) none (some (.int .i64 (z : Int))) none).run Tryz.prog w0 = .ok (.slice la z lc) w0) (i2 : (m : Int) < 8) (i6 : IntKind.i64.wrap (m : Int) = (m : Int)) (i7 : wrap64 (m : Int) = (m : Int)) (j1 : ((z : Int) != 0) = true) (j2 : ((z : Int) == 0) = false) (j3 : decide ((z : Int) = 0) = false) (j4 : decide ((N : Int) < (z : Int)) = false) (j5 : decide (N < z) = false) (SA : (fun w'=>w'.cell? ⟨bb, m * 33, none⟩ = some (.int .i64 (z : Int))∧w'.rangeAt bb (m * 33 + 1) K∧Kept (fun _=>False) w8 w') w8.drew)
  (HP : ∀ c a (k : Nat) v w, Q (.panic c) (Act.put a (some k) v) w → Q (.panic c) a w) (HQ : ∀ (v216 v217 v218 v219 v220 v221 v222 v223 v224 v225 v226 v227 v228 v229 v230 v231 v232 v233 v234 v235 v236 v237 v238 v239 v240 v241 v242 : Value) (w' : World), (fun w'=>w'.cell? ⟨bb, m * 33, none⟩ = some (.int .i64 (z : Int))∧w'.rangeAt bb (m * 33 + 1) K∧Kept (fun _=>False) w8 w') w' → Q .normal ⟨List.toArray (u0::u1::u2::u3::u4::u5::u6::u7::u8::(.pointer (some ⟨bb, 0, none⟩))::u10::u11::u12::u13::u14::u15::u16::u17::u18::(.slice la N lc)::u20::(.int .i64 (m : Int))::u22::u23::u24::u25::u26::u27::u28::u29::u30::u31::u32::u33::u34::u35::u36::u37::u38::u39::u40::u41::u42::u43::u44::u45::u46::u47::u48::u49::u50::u51::u52::u53::u54::u55::u56::u57::u58::u59::u60::u61::u62::u63::u64::u65::u66::u67::u68::u69::u70::u71::u72::u73::u74::u75::u76::u77::u78::u79::u80::u81::u82::u83::u84::u85::u86::u87::u88::u89::u90::u91::u92::u93::u94::u95::u96::u97::u98::u99::u100::u101::u102::u103::u104::u105::u106::u107::u108::u109::u110::u111::u112::u113::u114::u115::u116::u117::u118::u119::u120::u121::u122::u123::u124::u125::u126::u127::u128::u129::u130::u131::u132::u133::u134::u135::u136::u137::u138::u139::u140::u141::u142::u143::u144::u145::u146::u147::u148::u149::u150::u151::u152::u153::u154::u155::u156::u157::u158::u159::u160::u161::u162::u163::u164::u165::u166::u167::u168::u169::u170::u171::u172::u173::u174::u175::u176::u177::u178::u179::u180::u181::u182::u183::u184::u185::u186::u187::u188::u189::u190::u191::u192::u193::u194::u195::u196::u197::u198::u199::u200::u201::u202::u203::u204::u205::u206::u207::u208::u209::u210::u211::u212::u213::u214::u215::v216::v217::v218::v219::v220::v221::v222::v223::v224::v225::v226::v227::v228::v229::v230::v231::v232::v233::v234::v235::v236::v237::v238::v239::v240::v241::v242::(.bool false)::u244::[]), []⟩ w') :
  Code.wp Tryz.prog (Code.region 57 susOps57 true) Q ⟨List.toArray (u0::u1::u2::u3::u4::u5::u6::u7::u8::(.pointer (some ⟨bb, 0, none⟩))::u10::u11::u12::u13::u14::u15::u16::u17::u18::(.slice la N lc)::u20::(.int .i64 (m : Int))::u22::u23::u24::u25::u26::u27::u28::u29::u30::u31::u32::u33::u34::u35::u36::u37::u38::u39::u40::u41::u42::u43::u44::u45::u46::u47::u48::u49::u50::u51::u52::u53::u54::u55::u56::u57::u58::u59::u60::u61::u62::u63::u64::u65::u66::u67::u68::u69::u70::u71::u72::u73::u74::u75::u76::u77::u78::u79::u80::u81::u82::u83::u84::u85::u86::u87::u88::u89::u90::u91::u92::u93::u94::u95::u96::u97::u98::u99::u100::u101::u102::u103::u104::u105::u106::u107::u108::u109::u110::u111::u112::u113::u114::u115::u116::u117::u118::u119::u120::u121::u122::u123::u124::u125::u126::u127::u128::u129::u130::u131::u132::u133::u134::u135::u136::u137::u138::u139::u140::u141::u142::u143::u144::u145::u146::u147::u148::u149::u150::u151::u152::u153::u154::u155::u156::u157::u158::u159::u160::u161::u162::u163::u164::u165::u166::u167::u168::u169::u170::u171::u172::u173::u174::u175::u176::u177::u178::u179::u180::u181::u182::u183::u184::u185::u186::u187::u188::u189::u190::u191::u192::u193::u194::u195::u196::u197::u198::u199::u200::u201::u202::u203::u204::u205::u206::u207::u208::u209::u210::u211::u212::u213::u214::u215::u216::u217::u218::u219::u220::u221::u222::u223::u224::u225::u226::u227::u228::u229::u230::u231::u232::u233::u234::u235::u236::u237::u238::u239::u240::u241::u242::u243::u244::[]), []⟩ w8:=by
 have HQ:=Lib.hid HQ
 unfold susOps57
 refine wp_region_held_drew (S:=(fun w'=>w'.cell? ⟨bb, m * 33, none⟩ = some (.int .i64 (z : Int))∧w'.rangeAt bb (m * 33 + 1) K∧Kept (fun _=>False) w8 w')) (by kernel_rfl) SA (fun hH0=>?_)
 refine tk 0 rfl (HP · · _ _ ·) hH0 ?_
 refine tk 1 rfl (HP · · _ _ ·) hH0 ?_
 refine tk 2 rfl (HP · · _ _ ·) hH0 ?_
 refine tk 3 rfl (HP · · _ _ ·) hH0 ?_
 refine tk 4 rfl (HP · · _ _ ·) hH0 ?_
 refine tk 5 rfl (HP · · _ _ ·) hH0 ?_
 refine tk 6 rfl (HP · · _ _ ·) hH0 ?_
 refine tk 7 rfl (HP · · _ _ ·) hH0 ?_
 refine tk 8 rfl (HP · · _ _ ·) hH0 ?_
 refine tk 9 rfl (HP · · _ _ ·) hH0 ?_
 refine tk 10 rfl (HP · · _ _ ·) hH0 ?_
 refine tk 11 rfl (HP · · _ _ ·) hH0 ?_
 refine tk 12 rfl (HP · · _ _ ·) hH0 ?_
 refine tk 13 rfl (HP · · _ _ ·) hH0 ?_
 refine tk 14 rfl (HP · · _ _ ·) hH0 ?_
 refine tk 15 rfl (HP · · _ _ ·) hH0 ?_
 refine tk 16 rfl (HP · · _ _ ·) hH0 ?_
 refine tk 17 rfl (HP · · _ _ ·) hH0 ?_
 refine tk 18 rfl (HP · · _ _ ·) hH0 ?_
 refine tk 19 rfl (HP · · _ _ ·) hH0 ?_
 refine tk 21 rfl (HP · · _ _ ·) hH0 ?_
 refine tk 22 rfl (HP · · _ _ ·) hH0 ?_
 refine tk 23 rfl (HP · · _ _ ·) hH0 ?_
 refine tky 24 rfl (HP · · _ _ ·) (yieldsIf_load_mid (by rfl) _ _ rfl (bb) (m * 33 + 1) rfl (K) _ (fun w q=>q.2.1) Tryz.underlying24 rfl HIk.out) hH0 ?_
 refine rd1 20 (fun K hK=>?_)
 go_simp
 refine (HRT.out _ hH0.2.2).mono ?_
 rintro e w12 ⟨rfl, hk12⟩
 refine hK.out _ _ (⟨hk12.cell hH0.1 id, rangeAt_kept hH0.2.1 hk12 (by have:=hH0.2.2.size; have:=hbb.out; omega) id, hH0.2.2.trans hk12⟩) (fun hH1=>?_)
 clear hK K
 try simp only [lyA, lyB, lyC, lyD]
 refine tk 25 rfl (HP · · _ _ ·) hH1 ?_
 refine tk 26 rfl (HP · · _ _ ·) hH1 ?_
 refine tk 27 rfl (HP · · _ _ ·) hH1 ?_
 refine wpAnyH_done (by kernel_rfl) ?_ _
 exact HQ.out _ _ _ _ _ _ _ _ _ _ _ _ _ _ _ _ _ _ _ _ _ _ _ _ _ _ _ _ hH1
theorem sus_reg57Z {w8 : World} {bb m N lc : Nat} {la : Option Addr} {Q : Exit → Act → World → Prop} {u0 u1 u2 u3 u4 u5 u6 u7 u8 u10 u11 u12 u13 u14 u15 u16 u17 u18 u20 u22 u23 u24 u25 u26 u27 u28 u29 u30 u31 u32 u33 u34 u35 u36 u37 u38 u39 u40 u41 u42 u43 u44 u45 u46 u47 u48 u49 u50 u51 u52 u53 u54 u55 u56 u57 u58 u59 u60 u61 u62 u63 u64 u65 u66 u67 u68 u69 u70 u71 u72 u73 u74 u75 u76 u77 u78 u79 u80 u81 u82 u83 u84 u85 u86 u87 u88 u89 u90 u91 u92 u93 u94 u95 u96 u97 u98 u99 u100 u101 u102 u103 u104 u105 u106 u107 u108 u109 u110 u111 u112 u113 u114 u115 u116 u117 u118 u119 u120 u121 u122 u123 u124 u125 u126 u127 u128 u129 u130 u131 u132 u133 u134 u135 u136 u137 u138 u139 u140 u141 u142 u143 u144 u145 u146 u147 u148 u149 u150 u151 u152 u153 u154 u155 u156 u157 u158 u159 u160 u161 u162 u163 u164 u165 u166 u167 u168 u169 u170 u171 u172 u173 u174 u175 u176 u177 u178 u179 u180 u181 u182 u183 u184 u185 u186 u187 u188 u189 u190 u191 u192 u193 u194 u195 u196 u197 u198 u199 u200 u201 u202 u203 u204 u205 u206 u207 u208 u209 u210 u211 u212 u213 u214 u215 u216 u217 u218 u219 u220 u221 u222 u223 u224 u225 u226 u227 u228 u229 u230 u231 u232 u233 u234 u235 u236 u237 u238 u239 u240 u241 u242 u243 u244 : Value} (i2 : (m : Int) < 8) (i6 : IntKind.i64.wrap (m : Int) = (m : Int)) (i7 : wrap64 (m : Int) = (m : Int)) (SA : (fun w'=>w'.cell? ⟨bb, m * 33, none⟩ = some (.int .i64 0)∧Kept (fun _=>False) w8 w') w8.drew)
  (HP : ∀ c a (k : Nat) v w, Q (.panic c) (Act.put a (some k) v) w → Q (.panic c) a w) (HQ : ∀ (v216 v217 v218 v219 v220 v221 v222 v223 v224 v225 v226 v227 v228 v229 v230 v231 v232 v233 v234 v235 v236 v237 v238 v239 v240 v241 v242 : Value) (w' : World), (fun w'=>w'.cell? ⟨bb, m * 33, none⟩ = some (.int .i64 0)∧Kept (fun _=>False) w8 w') w' → Q .normal ⟨List.toArray (u0::u1::u2::u3::u4::u5::u6::u7::u8::(.pointer (some ⟨bb, 0, none⟩))::u10::u11::u12::u13::u14::u15::u16::u17::u18::(.slice la N lc)::u20::(.int .i64 (m : Int))::u22::u23::u24::u25::u26::u27::u28::u29::u30::u31::u32::u33::u34::u35::u36::u37::u38::u39::u40::u41::u42::u43::u44::u45::u46::u47::u48::u49::u50::u51::u52::u53::u54::u55::u56::u57::u58::u59::u60::u61::u62::u63::u64::u65::u66::u67::u68::u69::u70::u71::u72::u73::u74::u75::u76::u77::u78::u79::u80::u81::u82::u83::u84::u85::u86::u87::u88::u89::u90::u91::u92::u93::u94::u95::u96::u97::u98::u99::u100::u101::u102::u103::u104::u105::u106::u107::u108::u109::u110::u111::u112::u113::u114::u115::u116::u117::u118::u119::u120::u121::u122::u123::u124::u125::u126::u127::u128::u129::u130::u131::u132::u133::u134::u135::u136::u137::u138::u139::u140::u141::u142::u143::u144::u145::u146::u147::u148::u149::u150::u151::u152::u153::u154::u155::u156::u157::u158::u159::u160::u161::u162::u163::u164::u165::u166::u167::u168::u169::u170::u171::u172::u173::u174::u175::u176::u177::u178::u179::u180::u181::u182::u183::u184::u185::u186::u187::u188::u189::u190::u191::u192::u193::u194::u195::u196::u197::u198::u199::u200::u201::u202::u203::u204::u205::u206::u207::u208::u209::u210::u211::u212::u213::u214::u215::v216::v217::v218::v219::v220::v221::v222::v223::v224::v225::v226::v227::v228::v229::v230::v231::v232::v233::v234::v235::v236::v237::v238::v239::v240::v241::v242::(.bool false)::u244::[]), []⟩ w') :
  Code.wp Tryz.prog (Code.region 57 susOps57 true) Q ⟨List.toArray (u0::u1::u2::u3::u4::u5::u6::u7::u8::(.pointer (some ⟨bb, 0, none⟩))::u10::u11::u12::u13::u14::u15::u16::u17::u18::(.slice la N lc)::u20::(.int .i64 (m : Int))::u22::u23::u24::u25::u26::u27::u28::u29::u30::u31::u32::u33::u34::u35::u36::u37::u38::u39::u40::u41::u42::u43::u44::u45::u46::u47::u48::u49::u50::u51::u52::u53::u54::u55::u56::u57::u58::u59::u60::u61::u62::u63::u64::u65::u66::u67::u68::u69::u70::u71::u72::u73::u74::u75::u76::u77::u78::u79::u80::u81::u82::u83::u84::u85::u86::u87::u88::u89::u90::u91::u92::u93::u94::u95::u96::u97::u98::u99::u100::u101::u102::u103::u104::u105::u106::u107::u108::u109::u110::u111::u112::u113::u114::u115::u116::u117::u118::u119::u120::u121::u122::u123::u124::u125::u126::u127::u128::u129::u130::u131::u132::u133::u134::u135::u136::u137::u138::u139::u140::u141::u142::u143::u144::u145::u146::u147::u148::u149::u150::u151::u152::u153::u154::u155::u156::u157::u158::u159::u160::u161::u162::u163::u164::u165::u166::u167::u168::u169::u170::u171::u172::u173::u174::u175::u176::u177::u178::u179::u180::u181::u182::u183::u184::u185::u186::u187::u188::u189::u190::u191::u192::u193::u194::u195::u196::u197::u198::u199::u200::u201::u202::u203::u204::u205::u206::u207::u208::u209::u210::u211::u212::u213::u214::u215::u216::u217::u218::u219::u220::u221::u222::u223::u224::u225::u226::u227::u228::u229::u230::u231::u232::u233::u234::u235::u236::u237::u238::u239::u240::u241::u242::u243::u244::[]), []⟩ w8:=by
 have HQ:=Lib.hid HQ
 unfold susOps57
 refine wp_region_held_drew (S:=(fun w'=>w'.cell? ⟨bb, m * 33, none⟩ = some (.int .i64 0)∧Kept (fun _=>False) w8 w')) (by kernel_rfl) SA (fun hH0=>?_)
 refine tk 0 rfl (HP · · _ _ ·) hH0 ?_
 refine tk 1 rfl (HP · · _ _ ·) hH0 ?_
 refine tk 2 rfl (HP · · _ _ ·) hH0 ?_
 refine tk 3 rfl (HP · · _ _ ·) hH0 ?_
 refine tk 4 rfl (HP · · _ _ ·) hH0 ?_
 refine tk 5 rfl (HP · · _ _ ·) hH0 ?_
 refine tk0 6 rfl (HP · · _ _ ·) hH0 ?_
 refine tk0 7 rfl (HP · · _ _ ·) hH0 ?_
 refine tk0 8 rfl (HP · · _ _ ·) hH0 ?_
 refine tk0 9 rfl (HP · · _ _ ·) hH0 ?_
 refine tk0 10 rfl (HP · · _ _ ·) hH0 ?_
 refine tk0 11 rfl (HP · · _ _ ·) hH0 ?_
 refine tk0 12 rfl (HP · · _ _ ·) hH0 ?_
 refine tk0 13 rfl (HP · · _ _ ·) hH0 ?_
 refine tk0 14 rfl (HP · · _ _ ·) hH0 ?_
 refine tk0 15 rfl (HP · · _ _ ·) hH0 ?_
 refine tk0 16 rfl (HP · · _ _ ·) hH0 ?_
 refine tk0 17 rfl (HP · · _ _ ·) hH0 ?_
 refine tk0 18 rfl (HP · · _ _ ·) hH0 ?_
 refine tk0 19 rfl (HP · · _ _ ·) hH0 ?_
 refine tk0 20 rfl (HP · · _ _ ·) hH0 ?_
 refine tk0 21 rfl (HP · · _ _ ·) hH0 ?_
 refine tk0 22 rfl (HP · · _ _ ·) hH0 ?_
 refine tk0 23 rfl (HP · · _ _ ·) hH0 ?_
 refine tk0 24 rfl (HP · · _ _ ·) hH0 ?_
 refine tk0 25 rfl (HP · · _ _ ·) hH0 ?_
 refine tk0 26 rfl (HP · · _ _ ·) hH0 ?_
 refine tk 27 rfl (HP · · _ _ ·) hH0 ?_
 refine wpAnyH_done (by kernel_rfl) ?_ _
 exact HQ.out _ _ _ _ _ _ _ _ _ _ _ _ _ _ _ _ _ _ _ _ _ _ _ _ _ _ _ _ hH0
theorem sus_leaves {w : World} {sc : Nat} {sa : Option Addr} {E : List By} {Q : Exit → Act → World → Prop} {g0 g1 g2 g3 g4 g5 g6 g7 g9 g10 g11 g12 g13 g14 g15 g16 g17 g18 g21 g22 g23 g24 g25 g26 g27 g28 g29 g30 g31 g32 g33 g34 g35 g36 g37 g38 g39 g40 g41 g42 g43 g44 g45 g46 g47 g48 g49 g50 g51 g52 g53 g54 g55 g56 g57 g58 g59 g60 g61 g62 g63 g64 g65 g66 g67 g68 g69 g70 g71 g72 g73 g74 g75 g76 g77 g78 g79 g80 g81 g82 g83 g84 g85 g86 g87 g88 g89 g90 g91 g92 g93 g94 g95 g96 g97 g98 g99 g100 g101 g102 g103 g104 g105 g106 g107 g108 g109 g110 g111 g112 g113 g114 g115 g116 g117 g118 g119 g120 g121 g122 g123 g124 g125 g126 g127 g128 g129 g130 g131 g132 g133 g134 g135 g136 g137 g138 g139 g140 g141 g142 g143 g144 g145 g146 g147 g148 g149 g150 g151 g152 g153 g154 g155 g156 g157 g158 g159 g160 g161 g162 g163 g164 g165 g166 g167 g168 g169 g170 g171 g172 g173 g174 g175 g176 g177 g178 g179 g180 g181 g182 g183 g184 g185 g186 g187 g188 g189 g190 g191 g192 g193 g194 g195 g196 g197 g198 g199 g200 g201 g202 g203 g204 g205 g206 g207 g208 g209 g210 g211 g212 g213 g214 g215 g216 g217 g218 g219 g220 g221 g222 g223 g224 g225 g226 g227 g228 g229 g230 g231 g232 g233 g234 g235 g236 g237 g238 g239 g240 g241 g242 g243 g244 : Value} {code : Code} (hcode : codeBlock 5 (Tryz.f5.body.getD .skip) = some code) (hv : View w 1 (.slice sa E.length sc) (strV E)) (hE : E.length ≤ 100000) (hs : ∀ p ∈ E, p.length ≤ 900000) (ht : Tab w)
  (HP : ∀ c a (k : Nat) v w, Q (.panic c) (Act.put a (some k) v) w → Q (.panic c) a w) (HEND : ∀ (la : Option Addr) (lc : Nat) (v20 v198 v199 v200 v201 v202 v203 v204 v205 v206 v207 v208 v209 v210 v211 : Value) (w' : World), Hid (Row w' 24 32 (.slice la E.length lc) (hcells (E.map entF))∧Kept (fun _=>False) w w'∧∀ k, (Value.slice la E.length lc).ownBlock = some k → w.heap.size ≤ k) → Q .normal ⟨List.toArray (g0::g1::g2::g3::g4::g5::g6::g7::(.slice sa E.length sc)::g9::g10::g11::g12::g13::g14::g15::g16::g17::g18::(.slice la E.length lc)::v20::g21::g22::g23::g24::g25::g26::g27::g28::g29::g30::g31::g32::g33::g34::g35::g36::g37::g38::g39::g40::g41::g42::g43::g44::g45::g46::g47::g48::g49::g50::g51::g52::g53::g54::g55::g56::g57::g58::g59::g60::g61::g62::g63::g64::g65::g66::g67::g68::g69::g70::g71::g72::g73::g74::g75::g76::g77::g78::g79::g80::g81::g82::g83::g84::g85::g86::g87::g88::g89::g90::g91::g92::g93::g94::g95::g96::g97::g98::g99::g100::g101::g102::g103::g104::g105::g106::g107::g108::g109::g110::g111::g112::g113::g114::g115::g116::g117::g118::g119::g120::g121::g122::g123::g124::g125::g126::g127::g128::g129::g130::g131::g132::g133::g134::g135::g136::g137::g138::g139::g140::g141::g142::g143::g144::g145::g146::g147::g148::g149::g150::g151::g152::g153::g154::g155::g156::g157::g158::g159::g160::g161::g162::g163::g164::g165::g166::g167::g168::g169::g170::g171::g172::g173::g174::g175::g176::g177::g178::g179::g180::g181::g182::g183::g184::g185::g186::g187::g188::g189::g190::g191::g192::g193::g194::g195::g196::g197::v198::v199::v200::v201::v202::v203::v204::v205::v206::v207::v208::v209::v210::v211::g212::g213::g214::g215::g216::g217::g218::g219::g220::g221::g222::g223::g224::g225::g226::g227::g228::g229::g230::g231::g232::g233::g234::g235::g236::g237::g238::g239::g240::g241::g242::g243::g244::[]), []⟩ w') :
  Code.wp Tryz.prog code Q ⟨List.toArray (g0::g1::g2::g3::g4::g5::g6::g7::(.slice sa E.length sc)::g9::g10::g11::g12::g13::g14::g15::g16::g17::g18::(.slice none 0 0)::(.int .i64 0)::g21::g22::g23::g24::g25::g26::g27::g28::g29::g30::g31::g32::g33::g34::g35::g36::g37::g38::g39::g40::g41::g42::g43::g44::g45::g46::g47::g48::g49::g50::g51::g52::g53::g54::g55::g56::g57::g58::g59::g60::g61::g62::g63::g64::g65::g66::g67::g68::g69::g70::g71::g72::g73::g74::g75::g76::g77::g78::g79::g80::g81::g82::g83::g84::g85::g86::g87::g88::g89::g90::g91::g92::g93::g94::g95::g96::g97::g98::g99::g100::g101::g102::g103::g104::g105::g106::g107::g108::g109::g110::g111::g112::g113::g114::g115::g116::g117::g118::g119::g120::g121::g122::g123::g124::g125::g126::g127::g128::g129::g130::g131::g132::g133::g134::g135::g136::g137::g138::g139::g140::g141::g142::g143::g144::g145::g146::g147::g148::g149::g150::g151::g152::g153::g154::g155::g156::g157::g158::g159::g160::g161::g162::g163::g164::g165::g166::g167::g168::g169::g170::g171::g172::g173::g174::g175::g176::g177::g178::g179::g180::g181::g182::g183::g184::g185::g186::g187::g188::g189::g190::g191::g192::g193::g194::g195::g196::g197::g198::g199::g200::g201::g202::g203::g204::g205::g206::g207::g208::g209::g210::g211::g212::g213::g214::g215::g216::g217::g218::g219::g220::g221::g222::g223::g224::g225::g226::g227::g228::g229::g230::g231::g232::g233::g234::g235::g236::g237::g238::g239::g240::g241::g242::g243::g244::[]), []⟩ w:=by
 have HP:=Lib.hid HP
 have HEND:=Lib.hid HEND
 simp only [Tryz.f5, Option.getD_some, codeSeq, codeBlock, codeCond, Nat.reduceEqDiff, ↓reduceIte, Option.none_or, Option.or_none, Option.some_or, Option.some.injEq] at hcode
 subst hcode
 have HV:=Lib.hid (And.intro hv (And.intro hs ht))
 have hl2 : E.length ≤ 9223372036854775807:=by omega
 have HL:=Lib.hid hE
 clear hv hs ht hE
 go_wp2_with fail
 go_loopw [19, 20] (fun x y wr=>∃ (i : Nat) (b : Option Addr) (c : Nat), i ≤ E.length∧x = .slice b i c∧y = .int .i64 (i : Int)∧Hid (Row wr 24 32 (.slice b i c) (hcells ((E.take i).map entF))∧Kept (fun _=>False) w wr∧∀ k, (Value.slice b i c).ownBlock = some k → w.heap.size ≤ k)) (fun _ y _=>E.length - (intOf y).toNat)
 case atStart=>exact ⟨0, none, 0, Nat.zero_le _, rfl, rfl, Lib.hid ⟨Row.nil _ _ _, Kept.refl _ _, fun k q=>by simp [Value.ownBlock] at q⟩⟩
 case round =>
  obtain ⟨i, b, c', hi, rfl, rfl, HS⟩:=hrel
  by_cases hlt : i < E.length
  ·obtain ⟨y1, y2⟩:=int_lt hlt
   obtain ⟨p, hp⟩ : ∃ p, E[i]? = some p:=⟨_, List.getElem?_eq_getElem hlt⟩
   obtain ⟨g, off, rfl, hc⟩:=(HV.out.1.same HS.out.2.1 (by omega)).text1 hp
   have HN:=Lib.hid (ents_next HS.out hp HL.out (HV.out.2.1 p (List.mem_of_getElem? hp)) HV.out.2.2)
   clear hp
   go_wp2_with (first | (go_at_call 27; refine HN.out.mono ?_; rintro e w2 ⟨H, a', c2, w', hH, rfl, hr, HR⟩; have hfold:=fold_hash hH; simp only [zeros, List.replicate] at hfold; have hbl : (bytes8 H).length = 32:=(by rw [bytes8_len, hH]); clear hH) | (refine Lib.wpList_append_run _ rfl _ _ 47 47 rfl _ _ rfl rfl _ _ hr ?_))
   go_roundw
   case rel=>exact ⟨i + 1, a', c2, hlt, rfl, by go_num, HR⟩
   case measure=>simp [intOf]; omega
  ·obtain rfl : i = E.length:=by omega
   obtain ⟨y1, y2⟩:=int_ge hlt
   clear hi hlt
   go_wp2_with fail
   have h:=HS.out
   rw [List.take_length] at h
   first | exact Lib.hid h | exact HEND.out b c' _ _ _ _ _ _ _ _ _ _ _ _ _ _ _ _ (Lib.hid h)
theorem nums57 {m : Nat} (h : m < 8) : decide ((m : Int) < 8) = true∧(m : Int) < 8∧IntKind.i64.wrap (m : Int) = (m : Int)∧wrap64 (m : Int) = (m : Int):=⟨decide_eq_true (by omega), by omega, IntWalk.i64_in _ (by omega), IntWalk.wrap64_in _ (by omega)⟩
theorem nums57z {z N : Nat} (h : 1 ≤ z) (hN : z ≤ N) : ((z : Int) != 0) = true∧((z : Int) == 0) = false∧decide ((z : Int) = 0) = false∧decide ((N : Int) < (z : Int)) = false∧decide (N < z) = false:=⟨by simp; omega, by simp; omega, decide_eq_false (by omega), decide_eq_false (by omega), decide_eq_false (by omega)⟩
theorem sus_root {w8 : World} {bb : Nat} {b : List Hd} {m : Nat} {y : Hd} {t : TypeId} (h : Blk w8 bb (hdC b) t) (h32 : ∀ x ∈ b, x.2.length = 32) (hy : b[m]? = some y) : w8.drew.cell? ⟨bb, m * 33, none⟩ = some (.int .i64 (y.1 : Int))∧w8.drew.rangeAt bb (m * 33 + 1) (bytes8 y.2)∧Kept (fun _=>False) w8 w8.drew:=by
 obtain ⟨h1, h2⟩:=sus_hd h.drew h32 hy
 refine ⟨h2, fun j v hv=>?_, (Kept.refl _ _).drew⟩
 have:=h1 (j + 1) v (by exact hv)
 rwa [show m * 33 + (j + 1) = m * 33 + 1 + j by omega] at this
theorem sus_rootcall {w wr : World} {la : Option Addr} {N lc z : Nat} {E : List By} (hrow : Row w 24 32 (.slice la N lc) (hcells (E.map entF))) (hz : z ≤ N) (hE : E.length ≤ 100000) (ht : Tab w) (hk : Kept (fun _=>False) w wr) {rt : By} (hr : rt = rootE (E.take z)) :
  (∀ w', Kept (fun _=>False) wr w' → Calls Tryz.prog 28 #[.slice la z lc] w' fun e w2=>e = .returned (.agg (bytes8 rt).toArray)∧Kept (fun _=>False) w' w2) ∧
  (∀ w0, (Instr.slice 47 (.slice la N lc) none (some (.int .i64 (z : Int))) none).run Tryz.prog w0 = .ok (.slice la z lc) w0):=by
 refine ⟨fun w' hk'=>?_, fun w0=>hrow.view.run_head elem_hashes size_hashes z hz w0⟩
 have hv:=(hrow.kept (hk.trans hk') (fun _ _=>id)).view.head z hz
 rw [hcells_take (ents_32 _), ← List.map_take] at hv
 have h:=root_any w' _ _ hv (ents_32 _) (by rw [List.length_map, List.length_take]; omega) (ht.same (hk.trans hk'))
 rw [hr]
 exact h
theorem sus_heads {w : World} {bb K lc : Nat} {la : Option Addr} {E : List By} {L b : List Hd} {Q : Exit → Act → World → Prop} {g0 g1 g2 g3 g4 g5 g6 g7 g8 g10 g11 g12 g13 g14 g15 g16 g17 g18 g20 g22 g23 g24 g25 g26 g27 g28 g29 g30 g31 g32 g33 g34 g35 g36 g37 g38 g39 g40 g41 g42 g43 g44 g45 g46 g47 g48 g49 g50 g51 g52 g53 g54 g55 g56 g57 g58 g59 g60 g61 g62 g63 g64 g65 g66 g67 g68 g69 g70 g71 g72 g73 g74 g75 g76 g77 g78 g79 g80 g81 g82 g83 g84 g85 g86 g87 g88 g89 g90 g91 g92 g93 g94 g95 g96 g97 g98 g99 g100 g101 g102 g103 g104 g105 g106 g107 g108 g109 g110 g111 g112 g113 g114 g115 g116 g117 g118 g119 g120 g121 g122 g123 g124 g125 g126 g127 g128 g129 g130 g131 g132 g133 g134 g135 g136 g137 g138 g139 g140 g141 g142 g143 g144 g145 g146 g147 g148 g149 g150 g151 g152 g153 g154 g155 g156 g157 g158 g159 g160 g161 g162 g163 g164 g165 g166 g167 g168 g169 g170 g171 g172 g173 g174 g175 g176 g177 g178 g179 g180 g181 g182 g183 g184 g185 g186 g187 g188 g189 g190 g191 g192 g193 g194 g195 g196 g197 g198 g199 g200 g201 g202 g203 g204 g205 g206 g207 g208 g209 g210 g211 g212 g213 g214 g215 g216 g217 g218 g219 g220 g221 g222 g223 g224 g225 g226 g227 g228 g229 g230 g231 g232 g233 g234 g235 g236 g237 g238 g239 g240 g241 g242 g243 g244 : Value} {code : Code} (hcode : codeBlock 7 (Tryz.f5.body.getD .skip) = some code) (hK : K = E.length) (hb : Blk w bb (hdC b) 72) (hrow : Row w 24 32 (.slice la K lc) (hcells (E.map entF))) (h8 : By8 b L) (hg : GoodL L E) (hr : Rises 0 L) (hE : E.length ≤ 100000) (ht : Tab w)
  (HP : ∀ c a (k : Nat) v w, Q (.panic c) (Act.put a (some k) v) w → Q (.panic c) a w) (HEND : ∀  (v2 v21 v212 v213 v214 v215 v216 v217 v218 v219 v220 v221 v222 v223 v224 v225 v226 v227 v228 v229 v230 v231 v232 v233 v234 v235 v236 v237 v238 v239 v240 v241 v242 v243 : Value) (w' : World), Hid (Kept (fun _=>False) w w') → Q .normal ⟨List.toArray (g0::g1::v2::g3::g4::g5::g6::g7::g8::(.pointer (some ⟨bb, 0, none⟩))::g10::g11::g12::g13::g14::g15::g16::g17::g18::(.slice la K lc)::g20::v21::g22::g23::g24::g25::g26::g27::g28::g29::g30::g31::g32::g33::g34::g35::g36::g37::g38::g39::g40::g41::g42::g43::g44::g45::g46::g47::g48::g49::g50::g51::g52::g53::g54::g55::g56::g57::g58::g59::g60::g61::g62::g63::g64::g65::g66::g67::g68::g69::g70::g71::g72::g73::g74::g75::g76::g77::g78::g79::g80::g81::g82::g83::g84::g85::g86::g87::g88::g89::g90::g91::g92::g93::g94::g95::g96::g97::g98::g99::g100::g101::g102::g103::g104::g105::g106::g107::g108::g109::g110::g111::g112::g113::g114::g115::g116::g117::g118::g119::g120::g121::g122::g123::g124::g125::g126::g127::g128::g129::g130::g131::g132::g133::g134::g135::g136::g137::g138::g139::g140::g141::g142::g143::g144::g145::g146::g147::g148::g149::g150::g151::g152::g153::g154::g155::g156::g157::g158::g159::g160::g161::g162::g163::g164::g165::g166::g167::g168::g169::g170::g171::g172::g173::g174::g175::g176::g177::g178::g179::g180::g181::g182::g183::g184::g185::g186::g187::g188::g189::g190::g191::g192::g193::g194::g195::g196::g197::g198::g199::g200::g201::g202::g203::g204::g205::g206::g207::g208::g209::g210::g211::v212::v213::v214::v215::v216::v217::v218::v219::v220::v221::v222::v223::v224::v225::v226::v227::v228::v229::v230::v231::v232::v233::v234::v235::v236::v237::v238::v239::v240::v241::v242::v243::g244::[]), []⟩ w') :
  Code.wp Tryz.prog code Q ⟨List.toArray (g0::g1::g2::g3::g4::g5::g6::g7::g8::(.pointer (some ⟨bb, 0, none⟩))::g10::g11::g12::g13::g14::g15::g16::g17::g18::(.slice la K lc)::g20::(.int .i64 0)::g22::g23::g24::g25::g26::g27::g28::g29::g30::g31::g32::g33::g34::g35::g36::g37::g38::g39::g40::g41::g42::g43::g44::g45::g46::g47::g48::g49::g50::g51::g52::g53::g54::g55::g56::g57::g58::g59::g60::g61::g62::g63::g64::g65::g66::g67::g68::g69::g70::g71::g72::g73::g74::g75::g76::g77::g78::g79::g80::g81::g82::g83::g84::g85::g86::g87::g88::g89::g90::g91::g92::g93::g94::g95::g96::g97::g98::g99::g100::g101::g102::g103::g104::g105::g106::g107::g108::g109::g110::g111::g112::g113::g114::g115::g116::g117::g118::g119::g120::g121::g122::g123::g124::g125::g126::g127::g128::g129::g130::g131::g132::g133::g134::g135::g136::g137::g138::g139::g140::g141::g142::g143::g144::g145::g146::g147::g148::g149::g150::g151::g152::g153::g154::g155::g156::g157::g158::g159::g160::g161::g162::g163::g164::g165::g166::g167::g168::g169::g170::g171::g172::g173::g174::g175::g176::g177::g178::g179::g180::g181::g182::g183::g184::g185::g186::g187::g188::g189::g190::g191::g192::g193::g194::g195::g196::g197::g198::g199::g200::g201::g202::g203::g204::g205::g206::g207::g208::g209::g210::g211::g212::g213::g214::g215::g216::g217::g218::g219::g220::g221::g222::g223::g224::g225::g226::g227::g228::g229::g230::g231::g232::g233::g234::g235::g236::g237::g238::g239::g240::g241::g242::g243::g244::[]), []⟩ w:=by
 have HP:=Lib.hid HP
 have HEND:=Lib.hid HEND
 simp only [Tryz.f5, Option.getD_some, codeSeq, codeBlock, codeCond, Nat.reduceEqDiff, ↓reduceIte, Option.none_or, Option.or_none, Option.some_or, Option.some.injEq] at hcode
 subst hcode
 have HB:=Lib.hid (And.intro hb (And.intro (h8.h32 hr) (And.intro hrow (And.intro h8 (And.intro hg (And.intro hr (And.intro hE (And.intro ht hK))))))))
 have hl2 : K ≤ 9223372036854775807:=by omega
 clear hb hrow h8 hg hr hE ht hK
 go_wp2_with fail
 go_loopw [21] (fun x wr=>∃ m : Nat, m ≤ 8∧x = .int .i64 (m : Int)∧Hid (Kept (fun _=>False) w wr)) (fun x _=>8 - (intOf x).toNat)
 case atStart=>exact ⟨0, by omega, rfl, Lib.hid (Kept.refl _ _)⟩
 case round =>
  obtain ⟨m, hm, rfl, HK⟩:=hrel
  by_cases hlt : m < 8
  ·obtain ⟨x1, i2, i6, i7⟩:=nums57 hlt
   obtain ⟨y, hy⟩ : ∃ y, b[m]? = some y:=⟨_, List.getElem?_eq_getElem (by rw [HB.out.2.2.2.1.1]; exact hlt)⟩
   have hbk:=HB.out.1.kept HK.out id
   have SA:=sus_root hbk HB.out.2.1 hy
   have HLT:=Lib.hid (And.intro hlt hbk.lt)
   rcases HB.out.2.2.2.1.2 m y hy with rfl | hL
   ·have SA2:=And.intro SA.1 SA.2.2
    clear SA hy hbk hlt hm
    go_upto_region 57 with fail
    refine sus_reg57Z i2 i6 i7 SA2 (fun _ _ _ _ _ h=>HP.out _ _ _ _ _ h) ?_
    intros
    rename_i w2 hw2
    go_wp2_with fail
    go_roundw
    case rel=>exact ⟨m + 1, by have:=HLT.out; omega, by go_num, Lib.hid (HK.out.trans hw2.2)⟩
    case measure=>have:=HLT.out.1; simp [intOf]; omega
   ·obtain ⟨z1, z2⟩:=HB.out.2.2.2.2.1.last hL
    have ho:=HB.out.2.2.2.2.2.1.ok y (List.mem_of_getElem? hL)
    obtain ⟨hrt, hrun⟩:=sus_rootcall HB.out.2.2.1 (z:=y.1) (by have:=HB.out.2.2.2.2.2.2.2.2; omega) HB.out.2.2.2.2.2.2.1 HB.out.2.2.2.2.2.2.2.1 HK.out z2
    obtain ⟨j1, j2, j3, j4, j5⟩:=nums57z (N:=K) ho.1 (by have:=HB.out.2.2.2.2.2.2.2.2; omega)
    have HRT:=Lib.hid hrt
    have hneq:=fun w'=>neq_hash w' y.2 y.2 ho.2.2 ho.2.2
    have HIk:=Lib.hid (show (Tryz.prog.info? 24).map (·.size) = some (bytes8 y.2).length by rw [bytes8_len, ho.2.2]; exact info_h32)
    simp only [decide_true, Bool.not_true] at hneq
    have HBB:=Lib.hid hbk.lt
    clear hy hbk hlt hm hL z1 z2 ho hrt
    go_upto_region 57 with fail
    refine sus_reg57A HRT HBB HIk hneq hrun i2 i6 i7 j1 j2 j3 j4 j5 SA (fun _ _ _ _ _ h=>HP.out _ _ _ _ _ h) ?_
    intros
    rename_i w2 hw2
    go_wp2_with fail
    go_roundw
    case rel=>exact ⟨m + 1, by have:=HLT.out; omega, by go_num, Lib.hid (HK.out.trans hw2.2.2)⟩
    case measure=>have:=HLT.out.1; simp [intOf]; omega
  ·obtain rfl : m = 8:=by omega
   clear hlt hm
   go_wp2_with fail
   first | exact HK | exact HEND.out _ _ _ _ _ _ _ _ _ _ _ _ _ _ _ _ _ _ _ _ _ _ _ _ _ _ _ _ _ _ _ _ _ _ _ HK
end Go.Proofs.YtpmdlkogccojmaaGreatDoor
