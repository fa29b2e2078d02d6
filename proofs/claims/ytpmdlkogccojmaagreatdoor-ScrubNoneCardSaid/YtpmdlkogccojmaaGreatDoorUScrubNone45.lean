/- Scr5 -/
import Derived.OpenShut
import Derived.Test.YtpmdlkogccojmaaGreatDoorUScrubNone42
import Derived.Test.YtpmdlkogccojmaaGreatDoorUScrubNone44
set_option linter.unusedVariables false
set_option linter.unusedSimpArgs false
set_option maxRecDepth 100000
set_option maxHeartbeats 16000000
namespace Go.Proofs.YtpmdlkogccojmaaGreatDoor
open Go.RowKit Go.WideShapes Go.ChangeShapes Go.Joins
def Fds (w : World) (a : Option Addr) (L : List Fd) : Prop:=∀ i x, L[i]? = some x → ElemAt w a 3 i (fdC x)
theorem Fds.same {w w' : World} {a : Option Addr} {L : List Fd} (h : Fds w a L) (hb : Below w.heap.size w w') : Fds w' a L:=fun i x q=>(h i x q).below hb
theorem c_find35 : Tryz.prog.cellsOf 29 = 3:=by kernel_rfl
theorem c_int_35 : Tryz.prog.cellsOf 3 = 1:=by kernel_rfl
theorem one_at35 {cs : List Value} {v : Value} {i : Nat} (h : (cs.drop i).take 1 = [v]) : cs[i]? = some v:=by
 have e5:=congrArg (·[0]?) h
 simpa [List.getElem?_take, List.getElem?_drop] using e5
def FdOk (x : Fd) : Prop:=(-9223372036854775808 ≤ x.1∧x.1 ≤ 9223372036854775807)∧(-9223372036854775808 ≤ x.2.1∧x.2.1 ≤ 9223372036854775807)∧(-9223372036854775808 ≤ x.2.2∧x.2.2 ≤ 9223372036854775807)
theorem find_in {H : Type} {enc : TypeId × Value → H} {W : World} {base : Nat} {spare : Nat → Bool} {hd : Bool} {fuel : Nat} {cs : List Value} {x : DataW H × List MemPlace}
  (h : DataW.trod enc Tryz.prog W base spare hd fuel 29 cs = some x) : ∃ y : Fd, cs = fdC y∧FdOk y:=by
 obtain ⟨xs, n, _, _, hcl, hl, hg⟩:=DataW.trod_struct Tryz.underlying29 h
 match xs, hl with
 | [y0, y1, y2], _ =>
  have g0:=hg 0 _ rfl
  have g1:=hg 1 _ rfl
  have g2:=hg 2 _ rfl
  rw [c_find35] at hcl
  simp [c_int_35] at g0 g1 g2
  obtain ⟨a0, e0, _, w0⟩:=DataW.trod_int Tryz.underlying3 g0
  obtain ⟨a1, e1, _, w1⟩:=DataW.trod_int Tryz.underlying3 g1
  obtain ⟨a2, e2, _, w2⟩:=DataW.trod_int Tryz.underlying3 g2
  have q0:=one_at35 (i:=0) (by simpa using e0)
  have q1:=one_at35 (i:=1) (by simpa using e1)
  have q2:=one_at35 (i:=2) (by simpa using e2)
  refine ⟨(a0, a1, a2), ?_, wf_i64 w0, wf_i64 w1, wf_i64 w2⟩
  match cs, hcl with
  | [b0, b1, b2], _ =>
   simp at q0 q1 q2
   subst q0; subst q1; subst q2
   rfl
theorem finds_of {H : Type} {enc : TypeId × Value → H} {w : World} {base : Nat} {v : Value} {dd : DataW H} {p : List MemPlace} (hv : Value.okWide Tryz.prog w .any base 22 v) (h : DataW.Trod enc Tryz.prog w 0 (fun _=>true) true 22 v dd p) :
  ∃ (a : Option Addr) (L : List Fd) (c : Nat), v = .slice a L.length c∧L.length ≤ maxLen∧Fds w a L:=by
 obtain ⟨a, len, cap, rfl, hl, hx⟩:=open_rows Tryz.underlying22 c_find35 (by omega) hv h
 have hex : ∀ i, ∃ y : Fd, i < len → ElemAt w a 3 i (fdC y):=fun i=>by
  by_cases hi : i < len
  ·obtain ⟨cs, m, x, _, he, ht⟩:=hx i hi
   obtain ⟨y, rfl, h1⟩:=find_in ht
   exact ⟨y, fun _=>he⟩
  ·exact ⟨(0, 0, 0), fun h=>absurd h hi⟩
 obtain ⟨V, hV⟩ : ∃ V : Nat → Fd, ∀ i, i < len → ElemAt w a 3 i (fdC (V i)):=⟨fun i=>Classical.choose (hex i), fun i=>Classical.choose_spec (hex i)⟩
 have hlen : ((List.range len).map V).length = len:=by rw [List.length_map, List.length_range]
 refine ⟨a, (List.range len).map V, cap, by rw [hlen], by rw [hlen]; exact hl, fun i x hi=>?_⟩
 have hlt : i < len:=by have:=(List.getElem?_eq_some_iff.1 hi).1; omega
 rw [List.getElem?_map, List.getElem?_range hlt] at hi
 simp only [Option.map_some, Option.some.injEq] at hi
 subst hi
 exact hV i hlt
theorem Fds.cell {w : World} {a : Option Addr} {L : List Fd} (h : Fds w a L) {i : Nat} {x : Fd} (hx : L[i]? = some x) : ∃ g off, a = some ⟨g, off, none⟩∧w.cell? ⟨g, off + i * 3, none⟩ = some (.int .i64 x.1)∧w.cell? ⟨g, off + i * 3 + 1, none⟩ = some (.int .i64 x.2.1)∧w.cell? ⟨g, off + i * 3 + 2, none⟩ = some (.int .i64 x.2.2):=by
 obtain ⟨b, off, rfl, _, hc⟩:=h i x hx
 exact ⟨b, off, rfl, hc 0 _ rfl, hc 1 _ rfl, hc 2 _ rfl⟩
def badF (x : Fd) : Bool:=decide (3 ≤ x.1∧x.1 ≤ 6)
theorem neq_int {a b : Int} (h : ¬ a = b) : decide (a = b) = false∧(a == b) = false:=⟨decide_eq_false h, beq_eq_false_iff_ne.2 h⟩
theorem sound1_any (w : World) (k f p : Int) :
  Calls Tryz.prog 41 #[.agg #[.int .i64 k, .int .i64 f, .int .i64 p]] w fun e w'=>e = .returned (.bool (badF (k, f, p)))∧Kept (fun _=>False) w w':=by
 have ka : Kept (fun _=>False) w (w.alloc (.cells #[.int .i64 k, .int .i64 f, .int .i64 p] 29)):=(Kept.refl _ _).alloc _
 have HB:=Lib.hid (show badF (k, f, p) = decide (3 ≤ k∧k ≤ 6) from rfl)
 rw [HB.out]
 by_cases h3 : k = 3
 ·subst h3
  go_enter Tryz.func41, Tryz.ntmps41
  go_wp2
  go_ret
  exact ⟨rfl, ka⟩
 ·by_cases h4 : k = 4
  ·subst h4
   go_enter Tryz.func41, Tryz.ntmps41
   go_wp2
   go_ret
   exact ⟨rfl, ka⟩
  ·by_cases h5 : k = 5
   ·subst h5
    go_enter Tryz.func41, Tryz.ntmps41
    go_wp2
    go_ret
    exact ⟨rfl, ka⟩
   ·by_cases h6 : k = 6
    ·subst h6
     go_enter Tryz.func41, Tryz.ntmps41
     go_wp2
     go_ret
     exact ⟨rfl, ka⟩
    ·have e : decide (3 ≤ k∧k ≤ 6) = false:=decide_eq_false (by omega)
     rw [e]
     obtain ⟨a3, b3⟩:=neq_int h3
     obtain ⟨a4, b4⟩:=neq_int h4
     obtain ⟨a5, b5⟩:=neq_int h5
     obtain ⟨a6, b6⟩:=neq_int h6
     clear h3 h4 h5 h6 e
     go_enter Tryz.func41, Tryz.ntmps41
     go_wp2
     go_ret
     exact ⟨rfl, ka⟩
def IdxOf (L : List Fd) (i : Int) : Prop:=(i = -1∧∀ x ∈ L, badF x = false) ∨ ∃ n : Nat, i = (n : Int)∧∃ x, L[n]? = some x∧badF x = true
theorem Kept.below_of {w w' : World} (h : Kept (fun _=>False) w w') : Below w.heap.size w w':=h.below (fun _ _=>id) (Nat.le_refl _)
theorem indexFunc_any (w : World) (a : Option Addr) (L : List Fd) (c : Nat) (hL : L.length ≤ 1000000) (h : Fds w a L) :
  Calls Tryz.prog 77 #[.slice a L.length c, .func (.func 41) #[] #[]] w fun e w'=>∃ i, e = .returned (.int .i64 i)∧IdxOf L i∧Kept (fun _=>False) w w':=by
 have HH:=Lib.hid h
 clear h
 go_enter Tryz.func77, Tryz.ntmps77
 go_wp2_with fail
 go_loopw [8] (fun y wr=>∃ i : Nat, i ≤ L.length∧y = .int .i64 (i : Int)∧Hid ((∀ j x, j < i → L[j]? = some x → badF x = false)∧Kept (fun _=>False) w wr)) (fun y _=>L.length - (intOf y).toNat)
 case atStart=>exact ⟨0, Nat.zero_le _, rfl, Lib.hid ⟨fun j x hj=>by omega, Kept.refl _ _⟩⟩
 case round =>
  obtain ⟨i, hi, rfl, HR⟩:=hrel
  by_cases hlt : i < L.length
  ·have y1 : decide ((i : Int) < (L.length : Int)) = true:=decide_eq_true (by omega)
   have y2 : decide (i < L.length) = true:=decide_eq_true hlt
   obtain ⟨x, hx⟩ : ∃ x, L[i]? = some x:=⟨_, List.getElem?_eq_getElem hlt⟩
   obtain ⟨g, off, rfl, c0, c1, c2⟩:=(HH.out.same HR.out.2.below_of).cell hx
   have HX:=Lib.hid hx
   have HS:=Lib.hid (sound1_any wr x.1 x.2.1 x.2.2)
   clear hx
   cases hb : badF x with
   | true =>
    have HB:=Lib.hid hb
    rw [hb] at HS
    clear hb
    go_wp2_with (go_at_call 41; refine HS.out.mono ?_; rintro e w2 ⟨rfl, hk2⟩)
    go_ret
    exact ⟨_, rfl, Or.inr ⟨i, rfl, x, HX.out, HB.out⟩, HR.out.2.trans hk2⟩
   | false =>
    have HB:=Lib.hid hb
    rw [hb] at HS
    clear hb
    go_wp2_with (go_at_call 41; refine HS.out.mono ?_; rintro e w2 ⟨rfl, hk2⟩)
    go_roundw
    case rel =>
     refine ⟨i + 1, by omega, by go_num, Lib.hid ⟨fun j z hj hz=>?_, HR.out.2.trans hk2⟩⟩
     rcases Nat.lt_or_ge j i with q | q
     ·exact HR.out.1 j z q hz
     ·obtain rfl : j = i:=by omega
      have:=HX.out
      rw [hz] at this
      cases this
      exact HB.out
    case measure=>simp [intOf]; omega
  ·obtain rfl : i = L.length:=by omega
   have y1 : decide ((L.length : Int) < (L.length : Int)) = false:=decide_eq_false (by omega)
   have y2 : decide (L.length < L.length) = false:=decide_eq_false (by omega)
   clear hi hlt
   go_wp2_with fail
   go_ret
   refine ⟨_, rfl, Or.inl ⟨rfl, fun x hx=>?_⟩, HR.out.2⟩
   obtain ⟨j, hj, rfl⟩:=List.mem_iff_getElem.1 hx
   exact HR.out.1 j _ hj (List.getElem?_eq_getElem hj)
theorem any_of_idx {L : List Fd} {n : Nat} {x : Fd} (h : L[n]? = some x) (hb : badF x = true) : L.any badF = true:=List.any_eq_true.2 ⟨x, List.mem_of_getElem? h, hb⟩
theorem any_none {L : List Fd} (h : ∀ x ∈ L, badF x = false) : L.any badF = false:=by
 rw [List.any_eq_false]
 intro x hx
 rw [h x hx]
 simp
theorem scrSound (w : World) (a : Option Addr) (L : List Fd) (c : Nat) (hL : L.length ≤ 1000000) (h : Fds w a L) :
  Calls Tryz.prog 10 #[.slice a L.length c] w fun e w'=>e = .returned (.bool (!L.any badF))∧Kept (fun _=>False) w w':=by
 have hc : Calls Tryz.prog 40 #[.slice a L.length c, .func (.func 41) #[] #[]] w fun e w'=>e = .returned (.bool (L.any badF))∧Kept (fun _=>False) w w':=by
  have hi:=indexFunc_any w a L c hL h
  go_enter Tryz.func40, Tryz.ntmps40
  go_wp2_with (go_at_call 77; refine hi.mono ?_; rintro e w2 ⟨i, rfl, hI, hk2⟩)
  go_ret
  refine ⟨?_, hk2⟩
  rcases hI with ⟨rfl, hI⟩ | ⟨n, rfl, x, hx, hb⟩
  ·rw [any_none hI]; rfl
  ·rw [any_of_idx hx hb]
   simp
 go_enter Tryz.func10, Tryz.ntmps10
 go_wp2_with (go_at_call 40; refine hc.mono ?_; rintro e w2 ⟨rfl, hk2⟩)
 go_ret
 exact ⟨rfl, hk2⟩
theorem refSound (w : World) (a : Option Addr) (L : List Fd) (c : Nat) (hL : L.length ≤ 1000000) (h : Fds w a L) :
  Calls Tryz.prog 11 #[.slice a L.length c] w fun e w'=>e = .returned (.bool (!L.any badF))∧w = w':=by
 have HH:=Lib.hid h
 clear h
 go_enter Tryz.func11, Tryz.ntmps11
 go_wp2_with fail
 go_loop [3] (fun y=>∃ i : Nat, i ≤ L.length∧y = .int .i64 (i : Int)∧Hid (∀ j x, j < i → L[j]? = some x → badF x = false)) (fun y=>L.length - (intOf y).toNat)
 case atStart=>exact ⟨0, Nat.zero_le _, rfl, Lib.hid (fun j x hj=>by omega)⟩
 case round =>
  obtain ⟨i, hi, rfl, HR⟩:=hrel
  by_cases hlt : i < L.length
  ·have y1 : decide ((i : Int) < (L.length : Int)) = true:=decide_eq_true (by omega)
   have y2 : decide (i < L.length) = true:=decide_eq_true hlt
   obtain ⟨⟨k, f, p⟩, hx⟩ : ∃ x, L[i]? = some x:=⟨_, List.getElem?_eq_getElem hlt⟩
   obtain ⟨g, off, rfl, c0, c1, c2⟩:=HH.out.cell hx
   have HX:=Lib.hid hx
   dsimp only at c0
   clear hx c1 c2
   by_cases h3 : 3 ≤ k
   ·have x1 : decide (3 ≤ k) = true:=decide_eq_true h3
    by_cases h6 : k ≤ 6
    ·have x2 : decide (k ≤ 6) = true:=decide_eq_true h6
     have HB:=Lib.hid (show badF (k, f, p) = true from decide_eq_true ⟨h3, h6⟩)
     clear h3 h6
     go_wp2_with fail
     go_ret
     exact ⟨by rw [any_of_idx HX.out HB.out]; rfl, rfl⟩
    ·have x2 : decide (k ≤ 6) = false:=decide_eq_false h6
     have HB:=Lib.hid (show badF (k, f, p) = false from decide_eq_false (fun q=>h6 q.2))
     clear h3 h6
     go_wp2_with fail
     go_round
     case rel =>
      refine ⟨i + 1, by omega, by go_num, Lib.hid (fun j z hj hz=>?_)⟩
      rcases Nat.lt_or_ge j i with q | q
      ·exact HR.out j z q hz
      ·obtain rfl : j = i:=by omega
       have:=HX.out
       rw [hz] at this
       cases this
       exact HB.out
     case measure=>simp [intOf]; omega
   ·have x1 : decide (3 ≤ k) = false:=decide_eq_false h3
    have HB:=Lib.hid (show badF (k, f, p) = false from decide_eq_false (fun q=>h3 q.1))
    clear h3
    go_wp2_with fail
    go_round
    case rel =>
     refine ⟨i + 1, by omega, by go_num, Lib.hid (fun j z hj hz=>?_)⟩
     rcases Nat.lt_or_ge j i with q | q
     ·exact HR.out j z q hz
     ·obtain rfl : j = i:=by omega
      have:=HX.out
      rw [hz] at this
      cases this
      exact HB.out
    case measure=>simp [intOf]; omega
  ·obtain rfl : i = L.length:=by omega
   have y1 : decide ((L.length : Int) < (L.length : Int)) = false:=decide_eq_false (by omega)
   have y2 : decide (L.length < L.length) = false:=decide_eq_false (by omega)
   clear hi hlt
   go_wp2_with fail
   go_ret
   have hn : L.any badF = false:=any_none (fun x hx=>by
    obtain ⟨j, hj, rfl⟩:=List.mem_iff_getElem.1 hx
    exact HR.out j _ hj (List.getElem?_eq_getElem hj))
   exact ⟨by rw [hn]; rfl, rfl⟩
end Go.Proofs.YtpmdlkogccojmaaGreatDoor
