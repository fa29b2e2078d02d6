/- The acts that the laws of peers take: what the walk is told of them. -/
import Derived.Test.YtahiimcdmojngaaOpen
namespace Go.Proofs.Ytahiimcdmojngaa
open Go.RowKit Go.Joins

/-- What is known of the acts that came in. -/
def Acts (w : World) (a : Option Addr) (len : Nat) : Prop := ∀ i, i < len → ∃ k ix nw d : Int, 0 ≤ k ∧ k ≤ 255 ∧ 0 ≤ d ∧ d ≤ 255 ∧ -9223372036854775808 ≤ ix ∧ ix ≤ 9223372036854775807 ∧ -9223372036854775808 ≤ nw ∧ nw ≤ 9223372036854775807 ∧ ElemAt w a 4 i [.int .u8 k, .int .i64 ix, .int .i64 nw, .int .u8 d]

set_option maxRecDepth 100000 in
theorem acts_of {H : Type} {enc : TypeId × Value → H} {base : Nat} {dd : DataW H} {pp : List MemPlace} (v : Value) (w : World) (hv : Value.okWide Try.prog w .any base 38 v) (h : DataW.Trod enc Try.prog w 0 (fun _ => true) true 38 v dd pp) :
    ∃ a len cap, v = .slice a len cap ∧ len ≤ 9223372036854775807 ∧ Acts w a len := by
  obtain ⟨a, len, cap, rfl, hl, hel⟩ := open_rows (n := 4) Try.underlying38 (by kernel_rfl) (by omega) hv h
  refine ⟨a, len, cap, rfl, by unfold maxLen at hl; omega, fun i hi => ?_⟩
  obtain ⟨cs, m, x, hlen, hat, hx⟩ := hel i hi
  obtain ⟨y0, y1, y2, y3, n, _, _, h0, h1, h2, h3⟩ := trod_struct4 Try.underlying45 hx
  match cs, hlen with
  | [c0, c1, c2, c3], _ =>
    obtain ⟨a0, e0, _, w0⟩ := DataW.trod_int Try.underlying5 h0
    obtain ⟨a1, e1, _, w1⟩ := DataW.trod_int Try.underlying3 h1
    obtain ⟨a2, e2, _, w2⟩ := DataW.trod_int Try.underlying3 h2
    obtain ⟨a3, e3, _, w3⟩ := DataW.trod_int Try.underlying5 h3
    have k1 : Try.prog.cellsOf 5 = 1 := by kernel_rfl
    have k2 : Try.prog.cellsOf 3 = 1 := by kernel_rfl
    simp [k1, k2] at e0 e1 e2 e3
    subst e0 e1 e2 e3
    exact ⟨a0, a1, a2, a3, (wf_u8 w0).1, (wf_u8 w0).2, (wf_u8 w3).1, (wf_u8 w3).2, (wf_i64 w1).1, (wf_i64 w1).2, (wf_i64 w2).1, (wf_i64 w2).2, hat⟩

end Go.Proofs.Ytahiimcdmojngaa
