/- Contracts of package disk: Read. -/
import Derived.Test.YtahiimcdmojngaaDisk3
import Derived.Laws.BytesArg
import Derived.Laws.IdiomStrings
namespace Go.Proofs.Ytahiimcdmojngaa
open Go.RowKit

theorem bcells_at (b : List UInt8) (j : Nat) (h : j < b.length) : (bcells b)[j]? = some (.int .u8 (b[j].toNat : Int)) := by simp [bcells, List.getElem?_eq_getElem h]

/-- 'string(b[at : at+size])'. -/
theorem Row.substr {w : World} {v : Value} {b : List UInt8} (h : Row w 5 1 v (bcells b)) (pos size : Nat) (hle : pos + size ≤ b.length) :
    ∃ sv, (Instr.slice 80 v (some (.int .i64 pos)) (some (.int .i64 ((pos : Int) + (size : Int)))) none).run Try.prog w = .ok sv w ∧ (convert 80 9 sv).run Try.prog w = .ok (.string ⟨((b.drop pos).take size).toArray⟩) w := by
  have hsz : (sizeOf (Try.prog.elem 80)).run Try.prog w = .ok 1 w := by kernel_rfl
  have hz : ∀ (a : Option Addr) (c : Nat), (convert 80 9 (.slice a 0 c)).run Try.prog w = .ok (.string ⟨#[]⟩) w := by
    intro a c
    cases a with
    | none => rw [run_convert_bytes_string w _ _ _ none 0 c Try.underlying80 Try.underlying5 Try.underlying9]; simp [Conv.bytesToString]; rfl
    | some a =>
      exact run_convert_bytes_back w 80 9 5 a c [] Try.underlying80 Try.underlying5 Try.underlying9 (fun j hj => by simp at hj)
  obtain ⟨a, m, cap, rfl, hm, hm1, hc⟩ := h.form (by omega)
  rw [bcells_len] at hm
  have hcap : m ≤ cap := by
    rcases h with ⟨h, _⟩ | ⟨g, n, cap', rest, hv, _, _, h2, _⟩
    · cases h; exact Nat.le_refl _
    · simp only [Value.slice.injEq] at hv; omega
  have hs := run_slice_lh (P := Try.prog) (w := w) 80 a m cap (by kernel_rfl) .i64 .i64 (pos : Int) ((pos : Int) + (size : Int)) (by omega) (by omega) (by omega)
  rw [hsz] at hs
  simp only [Result.andThen, sliced] at hs
  refine ⟨_, hs, ?_⟩
  have e1 : ((pos : Int) + (size : Int)).toNat - (pos : Int).toNat = size := by omega
  rw [e1]
  by_cases h0 : size = 0
  · subst h0
    rw [hz]
    simp
  · obtain ⟨g, rfl, _, hcell⟩ := hc (by omega)
    have e2 : ¬ cap = (pos : Int).toNat := by omega
    rw [if_neg e2]
    have hl : ((b.drop pos).take size).length = size := by simp; omega
    have := run_convert_bytes_back w 80 9 5 ⟨g, pos, none⟩ (cap - (pos : Int).toNat) ((b.drop pos).take size) Try.underlying80 Try.underlying5 Try.underlying9 (fun j hj => ?_)
    · rw [hl] at this
      rw [← this]
      simp [addr0_add]
    · have hj2 : pos + j < b.length := by simp at hj; omega
      have := hcell (pos + j) _ (bcells_at b (pos + j) hj2)
      have ha : (⟨g, pos, none⟩ : Addr).add j = ⟨g, pos + j, none⟩ := by unfold Addr.add; split <;> simp_all
      rw [ha, this]
      simp

section
variable {d : Nat} {fp : Nat → Prop} {M : DiskM}
theorem read_err (w : World) (n pos size : Int) (n0 : -9223372036854775808 ≤ n ∧ n ≤ 9223372036854775807) (hd : IsDisk w d fp M) (he : M.has n ≠ 0) :
    Calls Try.prog 86 #[.pointer (some ⟨d, 0, none⟩), .int .i64 n, .int .i64 pos, .int .i64 size] w fun e w' => e = .returned (.tuple #[.string ⟨#[]⟩, .int .i64 (M.has n)]) ∧ w = w' := by
  rcases M.has_cases n with ⟨h, _⟩ | ⟨h, _⟩ | ⟨h, _⟩
  · exact absurd h he
  all_goals
    have hc := has_any w n n0 hd
    rw [h] at hc ⊢
    clear he h
    go_enter Try.func86, Try.ntmps86
    go_wp2_with (go_at_call 81; refine hc.mono ?_; rintro e w' ⟨rfl, rfl⟩)
    exact bodyPost_ret (v := .tuple #[.string ⟨#[]⟩, .int .i64 _]) (by simp [results, Try.results86, go_sem]) rfl ⟨rfl, rfl⟩
set_option maxRecDepth 100000 in
set_option maxHeartbeats 1000000 in
theorem read_ok (w : World) (n : Int) (pos size : Nat) (n0 : -9223372036854775808 ≤ n ∧ n ≤ 9223372036854775807) (b : List UInt8) (hd : IsDisk w d fp M) (hdn : M.down = false) (hb : AM.get M.files n = some b) (hle : pos + size ≤ b.length) :
    Calls Try.prog 86 #[.pointer (some ⟨d, 0, none⟩), .int .i64 n, .int .i64 pos, .int .i64 size] w fun e w' => e = .returned (.tuple #[.string ⟨((b.drop pos).take size).toArray⟩, .int .i64 0]) ∧ w = w' := by
  have h0 : M.has n = 0 := by simp [DiskM.has, hdn, hb]
  have hc := has_any w n n0 hd
  rw [h0] at hc
  obtain ⟨mb, lv, fs, h⟩ := hd
  have c0 := h.head.cell (i := 0) rfl
  obtain ⟨v, hv⟩ := h.get_some hb
  have hl := h.map.look (t := 121) (e := 80) Try.underlying3 Try.underlying121 (zeroBytes w) n0
  rw [hv, Option.getD_some] at hl
  have hrow := h.rows n v b hv hb
  obtain ⟨sv, hs1, hs2⟩ := hrow.substr pos size hle
  obtain ⟨a, m, cap, rfl, hm, hml, _⟩ := hrow.form (by omega)
  rw [bcells_len] at hm
  have hml' : maxLen = 9223372036854775807 := rfl
  have x1 : decide ((pos : Int) < 0) = false := by simp
  have x2 : decide (m < pos) = false := by simp; omega
  have x2' : pos ≤ m := by omega
  have x3 : decide ((size : Int) < 0) = false := by simp
  have x4 : decide ((size : Int) > (m : Int) - (pos : Int)) = false := by simp; omega
  have x5 : IntKind.i64.wrap ((m : Int) - (pos : Int)) = (m : Int) - (pos : Int) := IntWalk.i64_in _ (by omega)
  have x6 : IntKind.i64.wrap ((pos : Int) + (size : Int)) = (pos : Int) + (size : Int) := IntWalk.i64_in _ (by omega)
  clear hrow hm hb hv h0 hle
  go_enter Try.func86, Try.ntmps86
  go_wp2_with (go_at_call 81; refine hc.mono ?_; rintro e w' ⟨rfl, rfl⟩)
  exact bodyPost_ret (v := .tuple #[.string ⟨((b.drop pos).take size).toArray⟩, .int .i64 0]) (by simp [results, Try.results86, go_sem]) rfl ⟨rfl, rfl⟩
end
end Go.Proofs.Ytahiimcdmojngaa
