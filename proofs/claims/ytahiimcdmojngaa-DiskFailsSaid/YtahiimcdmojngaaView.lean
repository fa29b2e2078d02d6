/- Slices that are read: they may begin anywhere in their block. Any program. -/
import Derived.Test.YtahiimcdmojngaaRow
namespace Go.Proofs.Ytahiimcdmojngaa
open Go.RowKit

/-- v is a slice whose elements (size cells each) are the cells xs. -/
def View (w : World) (size : Nat) (v : Value) (xs : List Value) : Prop :=
  ∃ a n cap, v = .slice a n cap ∧ n * size = xs.length ∧ n ≤ cap ∧ cap ≤ maxLen ∧ (0 < cap → ∃ g off, a = some ⟨g, off, none⟩) ∧ (0 < n → ∃ g off, a = some ⟨g, off, none⟩ ∧ g < w.heap.size ∧ ∀ j u, xs[j]? = some u → w.cell? ⟨g, off + j, none⟩ = some u)
section
variable {w w' : World} {size : Nat} {v : Value} {xs : List Value}
theorem View.nil (w : World) (size : Nat) : View w size (.slice none 0 0) [] := ⟨none, 0, 0, rfl, by simp, Nat.le_refl _, Nat.zero_le _, fun h => by omega, fun h => by omega⟩
theorem Row.view {e : TypeId} (h : Row w e size v xs) : View w size v xs := by
  rcases h with ⟨rfl, rfl⟩ | ⟨g, n, cap, rest, rfl, h1, hb, h2, _, h4⟩
  · exact View.nil w size
  · refine ⟨_, n, cap, rfl, h1.symm, h2, h4, fun _ => ⟨g, 0, rfl⟩, fun _ => ⟨g, 0, rfl, hb.lt, fun j u hu => ?_⟩⟩
    rw [Nat.zero_add]
    refine hb.cell ?_
    rw [List.getElem?_append_left (List.getElem?_eq_some_iff.1 hu).1]
    exact hu
/-- It stays what it is where its cells stay. -/
theorem View.kept {S : Nat → Prop} (h : View w size v xs) (hk : Kept S w w') (hS : ∀ g c t f, w.heap[g]? = some (.cells c t f) → v.ownBlock = some g → ¬ S g) (hs : 0 < size) : View w' size v xs := by
  obtain ⟨a, n, cap, rfl, h1, h2, h3, h4, h5⟩ := h
  refine ⟨a, n, cap, rfl, h1, h2, h3, h4, fun hn => ?_⟩
  obtain ⟨g, off, rfl, hg, hc⟩ := h5 hn
  refine ⟨g, off, rfl, Nat.lt_of_lt_of_le hg hk.size, fun j u hu => ?_⟩
  have h0 : 0 < xs.length := by rw [← h1]; exact Nat.mul_pos hn hs
  have hcell : ∃ c t f, w.heap[g]? = some (.cells c t f) := by
    have := hc 0 xs[0] (List.getElem?_eq_getElem h0)
    unfold World.cell? at this
    simp only at this
    split at this
    · rename_i c t f q; exact ⟨_, _, _, q⟩
    · cases this
  obtain ⟨c, t, f, hcell⟩ := hcell
  have := hk.block g hg (hS g c t f hcell rfl)
  rw [← hc j u hu]
  simp only [World.cell?, this]
theorem View.same (h : View w size v xs) (hk : Kept (fun _ => False) w w') (hs : 0 < size) : View w' size v xs := h.kept hk (fun _ _ _ _ _ _ => id) hs
theorem View.alloc (h : View w size v xs) (o : Obj) (hs : 0 < size) : View (w.alloc o) size v xs := h.same ((Kept.refl _ _).alloc o) hs
/-- Where only a map turns. -/
theorem View.map {S : Nat → Prop} {b : Nat} {es : Array MapEntry} {cl : Nat} (h : View w size v xs) (hk : Kept S w w') (hS : ∀ x, S x → x = b) (hb : w.heap[b]? = some (.map es cl)) (hs : 0 < size) : View w' size v xs := by
  refine h.kept hk (fun g c t f hg _ q => ?_) hs
  have := hS g q
  subst this
  rw [hb] at hg
  cases hg
/-- A beginning of it. -/
theorem View.head {a : Option Addr} {n cap : Nat} (h : View w size (.slice a n cap) xs) (i : Nat) (hi : i ≤ n) : View w size (.slice a i cap) (xs.take (i * size)) := by
  obtain ⟨a', n', cap', hv, h1, h2, h3, h4, h5⟩ := h
  cases hv
  have hle : i * size ≤ xs.length := by rw [← h1]; exact Nat.mul_le_mul_right _ hi
  refine ⟨a, i, cap, rfl, by rw [List.length_take]; omega, by omega, h3, h4, fun h0 => ?_⟩
  obtain ⟨g, off, rfl, hg, hc⟩ := h5 (by omega)
  refine ⟨g, off, rfl, hg, fun j u hu => hc j u ?_⟩
  have := (List.getElem?_eq_some_iff.1 hu).1
  rw [List.length_take] at this
  rwa [List.getElem?_take_of_lt (by omega)] at hu
/-- What is behind its beginning. -/
theorem View.tail {a : Option Addr} {n cap : Nat} (h : View w size (.slice a n cap) xs) (i : Nat) (hi : i ≤ n) : View w size (.slice (if cap = i then a else a.map (·.add (i * size))) (n - i) (cap - i)) (xs.drop (i * size)) := by
  obtain ⟨a', n', cap', hv, h1, h2, h3, h4, h5⟩ := h
  cases hv
  have add' : ∀ g off m : Nat, (⟨g, off, none⟩ : Addr).add m = ⟨g, off + m, none⟩ := fun g off m => by unfold Addr.add; split <;> simp_all
  have hle : i * size ≤ xs.length := by rw [← h1]; exact Nat.mul_le_mul_right _ hi
  refine ⟨_, n - i, cap - i, rfl, by rw [List.length_drop, Nat.sub_mul]; omega, by omega, by omega, fun h0 => ?_, fun h0 => ?_⟩
  · have hne : ¬ cap = i := by clear h4 h5; omega
    obtain ⟨g, off, rfl⟩ := h4 (by clear h4 h5; omega)
    rw [if_neg hne]
    exact ⟨g, off + i * size, by simp [add']⟩
  · have hne : ¬ cap = i := by clear h4 h5; omega
    obtain ⟨g, off, rfl, hg, hc⟩ := h5 (by clear h4 h5; omega)
    rw [if_neg hne]
    refine ⟨g, off + i * size, by simp [add'], hg, fun j u hu => ?_⟩
    rw [List.getElem?_drop] at hu
    rw [Nat.add_assoc]
    exact hc _ u hu
theorem View.run_head {P : Program} {t : TypeId} {a : Option Addr} {n cap : Nat} (h : View w size (.slice a n cap) xs) (ht : P.underlying t = some (.slice (P.elem t))) (hsz : ∀ w, (sizeOf (P.elem t)).run P w = .ok size w) (i : Nat) (hi : i ≤ n) (w0 : World) :
    (Instr.slice t (.slice a n cap) none (some (.int .i64 (i : Int))) none).run P w0 = .ok (.slice a i cap) w0 := by
  obtain ⟨a', n', cap', hv, h1, h2, h3, h4, h5⟩ := h
  cases hv
  have hs := run_slice_h (P := P) (w := w0) t a n cap ht .i64 (i : Int) (by omega) (by omega)
  rw [hsz] at hs
  simp only [Result.andThen, sliced] at hs
  have ea : (if cap = 0 then a else a.map (·.add (0 * size))) = a := by
    split
    · rfl
    · cases a <;> simp [Addr.add]
  rw [hs, ea]; simp
theorem View.run_tail {P : Program} {t : TypeId} {a : Option Addr} {n cap : Nat} (h : View w size (.slice a n cap) xs) (ht : P.underlying t = some (.slice (P.elem t))) (hsz : ∀ w, (sizeOf (P.elem t)).run P w = .ok size w) (i : Nat) (hi : i ≤ n) (w0 : World) :
    (Instr.slice t (.slice a n cap) (some (.int .i64 (i : Int))) none none).run P w0 = .ok (.slice (if cap = i then a else a.map (·.add (i * size))) (n - i) (cap - i)) w0 := by
  obtain ⟨a', n', cap', hv, h1, h2, h3, h4, h5⟩ := h
  cases hv
  have hs := run_slice_l (P := P) (w := w0) t a n cap ht .i64 (i : Int) (by omega) (by omega)
  rw [hsz] at hs
  simp only [Result.andThen, sliced, Int.toNat_natCast] at hs
  rw [hs]
end
end Go.Proofs.Ytahiimcdmojngaa
