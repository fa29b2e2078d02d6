/- Fill -/
import Derived.Laws.Tables
import Derived.Test.YtlgeijbgkipliaaGreatDoorUChecksSure14
set_option linter.unusedVariables false
set_option linter.unusedSimpArgs false
namespace Go.Proofs.YtlgeijbgkipliaaGreatDoor
open Go.RowKit
theorem foldl_zip_at (l : List Value) : ∀ (c : List Value) (off k : Nat), off + k + l.length ≤ c.length → (l.zipIdx k).foldl (fun (cs : Array Value) (x : Value × Nat) => cs.setIfInBounds (off + x.snd) x.fst) c.toArray = (splice c (off + k) l).toArray := by
  induction l with
  | nil => intro c off k _; rw [splice_nil]; rfl
  | cons a l ih =>
    intro c off k h
    simp only [List.length_cons] at h
    rw [List.zipIdx_cons, List.foldl_cons]
    have e : c.toArray.setIfInBounds (off + k) a = (c.set (off + k) a).toArray := by simp
    show List.foldl _ (c.toArray.setIfInBounds (off + k) a) _ = _
    rw [e, ih (c.set (off + k) a) off (k + 1) (by simp; omega), show off + (k + 1) = off + k + 1 by omega, splice_cons _ _ _ _ (by omega)]
theorem fill_two (z : List Value) (a b : Nat) (l m : List Value) (hz : z.length = a + b) (v u : Value) (hv : v.cells = l.toArray) (hu : u.cells = m.toArray) (hl : l.length = a) (hm : m.length = b) :
    Instr.fill (fun i => (#[(0, a), (a, b)] : Array (Nat × Nat))[i]?) z.toArray [(0, v), (1, u)] = some (l ++ m).toArray := by
  have s1 : (splice z 0 l).length = a + b := by rw [splice_len (by omega), hz]
  have f1 : (v.cells.zipIdx.foldl (fun cs (x : Value × Nat) => cs.setIfInBounds (0 + x.2) x.1) z.toArray) = (splice z 0 l).toArray := by
    rw [hv, ← foldl_zip_at l z 0 0 (by omega)]
    simp
  have f2 : (u.cells.zipIdx.foldl (fun cs (x : Value × Nat) => cs.setIfInBounds (a + x.2) x.1) (splice z 0 l).toArray) = (splice (splice z 0 l) a m).toArray := by
    rw [hu, show (splice (splice z 0 l) a m).toArray = (splice (splice z 0 l) (a + 0) m).toArray by rw [Nat.add_zero], ← foldl_zip_at m (splice z 0 l) a 0 (by omega)]
    simp
  have hvs : v.cells.size = a := by rw [hv, List.size_toArray, hl]
  have hus : u.cells.size = b := by rw [hu, List.size_toArray, hm]
  have g1 : (#[(0, a), (a, b)] : Array (Nat × Nat))[0]? = some (0, a) := rfl
  have g2 : (#[(0, a), (a, b)] : Array (Nat × Nat))[1]? = some (a, b) := rfl
  have e : splice (splice z 0 l) a m = l ++ m := by
    unfold splice
    rw [hm, hl]
    simp only [List.take_zero, List.nil_append, Nat.zero_add]
    rw [List.take_append_of_le_length (by omega), List.take_of_length_le (by omega), List.drop_eq_nil_of_le (by rw [List.length_append, List.length_drop]; omega), List.append_nil]
  unfold Instr.fill
  simp only [g1]
  rw [if_neg (by rw [hvs, List.size_toArray, hz]; simp)]
  unfold Instr.fill
  simp only [g2]
  have f1' := f1
  rw [if_neg (by rw [hus]; simp only [f1, List.size_toArray, s1]; simp)]
  unfold Instr.fill
  simp only [f1, f2, e]
theorem built_of {P : Program} {t : TypeId} {z : Value} {places : List (Nat × Nat)} {fs : Array Field} (h1 : ((P.info? t).bind (·.zero)) = some z) (h2 : P.underlying t = some (.struct fs)) (h3 : fs.toList.mapM (fun f => (P.info? f.type).map fun i => (f.offset, i.size)) = some places) (parts : List (Nat × Value)) :
    P.built t parts = Instr.fill (fun i => places.toArray[i]?) z.cells parts := by
  cases hi : P.info? t with
  | none => rw [hi] at h1; cases h1
  | some it =>
    rw [hi] at h1
    simp only [Option.bind_some] at h1
    unfold Program.built
    simp only [hi, h2, h1, h3]
end Go.Proofs.YtlgeijbgkipliaaGreatDoor
