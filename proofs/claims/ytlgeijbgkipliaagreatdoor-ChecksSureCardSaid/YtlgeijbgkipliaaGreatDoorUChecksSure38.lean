/- OwnH -/
import Derived.Test.YtlgeijbgkipliaaGreatDoorUChecksSure32
import Derived.Test.YtlgeijbgkipliaaGreatDoorUChecksSure16
import Derived.Test.YtlgeijbgkipliaaGreatDoorUChecksSure14
set_option linter.unusedVariables false
set_option linter.unusedSimpArgs false
namespace Go.Proofs.YtlgeijbgkipliaaGreatDoor
open Go.RowKit
def CloneH (w : World) (L : List By) (n : Nat) (e : Ending) (w' : World) : Prop := ∃ a c, e = .returned (.slice a n c) ∧ Hid (Row w' 57 32 (.slice a n c) (hcells L) ∧ (∀ k, (Value.slice a n c).ownBlock = some k → w.heap.size ≤ k) ∧ Kept (fun _ => False) w w')
set_option maxRecDepth 100000 in
set_option maxHeartbeats 1000000 in
theorem clone_hash (w : World) (a : Option Addr) (n c : Nat) (L : List By) (h : View w 32 (.slice a n c) (hcells L)) (h32 : ∀ x ∈ L, x.length = 32) (hl : L.length ≤ 100000) :
    Calls Tryz.prog 111 #[.slice a n c] w (CloneH w L n) := by
  have hz : (hcells L).length = L.length * 32 := hcells_len h32
  obtain ⟨_, _, _, e, h1, h2, h3, h4, h5⟩ := id h
  cases e
  have hn : n = L.length := by omega
  cases a with
  | none =>
    have hc : c = 0 := by
      rcases Nat.eq_zero_or_pos c with q | q
      · exact q
      · obtain ⟨_, _, e⟩ := h4 q; cases e
    subst hc
    have hn0 : n = 0 := by omega
    subst hn0
    have HL := Lib.hid (show hcells L = [] from List.eq_nil_of_length_eq_zero (by omega))
    clear h h1 h2 h3 h4 h5 hn hz hl h32
    have heq := run_eql_slice_nil (P := Tryz.prog) w 53 57 none 0 0 Tryz.underlying53
    simp only [Option.isNone_none] at heq
    go_enter Tryz.func111, Tryz.ntmps111
    go_wp2_with fail
    go_ret
    exact ⟨none, 0, rfl, Lib.hid ⟨by rw [HL.out]; exact Row.nil _ _ _, fun k q => by simp [Value.ownBlock] at q, Kept.refl _ _⟩⟩
  | some p =>
    obtain ⟨i0, hi, hz0, hz1, hz2⟩ := info_parts info_hash3
    have hk0 : Kept (fun _ => False) w (w.alloc (.cells #[] 57)) := (Kept.refl _ _).alloc _
    have hr0 : Row (w.alloc (.cells #[] 57)) 57 32 (.slice (some ⟨w.heap.size, 0, none⟩) 0 0) [] := Or.inr ⟨w.heap.size, 0, 0, [], rfl, rfl, Blk.new w [] 57, Nat.le_refl _, Nat.zero_le _, Nat.zero_le _⟩
    obtain ⟨v', w', hr, hp⟩ := hr0.append_view (P := Tryz.prog) (t := 53) (h.same hk0 (by omega)) Tryz.underlying53 hi hz0 hz1 (by show (zeros 32).toArray.size = 32; rw [List.size_toArray, zeros_len]) (by omega) (by omega)
      (fun u hu => by
        unfold hcells at hu
        exact u8_oneCell u hu) (by simp; omega) 53
    obtain ⟨hrow, hk, ho⟩ := hp
    obtain ⟨a', n', c', rfl, hn', _⟩ := hrow.shape
    have e : n' = n := by rw [List.nil_append, hz] at hn'; omega
    subst e
    rw [List.nil_append] at hrow
    have hlt := World.size_alloc w (.cells #[] 57)
    have HP := Lib.hid (show Row w' 57 32 (.slice a' n' c') (hcells L) ∧ (∀ k, (Value.slice a' n' c').ownBlock = some k → w.heap.size ≤ k) ∧ Kept (fun _ => False) w w' from
      ⟨hrow, fun k q => by
        rcases ho k q with q | q
        · simp [Value.ownBlock] at q; omega
        · rw [hlt] at q; omega, hk0.then_ hk (fun i hi q => by simp [Value.ownBlock] at q; omega)⟩)
    clear h h1 h2 h3 h4 h5 hn hz hl h32 hk0 hr0 hrow hk ho hi hz0 hz1 hz2 hlt hn'
    have heq := run_eql_slice_nil (P := Tryz.prog) w 53 57 (some p) n' c Tryz.underlying53
    simp only [Option.isNone_some] at heq
    go_enter Tryz.func111, Tryz.ntmps111
    go_wp2_with (refine Lib.wpList_append_run _ rfl _ _ 53 53 rfl _ _ rfl rfl _ _ hr ?_)
    go_ret
    exact ⟨a', c', rfl, HP⟩
end Go.Proofs.YtlgeijbgkipliaaGreatDoor
