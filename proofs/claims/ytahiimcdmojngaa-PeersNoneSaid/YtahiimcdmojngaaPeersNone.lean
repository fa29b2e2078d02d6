/- Peers that are none: contracts, and the walk of the law PeersNone. -/
import Derived.Test.YtahiimcdmojngaaPeersAsks
import Derived.Lib.SmallJoins
namespace Go.Proofs.Ytahiimcdmojngaa
open Go.RowKit Go.Joins

/-- A pointer to peers that are none: nil, or with no list. -/
def NoPeers (w : World) (v : Value) : Prop := v = .pointer none ∨ ∃ b, v = .pointer (some ⟨b, 0, none⟩) ∧ w.cell? ⟨b, 0, none⟩ = some (.slice none 0 0)
theorem NoPeers.kept {w w' : World} {S : Nat → Prop} {v : Value} (h : NoPeers w v) (k : Kept S w w') (hS : ∀ b, v = .pointer (some ⟨b, 0, none⟩) → ¬ S b) : NoPeers w' v := by
  rcases h with h | ⟨b, rfl, hc⟩
  · exact Or.inl h
  · refine Or.inr ⟨b, rfl, ?_⟩
    rw [World.cell?_of_block (w := w) (a := ⟨b, 0, none⟩) (k.block b (World.block_lt_of_cell? w _ hc) (hS b rfl))]
    exact hc
theorem NoPeers.alloc {w : World} {v : Value} (h : NoPeers w v) (o : Obj) : NoPeers (w.alloc o) v := h.kept (S := fun _ => False) ((Kept.refl _ _).alloc o) (fun _ _ => id)
theorem none_no (w : World) (v : Value) (h : NoPeers w v) : Calls Try.prog 75 #[v] w fun e w' => e = .returned (.bool true) ∧ w = w' := by
  rcases h with rfl | ⟨b, rfl, hc⟩
  · exact none_nil w
  · exact none_empty w b hc
theorem check_no (w : World) (v : Value) (i : Int) (h : NoPeers w v) : Calls Try.prog 73 #[v, .int .i64 i] w fun e w' => e = .returned (.int .i64 1) ∧ w = w' := by
  rcases h with rfl | ⟨b, rfl, hc⟩
  · exact check_nil w i
  · exact check_empty w b i hc
theorem good_no (w : World) (v : Value) (i : Int) (h : NoPeers w v) : Calls Try.prog 29 #[v, .int .i64 i] w fun e w' => e = .returned (.int .i64 1) ∧ w = w' := by
  have h' := h
  rcases h' with rfl | ⟨b, rfl, hc⟩
  all_goals
    go_enter Try.func29, Try.ntmps29
    go_wp2_with (go_at_call 73; refine (check_no _ _ _ h).mono ?_; rintro e w' ⟨rfl, rfl⟩)
    go_ret
    exact ⟨rfl, rfl⟩
theorem late_no (w : World) (v : Value) (i now d : Int) (h : NoPeers w v) : Calls Try.prog 30 #[v, .int .i64 i, .int .i64 now, .int .u8 d] w fun e w' => e = .returned (.int .i64 1) ∧ w = w' := by
  have h' := h
  rcases h' with rfl | ⟨b, rfl, hc⟩
  all_goals
    go_enter Try.func30, Try.ntmps30
    go_wp2_with (go_at_call 73; refine (check_no _ _ _ h).mono ?_; rintro e w' ⟨rfl, rfl⟩)
    go_ret
    exact ⟨rfl, rfl⟩
theorem bad_no (w : World) (v : Value) (i now : Int) (h : NoPeers w v) : Calls Try.prog 31 #[v, .int .i64 i, .int .i64 now] w fun e w' => e = .returned (.int .i64 1) ∧ w = w' := by
  have h' := h
  rcases h' with rfl | ⟨b, rfl, hc⟩
  all_goals
    go_enter Try.func31, Try.ntmps31
    go_wp2_with (go_at_call 73; refine (check_no _ _ _ h).mono ?_; rintro e w' ⟨rfl, rfl⟩)
    go_ret
    exact ⟨rfl, rfl⟩
theorem idle_no (w : World) (v : Value) (i now : Int) (h : NoPeers w v) : Calls Try.prog 32 #[v, .int .i64 i, .int .i64 now] w fun e w' => e = .returned (.int .i64 1) ∧ w = w' := by
  have h' := h
  rcases h' with rfl | ⟨b, rfl, hc⟩
  all_goals
    go_enter Try.func32, Try.ntmps32
    go_wp2_with (go_at_call 73; refine (check_no _ _ _ h).mono ?_; rintro e w' ⟨rfl, rfl⟩)
    go_ret
    exact ⟨rfl, rfl⟩
theorem next_no (w : World) (v : Value) (now : Int) (h : NoPeers w v) : Calls Try.prog 33 #[v, .int .i64 now] w fun e w' => e = .returned (.tuple #[.int .i64 0, .bool false]) ∧ w = w' := by
  have h' := h
  rcases h' with rfl | ⟨b, rfl, hc⟩
  all_goals
    go_enter Try.func33, Try.ntmps33
    go_wp2_with (go_at_call 75; refine (none_no _ _ h).mono ?_; rintro e w' ⟨rfl, rfl⟩)
    go_ret2
    exact ⟨rfl, rfl⟩
theorem copy_no (w : World) (v : Value) (h : NoPeers w v) : Calls Try.prog 41 #[v] w fun e w' => e = .returned (.pointer none) ∧ w = w' := by
  have h' := h
  rcases h' with rfl | ⟨b, rfl, hc⟩
  all_goals
    go_enter Try.func41, Try.ntmps41
    go_wp2_with (go_at_call 75; refine (none_no _ _ h).mono ?_; rintro e w' ⟨rfl, rfl⟩)
    go_ret
    exact ⟨rfl, rfl⟩
theorem state_no (w : World) (v : Value) (i : Int) (h : NoPeers w v) : Calls Try.prog 34 #[v, .int .i64 i] w fun e w' => e = .returned (.tuple #[.agg #[.int .i64 0, .int .i64 0, .int .i64 0, .bool false], .int .i64 1]) ∧ w.alloc (.cells #[.int .i64 0, .int .i64 0, .int .i64 0, .bool false] 52) = w' := by
  have h' := h
  rcases h' with rfl | ⟨b, rfl, hc⟩
  all_goals
    go_enter Try.func34, Try.ntmps34
    go_wp2_with (go_at_call 73; refine (check_no _ _ _ (h.alloc _)).mono ?_; rintro e w' ⟨rfl, rfl⟩)
    exact bodyPost_ret (v := .tuple #[.agg #[.int .i64 0, .int .i64 0, .int .i64 0, .bool false], .int .i64 1]) (by simp [results, Try.results34, go_sem]) rfl ⟨rfl, rfl⟩
set_option maxRecDepth 100000 in
theorem barred_no (w : World) (v : Value) (i now : Int) (h : NoPeers w v) : Calls Try.prog 35 #[v, .int .i64 i, .int .i64 now] w fun e w' => e = .returned (.bool false) ∧ Kept (fun _ => False) w w' := by
  have h' := h
  rcases h' with rfl | ⟨b, rfl, hc⟩
  all_goals
    go_enter Try.func35, Try.ntmps35
    go_wp2_with (go_at_call 34; refine (state_no _ _ _ h).mono ?_; rintro e w' ⟨rfl, rfl⟩)
    go_quiet ((go_at_call 74; exact Calls.quiet_of_same (calls_pure (near_any _ _))))
    go_wp2
    go_ret
    exact ⟨rfl, by repeat (first | exact Kept.refl _ _ | (refine Kept.drewN ?_ _) | (refine Kept.alloc ?_ _))⟩

set_option maxRecDepth 100000 in
set_option maxHeartbeats 2000000 in
theorem peersNone_walk0 (k i now d : Int) (w : World) :
    Calls Try.prog 9 #[.agg #[.int .u8 k, .int .i64 i, .int .i64 now, .int .u8 d]] w fun e w' => e = .returned (.bool true) ∧ Below w.heap.size w w' := by
  go_enter Try.func9, Try.ntmps9
  go_wp2_with fail
  go_loopw [3, 4] (fun p t wr => ∃ n : Nat, n ≤ 2 ∧ t = .int .i64 n ∧ NoPeers wr p ∧ Blk wr w.heap.size [.int .u8 k, .int .i64 i, .int .i64 now, .int .u8 d] 45 ∧ Kept (fun x => w.heap.size ≤ x) w wr) (fun _ t _ => 2 - (intOf t).toNat)
  case atStart => exact ⟨0, by omega, rfl, Or.inl rfl, Blk.new w [.int .u8 k, .int .i64 i, .int .i64 now, .int .u8 d] 45, (Kept.refl _ _).alloc _⟩
  case round =>
    obtain ⟨n, hn, rfl, hno, hb, hkept⟩ := hrel
    have b1 := hb.cell (i := 1) rfl
    have b2 := hb.cell (i := 2) rfl
    have b3 := hb.cell (i := 3) rfl
    have hlt := hb.lt
    by_cases hlt2 : n < 2
    · have hno2 := (hno.alloc (.cells #[.int .i64 0, .int .i64 0, .int .i64 0, .bool false] 52)).alloc (.cells #[.int .i64 0, .int .i64 0, .int .i64 0, .bool false] 52)
      go_wp2_with fail
      refine (next_no _ _ _ hno).mono ?_
      rintro e w' ⟨rfl, rfl⟩
      go_wp2_with fail
      refine (state_no _ _ _ hno).mono ?_
      rintro e w' ⟨rfl, rfl⟩
      go_wp2_with fail
      refine (good_no _ _ _ hno2).mono ?_
      rintro e w' ⟨rfl, rfl⟩
      go_wp2_with fail
      refine (late_no _ _ _ _ _ hno2).mono ?_
      rintro e w' ⟨rfl, rfl⟩
      go_wp2_with fail
      refine (bad_no _ _ _ _ hno2).mono ?_
      rintro e w' ⟨rfl, rfl⟩
      go_wp2_with fail
      refine (idle_no _ _ _ _ hno2).mono ?_
      rintro e w' ⟨rfl, rfl⟩
      go_wp2_with fail
      refine (barred_no _ _ _ _ hno2).mono ?_
      rintro e w5 ⟨rfl, hk5⟩
      have hno5 := hno2.kept hk5 (fun _ _ => id)
      go_wp2_with fail
      refine (copy_no _ _ hno5).mono ?_
      rintro e w' ⟨rfl, rfl⟩
      go_wp2_with fail
      go_roundw
      case rel =>
        have hb5 := ((hb.alloc (.cells #[.int .i64 0, .int .i64 0, .int .i64 0, .bool false] 52)).alloc (.cells #[.int .i64 0, .int .i64 0, .int .i64 0, .bool false] 52)).kept hk5 id
        have hk6 := (((hkept.alloc (.cells #[.int .i64 0, .int .i64 0, .int .i64 0, .bool false] 52)).alloc (.cells #[.int .i64 0, .int .i64 0, .int .i64 0, .bool false] 52)).then_ hk5 (fun _ _ h => h.elim)).alloc (.cells #[.slice none 0 0, .int .i64 0] 65)
        exact ⟨n + 1, by omega, by go_num, Or.inr ⟨_, rfl, (Blk.new w5 [.slice none 0 0, .int .i64 0] 65).cell (i := 0) rfl⟩, hb5.alloc _, hk6⟩
      case measure => simp [intOf]; omega
    · go_wp2_with (go_at_call 27; refine (asks_true _).mono ?_; rintro e w' ⟨rfl, hbel⟩)
      go_ret
      exact ⟨rfl, (hkept.trans (Kept.of_below hbel)).below (fun k h1 h2 => by omega) (Nat.le_refl _)⟩

theorem Try.cellsAct : Try.prog.cellsOf 45 = 4 := by kernel_rfl

set_option maxRecDepth 100000 in
theorem peersNone_walk {H : Type} {enc : TypeId × Value → H} {base : Nat} {dd : DataW H} {pp : List MemPlace} (v : Value) (w : World) (hv : Value.okWide Try.prog w .any base 45 v) (h : DataW.Trod enc Try.prog w 0 (fun _ => true) true 45 v dd pp) :
    Calls Try.prog 9 #[v] w fun e w' => e = .returned (.bool true) ∧ Below w.heap.size w w' := by
  obtain ⟨c0, c1, c2, c3, y0, y1, y2, y3, m, rfl, rfl, rfl, h0, h1, h2, h3⟩ := open_agg4 Try.underlying45 (by kernel_rfl) Try.cellsAct hv h
  obtain ⟨a0, e0, _, _⟩ := DataW.trod_int Try.underlying5 h0
  obtain ⟨a1, e1, _, _⟩ := DataW.trod_int Try.underlying3 h1
  obtain ⟨a2, e2, _, _⟩ := DataW.trod_int Try.underlying3 h2
  obtain ⟨a3, e3, _, _⟩ := DataW.trod_int Try.underlying5 h3
  simp at e0 e1 e2 e3
  subst e0 e1 e2 e3
  exact peersNone_walk0 a0 a1 a2 a3 w
end Go.Proofs.Ytahiimcdmojngaa
