/- Timers: the chapter's timers (rang). -/
import Derived.Test.YtahiimcdmojngaaTim4
import Derived.Test.YtahiimcdmojngaaArrEq
namespace Go.Proofs.Ytahiimcdmojngaa
open Go.RowKit Go.Sort Go.Shelf

def rT : Tim := [((0, 9), 7), ((1, 1), 5), ((1, 2), 5)]
theorem rT_a : DueIs rT 4 [] := ⟨by decide, List.Pairwise.nil⟩
theorem rT_b : DueIs rT 5 [(1, 1), (1, 2)] := ⟨List.Perm.refl _, by simp [kless, PM.get, rT]⟩
theorem rT_c : DueIs [((0, 9), 7)] 9 [(0, 9)] := ⟨List.Perm.refl _, by simp⟩
theorem rT_d : DueIs [] 9 [] := ⟨List.Perm.refl _, List.Pairwise.nil⟩
theorem rT_r4 : restOf rT 4 = rT := by decide
theorem rT_r5 : restOf rT 5 = [((0, 9), 7)] := by decide
theorem rT_r9 : restOf [((0, 9), 7)] 9 = [] := by decide
theorem rT_set : PM.set (PM.set (PM.set [] (1, 2) 5) (1, 1) 5) (0, 9) 7 = rT := by decide

section
variable {t mb : Nat} {T : Tim}
theorem tim_set' (w : World) (a b at' : Int) (hk : InR (a, b)) (ha : I64 at') (hn : T.length < 1000000000) (h : IsTim w t mb T) :
    Calls Try.prog 57 #[.pointer (some ⟨t, 0, none⟩), .agg #[.int .i64 a, .int .i64 b], .int .i64 at'] w fun e w' => e = .returned (.tuple #[]) ∧ IsTim w' t mb (PM.set T (a, b) at') ∧ Kept (· = mb) w w' := tim_set w (a, b) at' hk ha hn h
/-- Due, its answer known. -/
theorem tim_due' (w : World) (now : Int) (ks : List (Int × Int)) (hnow : I64 now) (hn : T.length < 1000000) (hd : DueIs T now ks) (h : IsTim w t mb T) :
    Calls Try.prog 58 #[.pointer (some ⟨t, 0, none⟩), .int .i64 now] w fun e w' => ∃ a cap, e = .returned (.slice a ks.length cap) ∧ Row w' 85 2 (.slice a ks.length cap) (kcells ks) ∧ (∀ k, (Value.slice a ks.length cap).ownBlock = some k → w.heap.size ≤ k) ∧ IsTim w' t mb (restOf T now) ∧ Kept (· = mb) w w' := by
  refine (tim_due w now hnow hn h).mono (fun e w' hp => ?_)
  obtain ⟨v, ks', rfl, h1, h2, h3, h4, h5⟩ := hp
  have := h1.unique hd
  subst this
  obtain ⟨a, n, cap, rfl, hn', _⟩ := h2.form (by omega)
  rw [kcells_len] at hn'
  have : n = ks'.length := by omega
  subst this
  exact ⟨a, cap, rfl, h2, h3, h4, h5⟩
end
theorem info_int18 : ∃ i, Try.prog.info? 3 = some i := Option.isSome_iff_exists.1 (by kernel_rfl)
theorem eq_key (a b c d : Int) (w : World) : (binOp .eql 85 (.agg #[.int .i64 a, .int .i64 b]) (.agg #[.int .i64 c, .int .i64 d])).run Try.prog w = .ok (.bool (decide ([a, b] = [c, d]))) w := by
  obtain ⟨i, hi⟩ := info_int18
  exact run_eql_ints w Try.underlying85 Try.underlying3 hi (by kernel_rfl) [a, b] [c, d] rfl rfl
theorem neq_key (a b c d : Int) (w : World) : (binOp .neq 85 (.agg #[.int .i64 a, .int .i64 b]) (.agg #[.int .i64 c, .int .i64 d])).run Try.prog w = .ok (.bool (!decide ([a, b] = [c, d]))) w := by
  obtain ⟨i, hi⟩ := info_int18
  exact run_neq_ints w Try.underlying85 Try.underlying3 hi (by kernel_rfl) [a, b] [c, d] rfl rfl

set_option maxRecDepth 100000 in
set_option maxHeartbeats 1000000 in
theorem rang_true (w : World) : Calls Try.prog 55 #[] w fun e w' => e = .returned (.bool true) ∧ Kept (fun _ => False) w w' := by
  go_enter Try.func55, Try.ntmps55
  go_wp2_with fail
  refine (tim_new _).mono ?_
  rintro e w1 ⟨t, mb, rfl, hT, hk1, ht, hm⟩
  go_wp2_with fail
  refine (tim_set' _ 1 2 5 (by simp [InR]) (by simp [I64]) (by simp) hT).mono ?_
  clear hT
  rintro e w2 ⟨rfl, hT, hk2⟩
  go_wp2_with fail
  refine (tim_set' _ 1 1 5 (by simp [InR]) (by simp [I64]) (by decide) hT).mono ?_
  clear hT
  rintro e w3 ⟨rfl, hT, hk3⟩
  go_wp2_with fail
  refine (tim_set' _ 0 9 7 (by simp [InR]) (by simp [I64]) (by decide) hT).mono ?_
  clear hT
  rintro e w4 ⟨rfl, hT, hk4⟩
  rw [rT_set] at hT
  have hk04 : Kept (fun _ => False) w w4 := ((hk1.then_ hk2 (fun i _ q => by omega)).then_ hk3 (fun i _ q => by omega)).then_ hk4 (fun i _ q => by omega)
  clear hk1 hk2 hk3 hk4
  go_wp2_with fail
  refine (tim_due' _ 4 [] (by simp [I64]) (by decide) rT_a hT).mono ?_
  clear hT
  rintro e w5 ⟨a5, c5, rfl, hr5, hf5, hT, hk5⟩
  rw [rT_r4] at hT
  go_wp2_with fail
  refine (tim_due' _ 5 _ (by simp [I64]) (by decide) rT_b hT).mono ?_
  clear hT
  rintro e w6 ⟨a6, c6, rfl, hr6, hf6, hT, hk6⟩
  rw [rT_r5] at hT
  go_wp2_with fail
  refine (tim_due' _ 9 _ (by simp [I64]) (by decide) rT_c hT).mono ?_
  have hn6 := fun k hk => hT.map.ne_row (g := k) hr6 hk
  clear hT
  rintro e w7 ⟨a7, c7, rfl, hr7, hf7, hT, hk7⟩
  have hr67 := hr6.kept hk7 hn6
  rw [rT_r9] at hT
  go_wp2_with fail
  refine (tim_due' _ 9 _ (by simp [I64]) (by decide) rT_d hT).mono ?_
  have hn7 := fun k hk => hT.map.ne_row (g := k) hr7 hk
  have hn8 := fun k hk => hT.map.ne_row (g := k) hr67 hk
  clear hT
  rintro e w8 ⟨a8, c8, rfl, hr8, hf8, hT, hk8⟩
  have hr68 := hr67.kept hk8 hn8
  have hr78 := hr7.kept hk8 hn7
  have hk08 : Kept (fun _ => False) w w8 := (((hk04.then_ hk5 (fun i _ q => by omega)).then_ hk6 (fun i _ q => by omega)).then_ hk7 (fun i _ q => by omega)).then_ hk8 (fun i _ q => by omega)
  obtain ⟨_, _, _, hv6, _, _, hc6⟩ := hr68.form (by omega)
  cases hv6
  obtain ⟨g6, rfl, _, hc6⟩ := hc6 (by decide)
  obtain ⟨_, _, _, hv7, _, _, hc7⟩ := hr78.form (by omega)
  cases hv7
  obtain ⟨g7, rfl, _, hc7⟩ := hc7 (by decide)
  have x0 := hc6 0 _ rfl
  have x1 := hc6 1 _ rfl
  have x2 := hc6 2 _ rfl
  have x3 := hc6 3 _ rfl
  have y0 := hc7 0 _ rfl
  have y1 := hc7 1 _ rfl
  have heq := eq_key
  clear hr5 hr6 hr7 hr8 hr67 hr68 hr78 hf5 hf6 hf7 hf8 hk5 hk6 hk7 hk8 hk04 hn6 hn7 hn8 hT hc6 hc7 ht hm
  go_wp2
  go_ret
  exact ⟨rfl, hk08⟩
end Go.Proofs.Ytahiimcdmojngaa
