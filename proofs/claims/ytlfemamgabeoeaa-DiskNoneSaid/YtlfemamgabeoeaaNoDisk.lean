/- Every method of a disk that is none. -/
import Derived.Test.YtlfemamgabeoeaaStored
namespace Go.Proofs.Ytlfemamgabeoeaa
open Go.RowKit

theorem size_no (w : World) (v : Value) (n : Int) (h : NoDisk w v) : Calls Try.prog 7 #[v, .int .i64 n] w fun e w' => e = .returned (.tuple #[.int .i64 0, .int .i64 1]) ∧ w = w' := by
  have h' := h
  rcases h' with rfl | ⟨d, rfl, hc⟩
  all_goals
    go_enter Try.func7, Try.ntmps7
    go_wp2_with (go_at_call 23; refine (has_no _ _ _ h).mono ?_; rintro e w' ⟨rfl, rfl⟩)
    exact bodyPost_ret (v := .tuple #[.int .i64 0, .int .i64 1]) (by simp [results, Try.results7, go_sem]) rfl ⟨rfl, rfl⟩

theorem read_no (w : World) (v : Value) (n pos size : Int) (h : NoDisk w v) : Calls Try.prog 6 #[v, .int .i64 n, .int .i64 pos, .int .i64 size] w fun e w' => e = .returned (.tuple #[.string ⟨#[]⟩, .int .i64 1]) ∧ w = w' := by
  have h' := h
  rcases h' with rfl | ⟨d, rfl, hc⟩
  all_goals
    go_enter Try.func6, Try.ntmps6
    go_wp2_with (go_at_call 23; refine (has_no _ _ _ h).mono ?_; rintro e w' ⟨rfl, rfl⟩)
    exact bodyPost_ret (v := .tuple #[.string ⟨#[]⟩, .int .i64 1]) (by simp [results, Try.results6, go_sem]) rfl ⟨rfl, rfl⟩

theorem create_no (w : World) (v : Value) (n : Int) (h : NoDisk w v) : Calls Try.prog 8 #[v, .int .i64 n] w fun e w' => e = .returned (.int .i64 1) ∧ w = w' := by
  have h' := h
  rcases h' with rfl | ⟨d, rfl, hc⟩
  all_goals
    go_enter Try.func8, Try.ntmps8
    go_wp2_with (go_at_call 23; refine (has_no _ _ _ h).mono ?_; rintro e w' ⟨rfl, rfl⟩)
    go_ret
    exact ⟨rfl, rfl⟩

theorem append_no (w : World) (v : Value) (n : Int) (s : ByteArray) (h : NoDisk w v) : Calls Try.prog 9 #[v, .int .i64 n, .string s] w fun e w' => e = .returned (.int .i64 1) ∧ w = w' := by
  have h' := h
  rcases h' with rfl | ⟨d, rfl, hc⟩
  all_goals
    go_enter Try.func9, Try.ntmps9
    go_wp2_with (go_at_call 23; refine (has_no _ _ _ h).mono ?_; rintro e w' ⟨rfl, rfl⟩)
    go_ret
    exact ⟨rfl, rfl⟩

theorem sync_no (w : World) (v : Value)  (h : NoDisk w v) : Calls Try.prog 10 #[v] w fun e w' => e = .returned (.int .i64 1) ∧ w = w' := by
  have h' := h
  rcases h' with rfl | ⟨d, rfl, hc⟩
  all_goals
    go_enter Try.func10, Try.ntmps10
    go_wp2_with (go_at_call 26; refine (ready_no _ _ h).mono ?_; rintro e w' ⟨rfl, rfl⟩)
    go_ret
    exact ⟨rfl, rfl⟩

theorem truncate_no (w : World) (v : Value) (n size : Int) (h : NoDisk w v) : Calls Try.prog 11 #[v, .int .i64 n, .int .i64 size] w fun e w' => e = .returned (.int .i64 1) ∧ w = w' := by
  have h' := h
  rcases h' with rfl | ⟨d, rfl, hc⟩
  all_goals
    go_enter Try.func11, Try.ntmps11
    go_wp2_with (go_at_call 23; refine (has_no _ _ _ h).mono ?_; rintro e w' ⟨rfl, rfl⟩)
    go_ret
    exact ⟨rfl, rfl⟩

theorem delete_no (w : World) (v : Value) (n : Int) (h : NoDisk w v) : Calls Try.prog 12 #[v, .int .i64 n] w fun e w' => e = .returned (.int .i64 1) ∧ w = w' := by
  have h' := h
  rcases h' with rfl | ⟨d, rfl, hc⟩
  all_goals
    go_enter Try.func12, Try.ntmps12
    go_wp2_with (go_at_call 23; refine (has_no _ _ _ h).mono ?_; rintro e w' ⟨rfl, rfl⟩)
    go_ret
    exact ⟨rfl, rfl⟩

theorem files_no (w : World) (v : Value)  (h : NoDisk w v) : Calls Try.prog 13 #[v] w fun e w' => e = .returned (.slice none 0 0) ∧ w = w' := by
  have h' := h
  rcases h' with rfl | ⟨d, rfl, hc⟩
  all_goals
    go_enter Try.func13, Try.ntmps13
    go_wp2_with (go_at_call 29; refine (disk_none_no _ _ h).mono ?_; rintro e w' ⟨rfl, rfl⟩)
    go_ret
    exact ⟨rfl, rfl⟩

theorem loose_no (w : World) (v : Value)  (h : NoDisk w v) : Calls Try.prog 14 #[v] w fun e w' => e = .returned (.int .i64 0) ∧ w = w' := by
  have h' := h
  rcases h' with rfl | ⟨d, rfl, hc⟩
  all_goals
    go_enter Try.func14, Try.ntmps14
    go_wp2_with (go_at_call 29; refine (disk_none_no _ _ h).mono ?_; rintro e w' ⟨rfl, rfl⟩)
    go_ret
    exact ⟨rfl, rfl⟩

theorem free_no (w : World) (v : Value)  (h : NoDisk w v) : Calls Try.prog 15 #[v] w fun e w' => e = .returned (.int .i64 0) ∧ w = w' := by
  have h' := h
  rcases h' with rfl | ⟨d, rfl, hc⟩
  all_goals
    go_enter Try.func15, Try.ntmps15
    go_wp2_with (go_at_call 29; refine (disk_none_no _ _ h).mono ?_; rintro e w' ⟨rfl, rfl⟩)
    go_ret
    exact ⟨rfl, rfl⟩

theorem up_no (w : World) (v : Value)  (h : NoDisk w v) : Calls Try.prog 16 #[v] w fun e w' => e = .returned (.bool false) ∧ w = w' := by
  have h' := h
  rcases h' with rfl | ⟨d, rfl, hc⟩
  all_goals
    go_enter Try.func16, Try.ntmps16
    go_wp2_with (go_at_call 26; refine (ready_no _ _ h).mono ?_; rintro e w' ⟨rfl, rfl⟩)
    go_ret
    exact ⟨rfl, rfl⟩

theorem starts_no (w : World) (v : Value)  (h : NoDisk w v) : Calls Try.prog 17 #[v] w fun e w' => e = .returned (.int .i64 0) ∧ w = w' := by
  have h' := h
  rcases h' with rfl | ⟨d, rfl, hc⟩
  all_goals
    go_enter Try.func17, Try.ntmps17
    go_wp2_with (go_at_call 29; refine (disk_none_no _ _ h).mono ?_; rintro e w' ⟨rfl, rfl⟩)
    go_ret
    exact ⟨rfl, rfl⟩

theorem crash_no (w : World) (v : Value) (keep : Int) (h : NoDisk w v) : Calls Try.prog 18 #[v, .int .i64 keep] w fun e w' => e = .returned (.int .i64 1) ∧ w = w' := by
  have h' := h
  rcases h' with rfl | ⟨d, rfl, hc⟩
  all_goals
    go_enter Try.func18, Try.ntmps18
    go_wp2_with (go_at_call 26; refine (ready_no _ _ h).mono ?_; rintro e w' ⟨rfl, rfl⟩)
    go_ret
    exact ⟨rfl, rfl⟩

theorem fail_no (w : World) (v : Value) (n keep : Int) (h : NoDisk w v) : Calls Try.prog 20 #[v, .int .i64 n, .int .i64 keep] w fun e w' => e = .returned (.int .i64 1) ∧ w = w' := by
  have h' := h
  rcases h' with rfl | ⟨d, rfl, hc⟩
  all_goals
    go_enter Try.func20, Try.ntmps20
    go_wp2_with (go_at_call 26; refine (ready_no _ _ h).mono ?_; rintro e w' ⟨rfl, rfl⟩)
    go_ret
    exact ⟨rfl, rfl⟩

end Go.Proofs.Ytlfemamgabeoeaa
