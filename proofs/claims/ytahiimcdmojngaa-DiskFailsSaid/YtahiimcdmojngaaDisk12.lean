/- Contracts of package disk: Truncate. -/
import Derived.Test.YtahiimcdmojngaaDisk11
namespace Go.Proofs.Ytahiimcdmojngaa
open Go.RowKit

section
variable {d : Nat} {fp : Nat → Prop} {M : DiskM}
theorem drop_int (w : World) (n stay : Int) (n0 : -9223372036854775808 ≤ n ∧ n ≤ 9223372036854775807) (hs : 0 ≤ stay ∧ stay ≤ 9223372036854775807) (hd : IsDisk w d fp M) :
    Calls Try.prog 95 #[.pointer (some ⟨d, 0, none⟩), .int .i64 n, .int .i64 stay] w fun e w' => e = .returned (.tuple #[]) ∧ IsDisk w' d fp { M with loose := DiskM.dropL n M.loose stay.toNat } ∧ Kept fp w w' := by
  obtain ⟨k, rfl⟩ := Int.eq_ofNat_of_zero_le hs.1
  exact drop_any w n k n0 (by omega) hd
theorem truncate_err (w : World) (n size : Int) (n0 : -9223372036854775808 ≤ n ∧ n ≤ 9223372036854775807) (hd : IsDisk w d fp M) (he : M.has n ≠ 0) :
    Calls Try.prog 69 #[.pointer (some ⟨d, 0, none⟩), .int .i64 n, .int .i64 size] w fun e w' => e = .returned (.int .i64 (M.has n)) ∧ w = w' := by
  rcases M.has_cases n with ⟨h, _⟩ | ⟨h, _⟩ | ⟨h, _⟩
  · exact absurd h he
  all_goals
    have hc := has_any w n n0 hd
    rw [h] at hc ⊢
    clear he h
    go_enter Try.func69, Try.ntmps69
    go_wp2_with (go_at_call 81; refine hc.mono ?_; rintro e w' ⟨rfl, rfl⟩)
    go_ret
    exact ⟨rfl, rfl⟩
set_option maxRecDepth 100000 in
theorem truncate_arg (w : World) (n size : Int) (n0 : -9223372036854775808 ≤ n ∧ n ≤ 9223372036854775807) (b : List UInt8) (hd : IsDisk w d fp M) (hdn : M.down = false) (hb : AM.get M.files n = some b) (hs : size < 0 ∨ (b.length : Int) < size) :
    Calls Try.prog 69 #[.pointer (some ⟨d, 0, none⟩), .int .i64 n, .int .i64 size] w fun e w' => e = .returned (.int .i64 2) ∧ w = w' := by
  have hh := has_any w n n0 hd
  have he : M.has n = 0 := by simp [DiskM.has, hdn, hb]
  rw [he] at hh
  obtain ⟨mb, lv, fs, h⟩ := hd
  have c0 := h.head.cell (i := 0) rfl
  obtain ⟨v, hv⟩ := h.get_some hb
  have hl := h.map.look (t := 121) (e := 80) Try.underlying3 Try.underlying121 (zeroBytes w) n0
  rw [hv, Option.getD_some] at hl
  obtain ⟨a, m, cap, rfl, hm, _⟩ := (h.rows n v b hv hb).form (by omega)
  rw [bcells_len] at hm
  by_cases hneg : size < 0
  · have x1 : decide (size < 0) = true := decide_eq_true hneg
    clear hm hb hv he hdn
    go_enter Try.func69, Try.ntmps69
    go_wp2_with (go_at_call 81; refine hh.mono ?_; rintro e w' ⟨rfl, rfl⟩)
    go_ret
    exact ⟨rfl, rfl⟩
  · have x1 : decide (size < 0) = false := by simpa using hneg
    have x2 : decide ((m : Int) < size) = true := by simp; omega
    clear hm hb hv he hdn
    go_enter Try.func69, Try.ntmps69
    go_wp2_with (go_at_call 81; refine hh.mono ?_; rintro e w' ⟨rfl, rfl⟩)
    go_ret
    exact ⟨rfl, rfl⟩
set_option maxRecDepth 100000 in
theorem truncate_sinks (w : World) (n : Int) (size : Nat) (n0 : -9223372036854775808 ≤ n ∧ n ≤ 9223372036854775807) (b : List UInt8) (hd : IsDisk w d fp M) (hl : M.Live) (hdn : M.down = false) (hb : AM.get M.files n = some b) (hs : size ≤ b.length) (hsk : M.sinks = true) :
    Calls Try.prog 69 #[.pointer (some ⟨d, 0, none⟩), .int .i64 n, .int .i64 (size : Int)] w fun e w' => e = .returned (.int .i64 61) ∧ IsDisk w' d fp M.sunk ∧ Kept fp w w' := by
  have hh := has_any w n n0 hd
  have he : M.has n = 0 := by simp [DiskM.has, hdn, hb]
  rw [he] at hh
  have hsn := sinks_any w hd hl
  rw [hsk] at hsn
  have hfd := hd.fpd
  have hk0 := DiskM.tick_keep M
  have hd0 := DiskM.tick_down M
  rw [hdn] at hd0
  have HE : Hid (M.tick.crash M.tick.keep = M.sunk) := Lib.hid (by rw [hk0]; rfl)
  obtain ⟨mb, lv, fs, h⟩ := hd
  have c0 := h.head.cell (i := 0) rfl
  obtain ⟨v, hv⟩ := h.get_some hb
  have hlk := h.map.look (t := 121) (e := 80) Try.underlying3 Try.underlying121 (zeroBytes w) n0
  rw [hv, Option.getD_some] at hlk
  obtain ⟨a, m, cap, rfl, hm, _⟩ := (h.rows n v b hv hb).form (by omega)
  rw [bcells_len] at hm
  have x1 : decide ((size : Int) < 0) = false := by simp
  have x2 : decide (m < size) = false := by simp; omega
  have x3 : decide ((m : Int) < (size : Int)) = false := by simp; omega
  clear hm hb hv he hdn hsk hk0
  go_enter Try.func69, Try.ntmps69
  go_wp2_with (first | (go_at_call 81; refine hh.mono ?_; rintro e w' ⟨rfl, rfl⟩) | (go_at_call 82; refine hsn.mono ?_; rintro e w1 ⟨rfl, hd1, hk1⟩) | (go_at_call 83; refine (sink_up _ hd1 hd0).mono ?_; rintro e w2 ⟨rfl, hd2, hk2⟩))
  go_ret
  exact ⟨rfl, by rw [← HE.out]; exact hd2, (hk1.head hfd).trans hk2⟩
set_option maxRecDepth 100000 in
set_option maxHeartbeats 1000000 in
theorem truncate_ok (w : World) (n : Int) (size : Nat) (n0 : -9223372036854775808 ≤ n ∧ n ≤ 9223372036854775807) (b : List UInt8) (hd : IsDisk w d fp M) (hl : M.Live) (hdn : M.down = false) (hb : AM.get M.files n = some b) (hs : size ≤ b.length) (hsk : M.sinks = false) :
    Calls Try.prog 69 #[.pointer (some ⟨d, 0, none⟩), .int .i64 n, .int .i64 (size : Int)] w fun e w' => e = .returned (.int .i64 0) ∧ DiskTo d fp (M.tick.truncated n size) w w' := by
  have hh := has_any w n n0 hd
  have he : M.has n = 0 := by simp [DiskM.has, hdn, hb]
  rw [he] at hh
  have hsn := sinks_any w hd hl
  rw [hsk] at hsn
  have hfd := hd.fpd
  have hbl := DiskM.len_le_total hd.ok hb
  have hroom := hd.ok.room
  have hc1 := hd.ok.cap1
  have hlo := hd.ok.lo n
  rw [hb, Option.getD_some] at hlo
  have hbt : AM.get M.tick.files n = some b := by rw [DiskM.tick_files]; exact hb
  have hlt := DiskM.tick_loose M
  have hokF : (M.tick.truncated n size).Ok := (hd.ok.tick hl).truncated hbt size hs
  have hFe : M.tick.truncated n size = { M.tick with files := AM.set M.tick.files n (b.take size), loose := DiskM.dropL n M.tick.loose (size - (b.length - DiskM.looseOf M.loose n)) } := by
    unfold DiskM.truncated
    rw [hbt, hlt]
    rfl
  have H := Lib.hid (And.intro hokF (And.intro hFe hbt))
  obtain ⟨mb, lv, fs, h⟩ := hd
  have c0 := h.head.cell (i := 0) rfl
  obtain ⟨v, hv⟩ := h.get_some hb
  have hlk := h.map.look (t := 121) (e := 80) Try.underlying3 Try.underlying121 (zeroBytes w) n0
  rw [hv, Option.getD_some] at hlk
  obtain ⟨a, m, cap, rfl, hm, _⟩ := (h.rows n v b hv hb).form (by omega)
  rw [bcells_len] at hm
  have x1 : decide ((size : Int) < 0) = false := by simp
  have x2 : decide (m < size) = false := by simp; omega
  have x3 : decide ((m : Int) < (size : Int)) = false := by simp; omega
  have HM := Lib.hid hm
  clear hm hb hv he hdn hsk hlt hokF hFe hbt
  go_enter Try.func69, Try.ntmps69
  go_wp2_with (first | (go_at_call 81; refine hh.mono ?_; rintro e w' ⟨rfl, rfl⟩) | (go_at_call 82; refine hsn.mono ?_; rintro e w1 ⟨rfl, hd1, hk1⟩))
  have hd1' := hd1
  obtain ⟨mb1, lv1, fs1, h1⟩ := hd1
  have c01 := h1.head.cell (i := 0) rfl
  obtain ⟨v1, hv1⟩ := h1.get_some H.out.2.2
  obtain ⟨a1, m1, cap1, rfl, hm1, _⟩ := (h1.rows n v1 b hv1 H.out.2.2).form (by omega)
  rw [bcells_len] at hm1
  have HM1 := Lib.hid hm1
  have HSA : ∀ w', Kept (fun _ => False) w1 w' → w'.cell? ⟨d, 0, none⟩ = some (.map (some mb1)) ∧ (Instr.lookup 121 (.map (some mb1)) (.int .i64 n) false).run Try.prog w' = .ok (.slice a1 m1 cap1) w' := by
    intro w' hk
    have h1' := h1.kept hk (fun _ _ => id)
    refine ⟨h1'.head.cell (i := 0) rfl, ?_⟩
    have := h1'.map.look (t := 121) (e := 80) Try.underlying3 Try.underlying121 (zeroBytes w') n0
    rwa [hv1, Option.getD_some] at this
  have HSA := Lib.hid HSA
  have hS0 := HSA.out _ (Kept.refl _ _).drew
  have hkall : DiskM.looseOf M.tick.loose n ≤ b.length := by rw [DiskM.tick_loose]; exact hlo
  have hm1' : m1 = b.length := by omega
  have hml1 : m1 ≤ 1048576 := by omega
  clear hm1
  obtain ⟨sure, hsure⟩ : ∃ sure : Nat, b.length - DiskM.looseOf M.loose n = sure := ⟨_, rfl⟩
  have hwr : IntKind.i64.wrap ((m1 : Int) - (DiskM.looseOf M.tick.loose n : Int)) = (sure : Int) := by
    have : DiskM.looseOf M.tick.loose n = DiskM.looseOf M.loose n := by rw [DiskM.tick_loose]
    rw [IntWalk.i64_in _ (by omega)]; omega
  have HM2 := Lib.hid (And.intro hm1' hsure)
  have hsl : sure ≤ 1048576 := by omega
  clear hm1' hsure
  go_region_held3 (fun w' => w'.cell? ⟨d, 0, none⟩ = some (.map (some mb1)) ∧ (Instr.lookup 121 (.map (some mb1)) (.int .i64 n) false).run Try.prog w' = .ok (.slice a1 m1 cap1) w') (first | exact hS0 | exact hSX) (first | (go_at_call 96; refine (of_any _ n n0 (hd1'.drew)).mono ?_; rintro e wX ⟨rfl, hkX⟩; have hSX := HSA.out _ (((Kept.refl _ _).drew).trans hkX)))
  all_goals
    obtain ⟨mb2, lv2, fs2, h2⟩ := hd1'.kept (((Kept.refl _ _).drew).trans hkX) (fun _ _ => id)
    have hd2 : IsDisk wX d fp M.tick := ⟨mb2, lv2, fs2, h2⟩
    rcases Nat.lt_or_ge size sure with hgt | hge
    · have y1 : decide (size < sure) = true := decide_eq_true hgt
      go_wp2_with fail
      refine (drop_int _ n _ n0 (by omega) hd2).mono ?_
      rintro e w3 ⟨rfl, hd3, hk3⟩
      obtain ⟨mb3, lv3, fs3, h3⟩ := hd3
      have c03 := h3.head.cell (i := 0) rfl
      obtain ⟨v3, hv3⟩ := h3.get_some H.out.2.2
      have hrow3 := h3.rows n v3 b hv3 H.out.2.2
      obtain ⟨a3, m3, cap3, rfl, hm3, _⟩ := hrow3.form (by omega)
      rw [bcells_len] at hm3
      obtain ⟨hsl3, hrow4⟩ := (hrow3.drew).head3 size (by omega) (size : Int) rfl
      have hlk3 := h3.map.drew.look (t := 121) (e := 80) Try.underlying3 Try.underlying121 (zeroBytes w3.drew) n0
      rw [hv3, Option.getD_some] at hlk3
      have hcnt := h3.ok.count
      have hle3 := h3.toDiskRaw.len_eq h3.ok.rise
      have hmx : maxLen = 9223372036854775807 := rfl
      have hroomy : fs3.length < maxLen := by rw [hle3, hmx]; have : M.tick.files.length + (DiskM.dropL n M.tick.loose ((0 : Int)).toNat).length ≤ 400000000 := hcnt; show M.tick.files.length < _; omega
      obtain ⟨w4, hst4, hm4, hk4, hs4⟩ := h3.map.drew.store (t := 121) (e := 80) Try.underlying3 Try.underlying121 hroomy (a := n) n0 (.slice a3 size size)
      have hre := (h3.toDiskRaw.kept (S := fun _ => False) (Kept.refl _ _).drew (fun _ _ => id)).refile h3.ok.rise hv3 H.out.2.2 hm4 (hk4.mono (fun _ _ => Or.inl)) (hrow4.kept hk4 (fun k hk e => h3.map.drew.ne_row hrow4 hk e)) (fun k hk => Or.inl (by cases a3 with
        | none => cases hk
        | some _ => exact hk))
      have hfm := h3.fpm
      have hend : Hid (DiskTo d fp (M.tick.truncated n size) w w4) := by
        refine Lib.hid ⟨fun k => fp k ∨ w3.drew.heap.size ≤ k, ⟨mb3, lv3, AM.set fs3 n (.slice a3 size size), ?_, H.out.1⟩, ?_, ?_⟩
        · rw [H.out.2.1]
          have := HM2.out.2
          rw [show size - (b.length - DiskM.looseOf M.loose n) = (0 : Int).toNat by omega]
          exact hre
        · exact (((hk1.head hfd).then_ (((Kept.refl _ _).drew).trans hkX) (fun _ _ => False.elim)).trans hk3).then_ (((Kept.refl _ _).drew).then_ hk4 (fun _ _ => id)) (fun i _ e => by rw [e]; exact hfm)
        · rintro k (q | q)
          · exact Or.inl q
          · refine Or.inr ?_
            have q1 := hk1.size
            have q2 := hkX.size
            have q3 := hk3.size
            have q4 : w1.drew.heap.size = w1.heap.size := rfl
            have q5 : w3.drew.heap.size = w3.heap.size := rfl
            omega
      clear hm3 hle3 hcnt hre hm4
      go_wp2_with fail
      refine wp_region_tail 14 (by kernel_rfl) (by kernel_rfl) ?_
      simp only [List.take_succ_cons, List.take_zero, List.drop_succ_cons, List.drop_zero]
      repeat still_step
      refine wpStill_nil ?_
      go_wp2_with fail
      go_ret
      exact ⟨rfl, hend.out⟩
    · have y1 : decide (size < sure) = false := by simpa using hge
      have y2 : ¬ size < sure := by omega
      go_wp2_with fail
      refine (drop_int _ n _ n0 (by omega) hd2).mono ?_
      rintro e w3 ⟨rfl, hd3, hk3⟩
      obtain ⟨mb3, lv3, fs3, h3⟩ := hd3
      have c03 := h3.head.cell (i := 0) rfl
      obtain ⟨v3, hv3⟩ := h3.get_some H.out.2.2
      have hrow3 := h3.rows n v3 b hv3 H.out.2.2
      obtain ⟨a3, m3, cap3, rfl, hm3, _⟩ := hrow3.form (by omega)
      rw [bcells_len] at hm3
      obtain ⟨hsl3, hrow4⟩ := (hrow3.drew).head3 size (by omega) (size : Int) rfl
      have hlk3 := h3.map.drew.look (t := 121) (e := 80) Try.underlying3 Try.underlying121 (zeroBytes w3.drew) n0
      rw [hv3, Option.getD_some] at hlk3
      have hcnt := h3.ok.count
      have hle3 := h3.toDiskRaw.len_eq h3.ok.rise
      have hmx : maxLen = 9223372036854775807 := rfl
      have hroomy : fs3.length < maxLen := by rw [hle3, hmx]; have : M.tick.files.length + (DiskM.dropL n M.tick.loose (((size : Int) - (sure : Int) : Int)).toNat).length ≤ 400000000 := hcnt; show M.tick.files.length < _; omega
      obtain ⟨w4, hst4, hm4, hk4, hs4⟩ := h3.map.drew.store (t := 121) (e := 80) Try.underlying3 Try.underlying121 hroomy (a := n) n0 (.slice a3 size size)
      have hre := (h3.toDiskRaw.kept (S := fun _ => False) (Kept.refl _ _).drew (fun _ _ => id)).refile h3.ok.rise hv3 H.out.2.2 hm4 (hk4.mono (fun _ _ => Or.inl)) (hrow4.kept hk4 (fun k hk e => h3.map.drew.ne_row hrow4 hk e)) (fun k hk => Or.inl (by cases a3 with
        | none => cases hk
        | some _ => exact hk))
      have hfm := h3.fpm
      have hend : Hid (DiskTo d fp (M.tick.truncated n size) w w4) := by
        refine Lib.hid ⟨fun k => fp k ∨ w3.drew.heap.size ≤ k, ⟨mb3, lv3, AM.set fs3 n (.slice a3 size size), ?_, H.out.1⟩, ?_, ?_⟩
        · rw [H.out.2.1]
          have := HM2.out.2
          rw [show size - (b.length - DiskM.looseOf M.loose n) = ((size : Int) - (sure : Int)).toNat by omega]
          exact hre
        · exact (((hk1.head hfd).then_ (((Kept.refl _ _).drew).trans hkX) (fun _ _ => False.elim)).trans hk3).then_ (((Kept.refl _ _).drew).then_ hk4 (fun _ _ => id)) (fun i _ e => by rw [e]; exact hfm)
        · rintro k (q | q)
          · exact Or.inl q
          · refine Or.inr ?_
            have q1 := hk1.size
            have q2 := hkX.size
            have q3 := hk3.size
            have q4 : w1.drew.heap.size = w1.heap.size := rfl
            have q5 : w3.drew.heap.size = w3.heap.size := rfl
            omega
      clear hm3 hle3 hcnt hre hm4
      go_wp2_with fail
      refine wp_region_tail 14 (by kernel_rfl) (by kernel_rfl) ?_
      simp only [List.take_succ_cons, List.take_zero, List.drop_succ_cons, List.drop_zero]
      repeat still_step
      refine wpStill_nil ?_
      go_wp2_with fail
      go_ret
      exact ⟨rfl, hend.out⟩
theorem truncate_to (w : World) (n size : Int) (n0 : -9223372036854775808 ≤ n ∧ n ≤ 9223372036854775807) (hd : IsDisk w d fp M) (hl : M.Live) :
    Calls Try.prog 69 #[.pointer (some ⟨d, 0, none⟩), .int .i64 n, .int .i64 size] w fun e w' => e = .returned (.int .i64 (M.truncate n size).1) ∧ DiskTo d fp (M.truncate n size).2 w w' := by
  rcases M.has_cases n with ⟨h0, hdn, b, hb⟩ | ⟨h0, _⟩ | ⟨h0, _⟩
  · have hg : (AM.get M.files n).getD [] = b := by rw [hb]; rfl
    by_cases hs : size < 0 ∨ (b.length : Int) < size
    · have e : M.truncate n size = (2, M) := by
        unfold DiskM.truncate
        rw [if_neg (by simp [h0]), if_pos (by rw [hg]; exact hs)]
      rw [e]
      refine (truncate_arg w n size n0 b hd hdn hb hs).mono ?_
      rintro e w' ⟨rfl, rfl⟩
      exact ⟨rfl, DiskTo.same hd⟩
    · obtain ⟨k, rfl⟩ := Int.eq_ofNat_of_zero_le (show 0 ≤ size by omega)
      cases hsk : M.sinks
      · have e : M.truncate n k = (0, M.tick.truncated n k) := by
          unfold DiskM.truncate
          rw [if_neg (by simp [h0]), if_neg (by rw [hg]; exact hs), if_neg (by simp [hsk])]
          rfl
        rw [e]
        exact truncate_ok w n k n0 b hd hl hdn hb (by omega) hsk
      · have e : M.truncate n k = (61, M.sunk) := by
          unfold DiskM.truncate
          rw [if_neg (by simp [h0]), if_neg (by rw [hg]; exact hs), if_pos hsk]
        rw [e]
        refine (truncate_sinks w n k n0 b hd hl hdn hb (by omega) hsk).mono ?_
        rintro e w' ⟨rfl, h1, h2⟩
        exact ⟨rfl, fp, h1, h2, fun _ => Or.inl⟩
  all_goals
    have e : M.truncate n size = (M.has n, M) := by
      unfold DiskM.truncate
      rw [if_pos (by rw [h0]; decide)]
    rw [e]
    refine (truncate_err w n size n0 hd (by rw [h0]; decide)).mono ?_
    rintro e w' ⟨rfl, rfl⟩
    exact ⟨rfl, DiskTo.same hd⟩
theorem DiskM.Live.truncate (hl : M.Live) (n size : Int) : (M.truncate n size).2.Live := by
  unfold DiskM.truncate
  split
  · exact hl
  split
  · exact hl
  split
  · exact DiskM.Live.sunk
  · rename_i h
    exact DiskM.Live.tick hl (by simpa using h)
theorem DiskM.Live.delete (hl : M.Live) (n : Int) : (M.delete n).2.Live := by
  unfold DiskM.delete
  split
  · exact hl
  split
  · exact DiskM.Live.sunk
  · rename_i h
    exact DiskM.Live.tick hl (by simpa using h)
end
section
variable {w0 w w' : World} {B : Nat → Prop} {d : Nat} {M M' : DiskM} {r : Int}
theorem delete_own (h : Own w0 B d M w) (n : Int) (n0 : -9223372036854775808 ≤ n ∧ n ≤ 9223372036854775807) (hl : M.Live) (he : M.delete n = (r, M')) :
    Calls Try.prog 68 #[.pointer (some ⟨d, 0, none⟩), .int .i64 n] w fun e w' => e = .returned (.int .i64 r) ∧ Own w0 B d M' w' := by
  obtain ⟨fp, h1, h2⟩ := h
  refine (delete_to w n n0 h1 hl).mono ?_
  rw [he]
  rintro e w' ⟨rfl, hto⟩
  exact ⟨rfl, Own.next h2 hto⟩
theorem truncate_own (h : Own w0 B d M w) (n size : Int) (n0 : -9223372036854775808 ≤ n ∧ n ≤ 9223372036854775807) (hl : M.Live) (he : M.truncate n size = (r, M')) :
    Calls Try.prog 69 #[.pointer (some ⟨d, 0, none⟩), .int .i64 n, .int .i64 size] w fun e w' => e = .returned (.int .i64 r) ∧ Own w0 B d M' w' := by
  obtain ⟨fp, h1, h2⟩ := h
  refine (truncate_to w n size n0 h1 hl).mono ?_
  rw [he]
  rintro e w' ⟨rfl, hto⟩
  exact ⟨rfl, Own.next h2 hto⟩
end
end Go.Proofs.Ytahiimcdmojngaa
