/- Contracts of package disk: Append, walked. -/
import Derived.Test.YtahiimcdmojngaaDisk8
import Derived.Lib.AppendZeros
namespace Go.Proofs.Ytahiimcdmojngaa
open Go.RowKit

/-- At a step of a region that draws its order: an append whose run is known. -/
theorem step_append_run {P : Program} {w : World} {ops : Array Oper} {o : Oper} {a : Act} {K : Act → World → Prop} {Q : Exit → Act → World → Prop} {E : Prop} (hgd : o.guard = none) (s x : Operand) (t tn : TypeId)
    (ho : o.op = .call { callee := .builtin .append, args := #[s, x], argTypes := #[t, tn] }) (vs vx : Value) (hs : a.eval s = vs) (hx : a.eval x = vx)
    (v' : Value) (w' : World) (hr : (Builtin.append_ #[t, tn] o.type #[vs, vx]).run P w = .ok v' w') (h : K (a.put o.dst v') w') :
    if Region.wanted o (yielded ops a.tmps) = true then Oper.wp P o a w K Q else E := by
  have hw : Region.wanted o (yielded ops a.tmps) = true := by simp [Region.wanted, hgd]
  rw [if_pos hw]
  exact Lib.wp_append_run w s x t tn ho vs vx hs hx v' w' hr h
section
variable {d : Nat} {fp : Nat → Prop} {M : DiskM}
theorem append_err (w : World) (n : Int) (n0 : -9223372036854775808 ≤ n ∧ n ≤ 9223372036854775807) (s : ByteArray) (hd : IsDisk w d fp M) (he : M.has n ≠ 0) :
    Calls Try.prog 49 #[.pointer (some ⟨d, 0, none⟩), .int .i64 n, .string s] w fun e w' => e = .returned (.int .i64 (M.has n)) ∧ w = w' := by
  rcases M.has_cases n with ⟨h, _⟩ | ⟨h, _⟩ | ⟨h, _⟩
  · exact absurd h he
  all_goals
    have hc := has_any w n n0 hd
    rw [h] at hc ⊢
    clear he h
    go_enter Try.func49, Try.ntmps49
    go_wp2_with (go_at_call 81; refine hc.mono ?_; rintro e w' ⟨rfl, rfl⟩)
    go_ret
    exact ⟨rfl, rfl⟩
set_option maxRecDepth 100000 in
theorem append_full (w : World) (n : Int) (n0 : -9223372036854775808 ≤ n ∧ n ≤ 9223372036854775807) (s : ByteArray) (hd : IsDisk w d fp M) (he : M.has n = 0) (hf : M.cap - M.total < s.size) :
    Calls Try.prog 49 #[.pointer (some ⟨d, 0, none⟩), .int .i64 n, .string s] w fun e w' => e = .returned (.int .i64 60) ∧ Kept (fun _ => False) w w' := by
  have hc := has_any w n n0 hd
  rw [he] at hc
  have hfree := free_any w hd
  have x1 : decide (M.cap - M.total < (s.size : Int)) = true := decide_eq_true hf
  clear he
  go_enter Try.func49, Try.ntmps49
  go_wp2_with (first | (go_at_call 81; refine hc.mono ?_; rintro e w' ⟨rfl, rfl⟩) | (go_at_call 80; refine hfree.mono ?_; rintro e w1 ⟨rfl, hk1⟩))
  go_ret
  exact ⟨rfl, hk1⟩
/-- All that Append does to memory, run by run. -/
theorem DiskAt.appendRun {w w1 : World} {mb : Nat} {lv v : Value} {fs : List (Int × Value)} (h : DiskAt w d fp M mb lv fs) {n : Int} {b : List UInt8} (s : ByteArray) (hv : AM.get fs n = some v) (hb : AM.get M.files n = some b) (hr : ((M.total + s.size : Nat) : Int) ≤ M.cap) (hcnt : M.files.length + M.loose.length < 300000000) (hk1 : Kept (fun _ => False) w w1) :
    ∃ v' w2 w3, w1.cell? ⟨d, 0, none⟩ = some (.map (some mb)) ∧ (Instr.lookup 121 (.map (some mb)) (.int .i64 n) false).run Try.prog w1.drew = .ok v w1.drew ∧ (Builtin.append_ #[80, 9] 80 #[v, .string s]).run Try.prog w1.drew = .ok v' w2 ∧ (Instr.mapUpdate 121 (.map (some mb)) (.int .i64 n) v').run Try.prog w2 = .ok () w3 ∧
      w2.cell? ⟨d, 0, none⟩ = some (.map (some mb)) ∧ w3.cell? ⟨d, 0, none⟩ = some (.map (some mb)) ∧ w3.cell? ⟨d, 1, none⟩ = some lv ∧ ∃ la ln lc w4, (Builtin.append_ #[122, 122] 122 #[lv, .slice (some ⟨w3.heap.size, 0, none⟩) 1 1]).run Try.prog (w3.alloc (.cells #[.int .i64 n, .int .i64 (s.size : Int)] 126)) = .ok (.slice la ln lc) w4 ∧ w4.cell? ⟨d, 1, none⟩ = some lv ∧ w4.frozen? ⟨d, 1, none⟩ = false ∧ DiskTo d fp (M.appended n s.data.toList) w (w4.setCell ⟨d, 1, none⟩ (.slice la ln lc)) := by
  have hn := h.ok.keys (n, b) ((AM.get_some h.ok.rise).1 hb)
  have hcap1 := h.ok.cap1
  have hok : (M.appended n s.data.toList).Ok := h.ok.appended hb (by simpa using hr) hcnt
  have h1 := h.kept hk1 (fun _ _ => id)
  have hlk := h1.map.drew.look (t := 121) (e := 80) Try.underlying3 Try.underlying121 (zeroBytes w1.drew) (a := n) (by omega)
  rw [hv, Option.getD_some] at hlk
  obtain ⟨v', w2, w3, ha, hu, hraw, hk3, e02⟩ := h1.appendBytes hv hb s (by omega)
  obtain ⟨lv', w4, ha2, hraw2, hk4, hc4, hz4⟩ := hraw.addPiece n s.size (by show M.loose.length < _; omega)
  obtain ⟨la, ln, lc, rfl, _⟩ := hraw2.loose.form (by omega)
  refine ⟨v', w2, w3, h1.head.cell (i := 0) rfl, hlk, ha, hu, e02, hraw.head.cell (i := 0) rfl, hraw.head.cell (i := 1) rfl, la, ln, lc, w4, ha2, hc4, hz4, ?_⟩
  have hfd : fp d := h.fpd
  have hk04 : Kept fp w w4 := ((hk1.mono (fun _ _ => False.elim)).trans hk3).then_ hk4 (fun i hi q => q.elim id (fun q => by have := hk1.size; omega))
  have hs13 := hk1.size
  have hs3 := hk3.size
  refine ⟨fun k => fp k ∨ w.heap.size ≤ k, ⟨mb, .slice la ln lc, AM.set fs n v', ?_, hok⟩, hk04.setCell (fun _ => hfd) _, fun k => id⟩
  have e : M.appended n s.data.toList = { M with files := AM.set M.files n (b ++ s.data.toList), loose := M.loose ++ [(n, s.size)] } := by
    unfold DiskM.appended; rw [hb]; rfl
  rw [e]
  exact hraw2.fpmono (fun k q => by rcases q with (q | q) | q; exact Or.inl q; exact Or.inr (by omega); exact Or.inr (by omega))
set_option maxRecDepth 100000 in
set_option maxHeartbeats 1000000 in
theorem append_in (w : World) (n : Int) (s : ByteArray) (b : List UInt8) (hd : IsDisk w d fp M) (hl : M.Live) (hdn : M.down = false) (hb : AM.get M.files n = some b) (hr : ((M.total + s.size : Nat) : Int) ≤ M.cap) (hcnt : M.files.length + M.loose.length < 300000000) (hsk : M.sinks = false) :
    Calls Try.prog 49 #[.pointer (some ⟨d, 0, none⟩), .int .i64 n, .string s] w fun e w' => e = .returned (.int .i64 0) ∧ DiskTo d fp (M.appended n s.data.toList).tick w w' := by
  have hn := hd.ok.keys (n, b) ((AM.get_some hd.ok.rise).1 hb)
  have he : M.has n = 0 := by simp [DiskM.has, hdn, hb]
  have hc := has_any w n (by omega) hd
  rw [he] at hc
  have hfree := free_any w hd
  have hcap1 := hd.ok.cap1
  have x1 : decide (M.cap - M.total < (s.size : Int)) = false := by simp; omega
  have hok : (M.appended n s.data.toList).Ok := hd.ok.appended hb (by simpa using hr) hcnt
  have hlive : (M.appended n s.data.toList).Live := hl
  have hsk' : (M.appended n s.data.toList).sinks = false := hsk
  obtain ⟨mb, lv, fs, h⟩ := hd
  obtain ⟨v, hv⟩ := h.get_some hb
  have hex := fun (w1 : World) (hk1 : Kept (fun _ => False) w w1) => h.appendRun s hv hb hr hcnt hk1
  have HX := Lib.hid hex
  have H0 := Lib.hid (And.intro hsk' hlive)
  clear hex he hb hv hr hsk hsk' hlive hdn hcnt
  go_enter Try.func49, Try.ntmps49
  go_wp2_with (first | (go_at_call 81; refine hc.mono ?_; rintro e w' ⟨rfl, rfl⟩) | (go_at_call 80; refine hfree.mono ?_; rintro e w1 ⟨rfl, hk1⟩))
  obtain ⟨v', w2, w3, e0, hlk, ha, hu, e02, e03, e1, la, ln, lc, w4, ha2, e2, z2, hto⟩ := HX.out w1 hk1
  go_region_held3 (fun w' => w'.cell? ⟨d, 0, none⟩ = some (.map (some mb))) (first | exact e0 | exact e02 | exact e03) (first | (refine step_append_run rfl _ _ 80 9 rfl _ _ rfl rfl _ _ ha ?_))
  have hd4 : ∃ fp', IsDisk (w4.setCell ⟨d, 1, none⟩ (.slice la ln lc)) d fp' (M.appended n s.data.toList) ∧ Kept fp w (w4.setCell ⟨d, 1, none⟩ (.slice la ln lc)) ∧ ∀ k, fp' k → fp k ∨ w.heap.size ≤ k := hto
  obtain ⟨fp', hd4, hk4, hf4⟩ := hd4
  have hs := sinks_any _ hd4 H0.out.2
  rw [H0.out.1] at hs
  go_wp2_with (first | (at_builtin; refine Lib.wpList_append_run _ rfl _ _ 122 122 rfl _ _ rfl rfl _ _ ha2 ?_) | (go_at_call 82; refine hs.mono ?_; rintro e w5 ⟨rfl, hd5, hk5⟩))
  go_ret
  exact ⟨rfl, fp', hd5, hk4.then_ hk5 (fun i hi e => by rw [e]; exact h.fpd), hf4⟩
set_option maxRecDepth 100000 in
set_option maxHeartbeats 1000000 in
theorem append_sink (w : World) (n : Int) (s : ByteArray) (b : List UInt8) (hd : IsDisk w d fp M) (hl : M.Live) (hdn : M.down = false) (hb : AM.get M.files n = some b) (hr : ((M.total + s.size : Nat) : Int) ≤ M.cap) (hcnt : M.files.length + M.loose.length < 300000000) (hsk : M.sinks = true) :
    Calls Try.prog 49 #[.pointer (some ⟨d, 0, none⟩), .int .i64 n, .string s] w fun e w' => e = .returned (.int .i64 61) ∧ DiskTo d fp (M.appended n s.data.toList).sunk w w' := by
  have hn := hd.ok.keys (n, b) ((AM.get_some hd.ok.rise).1 hb)
  have he : M.has n = 0 := by simp [DiskM.has, hdn, hb]
  have hc := has_any w n (by omega) hd
  rw [he] at hc
  have hfree := free_any w hd
  have hcap1 := hd.ok.cap1
  have x1 : decide (M.cap - M.total < (s.size : Int)) = false := by simp; omega
  have hok : (M.appended n s.data.toList).Ok := hd.ok.appended hb (by simpa using hr) hcnt
  have hlive : (M.appended n s.data.toList).Live := hl
  have hsk' : (M.appended n s.data.toList).sinks = true := hsk
  obtain ⟨mb, lv, fs, h⟩ := hd
  obtain ⟨v, hv⟩ := h.get_some hb
  have hex := fun (w1 : World) (hk1 : Kept (fun _ => False) w w1) => h.appendRun s hv hb hr hcnt hk1
  have HX := Lib.hid hex
  have hd0 : (M.appended n s.data.toList).tick.down = false := by rw [DiskM.tick_down]; exact hdn
  have HE : Hid ((M.appended n s.data.toList).tick.crash (M.appended n s.data.toList).tick.keep = (M.appended n s.data.toList).sunk) := Lib.hid (by rw [DiskM.tick_keep]; rfl)
  have H0 := Lib.hid (And.intro hsk' hlive)
  clear hex he hb hv hr hsk hsk' hlive hdn hcnt
  go_enter Try.func49, Try.ntmps49
  go_wp2_with (first | (go_at_call 81; refine hc.mono ?_; rintro e w' ⟨rfl, rfl⟩) | (go_at_call 80; refine hfree.mono ?_; rintro e w1 ⟨rfl, hk1⟩))
  obtain ⟨v', w2, w3, e0, hlk, ha, hu, e02, e03, e1, la, ln, lc, w4, ha2, e2, z2, hto⟩ := HX.out w1 hk1
  go_region_held3 (fun w' => w'.cell? ⟨d, 0, none⟩ = some (.map (some mb))) (first | exact e0 | exact e02 | exact e03) (first | (refine step_append_run rfl _ _ 80 9 rfl _ _ rfl rfl _ _ ha ?_))
  have hd4 : ∃ fp', IsDisk (w4.setCell ⟨d, 1, none⟩ (.slice la ln lc)) d fp' (M.appended n s.data.toList) ∧ Kept fp w (w4.setCell ⟨d, 1, none⟩ (.slice la ln lc)) ∧ ∀ k, fp' k → fp k ∨ w.heap.size ≤ k := hto
  obtain ⟨fp', hd4, hk4, hf4⟩ := hd4
  have hs := sinks_any _ hd4 H0.out.2
  rw [H0.out.1] at hs
  go_wp2_with (first | (at_builtin; refine Lib.wpList_append_run _ rfl _ _ 122 122 rfl _ _ rfl rfl _ _ ha2 ?_) | (go_at_call 82; refine hs.mono ?_; rintro e w5 ⟨rfl, hd5, hk5⟩) | (go_at_call 83; refine (sink_up _ hd5 hd0).mono ?_; rintro e w6 ⟨rfl, hd6, hk6⟩))
  go_ret
  exact ⟨rfl, fp', by rw [← HE.out]; exact hd6, (hk4.then_ hk5 (fun i hi e => by rw [e]; exact h.fpd)).then_ hk6 (fun i hi e => (hf4 i e).elim id (fun q => by omega)), hf4⟩
end
end Go.Proofs.Ytahiimcdmojngaa
