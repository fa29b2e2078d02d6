/- RD3 RD4 RD5 RD6 RD7 RD8 RD9 RD10 RS1 -/
import Derived.Test.YtlgeijbgkipliaaGreatDoorUSegmentsOpen34
import Derived.Test.YtlgeijbgkipliaaGreatDoorUSegmentsOpen01
import Derived.Test.YtlgeijbgkipliaaGreatDoorUSegmentsOpen41
import Derived.Test.YtlgeijbgkipliaaGreatDoorUSegmentsOpen16
import Derived.Test.YtlgeijbgkipliaaGreatDoorUSegmentsOpen37
set_option linter.unusedVariables false
set_option linter.unusedSimpArgs false
namespace Go.Proofs.YtlgeijbgkipliaaGreatDoor
open Go.RowKit
theorem step_append_runR {P : Program} {w : World} {ops : Array Oper} {o : Oper} {a : Act} {K : Act → World → Prop} {Q : Exit → Act → World → Prop} {E : Prop} (hgd : o.guard = none) (s x : Operand) (t tn : TypeId)
    (ho : o.op = .call { callee := .builtin .append, args := #[s, x], argTypes := #[t, tn] }) (vs vx : Value) (hs : a.eval s = vs) (hx : a.eval x = vx)
    (v' : Value) (w' : World) (hr : (Builtin.append_ #[t, tn] o.type #[vs, vx]).run P w = .ok v' w') (h : K (a.put o.dst v') w') :
    if Region.wanted o (yielded ops a.tmps) = true then Oper.wp P o a w K Q else E := by
  have hw : Region.wanted o (yielded ops a.tmps) = true := by simp [Region.wanted, hgd]
  rw [if_pos hw]
  exact Lib.wp_append_run w s x t tn ho vs vx hs hx v' w' hr h
def madeL (L : List (Int × By)) (n : Int) : List (Int × By) := L.takeWhile (fun p => decide (p.1 < n)) ++ (n, []) :: L.dropWhile (fun p => decide (p.1 < n))
theorem while_at {L : List (Int × By)} {f : Int × By → Bool} {i : Nat} (h1 : ∀ j p, L[j]? = some p → j < i → f p = true) (h2 : ∀ p, L[i]? = some p → f p = false) (hi : i ≤ L.length) : L.takeWhile f = L.take i ∧ L.dropWhile f = L.drop i := by
  induction L generalizing i with
  | nil => simp
  | cons a l ih =>
    cases i with
    | zero =>
      have := h2 a rfl
      simp [List.takeWhile_cons, List.dropWhile_cons, this]
    | succ i =>
      have h0 := h1 0 a rfl (by omega)
      obtain ⟨g1, g2⟩ := ih (i := i) (fun j p hp hj => h1 (j + 1) p (by simpa using hp) (by omega)) (fun p hp => h2 p (by simpa using hp)) (by simpa using hi)
      simp [List.takeWhile_cons, List.dropWhile_cons, h0, g1, g2]
def RefM.create (R : RefM) (n : Int) : Int × RefM :=
  if R.down = true then (61, R) else if n < 0 then (2, R) else if 0 ≤ findV R.L n then (62, R) else if 99 < R.L.length then (60, R) else (0, { R.tick with L := madeL R.L n })
section
variable {w w' W : World} {r : Nat} {R R' : RefM} {x y x' y' : Value} {S : Nat → Prop}
theorem RefM.tick_eq (R : RefM) : R.tick.L = R.L ∧ R.tick.loose = R.loose ∧ R.tick.cap = R.cap ∧ R.tick.down = R.down ∧ R.tick.starts = R.starts ∧ R.tick.keep = R.keep := by
  unfold RefM.tick
  split <;> exact ⟨rfl, rfl, rfl, rfl, rfl, rfl⟩
def MakeS (w : World) (r : Nat) (R : RefM) (x y : Value) (v : Value) (i : Nat) (W : World) : Prop :=
  IsRef W r R x y ∧ Kept (· = r) w W ∧ Row W 107 2 v (fcells (R.L.take i)) ∧ (∀ k, v.ownBlock = some k → w.heap.size ≤ k) ∧ ∀ k, refOwn r x y k → k < w.heap.size
theorem MakeS.drew {v : Value} {i : Nat} (h : MakeS w r R x y v i W) : MakeS w r R x y v i W.drew := ⟨h.1.same (Kept.refl _ _).drew, h.2.1.drew, h.2.2.1.drew, h.2.2.2⟩
theorem MakeS.app {v : Value} {i : Nat} {p : Int × By} (h : MakeS w r R x y v i W) (hR : R.L.length ≤ 100) (hp : R.L[i]? = some p) :
    ∃ sa n cap w3, (Builtin.append_ #[101, 101] 101 #[v, .slice (some ⟨W.heap.size, 0, none⟩) 1 1]).run Tryz.prog (W.alloc (.cells #[.int .i64 p.1, .string (strB p.2)] 107)) = .ok (.slice sa n cap) w3 ∧ Hid (MakeS w r R x y (.slice sa n cap) (i + 1) w3) := by
  obtain ⟨h1, h2, h3, h4, h5⟩ := h
  obtain ⟨sa, n, cap, w3, hr, g1, g2, g3⟩ := file_append p (by rw [List.length_take]; omega) h3
  refine ⟨sa, n, cap, w3, hr, Lib.hid ⟨h1.kept g2 (fun k q e => by have := h4 k e; have := h5 k q; omega), h2.then_ g2 (fun k hk e => by have := h4 k e; omega), ?_, fun k e => (g3 k e).elim (h4 k) (fun q => by have := h2.size; omega), h5⟩⟩
  rw [List.take_add_one, hp]
  exact g1
theorem MakeS.last {v : Value} {i : Nat} (h : MakeS w r R x y v i W) (hR : R.L.length ≤ 100) (hi : i ≤ R.L.length) (n : Int) :
    ∃ a c s1 m1 c1 w1 s2 m2 c2 w2, x = .slice a R.L.length c ∧
      (∀ w0, (Instr.slice 101 x (some (.int .i64 (i : Int))) none none).run Tryz.prog w0 = .ok (.slice (if c = i then a else a.map (·.add (i * 2))) (R.L.length - i) (c - i)) w0) ∧
      (Builtin.append_ #[101, 101] 101 #[v, .slice (some ⟨W.heap.size, 0, none⟩) 1 1]).run Tryz.prog (W.alloc (.cells #[.int .i64 n, .string (strB [])] 107)) = .ok (.slice s1 m1 c1) w1 ∧
      (Builtin.append_ #[101, 101] 101 #[.slice s1 m1 c1, .slice (if c = i then a else a.map (·.add (i * 2))) (R.L.length - i) (c - i)]).run Tryz.prog w1 = .ok (.slice s2 m2 c2) w2 ∧
      (W.cell? ⟨r, 1, none⟩ = some x ∧ (W.alloc (.cells #[.int .i64 n, .string (strB [])] 107)).cell? ⟨r, 1, none⟩ = some x ∧ w1.cell? ⟨r, 1, none⟩ = some x ∧ w2.cell? ⟨r, 1, none⟩ = some x ∧ w2.frozen? ⟨r, 1, none⟩ = false) ∧
      Hid (∀ W', w2.setCell ⟨r, 1, none⟩ (.slice s2 m2 c2) = W' → RefTo w r x y { R with L := R.L.take i ++ (n, []) :: R.L.drop i } W') := by
  obtain ⟨h1, h2, h3, h4, h5⟩ := h
  obtain ⟨a, c, rfl, -⟩ := h1.form
  have hv := h1.files.view
  have v2 := hv.tail i hi
  rw [fcells_drop] at v2
  have hz := fun w0 => hv.run_tail (P := Tryz.prog) (t := 101) (by kernel_rfl) (fun _ => by kernel_rfl) i hi w0
  obtain ⟨s1, m1, c1, w1, r1, g1, k1, o1⟩ := file_append (n, []) (by rw [List.length_take]; omega) h3
  have hk1 : IsRef w1 r R (.slice a R.L.length c) y := h1.kept k1 (fun k q e => by have := h4 k e; have := h5 k q; omega)
  have hv1 : View w1 2 (.slice (if c = i then a else a.map (·.add (i * 2))) (R.L.length - i) (c - i)) (fcells (R.L.drop i)) := by
    have e := hk1.files.view.tail i hi
    rwa [fcells_drop] at e
  obtain ⟨s2, m2, c2, w2, r2, g2, k2, o2⟩ := files_append (by simp; omega) g1 hv1
  have ho1 : ∀ k, (Value.slice s1 m1 c1).ownBlock = some k → w.heap.size ≤ k := fun k e => (o1 k e).elim (h4 k) (fun q => by have := h2.size; omega)
  have hk2 : IsRef w2 r R (.slice a R.L.length c) y := hk1.kept k2 (fun k q e => by have := ho1 k e; have := h5 k q; omega)
  have hK1 : Kept (· = r) w w1 := h2.then_ k1 (fun k hk e => by have := h4 k e; omega)
  have hK2 : Kept (· = r) w w2 := hK1.then_ k2 (fun k hk e => by have := ho1 k e; omega)
  have ho2 : ∀ k, (Value.slice s2 m2 c2).ownBlock = some k → w.heap.size ≤ k := fun k e => (o2 k e).elim (ho1 k) (fun q => by have := hK1.size; omega)
  refine ⟨a, c, s1, m1, c1, w1, s2, m2, c2, w2, rfl, hz, r1, r2, ⟨h1.blk.cell rfl, (h1.blk.alloc _).cell rfl, hk1.blk.cell rfl, hk2.blk.cell rfl, hk2.blk.free 1⟩, Lib.hid ?_⟩
  intro W' hW
  have hkc := kept_cell w2 r 1 (.slice s2 m2 c2)
  have hb := hk2.blk.set 1 (.slice s2 m2 c2)
  rw [hW] at hkc hb
  have hrr := h5 r (Or.inl rfl)
  refine ⟨.slice s2 m2 c2, y, ⟨hb, ?_, hk2.loose.kept hkc (fun k q => hk2.ne.2 k q)⟩, hK2.then_ hkc (fun _ _ q => q), fun k e => Or.inr (ho2 k e), fun _ => Or.inl⟩
  have e1 : R.L.take i ++ [(n, [])] ++ R.L.drop i = R.L.take i ++ (n, []) :: R.L.drop i := by simp
  rw [e1] at g2
  exact g2.kept hkc (fun k q e => by have := ho2 k q; have : k = r := e; omega)
set_option maxRecDepth 100000 in
set_option maxHeartbeats 4000000 in
theorem create_ref (h : IsRef w r R x y) (hR : R.Ok) (hs : R.sinks = false) (n : Int) (n0 : -9223372036854775808 ≤ n ∧ n ≤ 9223372036854775807) {e0 : Int} (he : R.create n = (e0, R')) :
    Calls Tryz.prog 12 #[.pointer (some ⟨r, 0, none⟩), .int .i64 n] w fun e w' => e = .returned (.int .i64 e0) ∧ RefTo w r x y R' w' := by
  have HT := Lib.hid (RefTo.self h)
  have hlow := fun k (q : refOwn r x y k) => h.lt q
  have hfew := hR.few
  unfold RefM.create at he
  cases hd : R.down with
  | true =>
    rw [if_pos hd] at he
    cases he
    have HAT := Lib.hid (at_ref h hR.few n (i := -1) (e0 := 61) (by unfold RefM.at_; rw [if_pos hd]))
    clear h hR hs hd hlow
    go_enter Tryz.func12, Tryz.ntmps12
    go_wp2_with (go_at_call 43; refine HAT.out.mono ?_; rintro e w' ⟨rfl, rfl⟩)
    go_ret
    exact ⟨rfl, HT.out⟩
  | false =>
    rw [if_neg (by rw [hd]; simp)] at he
    obtain ⟨i0, e1, hat, he1, hneg⟩ : ∃ i0 e1, R.at_ n = (i0, e1) ∧ (e1 == 61) = false ∧ (findV R.L n < 0 → i0 < 0) ∧ (¬ findV R.L n < 0 → i0 = findV R.L n) := by
      unfold RefM.at_
      rw [if_neg (by rw [hd]; simp)]
      by_cases q : findV R.L n < 0
      · exact ⟨-1, 4, by rw [if_pos q], rfl, fun _ => by omega, fun q2 => absurd q q2⟩
      · exact ⟨_, 0, by rw [if_neg q], rfl, fun q2 => absurd q2 q, fun _ => rfl⟩
    have HAT := Lib.hid (at_ref h hR.few n hat)
    clear hat
    by_cases hn : n < 0
    · rw [if_pos hn] at he
      cases he
      have z1 : decide (n < 0) = true := decide_eq_true hn
      clear h hR hs hd hlow hn hneg
      go_enter Tryz.func12, Tryz.ntmps12
      go_wp2_with (go_at_call 43; refine HAT.out.mono ?_; rintro e w' ⟨rfl, rfl⟩)
      go_ret
      exact ⟨rfl, HT.out⟩
    · rw [if_neg hn] at he
      have z1 : decide (n < 0) = false := decide_eq_false hn
      by_cases hf : 0 ≤ findV R.L n
      · rw [if_pos hf] at he
        cases he
        have z2 : decide (0 ≤ i0) = true := decide_eq_true (by rw [hneg.2 (by omega)]; exact hf)
        clear h hR hs hd hlow hn hneg hf
        go_enter Tryz.func12, Tryz.ntmps12
        go_wp2_with (go_at_call 43; refine HAT.out.mono ?_; rintro e w' ⟨rfl, rfl⟩)
        go_ret
        exact ⟨rfl, HT.out⟩
      · rw [if_neg hf] at he
        have z2 : decide (0 ≤ i0) = false := decide_eq_false (by have := hneg.1 (by omega); omega)
        clear hneg hf
        obtain ⟨a, c, rfl, hc⟩ := h.form
        have c1 := h.blk.cell (i := 1) rfl
        by_cases hfull : 99 < R.L.length
        · rw [if_pos hfull] at he
          cases he
          have z3 : decide ((99 : Int) < (R.L.length : Int)) = true := decide_eq_true (by omega)
          have z4 : decide (99 < R.L.length) = true := decide_eq_true hfull
          clear h hR hs hd hlow hn hc hfull
          go_enter Tryz.func12, Tryz.ntmps12
          go_wp2_with (go_at_call 43; refine HAT.out.mono ?_; rintro e w' ⟨rfl, rfl⟩)
          go_ret
          exact ⟨rfl, HT.out⟩
        · rw [if_neg hfull] at he
          cases he
          have z3 : decide ((99 : Int) < (R.L.length : Int)) = false := decide_eq_false (by omega)
          have z4 : decide (99 < R.L.length) = false := decide_eq_false hfull
          have HF := fails_ref h hR.fail0
          rw [hs] at HF
          have HF := Lib.hid HF
          have HLW := Lib.hid (And.intro hlow (And.intro hn hfew))
          obtain ⟨t1, t2, t3, t4, t5, t6⟩ := R.tick_eq
          have HTK := Lib.hid t1
          generalize R.tick = R1 at *
          clear t1 t2 t3 t4 t5 t6 h hR hs hd hlow hn hc HT hfull
          go_enter Tryz.func12, Tryz.ntmps12
          go_upto_region 12 with (first
            | (go_at_call 43; refine HAT.out.mono ?_; rintro e w' ⟨rfl, rfl⟩)
            | (go_at_call 44; refine HF.out.mono ?_; rintro e w1 ⟨rfl, g1, g2⟩; have HM := Lib.hid (show MakeS w r R1 (.slice a R.L.length c) y (.slice none 0 0) 0 w1 from ⟨g1, g2, Row.nil _ _ _, fun k q => by simp [Value.ownBlock] at q, HLW.out.1⟩); clear g1 g2))
          clear HAT HF z1 z2 z3 z4 c1
          go_wp2_with fail
          go_loopw [7, 8] (fun z7 z8 wr => ∃ (i : Nat) (sa : Option Addr) (sc : Nat), i ≤ R.L.length ∧ z7 = .slice sa i sc ∧ z8 = .int .i64 (i : Int) ∧ Hid (MakeS w r R1 (.slice a R.L.length c) y (.slice sa i sc) i wr) ∧ Hid (∀ j p, R1.L[j]? = some p → j < i → p.1 < n)) (fun _ z8 _ => R.L.length - (intOf z8).toNat)
          case atStart => exact ⟨0, none, 0, Nat.zero_le _, rfl, rfl, HM, Lib.hid (fun j p _ q => absurd q (Nat.not_lt_zero _))⟩
          case round =>
            obtain ⟨i, sa, sc, hi, rfl, rfl, HS, HP⟩ := hrel
            have d1 := HS.out.1.blk.cell (i := 1) rfl
            by_cases hlt : i < R.L.length
            · obtain ⟨y1, y2⟩ := dec_gtr hlt
              obtain ⟨p, hp⟩ : ∃ p, R1.L[i]? = some p := ⟨_, List.getElem?_eq_getElem (by rw [HTK.out]; exact hlt)⟩
              obtain ⟨a', c', hx', hcc⟩ := HS.out.1.form
              simp only [Value.slice.injEq] at hx'
              obtain ⟨rfl, -, rfl⟩ := hx'
              obtain ⟨g, rfl, q0, q1⟩ := hcc i p hp
              have HI := Lib.hid hp
              have HLT := Lib.hid hlt
              by_cases hpn : p.1 < n
              · have z5 : decide (p.1 < n) = true := decide_eq_true hpn
                have HP2 : Hid (∀ j q, R1.L[j]? = some q → j < i + 1 → q.1 < n) := by
                  refine Lib.hid ?_
                  intro j q hq hj
                  rcases Nat.lt_or_ge j i with z | z
                  · exact HP.out j q hq z
                  · obtain rfl : j = i := by omega
                    rw [hp] at hq
                    cases hq
                    exact hpn
                obtain ⟨sb, m, cb, w3, hap, hm⟩ := HS.out.app (by rw [HTK.out]; exact HLW.out.2.2) hp
                have hmi : m = i + 1 := by
                  obtain ⟨_, m', _, hv', q2, _⟩ := hm.out.2.2.1.form (by omega)
                  cases hv'
                  rw [fcells_len, List.length_take, HTK.out] at q2
                  omega
                subst hmi
                clear hpn hcc hp HP hi
                go_wp2_with (at_builtin; refine Lib.wpList_append_run _ rfl _ _ 101 101 rfl _ _ rfl rfl _ _ hap ?_)
                go_roundw
                case rel => exact ⟨i + 1, sb, cb, HLT.out, rfl, by go_num, hm, HP2⟩
                case measure => have := HLT.out; simp [intOf]; omega
              · have z5 : decide (p.1 < n) = false := decide_eq_false hpn
                have hmade : madeL R.L n = R1.L.take i ++ (n, []) :: R1.L.drop i := by
                  obtain ⟨e1, e2⟩ := while_at (L := R1.L) (f := fun p => decide (p.1 < n)) (fun j p hp hj => decide_eq_true (HP.out j p hp hj)) (fun p' hp' => by rw [hp] at hp'; cases hp'; exact z5) (by rw [HTK.out]; exact hi)
                  unfold madeL
                  rw [HTK.out] at e1 e2
                  rw [e1, e2, HTK.out]
                have HMD := Lib.hid hmade
                have HI9 := Lib.hid hi
                clear hpn hcc hp HP hmade
                go_upto_region 17 with fail
                clear q0 q1 z5 y1 y2
                refine wp_region_held_drew (S := fun _ => True) (by kernel_rfl) trivial (fun _ => ?_)
                have hSd := HS.out.drew
                generalize World.drew wr = Wd at *
                obtain ⟨a2, k2, s1, m1, l1, w5, s2, m2, l2, w6, hx2, hz, r1, r2, ⟨e0, e1, e2, e3, f3⟩, HE⟩ := hSd.last (by rw [HTK.out]; exact HLW.out.2.2) (by rw [HTK.out]; exact HI9.out) n
                clear hSd
                rw [HTK.out] at hx2 hz r2 HE
                simp only [Value.slice.injEq] at hx2
                obtain ⟨rfl, -, rfl⟩ := hx2
                rw [HTK.out] at HMD
                rw [← HMD.out] at HE
                generalize (if c = i then (some ⟨g, 0, none⟩) else ((some ⟨g, 0, none⟩) : Option Addr).map (·.add (i * 2))) = sx at hz r2
                clear d1
                change (Builtin.append_ #[101, 101] 101 #[_, .slice (some ⟨Wd.heap.size, 0, none⟩) 1 1]).run Tryz.prog (Wd.alloc (.cells #[.int .i64 n, .string ⟨#[]⟩] 107)) = _ at r1
                change (Wd.alloc (.cells #[.int .i64 n, .string ⟨#[]⟩] 107)).cell? _ = _ at e1
                refine tk 0 rfl (fun _ _ _ h => h) trivial ?_
                refine tk 1 rfl (fun _ _ _ h => h) trivial ?_
                refine tk 2 rfl (fun _ _ _ h => h) trivial ?_
                refine tk 3 rfl (fun _ _ _ h => h) trivial ?_
                refine tk 6 rfl (fun _ _ _ h => h) trivial ?_
                refine tk 7 rfl (fun _ _ _ h => h) trivial ?_
                refine tk 8 rfl (fun _ _ _ h => h) trivial ?_
                refine tk 10 rfl (fun _ _ _ h => h) trivial ?_
                refine tk 11 rfl (fun _ _ _ h => h) trivial ?_
                refine rd2 4 9 (fun K hK => ?_) (fun K hK => ?_)
                · go_simp
                  refine hK.out _ _ trivial (fun _ => ?_)
                  clear hK K
                  try simp only [lyA, lyB, lyC, lyD]
                  refine rd2 5 9 (fun K hK => ?_) (fun K hK => ?_)
                  · ((with_reducible refine step_append_runR ?_ ?_ ?_ 101 101 ?_ _ _ ?_ ?_ _ _ r1 ?_); exact rfl; rotate_left 2; exact rfl; exact rfl; exact rfl)
                    refine hK.out _ _ trivial (fun _ => ?_)
                    clear hK K
                    try simp only [lyA, lyB, lyC, lyD]
                    refine rd1 9 (fun K hK => ?_)
                    have hq := e2
                    go_simp
                    clear hq
                    refine hK.out _ _ trivial (fun _ => ?_)
                    clear hK K
                    try simp only [lyA, lyB, lyC, lyD]
                    refine tk 12 rfl (fun _ _ _ h => h) trivial ?_
                    refine rd1 13 (fun K hK => ?_)
                    ((with_reducible refine step_append_runR ?_ ?_ ?_ 101 101 ?_ _ _ ?_ ?_ _ _ r2 ?_); exact rfl; rotate_left 2; exact rfl; exact rfl; exact rfl)
                    refine hK.out _ _ trivial (fun _ => ?_)
                    clear hK K
                    try simp only [lyA, lyB, lyC, lyD]
                    refine tk 14 rfl (fun _ _ _ h => h) trivial ?_
                    refine tk 15 rfl (fun _ _ _ h => h) trivial ?_
                    refine rd1 16 (fun K hK => ?_)
                    have hq := e3
                    have hq2 := f3
                    go_simp
                    clear hq hq2
                    refine hK.out _ _ trivial (fun _ => ?_)
                    clear hK K
                    try simp only [lyA, lyB, lyC, lyD]
                    refine wpAnyH_done (by kernel_rfl) ?_ _
                    generalize hW9 : World.setCell _ _ _ = W9
                    have H9 := HE.out W9 hW9
                    go_wp2_with fail
                    go_ret
                    exact ⟨rfl, H9⟩
                  · have hq := e1
                    go_simp
                    clear hq
                    refine hK.out _ _ trivial (fun _ => ?_)
                    clear hK K
                    try simp only [lyA, lyB, lyC, lyD]
                    refine tk 12 rfl (fun _ _ _ h => h) trivial ?_
                    refine rd1 5 (fun K hK => ?_)
                    ((with_reducible refine step_append_runR ?_ ?_ ?_ 101 101 ?_ _ _ ?_ ?_ _ _ r1 ?_); exact rfl; rotate_left 2; exact rfl; exact rfl; exact rfl)
                    refine hK.out _ _ trivial (fun _ => ?_)
                    clear hK K
                    try simp only [lyA, lyB, lyC, lyD]
                    refine rd1 13 (fun K hK => ?_)
                    ((with_reducible refine step_append_runR ?_ ?_ ?_ 101 101 ?_ _ _ ?_ ?_ _ _ r2 ?_); exact rfl; rotate_left 2; exact rfl; exact rfl; exact rfl)
                    refine hK.out _ _ trivial (fun _ => ?_)
                    clear hK K
                    try simp only [lyA, lyB, lyC, lyD]
                    refine tk 14 rfl (fun _ _ _ h => h) trivial ?_
                    refine tk 15 rfl (fun _ _ _ h => h) trivial ?_
                    refine rd1 16 (fun K hK => ?_)
                    have hq := e3
                    have hq2 := f3
                    go_simp
                    clear hq hq2
                    refine hK.out _ _ trivial (fun _ => ?_)
                    clear hK K
                    try simp only [lyA, lyB, lyC, lyD]
                    refine wpAnyH_done (by kernel_rfl) ?_ _
                    generalize hW9 : World.setCell _ _ _ = W9
                    have H9 := HE.out W9 hW9
                    go_wp2_with fail
                    go_ret
                    exact ⟨rfl, H9⟩
                · have hq := e0
                  go_simp
                  clear hq
                  refine hK.out _ _ trivial (fun _ => ?_)
                  clear hK K
                  try simp only [lyA, lyB, lyC, lyD]
                  refine tk 12 rfl (fun _ _ _ h => h) trivial ?_
                  refine rd1 4 (fun K hK => ?_)
                  go_simp
                  refine hK.out _ _ trivial (fun _ => ?_)
                  clear hK K
                  try simp only [lyA, lyB, lyC, lyD]
                  refine rd1 5 (fun K hK => ?_)
                  ((with_reducible refine step_append_runR ?_ ?_ ?_ 101 101 ?_ _ _ ?_ ?_ _ _ r1 ?_); exact rfl; rotate_left 2; exact rfl; exact rfl; exact rfl)
                  refine hK.out _ _ trivial (fun _ => ?_)
                  clear hK K
                  try simp only [lyA, lyB, lyC, lyD]
                  refine rd1 13 (fun K hK => ?_)
                  ((with_reducible refine step_append_runR ?_ ?_ ?_ 101 101 ?_ _ _ ?_ ?_ _ _ r2 ?_); exact rfl; rotate_left 2; exact rfl; exact rfl; exact rfl)
                  refine hK.out _ _ trivial (fun _ => ?_)
                  clear hK K
                  try simp only [lyA, lyB, lyC, lyD]
                  refine tk 14 rfl (fun _ _ _ h => h) trivial ?_
                  refine tk 15 rfl (fun _ _ _ h => h) trivial ?_
                  refine rd1 16 (fun K hK => ?_)
                  have hq := e3
                  have hq2 := f3
                  go_simp
                  clear hq hq2
                  refine hK.out _ _ trivial (fun _ => ?_)
                  clear hK K
                  try simp only [lyA, lyB, lyC, lyD]
                  refine wpAnyH_done (by kernel_rfl) ?_ _
                  generalize hW9 : World.setCell _ _ _ = W9
                  have H9 := HE.out W9 hW9
                  go_wp2_with fail
                  go_ret
                  exact ⟨rfl, H9⟩
            · obtain rfl : i = R.L.length := by omega
              obtain ⟨y1, y2⟩ := dec_ler hlt
              have hmade : madeL R.L n = R1.L.take R.L.length ++ (n, []) :: R1.L.drop R.L.length := by
                obtain ⟨e1, e2⟩ := while_at (L := R1.L) (f := fun p => decide (p.1 < n)) (fun j p hp hj => decide_eq_true (HP.out j p hp hj)) (fun p' hp' => by have := (List.getElem?_eq_some_iff.1 hp').1; rw [HTK.out] at this; omega) (by rw [HTK.out]; exact hi)
                unfold madeL
                rw [HTK.out] at e1 e2
                rw [e1, e2, HTK.out]
              have HMD := Lib.hid hmade
              have HI9 := Lib.hid hi
              clear hlt HP hmade
              go_upto_region 17 with fail
              refine wp_region_held_drew (S := fun _ => True) (by kernel_rfl) trivial (fun _ => ?_)
              have hSd := HS.out.drew
              generalize World.drew wr = Wd at *
              obtain ⟨a2, k2, s1, m1, l1, w5, s2, m2, l2, w6, hx2, hz, r1, r2, ⟨e0, e1, e2, e3, f3⟩, HE⟩ := hSd.last (by rw [HTK.out]; exact HLW.out.2.2) (by rw [HTK.out]; exact HI9.out) n
              clear hSd
              rw [HTK.out] at hx2 hz r2 HE
              simp only [Value.slice.injEq] at hx2
              obtain ⟨rfl, -, rfl⟩ := hx2
              rw [HTK.out] at HMD
              rw [← HMD.out] at HE
              generalize (if c = R.L.length then a else (a : Option Addr).map (·.add (R.L.length * 2))) = sx at hz r2
              clear d1
              rw [Nat.sub_self] at r2
              simp only [Nat.sub_self] at hz
              change (Builtin.append_ #[101, 101] 101 #[_, .slice (some ⟨Wd.heap.size, 0, none⟩) 1 1]).run Tryz.prog (Wd.alloc (.cells #[.int .i64 n, .string ⟨#[]⟩] 107)) = _ at r1
              change (Wd.alloc (.cells #[.int .i64 n, .string ⟨#[]⟩] 107)).cell? _ = _ at e1
              refine tk 0 rfl (fun _ _ _ h => h) trivial ?_
              refine tk 1 rfl (fun _ _ _ h => h) trivial ?_
              refine tk 2 rfl (fun _ _ _ h => h) trivial ?_
              refine tk 3 rfl (fun _ _ _ h => h) trivial ?_
              refine tk 6 rfl (fun _ _ _ h => h) trivial ?_
              refine tk 7 rfl (fun _ _ _ h => h) trivial ?_
              refine tk 8 rfl (fun _ _ _ h => h) trivial ?_
              refine tk 10 rfl (fun _ _ _ h => h) trivial ?_
              refine tk 11 rfl (fun _ _ _ h => h) trivial ?_
              refine rd2 4 9 (fun K hK => ?_) (fun K hK => ?_)
              · go_simp
                refine hK.out _ _ trivial (fun _ => ?_)
                clear hK K
                try simp only [lyA, lyB, lyC, lyD]
                refine rd2 5 9 (fun K hK => ?_) (fun K hK => ?_)
                · ((with_reducible refine step_append_runR ?_ ?_ ?_ 101 101 ?_ _ _ ?_ ?_ _ _ r1 ?_); exact rfl; rotate_left 2; exact rfl; exact rfl; exact rfl)
                  refine hK.out _ _ trivial (fun _ => ?_)
                  clear hK K
                  try simp only [lyA, lyB, lyC, lyD]
                  refine rd1 9 (fun K hK => ?_)
                  have hq := e2
                  go_simp
                  clear hq
                  refine hK.out _ _ trivial (fun _ => ?_)
                  clear hK K
                  try simp only [lyA, lyB, lyC, lyD]
                  refine tk 12 rfl (fun _ _ _ h => h) trivial ?_
                  refine rd1 13 (fun K hK => ?_)
                  ((with_reducible refine step_append_runR ?_ ?_ ?_ 101 101 ?_ _ _ ?_ ?_ _ _ r2 ?_); exact rfl; rotate_left 2; exact rfl; exact rfl; exact rfl)
                  refine hK.out _ _ trivial (fun _ => ?_)
                  clear hK K
                  try simp only [lyA, lyB, lyC, lyD]
                  refine tk 14 rfl (fun _ _ _ h => h) trivial ?_
                  refine tk 15 rfl (fun _ _ _ h => h) trivial ?_
                  refine rd1 16 (fun K hK => ?_)
                  have hq := e3
                  have hq2 := f3
                  go_simp
                  clear hq hq2
                  refine hK.out _ _ trivial (fun _ => ?_)
                  clear hK K
                  try simp only [lyA, lyB, lyC, lyD]
                  refine wpAnyH_done (by kernel_rfl) ?_ _
                  generalize hW9 : World.setCell _ _ _ = W9
                  have H9 := HE.out W9 hW9
                  go_wp2_with fail
                  go_ret
                  exact ⟨rfl, H9⟩
                · have hq := e1
                  go_simp
                  clear hq
                  refine hK.out _ _ trivial (fun _ => ?_)
                  clear hK K
                  try simp only [lyA, lyB, lyC, lyD]
                  refine tk 12 rfl (fun _ _ _ h => h) trivial ?_
                  refine rd1 5 (fun K hK => ?_)
                  ((with_reducible refine step_append_runR ?_ ?_ ?_ 101 101 ?_ _ _ ?_ ?_ _ _ r1 ?_); exact rfl; rotate_left 2; exact rfl; exact rfl; exact rfl)
                  refine hK.out _ _ trivial (fun _ => ?_)
                  clear hK K
                  try simp only [lyA, lyB, lyC, lyD]
                  refine rd1 13 (fun K hK => ?_)
                  ((with_reducible refine step_append_runR ?_ ?_ ?_ 101 101 ?_ _ _ ?_ ?_ _ _ r2 ?_); exact rfl; rotate_left 2; exact rfl; exact rfl; exact rfl)
                  refine hK.out _ _ trivial (fun _ => ?_)
                  clear hK K
                  try simp only [lyA, lyB, lyC, lyD]
                  refine tk 14 rfl (fun _ _ _ h => h) trivial ?_
                  refine tk 15 rfl (fun _ _ _ h => h) trivial ?_
                  refine rd1 16 (fun K hK => ?_)
                  have hq := e3
                  have hq2 := f3
                  go_simp
                  clear hq hq2
                  refine hK.out _ _ trivial (fun _ => ?_)
                  clear hK K
                  try simp only [lyA, lyB, lyC, lyD]
                  refine wpAnyH_done (by kernel_rfl) ?_ _
                  generalize hW9 : World.setCell _ _ _ = W9
                  have H9 := HE.out W9 hW9
                  go_wp2_with fail
                  go_ret
                  exact ⟨rfl, H9⟩
              · have hq := e0
                go_simp
                clear hq
                refine hK.out _ _ trivial (fun _ => ?_)
                clear hK K
                try simp only [lyA, lyB, lyC, lyD]
                refine tk 12 rfl (fun _ _ _ h => h) trivial ?_
                refine rd1 4 (fun K hK => ?_)
                go_simp
                refine hK.out _ _ trivial (fun _ => ?_)
                clear hK K
                try simp only [lyA, lyB, lyC, lyD]
                refine rd1 5 (fun K hK => ?_)
                ((with_reducible refine step_append_runR ?_ ?_ ?_ 101 101 ?_ _ _ ?_ ?_ _ _ r1 ?_); exact rfl; rotate_left 2; exact rfl; exact rfl; exact rfl)
                refine hK.out _ _ trivial (fun _ => ?_)
                clear hK K
                try simp only [lyA, lyB, lyC, lyD]
                refine rd1 13 (fun K hK => ?_)
                ((with_reducible refine step_append_runR ?_ ?_ ?_ 101 101 ?_ _ _ ?_ ?_ _ _ r2 ?_); exact rfl; rotate_left 2; exact rfl; exact rfl; exact rfl)
                refine hK.out _ _ trivial (fun _ => ?_)
                clear hK K
                try simp only [lyA, lyB, lyC, lyD]
                refine tk 14 rfl (fun _ _ _ h => h) trivial ?_
                refine tk 15 rfl (fun _ _ _ h => h) trivial ?_
                refine rd1 16 (fun K hK => ?_)
                have hq := e3
                have hq2 := f3
                go_simp
                clear hq hq2
                refine hK.out _ _ trivial (fun _ => ?_)
                clear hK K
                try simp only [lyA, lyB, lyC, lyD]
                refine wpAnyH_done (by kernel_rfl) ?_ _
                generalize hW9 : World.setCell _ _ _ = W9
                have H9 := HE.out W9 hW9
                go_wp2_with fail
                go_ret
                exact ⟨rfl, H9⟩
end
end Go.Proofs.YtlgeijbgkipliaaGreatDoor

namespace Go.Proofs.YtlgeijbgkipliaaGreatDoor
open Go.RowKit
theorem info_i64 : (Tryz.prog.info? 3).map (fun i => (i.zero, i.size, i.bytes)) = some (some (.int .i64 0), 1, 8) := by kernel_rfl
theorem icells_append (l m : List Int) : icells (l ++ m) = icells l ++ icells m := by simp [icells]
theorem icells_one (l : List Int) : ∀ u ∈ icells l, u.oneCell' = true := by
  intro u hu
  unfold icells at hu
  simp only [List.mem_map] at hu
  obtain ⟨p, _, rfl⟩ := hu
  rfl
theorem int_append {w : World} {v : Value} {L : List Int} (p : Int) (hL : L.length ≤ 100000000) (hrow : Row w 3 1 v (icells L)) :
    ∃ sa n cap w3, (Builtin.append_ #[83, 83] 83 #[v, .slice (some ⟨w.heap.size, 0, none⟩) 1 1]).run Tryz.prog (w.alloc (.cells #[.int .i64 p] 3)) = .ok (.slice sa n cap) w3 ∧
      Row w3 3 1 (.slice sa n cap) (icells (L ++ [p])) ∧ Kept (fun x => v.ownBlock = some x) w w3 ∧ ∀ k, (Value.slice sa n cap).ownBlock = some k → v.ownBlock = some k ∨ w.heap.size ≤ k := by
  obtain ⟨i0, hi, hz0, hz1, hz2⟩ := info_parts info_i64
  have hnew := Blk.new w [.int .i64 p] 3
  have hal : Kept (fun _ => False) w (w.alloc (.cells #[.int .i64 p] 3)) := (Kept.refl _ _).alloc _
  have hkl : (icells L).length = L.length := icells_len L
  obtain ⟨v', w3, hrun, hrow3, hk3, hf3⟩ := Row.append_cells (P := Tryz.prog) (t := 83) (hrow.kept hal (fun _ _ => id)) Tryz.underlying83 hi hz0 hz1 rfl (by decide) (by rw [hz2]; decide) ⟨w.heap.size, 0, none⟩ 1 1 [.int .i64 p] rfl
    (fun j u hu => by rw [addr0_add]; exact hnew.cell hu) (fun u hu => by simp at hu; rcases hu with rfl; rfl) (by decide) (by simp; omega) 83
  obtain ⟨sa, n, cap, rfl, _⟩ := hrow3.form (by omega)
  refine ⟨sa, n, cap, w3, hrun, ?_, (hal.mono (fun _ _ => False.elim)).trans hk3, fun k hk => (hf3 k hk).imp id (fun q => by have := hal.size; omega)⟩
  rw [icells_append]
  exact hrow3
theorem ints_append {w : World} {v u : Value} {L M : List Int} (hL : L.length + M.length ≤ 100000000) (hrow : Row w 3 1 v (icells L)) (hview : View w 1 u (icells M)) :
    ∃ sa n cap w3, (Builtin.append_ #[83, 83] 83 #[v, u]).run Tryz.prog w = .ok (.slice sa n cap) w3 ∧
      Row w3 3 1 (.slice sa n cap) (icells (L ++ M)) ∧ Kept (fun x => v.ownBlock = some x) w w3 ∧ ∀ k, (Value.slice sa n cap).ownBlock = some k → v.ownBlock = some k ∨ w.heap.size ≤ k := by
  obtain ⟨i0, hi, hz0, hz1, hz2⟩ := info_parts info_i64
  have hkl : (icells L).length = L.length := icells_len L
  have hkm : (icells M).length = M.length := icells_len M
  obtain ⟨v', w3, hrun, hrow3, hk3, hf3⟩ := Row.append_view (P := Tryz.prog) (t := 83) hrow hview Tryz.underlying83 hi hz0 hz1 rfl (by decide) (by rw [hz2]; decide) (icells_one M) (by omega) 83
  obtain ⟨sa, n, cap, rfl, _⟩ := hrow3.form (by omega)
  exact ⟨sa, n, cap, w3, hrun, by rw [icells_append]; exact hrow3, hk3, hf3⟩
theorem int_len {w : World} {a : Option Addr} {n c : Nat} {l : List Int} (h : Row w 3 1 (.slice a n c) (icells l)) : n = l.length := by
  obtain ⟨_, n', _, hv, q, _⟩ := h.form (by omega)
  cases hv
  rw [icells_len] at q
  omega
theorem file_len {w : World} {a : Option Addr} {n c : Nat} {l : List (Int × By)} (h : Row w 107 2 (.slice a n c) (fcells l)) : n = l.length := by
  obtain ⟨_, n', _, hv, q, _⟩ := h.form (by omega)
  cases hv
  rw [fcells_len] at q
  omega
def datL (L : List (Int × By)) (i : Nat) : By := (L.getD i (0, [])).2
def setL (L : List (Int × By)) (i : Nat) (b : By) : List (Int × By) := L.set i ((L.getD i (0, [])).1, b)
theorem setL_at {L : List (Int × By)} {i : Nat} {p : Int × By} (hp : L[i]? = some p) (b : By) : setL L i b = L.set i (p.1, b) ∧ datL L i = p.2 := by
  have e : L.getD i (0, []) = p := by rw [List.getD_eq_getElem?_getD, hp]; rfl
  unfold setL datL
  rw [e]
  exact ⟨rfl, rfl⟩
theorem fcells_set {L : List (Int × By)} {i : Nat} {p : Int × By} (hp : L[i]? = some p) (b : By) (rest : List Value) : (fcells L ++ rest).set (i * 2 + 1) (.string (strB b)) = fcells (L.set i (p.1, b)) ++ rest := by
  induction L generalizing i with
  | nil => simp at hp
  | cons a r ih =>
    cases i with
    | zero =>
      simp at hp
      subst hp
      rw [List.set_cons_zero, fcells_cons, fcells_cons]
      rfl
    | succ i =>
      rw [List.set_cons_succ, fcells_cons, fcells_cons, show (i + 1) * 2 + 1 = i * 2 + 1 + 1 + 1 by omega]
      show _ :: _ :: ((fcells r ++ rest).set (i * 2 + 1) _) = _ :: _ :: (fcells _ ++ rest)
      rw [ih (by simpa using hp)]
theorem file_set {w : World} {g n c i : Nat} {L : List (Int × By)} {p : Int × By} (h : Row w 107 2 (.slice (some ⟨g, 0, none⟩) n c) (fcells L)) (hp : L[i]? = some p) (b : By) :
    w.frozen? ⟨g, i * 2 + 1, none⟩ = false ∧ Row (w.setCell ⟨g, i * 2 + 1, none⟩ (.string (strB b))) 107 2 (.slice (some ⟨g, 0, none⟩) n c) (fcells (L.set i (p.1, b))) := by
  rcases h with ⟨e, _⟩ | ⟨g', n', c', rest, e, h1, hb, h2, h3, h4⟩
  · cases e
  · cases e
    have h9 := hb.set (i * 2 + 1) (.string (strB b))
    rw [fcells_set hp b rest] at h9
    exact ⟨hb.free _, Or.inr ⟨g, n, c, rest, rfl, by rw [fcells_len, List.length_set]; rwa [fcells_len] at h1, h9, h2, by rw [fcells_len, List.length_set]; rwa [fcells_len] at h3, h4⟩⟩
section
variable {w w' W : World} {r : Nat} {R R' : RefM} {x y x' y' v : Value} {l : List Int}
def LooS (w : World) (r : Nat) (R : RefM) (x y : Value) (v : Value) (l : List Int) (W : World) : Prop :=
  IsRef W r R x y ∧ Kept (· = r) w W ∧ Row W 3 1 v (icells l) ∧ (∀ k, v.ownBlock = some k → w.heap.size ≤ k) ∧ ∀ k, refOwn r x y k → k < w.heap.size
theorem LooS.start (h : IsRef w r R x y) : LooS w r R x y (.slice none 0 0) [] w := ⟨h, Kept.refl _ _, Row.nil _ _ _, fun k q => by simp [Value.ownBlock] at q, fun k q => h.lt q⟩
theorem LooS.app (h : LooS w r R x y v l W) (hl : l.length ≤ 100000000) (n : Int) :
    ∃ sa m cap w3, (Builtin.append_ #[83, 83] 83 #[v, .slice (some ⟨W.heap.size, 0, none⟩) 1 1]).run Tryz.prog (W.alloc (.cells #[.int .i64 n] 3)) = .ok (.slice sa m cap) w3 ∧ m = l.length + 1 ∧ Hid (LooS w r R x y (.slice sa m cap) (l ++ [n]) w3) := by
  obtain ⟨h1, h2, h3, h4, h5⟩ := h
  obtain ⟨sa, m, cap, w3, hr, g1, g2, g3⟩ := int_append n hl h3
  exact ⟨sa, m, cap, w3, hr, by rw [int_len g1]; simp, Lib.hid ⟨h1.kept g2 (fun k q e => by have := h4 k e; have := h5 k q; omega), h2.then_ g2 (fun k hk e => by have := h4 k e; omega), g1, fun k e => (g3 k e).elim (h4 k) (fun q => by have := h2.size; omega), h5⟩⟩
theorem LooS.all (h : LooS w r R x y v l W) {m : List Int} {u : Value} (hl : l.length + m.length ≤ 100000000) (hu : View W 1 u (icells m)) :
    ∃ sa k cap w3, (Builtin.append_ #[83, 83] 83 #[v, u]).run Tryz.prog W = .ok (.slice sa k cap) w3 ∧ k = l.length + m.length ∧ Hid (LooS w r R x y (.slice sa k cap) (l ++ m) w3) := by
  obtain ⟨h1, h2, h3, h4, h5⟩ := h
  obtain ⟨sa, m', cap, w3, hr, g1, g2, g3⟩ := ints_append hl h3 hu
  exact ⟨sa, m', cap, w3, hr, by rw [int_len g1]; simp, Lib.hid ⟨h1.kept g2 (fun k q e => by have := h4 k e; have := h5 k q; omega), h2.then_ g2 (fun k hk e => by have := h4 k e; omega), g1, fun k e => (g3 k e).elim (h4 k) (fun q => by have := h2.size; omega), h5⟩⟩
theorem LooS.done (h : LooS w r R x y v l W) : W.cell? ⟨r, 2, none⟩ = some y ∧ W.frozen? ⟨r, 2, none⟩ = false ∧ ∀ W', W.setCell ⟨r, 2, none⟩ v = W' → IsRef W' r { R with loose := l } x v ∧ Kept (· = r) w W' ∧ ∀ k, v.ownBlock = some k → w.heap.size ≤ k := by
  obtain ⟨h1, h2, h3, h4, h5⟩ := h
  refine ⟨h1.blk.cell rfl, h1.blk.free 2, fun W' hW => ?_⟩
  have hk := kept_cell W r 2 v
  have hb := h1.blk.set 2 v
  rw [hW] at hk hb
  have hr := h5 r (Or.inl rfl)
  exact ⟨⟨hb, h1.files.kept hk (fun k q => h1.ne.1 k q), h3.kept hk (fun k q e => by have := h4 k q; have : k = r := e; omega)⟩, h2.then_ hk (fun _ _ q => q), h4⟩
def RefM.append (R : RefM) (n : Int) (s : By) : Int × RefM :=
  if R.down = true then (61, R) else if findV R.L n < 0 then (4, R) else if R.free < (s.length : Int) then (60, R)
  else (0, { R with L := setL R.L (findV R.L n).toNat (datL R.L (findV R.L n).toNat ++ s), loose := R.loose ++ List.replicate s.length n }.tick)
theorem IsRef.relay (h : IsRef w r R x y) (hR : R.L.length ≤ 100) {i : Nat} {p : Int × By} (hp : R.L[i]? = some p) (b : By) :
    ∃ g n c w1, (Builtin.append_ #[101, 101] 101 #[.slice none 0 0, x]).run Tryz.prog w = .ok (.slice (some ⟨g, 0, none⟩) n c) w1 ∧ n = R.L.length ∧ i < n ∧
      w1.cell? ⟨g, i * 2 + 1, none⟩ = some (.string (strB p.2)) ∧ w1.frozen? ⟨g, i * 2 + 1, none⟩ = false ∧ (w1.setCell ⟨g, i * 2 + 1, none⟩ (.string (strB b))).cell? ⟨r, 1, none⟩ = some x ∧ (w1.setCell ⟨g, i * 2 + 1, none⟩ (.string (strB b))).frozen? ⟨r, 1, none⟩ = false ∧
      Hid (∀ W', (w1.setCell ⟨g, i * 2 + 1, none⟩ (.string (strB b))).setCell ⟨r, 1, none⟩ (.slice (some ⟨g, 0, none⟩) n c) = W' → IsRef W' r { R with L := R.L.set i (p.1, b) } (.slice (some ⟨g, 0, none⟩) n c) y ∧ Kept (· = r) w W' ∧ ∀ k, (Value.slice (some ⟨g, 0, none⟩) n c).ownBlock = some k → w.heap.size ≤ k) := by
  have hi := (List.getElem?_eq_some_iff.1 hp).1
  obtain ⟨sa, n, c, w1, hr, g1, g2, g3⟩ := files_append (L := []) (by simp; omega) (Row.nil w _ _) h.files.view
  rw [List.nil_append] at g1
  have hn := file_len g1
  have hK : Kept (fun _ => False) w w1 := g2.mono (fun k _ e => by simp [Value.ownBlock] at e)
  have h1 := h.same hK
  obtain ⟨a', n', c', hv, hn', hml, hcc⟩ := g1.form (by omega)
  cases hv
  obtain ⟨g, rfl, hg, hcell⟩ := hcc (by omega)
  have hgw : ∀ k, (Value.slice (some ⟨g, 0, none⟩) n c).ownBlock = some k → w.heap.size ≤ k := fun k e => (g3 k e).elim (fun q => by simp [Value.ownBlock] at q) id
  have hgg := hgw g hg
  obtain ⟨f1, f2⟩ := file_set g1 hp b
  have hrw := h.blk.lt
  have k1 := kept_cell w1 g (i * 2 + 1) (.string (strB b))
  have h2 : IsRef (w1.setCell ⟨g, i * 2 + 1, none⟩ (.string (strB b))) r R x y := h1.kept k1 (fun k q e => by have := h.lt q; have : k = g := e; omega)
  refine ⟨g, n, c, w1, hr, hn, by omega, hcell _ _ (fcells_get _ _ _ hp).2, f1, h2.blk.cell rfl, h2.blk.free 1, Lib.hid (fun W' hW => ?_)⟩
  have k2 := kept_cell (w1.setCell ⟨g, i * 2 + 1, none⟩ (.string (strB b))) r 1 (.slice (some ⟨g, 0, none⟩) n c)
  have hb := h2.blk.set 1 (.slice (some ⟨g, 0, none⟩) n c)
  rw [hW] at k2 hb
  refine ⟨⟨hb, f2.kept k2 (fun k q e => by have := hgw k q; have : k = r := e; omega), h2.loose.kept k2 (fun k q => h2.ne.2 k q)⟩, ?_, hgw⟩
  exact ((hK.mono (S' := (· = r)) (fun _ _ => False.elim)).then_ k1 (fun k hk e => by have : k = g := e; omega)).then_ k2 (fun _ _ q => q)
end
end Go.Proofs.YtlgeijbgkipliaaGreatDoor

namespace Go.Proofs.YtlgeijbgkipliaaGreatDoor
open Go.RowKit
section
variable {w w' W : World} {r : Nat} {R R' : RefM} {x y x' y' v : Value} {l : List Int}
theorem at_up (hd : R.down = false) (n : Int) : R.at_ n = if findV R.L n < 0 then (-1, 4) else (findV R.L n, 0) := by
  unfold RefM.at_
  rw [if_neg (by rw [hd]; simp)]
theorem replicate_snoc (k : Nat) (n : Int) : List.replicate k n ++ [n] = List.replicate (k + 1) n := by rw [List.replicate_succ']
theorem append_okr {R R1 : RefM} (hR : R.Ok) (hR1 : R1 = { R with L := R1.L }) {l : List Int} {R2 : RefM} (h2 : R2 = { R1 with loose := l }) : 0 ≤ R2.fails ∧ R2.fails ≤ 2000000000000 := by
  rw [h2]
  show 0 ≤ R1.fails ∧ _
  rw [hR1]
  exact hR.fail0
set_option maxRecDepth 100000 in
set_option maxHeartbeats 4000000 in
theorem append_ref (h : IsRef w r R x y) (hR : R.Ok) (hs : R.sinks = false) (n : Int) (s : By) (hsl : s.length ≤ 2000000) {e0 : Int} (he : R.append n s = (e0, R')) :
    Calls Tryz.prog 14 #[.pointer (some ⟨r, 0, none⟩), .int .i64 n, .string (strB s)] w fun e w' => e = .returned (.int .i64 e0) ∧ RefTo w r x y R' w' := by
  have HT := Lib.hid (RefTo.self h)
  unfold RefM.append at he
  cases hd : R.down with
  | true =>
    rw [if_pos hd] at he
    cases he
    have HAT := Lib.hid (at_ref h hR.few n (i := -1) (e0 := 61) (by unfold RefM.at_; rw [if_pos hd]))
    clear h hR hs hd hsl
    go_enter Tryz.func14, Tryz.ntmps14
    go_wp2_with (go_at_call 43; refine HAT.out.mono ?_; rintro e w' ⟨rfl, rfl⟩)
    go_ret
    exact ⟨rfl, HT.out⟩
  | false =>
    rw [if_neg (by rw [hd]; simp)] at he
    have hat := at_up hd n
    rcases findV_cases R.L n with ⟨hf, _⟩ | ⟨i, p, hf, hp, hpn⟩
    · rw [if_pos (by omega)] at he hat
      cases he
      have HAT := Lib.hid (at_ref h hR.few n hat)
      clear h hR hs hd hsl hat hf
      go_enter Tryz.func14, Tryz.ntmps14
      go_wp2_with (go_at_call 43; refine HAT.out.mono ?_; rintro e w' ⟨rfl, rfl⟩)
      go_ret
      exact ⟨rfl, HT.out⟩
    · rw [if_neg (by omega), hf] at he hat
      have HAT := Lib.hid (at_ref h hR.few n hat)
      have HFR := Lib.hid (free_ref h hR)
      obtain ⟨bs, hbs⟩ : ∃ bs, strB s = bs := ⟨_, rfl⟩
      have hbl : bs.size = s.length := by rw [← hbs]; exact strB_size s
      by_cases hfr : R.free < (s.length : Int)
      · rw [if_pos hfr] at he
        cases he
        have z1 : decide (R.free < (bs.size : Int)) = true := decide_eq_true (by rw [hbl]; exact hfr)
        rw [hbs]
        clear h hR hs hd hsl hat hf hp hpn hfr hbs hbl
        generalize R.free = F at *
        go_enter Tryz.func14, Tryz.ntmps14
        go_wp2_with (first
          | (go_at_call 43; refine HAT.out.mono ?_; rintro e w' ⟨rfl, rfl⟩)
          | (go_at_call 47; refine HFR.out.mono ?_; rintro e w' ⟨rfl, rfl⟩))
        go_ret
        exact ⟨rfl, HT.out⟩
      · rw [if_neg hfr] at he
        cases he
        have z1 : decide (R.free < (bs.size : Int)) = false := decide_eq_false (by rw [hbl]; exact hfr)
        have z2 : (9223372036854775807 < p.2.length + s.length) = False := eq_false (by have := hR.size p (List.mem_of_getElem? hp); omega)
        obtain ⟨e1, e2⟩ := setL_at hp (p.2 ++ s)
        rw [show ((i : Int)).toNat = i by omega] at *
        obtain ⟨g, m, c, w1, hr, hm, him, c1, f1, c2, f2, HE⟩ := h.relay hR.few hp (p.2 ++ s)
        have e3 : strB (p.2 ++ s) = strB p.2 ++ bs := by rw [← hbs]; exact (bstr_cat _ _).symm
        rw [e3] at HE c2 f2
        have hbp : (strB p.2).size = p.2.length := strB_size p.2
        obtain ⟨bp, hbpe⟩ : ∃ bp, strB p.2 = bp := ⟨_, rfl⟩
        rw [hbpe] at c1 c2 f2 HE hbp
        rw [← hbp, ← hbl] at z2
        have c0 := h.blk.cell (i := 1) rfl
        have him2 : ((i : Int) < (m : Int)) = True := eq_true (by omega)
        have HD := Lib.hid (And.intro hs (And.intro hR (And.intro hp (And.intro hsl (And.intro hbl (And.intro hpn (And.intro e1 e2)))))))
        rw [hbs]
        clear h hR hs hd hsl hat hf hfr hbs hbl e1 e2 e3 hbp hbpe hm hp hpn
        go_enter Tryz.func14, Tryz.ntmps14
        go_upto_region 9 with (first
          | (go_at_call 43; refine HAT.out.mono ?_; rintro e w' ⟨rfl, rfl⟩)
          | (go_at_call 47; refine HFR.out.mono ?_; rintro e w' ⟨rfl, rfl⟩)
          | (at_builtin; refine Lib.wpList_append_run _ rfl _ _ 101 101 rfl _ _ rfl rfl _ _ hr ?_))
        generalize hW3 : World.setCell _ _ _ = W3
        obtain ⟨g1, g2, g3⟩ := HE.out W3 hW3
        obtain ⟨R1, hR1⟩ : ∃ R1 : RefM, R1 = { R with L := R.L.set i (p.1, p.2 ++ s) } := ⟨_, rfl⟩
        have hlo : R1.loose = R.loose := by rw [hR1]
        rw [← hR1] at g1
        obtain ⟨ya, yc, rfl, -⟩ := g1.lform
        have d2 := g1.blk.cell (i := 2) rfl
        obtain ⟨sa, k9, cap, w4, ha, hk9, HL⟩ := (LooS.start g1).all (by have := HD.out.2.1.loo; rw [hlo]; simp; omega) g1.loose.view
        rw [List.nil_append] at HL
        rw [List.length_nil, Nat.zero_add] at hk9
        subst hk9
        have HG := Lib.hid (And.intro g2 (And.intro g3 (And.intro hR1 hlo)))
        clear g1 g2 g3 hR1 hlo hW3 c0 c1 c2 f1 f2 z1 z2 him2 HE HAT HFR hr
        go_upto_region 10 with (at_builtin; refine Lib.wpList_append_run _ rfl _ _ 83 83 rfl _ _ rfl rfl _ _ ha ?_)
        clear ha d2
        have hbs2 : bs.size ≤ 2000000 := by have := HD.out.2.2.2.1; have := HD.out.2.2.2.2.1; omega
        go_wp2_with fail
        go_loopw [10, 11] (fun z10 z11 wr => ∃ (k : Nat) (sa : Option Addr) (m9 sc : Nat), k ≤ bs.size ∧ z10 = .slice sa m9 sc ∧ z11 = .int .i64 (k : Int) ∧ Hid (LooS W3 r R1 (.slice (some ⟨g, 0, none⟩) m c) (.slice ya R1.loose.length yc) (.slice sa m9 sc) (R1.loose ++ List.replicate k n) wr)) (fun _ z11 _ => bs.size - (intOf z11).toNat)
        case atStart => exact ⟨0, sa, _, cap, Nat.zero_le _, rfl, rfl, by rw [List.replicate_zero, List.append_nil]; exact HL⟩
        case round =>
          obtain ⟨k, sb, m9, sc, hk, rfl, rfl, HS⟩ := hrel
          by_cases hlt : k < bs.size
          · obtain ⟨y1, y2⟩ := dec_gtr hlt
            obtain ⟨sd, m8, sc8, w5, hap, -, HS5⟩ := HS.out.app (by have := HD.out.2.1.loo; have := HG.out.2.2.2; rw [List.length_append, List.length_replicate, this]; omega) n
            rw [List.append_assoc, replicate_snoc] at HS5
            have HLT := Lib.hid hlt
            clear hk
            go_wp2_with (at_builtin; refine Lib.wpList_append_run _ rfl _ _ 83 83 rfl _ _ rfl rfl _ _ hap ?_)
            go_roundw
            case rel => exact ⟨k + 1, sd, m8, sc8, HLT.out, rfl, by go_num, HS5⟩
            case measure => have := HLT.out; simp [intOf]; omega
          · obtain rfl : k = bs.size := by omega
            obtain ⟨y1, y2⟩ := dec_ler hlt
            obtain ⟨d2, f2, hdone⟩ := HS.out.done
            have HDN := Lib.hid hdone
            clear hlt hk hdone
            go_upto_region 15 with fail
            generalize hW6 : World.setCell _ _ _ = W6
            obtain ⟨g1, g2, g3⟩ := HDN.out W6 hW6
            have hf := fails_ref g1 (append_okr HD.out.2.1 (by rw [HG.out.2.2.1]) rfl)
            have e9 : RefM.sinks { R1 with loose := R1.loose ++ List.replicate bs.size n } = R.sinks := by rw [HG.out.2.2.1]; rfl
            rw [e9, HD.out.1] at hf
            have HF := Lib.hid hf
            have HK := Lib.hid (And.intro g2 g3)
            clear g1 g2 g3 hf e9 hW6 d2 f2 y1 y2
            go_wp2_with (go_at_call 44; refine HF.out.mono ?_; rintro e w7 ⟨rfl, g1, g2⟩; have H7 := Lib.hid (And.intro g1 g2); clear g1 g2)
            go_ret
            refine ⟨rfl, _, _, ?_, HG.out.1.then_ (HK.out.1.then_ H7.out.2 (fun _ _ q => q)) (fun _ _ q => q), fun k q => Or.inr (HG.out.2.1 k q), fun k q => Or.inr (by have := HK.out.2 k q; have := HG.out.1.size; omega)⟩
            have h9 := H7.out.1
            rw [HD.out.2.2.2.2.2.2.2, HD.out.2.2.2.2.2.2.1]
            rw [HD.out.2.2.2.2.1, HG.out.2.2.1] at h9
            exact h9
end
end Go.Proofs.YtlgeijbgkipliaaGreatDoor

namespace Go.Proofs.YtlgeijbgkipliaaGreatDoor
open Go.RowKit
def cutStep (n : Int) (st : Int × List Int) (a : Int) : Int × List Int := if a = n ∧ 0 < st.1 then (st.1 - 1, st.2) else (st.1, st.2 ++ [a])
def cutF11 (n less : Int) (l : List Int) : Int × List Int := l.foldl (cutStep n) (less, [])
def cutR (n less : Int) (l : List Int) : List Int := (cutF11 n less l.reverse).2.reverse
theorem cutF11_snoc (n less : Int) (l : List Int) (a : Int) : cutF11 n less (l ++ [a]) = cutStep n (cutF11 n less l) a := by simp [cutF11]
theorem drop_rev {l : List Int} {j : Nat} {a : Int} (h : l[j]? = some a) : (l.drop j).reverse = (l.drop (j + 1)).reverse ++ [a] := by
  obtain ⟨hj, e⟩ := List.getElem?_eq_some_iff.1 h
  rw [List.drop_eq_getElem_cons hj, e, List.reverse_cons]
theorem cutStep_len (n : Int) (st : Int × List Int) (a : Int) : (cutStep n st a).2.length ≤ st.2.length + 1 := by
  unfold cutStep
  split
  · simp only; omega
  · simp only [List.length_append, List.length_singleton]; omega
theorem cutStep_less (n : Int) (st : Int × List Int) (a : Int) (h : 0 ≤ st.1) : 0 ≤ (cutStep n st a).1 ∧ (cutStep n st a).1 ≤ st.1 := by
  unfold cutStep
  split
  · rename_i q; simp only; omega
  · simp only; omega
theorem cutF11_len (n less : Int) (l : List Int) : (cutF11 n less l).2.length ≤ l.length := by
  have h : ∀ (l : List Int) (st : Int × List Int), (l.foldl (cutStep n) st).2.length ≤ st.2.length + l.length := by
    intro l
    induction l with
    | nil => intro st; simp
    | cons a l ih =>
      intro st
      have h1 := ih (cutStep n st a)
      have h2 := cutStep_len n st a
      rw [List.foldl_cons, List.length_cons]
      omega
  have := h l (less, [])
  simpa [cutF11] using this
theorem cutF11_less (n less : Int) (l : List Int) (h0 : 0 ≤ less) : 0 ≤ (cutF11 n less l).1 ∧ (cutF11 n less l).1 ≤ less := by
  have h : ∀ (l : List Int) (st : Int × List Int), 0 ≤ st.1 → 0 ≤ (l.foldl (cutStep n) st).1 ∧ (l.foldl (cutStep n) st).1 ≤ st.1 := by
    intro l
    induction l with
    | nil => intro st h; simp; exact h
    | cons a l ih =>
      intro st h
      have h1 := cutStep_less n st a h
      have h2 := ih (cutStep n st a) h1.1
      rw [List.foldl_cons]
      omega
  exact h l (less, []) h0
section
variable {w w' W : World} {r : Nat} {R R' : RefM} {x y x' y' v : Value} {l : List Int}
theorem LooS.cell (h : LooS w r R x y v l W) : ∃ a c, v = .slice a l.length c ∧ ∀ (i : Nat) (n : Int), l[i]? = some n → ∃ g, a = some ⟨g, 0, none⟩ ∧ W.cell? ⟨g, i, none⟩ = some (.int .i64 n) := by
  obtain ⟨a, n, c, rfl, hn, _, hc⟩ := h.2.2.1.form (by omega)
  rw [icells_len] at hn
  obtain rfl : n = l.length := by omega
  refine ⟨a, c, rfl, fun i p hp => ?_⟩
  have hi := (List.getElem?_eq_some_iff.1 hp).1
  obtain ⟨g, rfl, _, hg⟩ := hc (by omega)
  exact ⟨g, rfl, hg i _ (by unfold icells; rw [List.getElem?_map, hp]; rfl)⟩
set_option maxRecDepth 100000 in
set_option maxHeartbeats 4000000 in
theorem cut_ref (h : IsRef w r R x y) (hl : R.loose.length ≤ 10000000) (n less : Int) (h0 : 0 ≤ less ∧ less ≤ 100000000) :
    Calls Tryz.prog 99 #[.pointer (some ⟨r, 0, none⟩), .int .i64 n, .int .i64 less] w fun e w' => e = .returned (.tuple #[]) ∧ ∃ y', IsRef w' r { R with loose := cutR n less R.loose } x y' ∧ Kept (· = r) w w' ∧ ∀ k, y'.ownBlock = some k → w.heap.size ≤ k := by
  obtain ⟨a, c, rfl, hc⟩ := h.lform
  have c2 := h.blk.cell (i := 2) rfl
  have HS0 := Lib.hid (LooS.start h)
  have HC := Lib.hid hc
  clear h hc
  go_enter Tryz.func99, Tryz.ntmps99
  go_wp2_with fail
  go_loopw [2, 6, 7] (fun z2 z6 z7 wr => ∃ (j : Nat) (sa : Option Addr) (sc : Nat), j ≤ R.loose.length ∧ z2 = .int .i64 (cutF11 n less (R.loose.drop j).reverse).1 ∧ z6 = .slice sa (cutF11 n less (R.loose.drop j).reverse).2.length sc ∧ z7 = .int .i64 ((j : Int) - 1) ∧ Hid (LooS w r R x (.slice a R.loose.length c) (.slice sa (cutF11 n less (R.loose.drop j).reverse).2.length sc) (cutF11 n less (R.loose.drop j).reverse).2 wr)) (fun _ _ z7 _ => ((intOf z7) + 1).toNat)
  case atStart => exact ⟨R.loose.length, none, 0, Nat.le_refl _, by simp [cutF11], by simp [cutF11], by first | rfl | (congr 1; exact IntWalk.wrap64_in _ (by omega)) | (rw [IntWalk.wrap64_in _ (by omega)]), by simp only [List.drop_length, List.reverse_nil]; exact HS0⟩
  case round =>
    obtain ⟨j, sa, sc, hj, rfl, rfl, rfl, HS⟩ := hrel
    have hlen := cutF11_len n less (R.loose.drop j).reverse
    have hless := cutF11_less n less (R.loose.drop j).reverse h0.1
    rw [List.length_reverse, List.length_drop] at hlen
    obtain ⟨st, hst⟩ : ∃ st, cutF11 n less (R.loose.drop j).reverse = st := ⟨_, rfl⟩
    rw [hst] at HS hlen hless ⊢
    have HJ := Lib.hid (And.intro hj (And.intro hlen (And.intro hless hst)))
    rcases j with _ | j
    · obtain ⟨l2, hl2⟩ : ∃ l2, l2 = st.2 := ⟨_, rfl⟩
      have hcut : cutR n less R.loose = l2.reverse := by
        unfold cutR
        rw [hl2, ← hst, List.drop_zero]
      have hl2b : l2.length ≤ 10000000 := by rw [hl2]; omega
      rw [← hl2] at HS
      have HCU := Lib.hid hcut
      obtain ⟨_, _, hq, hcells⟩ := HS.out.cell
      simp only [Value.slice.injEq] at hq
      obtain ⟨rfl, -, rfl⟩ := hq
      obtain ⟨s1, hs1⟩ : ∃ s1 : Int, s1 = st.1 := ⟨_, rfl⟩
      rw [← hs1, ← hl2]
      have HCB := Lib.hid hcells
      have HS2 := Lib.hid (LooS.start HS.out.1)
      clear hj hlen hless hst HJ hcells hcut hl2 hs1 HS0
      rw [show ((0 : Nat) : Int) - 1 = -1 from rfl]
      go_wp2_with fail
      go_loopw [8, 9] (fun z8 z9 wq => ∃ (j : Nat) (sb : Option Addr) (m sd : Nat), j ≤ l2.length ∧ z8 = .slice sb m sd ∧ z9 = .int .i64 ((j : Int) - 1) ∧ Hid (LooS wr r R x (.slice a R.loose.length c) (.slice sb m sd) (l2.drop j).reverse wq)) (fun _ z9 _ => ((intOf z9) + 1).toNat)
      case atStart => exact ⟨l2.length, none, 0, 0, Nat.le_refl _, rfl, by first | rfl | (rw [IntWalk.wrap64_in _ (by omega)]), by simp only [List.drop_length, List.reverse_nil]; exact HS2⟩
      case round =>
        obtain ⟨j, sb, m, sd, hj, rfl, rfl, HT⟩ := hrel
        rcases j with _ | j
        · have z1 : decide ((0 : Int) ≤ ((0 : Nat) : Int) - 1) = false := by decide
          obtain ⟨d2, f2, hdone⟩ := HT.out.done
          have HDN := Lib.hid hdone
          clear hdone hj
          go_wp2_with fail
          generalize hW : World.setCell _ _ _ = W9
          obtain ⟨g1, g2, g3⟩ := HDN.out W9 hW
          go_end0
          refine ⟨rfl, _, ?_, HS.out.2.1.then_ g2 (fun _ _ q => q), fun k q => by have := g3 k q; have := HS.out.2.1.size; omega⟩
          rw [HCU.out]
          exact g1
        · have z1 : decide ((0 : Int) ≤ ((j + 1 : Nat) : Int) - 1) = true := decide_eq_true (by omega)
          obtain ⟨v, hv⟩ : ∃ v, l2[j]? = some v := ⟨_, List.getElem?_eq_getElem (by omega)⟩
          obtain ⟨g, rfl, hg⟩ := HCB.out j v hv
          have hgr : g ≠ r := HS.out.2.2.1.ne_blk (k := g) rfl HS.out.1.blk (by decide)
          have hgq := HT.out.2.1.cell hg (fun e => hgr e)
          have hjl : ((j : Int) < (l2.length : Int)) = True := eq_true (by omega)
          have hjb : j ≤ 10000000 := by omega
          rw [show ((j + 1 : Nat) : Int) - 1 = (j : Int) by omega] at z1 ⊢
          obtain ⟨sc9, m9, cap9, w5, hap, -, HT5⟩ := HT.out.app (by rw [List.length_reverse, List.length_drop]; omega) v
          rw [← drop_rev hv] at HT5
          have HJ2 := Lib.hid (show j ≤ l2.length by omega)
          clear hg hgr hj hv
          go_wp2_with (at_builtin; refine Lib.wpList_append_run _ rfl _ _ 83 83 rfl _ _ rfl rfl _ _ hap ?_)
          go_roundw
          case rel => exact ⟨j, sc9, m9, cap9, HJ2.out, rfl, by go_num, HT5⟩
          case measure => first | (simp [intOf]; done) | (simp [intOf]; omega)
    · have z1 : decide ((0 : Int) ≤ ((j + 1 : Nat) : Int) - 1) = true := decide_eq_true (by omega)
      obtain ⟨v, hv⟩ : ∃ v, R.loose[j]? = some v := ⟨_, List.getElem?_eq_getElem (by omega)⟩
      obtain ⟨a', c', hq, hcells⟩ := HS.out.1.lform
      simp only [Value.slice.injEq] at hq
      obtain ⟨rfl, -, rfl⟩ := hq
      obtain ⟨g, rfl, hg⟩ := hcells j v hv
      have d2 := HS.out.1.blk.cell (i := 2) rfl
      have hjl : ((j : Int) < (R.loose.length : Int)) = True := eq_true (by omega)
      have hjb : j ≤ 10000000 := by omega
      rw [show ((j + 1 : Nat) : Int) - 1 = (j : Int) by omega] at z1 ⊢
      have hst2 : cutF11 n less (R.loose.drop j).reverse = cutStep n st v := by rw [drop_rev hv, cutF11_snoc, hst]
      have HST := Lib.hid hst2
      obtain ⟨s1, l1⟩ := st
      dsimp only at HS hlen hless ⊢
      have HJ2 := Lib.hid (show j ≤ R.loose.length by omega)
      by_cases hb : v = n ∧ 0 < s1
      · have z2 : (v == n) = true := by simpa using hb.1
        have z3 : decide (0 < s1) = true := decide_eq_true hb.2
        have hs1 : 0 ≤ s1 ∧ s1 ≤ 100000000 := by omega
        have hE : cutStep n (s1, l1) v = (s1 - 1, l1) := by unfold cutStep; rw [if_pos hb]
        rw [hE] at HST
        clear hb hE hst hst2 HJ hlen hless hcells hv hj
        go_wp2_with fail
        go_roundw
        case rel => exact ⟨j, sa, sc, HJ2.out, by rw [HST.out], by rw [HST.out], by go_num, by rw [HST.out]; exact HS⟩
        case measure => first | (simp [intOf]; done) | (simp [intOf]; omega)
      · have hE : cutStep n (s1, l1) v = (s1, l1 ++ [v]) := by unfold cutStep; rw [if_neg hb]
        rw [hE] at HST
        obtain ⟨sc9, m9, cap9, w5, hap, hm9, HT5⟩ := HS.out.app (by omega) v
        have HM := Lib.hid hm9
        have hs1 : 0 ≤ s1 ∧ s1 ≤ 100000000 := by omega
        by_cases hvn : v = n
        · have z2 : (v == n) = true := by simpa using hvn
          have z3 : decide (0 < s1) = false := decide_eq_false (fun q => hb ⟨hvn, q⟩)
          clear hb hE hst hst2 HJ hlen hless hcells hv hj hvn hm9
          go_wp2_with (at_builtin; refine Lib.wpList_append_run _ rfl _ _ 83 83 rfl _ _ rfl rfl _ _ hap ?_)
          go_roundw
          case rel => exact ⟨j, sc9, cap9, HJ2.out, by rw [HST.out], by rw [HST.out, HM.out]; simp, by go_num, by rw [HST.out]; have := HT5; rw [HM.out] at this; simpa using this⟩
          case measure => first | (simp [intOf]; done) | (simp [intOf]; omega)
        · have z2 : (v == n) = false := by simpa using hvn
          clear hb hE hst hst2 HJ hlen hless hcells hv hj hvn hm9
          go_wp2_with (at_builtin; refine Lib.wpList_append_run _ rfl _ _ 83 83 rfl _ _ rfl rfl _ _ hap ?_)
          go_roundw
          case rel => exact ⟨j, sc9, cap9, HJ2.out, by rw [HST.out], by rw [HST.out, HM.out]; simp, by go_num, by rw [HST.out]; have := HT5; rw [HM.out] at this; simpa using this⟩
          case measure => first | (simp [intOf]; done) | (simp [intOf]; omega)
end
end Go.Proofs.YtlgeijbgkipliaaGreatDoor

namespace Go.Proofs.YtlgeijbgkipliaaGreatDoor
open Go.RowKit
theorem take_strB (l : By) (k : Nat) : (strB l).extract 0 k = strB (l.take k) := bstr_eq (by rw [ByteArray.data_extract, Array.toList_extract]; simp [List.extract_eq_take_drop])
def RefM.truncate (R : RefM) (n size : Int) : Int × RefM :=
  if R.down = true then (61, R) else if findV R.L n < 0 then (4, R) else if size < 0 ∨ ((datL R.L (findV R.L n).toNat).length : Int) < size then (2, R)
  else (0, { R.tick with loose := cutR n ((datL R.L (findV R.L n).toNat).length - size) R.loose, L := setL R.L (findV R.L n).toNat ((datL R.L (findV R.L n).toNat).take size.toNat) })
def RefM.delete (R : RefM) (n : Int) : Int × RefM :=
  if R.down = true then (61, R) else if findV R.L n < 0 then (4, R)
  else (0, { R.tick with loose := cutR n (datL R.L (findV R.L n).toNat).length R.loose, L := R.L.take (findV R.L n).toNat ++ R.L.drop ((findV R.L n).toNat + 1) })
section
variable {w w' W : World} {r : Nat} {R R' : RefM} {x y x' y' v : Value} {l : List Int}
set_option maxRecDepth 100000 in
set_option maxHeartbeats 4000000 in
theorem truncate_ref (h : IsRef w r R x y) (hR : R.Ok) (hs : R.sinks = false) (n size : Int) (hsz : -9223372036854775808 ≤ size ∧ size ≤ 9223372036854775807) {e0 : Int} (he : R.truncate n size = (e0, R')) :
    Calls Tryz.prog 60 #[.pointer (some ⟨r, 0, none⟩), .int .i64 n, .int .i64 size] w fun e w' => e = .returned (.int .i64 e0) ∧ RefTo w r x y R' w' := by
  have HT := Lib.hid (RefTo.self h)
  unfold RefM.truncate at he
  cases hd : R.down with
  | true =>
    rw [if_pos hd] at he
    cases he
    have HAT := Lib.hid (at_ref h hR.few n (i := -1) (e0 := 61) (by unfold RefM.at_; rw [if_pos hd]))
    clear h hR hs hd
    go_enter Tryz.func60, Tryz.ntmps60
    go_wp2_with (go_at_call 43; refine HAT.out.mono ?_; rintro e w' ⟨rfl, rfl⟩)
    go_ret
    exact ⟨rfl, HT.out⟩
  | false =>
    rw [if_neg (by rw [hd]; simp)] at he
    have hat := at_up hd n
    rcases findV_cases R.L n with ⟨hf, _⟩ | ⟨i, p, hf, hp, hpn⟩
    · rw [if_pos (by omega)] at he hat
      cases he
      have HAT := Lib.hid (at_ref h hR.few n hat)
      clear h hR hs hd hat hf
      go_enter Tryz.func60, Tryz.ntmps60
      go_wp2_with (go_at_call 43; refine HAT.out.mono ?_; rintro e w' ⟨rfl, rfl⟩)
      go_ret
      exact ⟨rfl, HT.out⟩
    · rw [if_neg (by omega), hf] at he hat
      rw [show ((i : Int)).toNat = i by omega] at he
      obtain ⟨es, ed⟩ := setL_at hp (p.2.take size.toNat)
      rw [ed, es] at he
      have HAT := Lib.hid (at_ref h hR.few n hat)
      obtain ⟨a, c, rfl, hc⟩ := h.form
      have c1 := h.blk.cell (i := 1) rfl
      obtain ⟨g, rfl, -, q1⟩ := hc i p hp
      have hil : ((i : Int) < (R.L.length : Int)) = True := eq_true (by have := (List.getElem?_eq_some_iff.1 hp).1; omega)
      obtain ⟨bp, hbp⟩ : ∃ bp, strB p.2 = bp := ⟨_, rfl⟩
      have hbl : bp.size = p.2.length := by rw [← hbp]; exact strB_size _
      rw [hbp] at q1
      by_cases hneg : size < 0
      · rw [if_pos (Or.inl hneg)] at he
        cases he
        have z1 : decide (size < 0) = true := decide_eq_true hneg
        clear h hR hs hd hat hf hp hpn hbp hbl hc es ed hneg
        go_enter Tryz.func60, Tryz.ntmps60
        go_wp2_with (go_at_call 43; refine HAT.out.mono ?_; rintro e w' ⟨rfl, rfl⟩)
        go_ret
        exact ⟨rfl, HT.out⟩
      · have z1 : decide (size < 0) = false := decide_eq_false hneg
        by_cases hbig : (p.2.length : Int) < size
        · rw [if_pos (Or.inr hbig)] at he
          cases he
          have z2 : decide ((bp.size : Int) < size) = true := decide_eq_true (by rw [hbl]; exact hbig)
          clear h hR hs hd hat hf hp hpn hbp hbl hc es ed hneg hbig
          go_enter Tryz.func60, Tryz.ntmps60
          go_wp2_with (go_at_call 43; refine HAT.out.mono ?_; rintro e w' ⟨rfl, rfl⟩)
          go_ret
          exact ⟨rfl, HT.out⟩
        · rw [if_neg (by omega)] at he
          cases he
          obtain ⟨k, rfl⟩ : ∃ k : Nat, size = (k : Int) := ⟨size.toNat, by omega⟩
          have hk : k ≤ p.2.length := by omega
          have z2 : decide ((bp.size : Int) < (k : Int)) = false := decide_eq_false (by rw [hbl]; omega)
          have z3 : decide (bp.size < k) = false := decide_eq_false (by rw [hbl]; omega)
          rw [Int.toNat_natCast]
          obtain ⟨t1, t2, t3, t4, t5, t6⟩ := R.tick_eq
          have hf1 := fails_ref h hR.fail0
          rw [hs] at hf1
          have HF := Lib.hid hf1
          obtain ⟨R1, hR1⟩ : ∃ R1, R.tick = R1 := ⟨_, rfl⟩
          rw [hR1] at HF t1 t2
          have hbz : bp.size ≤ 2000000 := by have := hR.size p (List.mem_of_getElem? hp); omega
          have HD := Lib.hid (And.intro hR (And.intro hp (And.intro hpn (And.intro hbp (And.intro hbl (And.intro hk (And.intro t1 (And.intro t2 hR1))))))))
          have hkb : k ≤ 2000000 := by omega
          clear h hR hs hd hat hf hp hpn hbp hbl hc es ed hneg hbig hR1 t1 t2 t3 t4 t5 t6 hf1 HT hk hsz
          go_enter Tryz.func60, Tryz.ntmps60
          go_upto_region 8 with (first
            | (go_at_call 43; refine HAT.out.mono ?_; rintro e w' ⟨rfl, rfl⟩)
            | (go_at_call 44; refine HF.out.mono ?_; rintro e w1 ⟨rfl, g1, g2⟩; have H1 := Lib.hid (And.intro g1 g2); clear g1 g2))
          clear c1 q1 z1 HF HAT
          have d1 := H1.out.1.blk.cell (i := 1) rfl
          obtain ⟨a', c', hq, hcells⟩ := H1.out.1.form
          rw [HD.out.2.2.2.2.2.2.1] at hq hcells
          simp only [Value.slice.injEq] at hq
          obtain ⟨rfl, -, rfl⟩ := hq
          obtain ⟨g', hg, -, q1⟩ := hcells i p HD.out.2.1
          simp only [Option.some.injEq, Addr.mk.injEq, and_true] at hg
          subst hg
          rw [HD.out.2.2.2.1] at q1
          have hct := Lib.hid (cut_ref H1.out.1 (by rw [HD.out.2.2.2.2.2.2.2.1]; exact HD.out.1.loo) n ((p.2.length : Int) - (k : Int)) (by have := HD.out.2.2.2.2.1; have := HD.out.2.2.2.2.2.1; omega))
          clear hcells
          rw [← HD.out.2.2.2.2.1] at hct
          go_upto_region 9 with (go_at_call 99; refine hct.out.mono ?_; rintro e w2 ⟨rfl, y2, g1, g2, g3⟩; have H2 := Lib.hid (And.intro g1 (And.intro g2 g3)); clear g1 g2 g3)
          clear d1 q1 hct z2
          have e2 : (strB (p.2.take k)) = bp.extract 0 k := by rw [← HD.out.2.2.2.1]; exact (take_strB _ _).symm
          obtain ⟨g5, m, c5, w3, hr, hm, him, c1, f1, c2, f2, HE⟩ := H2.out.1.relay (by show R1.L.length ≤ 100; rw [HD.out.2.2.2.2.2.2.1]; exact HD.out.1.few) (i := i) (p := p) (by show R1.L[i]? = some p; rw [HD.out.2.2.2.2.2.2.1]; exact HD.out.2.1) (p.2.take k)
          rw [e2] at c2 f2 HE
          rw [HD.out.2.2.2.1] at c1
          have him2 : ((i : Int) < (m : Int)) = True := eq_true (by omega)
          have d1 := H2.out.1.blk.cell (i := 1) rfl
          have HM := Lib.hid hm
          have hk1 : k ≤ bp.size := by rw [HD.out.2.2.2.2.1]; exact HD.out.2.2.2.2.2.1
          have hk2 : ((k : Int) ≤ (bp.size : Int)) = True := eq_true (by omega)
          clear e2 hm hil
          go_upto_region 12 with (at_builtin; refine Lib.wpList_append_run _ rfl _ _ 101 101 rfl _ _ rfl rfl _ _ hr ?_)
          generalize hW3 : World.setCell _ _ _ = W3
          obtain ⟨g1, g2, g3⟩ := HE.out W3 hW3
          have HG := Lib.hid (And.intro g1 (And.intro g2 g3))
          clear g1 g2 g3 hW3 HE c1 c2 f1 f2 hr d1
          go_wp2_with fail
          go_ret
          refine ⟨rfl, _, _, ?_, (H1.out.2.trans H2.out.2.1).trans HG.out.2.1, fun q e => Or.inr (by have := HG.out.2.2 q e; have := H1.out.2.size; have := H2.out.2.1.size; omega), fun q e => Or.inr (by have := H2.out.2.2 q e; have := H1.out.2.size; omega)⟩
          have h9 := HG.out.1
          rw [HD.out.2.2.2.2.2.2.2.2]
          rw [HD.out.2.2.2.2.1, HD.out.2.2.2.2.2.2.1, HD.out.2.2.2.2.2.2.2.1] at h9
          exact h9
end
end Go.Proofs.YtlgeijbgkipliaaGreatDoor

namespace Go.Proofs.YtlgeijbgkipliaaGreatDoor
open Go.RowKit
section
variable {w w' W : World} {r : Nat} {R R' : RefM} {x y x' y' v : Value} {l : List Int}
theorem IsRef.less (h : IsRef w r R x y) (hR : R.L.length ≤ 100) {i : Nat} (hi : i < R.L.length) :
    ∃ a c s1 m1 c1 w1 s2 m2 c2 w2, x = .slice a R.L.length c ∧
      (∀ w0, (Instr.slice 101 x none (some (.int .i64 (i : Int))) none).run Tryz.prog w0 = .ok (.slice a i c) w0) ∧
      (∀ w0, (Instr.slice 101 x (some (.int .i64 ((i : Int) + 1))) none none).run Tryz.prog w0 = .ok (.slice (if c = i + 1 then a else a.map (·.add ((i + 1) * 2))) (R.L.length - (i + 1)) (c - (i + 1))) w0) ∧
      (Builtin.append_ #[101, 101] 101 #[.slice none 0 0, .slice a i c]).run Tryz.prog w = .ok (.slice s1 m1 c1) w1 ∧
      (Builtin.append_ #[101, 101] 101 #[.slice s1 m1 c1, .slice (if c = i + 1 then a else a.map (·.add ((i + 1) * 2))) (R.L.length - (i + 1)) (c - (i + 1))]).run Tryz.prog w1 = .ok (.slice s2 m2 c2) w2 ∧
      (w.cell? ⟨r, 1, none⟩ = some x ∧ w1.cell? ⟨r, 1, none⟩ = some x ∧ w2.cell? ⟨r, 1, none⟩ = some x ∧ w2.frozen? ⟨r, 1, none⟩ = false) ∧
      Hid (∀ W', w2.setCell ⟨r, 1, none⟩ (.slice s2 m2 c2) = W' → IsRef W' r { R with L := R.L.take i ++ R.L.drop (i + 1) } (.slice s2 m2 c2) y ∧ Kept (· = r) w W' ∧ ∀ k, (Value.slice s2 m2 c2).ownBlock = some k → w.heap.size ≤ k) := by
  obtain ⟨a, c, rfl, -⟩ := h.form
  have hv := h.files.view
  have v1 := hv.head i (by omega)
  rw [fcells_take] at v1
  have hz1 := fun w0 => hv.run_head (P := Tryz.prog) (t := 101) (by kernel_rfl) (fun _ => by kernel_rfl) i (by omega) w0
  have hz2 := fun w0 => hv.run_tail (P := Tryz.prog) (t := 101) (by kernel_rfl) (fun _ => by kernel_rfl) (i + 1) (by omega) w0
  obtain ⟨s1, m1, c1, w1, r1, g1, k1, o1⟩ := files_append (L := []) (by rw [List.length_take]; simp; omega) (Row.nil w _ _) v1
  rw [List.nil_append] at g1
  have hK1 : Kept (fun _ => False) w w1 := k1.mono (fun k _ e => by simp [Value.ownBlock] at e)
  have hk1 := h.same hK1
  have hv1 : View w1 2 (.slice (if c = i + 1 then a else a.map (·.add ((i + 1) * 2))) (R.L.length - (i + 1)) (c - (i + 1))) (fcells (R.L.drop (i + 1))) := by
    have e := hk1.files.view.tail (i + 1) (by omega)
    rwa [fcells_drop] at e
  obtain ⟨s2, m2, c2, w2, r2, g2, k2, o2⟩ := files_append (by simp; omega) g1 hv1
  have ho1 : ∀ k, (Value.slice s1 m1 c1).ownBlock = some k → w.heap.size ≤ k := fun k e => (o1 k e).elim (fun q => by simp [Value.ownBlock] at q) id
  have hk2 : IsRef w2 r R (.slice a R.L.length c) y := hk1.kept k2 (fun k q e => by have := ho1 k e; have := h.lt q; omega)
  have hK2 : Kept (fun _ => False) w w2 := hK1.then_ k2 (fun k hk e => by have := ho1 k e; omega)
  have ho2 : ∀ k, (Value.slice s2 m2 c2).ownBlock = some k → w.heap.size ≤ k := fun k e => (o2 k e).elim (ho1 k) (fun q => by have := hK1.size; omega)
  refine ⟨a, c, s1, m1, c1, w1, s2, m2, c2, w2, rfl, hz1, hz2, r1, r2, ⟨h.blk.cell rfl, hk1.blk.cell rfl, hk2.blk.cell rfl, hk2.blk.free 1⟩, Lib.hid ?_⟩
  intro W' hW
  have hkc := kept_cell w2 r 1 (.slice s2 m2 c2)
  have hb := hk2.blk.set 1 (.slice s2 m2 c2)
  rw [hW] at hkc hb
  have hrr := h.blk.lt
  exact ⟨⟨hb, g2.kept hkc (fun k q e => by have := ho2 k q; have : k = r := e; omega), hk2.loose.kept hkc (fun k q => hk2.ne.2 k q)⟩, (hK2.mono (S' := (· = r)) (fun _ _ => False.elim)).then_ hkc (fun _ _ q => q), ho2⟩
set_option maxRecDepth 100000 in
set_option maxHeartbeats 4000000 in
theorem delete_ref (h : IsRef w r R x y) (hR : R.Ok) (hs : R.sinks = false) (n : Int) {e0 : Int} (he : R.delete n = (e0, R')) :
    Calls Tryz.prog 97 #[.pointer (some ⟨r, 0, none⟩), .int .i64 n] w fun e w' => e = .returned (.int .i64 e0) ∧ RefTo w r x y R' w' := by
  have HT := Lib.hid (RefTo.self h)
  unfold RefM.delete at he
  cases hd : R.down with
  | true =>
    rw [if_pos hd] at he
    cases he
    have HAT := Lib.hid (at_ref h hR.few n (i := -1) (e0 := 61) (by unfold RefM.at_; rw [if_pos hd]))
    clear h hR hs hd
    go_enter Tryz.func97, Tryz.ntmps97
    go_wp2_with (go_at_call 43; refine HAT.out.mono ?_; rintro e w' ⟨rfl, rfl⟩)
    go_ret
    exact ⟨rfl, HT.out⟩
  | false =>
    rw [if_neg (by rw [hd]; simp)] at he
    have hat := at_up hd n
    rcases findV_cases R.L n with ⟨hf, _⟩ | ⟨i, p, hf, hp, hpn⟩
    · rw [if_pos (by omega)] at he hat
      cases he
      have HAT := Lib.hid (at_ref h hR.few n hat)
      clear h hR hs hd hat hf
      go_enter Tryz.func97, Tryz.ntmps97
      go_wp2_with (go_at_call 43; refine HAT.out.mono ?_; rintro e w' ⟨rfl, rfl⟩)
      go_ret
      exact ⟨rfl, HT.out⟩
    · rw [if_neg (by omega), hf] at he hat
      rw [show ((i : Int)).toNat = i by omega] at he
      obtain ⟨-, ed⟩ := setL_at hp []
      rw [ed] at he
      cases he
      have HAT := Lib.hid (at_ref h hR.few n hat)
      have hil := (List.getElem?_eq_some_iff.1 hp).1
      have hil2 : ((i : Int) < (R.L.length : Int)) = True := eq_true (by omega)
      obtain ⟨bp, hbp⟩ : ∃ bp, strB p.2 = bp := ⟨_, rfl⟩
      have hbl : bp.size = p.2.length := by rw [← hbp]; exact strB_size _
      obtain ⟨t1, t2, t3, t4, t5, t6⟩ := R.tick_eq
      have hf1 := fails_ref h hR.fail0
      rw [hs] at hf1
      have HF := Lib.hid hf1
      obtain ⟨R1, hR1⟩ : ∃ R1, R.tick = R1 := ⟨_, rfl⟩
      rw [hR1] at HF t1 t2
      have hbz : bp.size ≤ 2000000 := by have := hR.size p (List.mem_of_getElem? hp); omega
      obtain ⟨a, c, rfl, -⟩ := h.form
      have HD := Lib.hid (And.intro hR (And.intro hp (And.intro hpn (And.intro hbp (And.intro hbl (And.intro t1 (And.intro t2 hR1)))))))
      have HI := Lib.hid hil
      have hfew := hR.few
      clear h hR hs hd hat hf hp hpn hbp hbl ed hR1 t1 t2 t3 t4 t5 t6 hf1 HT hil
      go_enter Tryz.func97, Tryz.ntmps97
      go_upto_region 6 with (first
        | (go_at_call 43; refine HAT.out.mono ?_; rintro e w' ⟨rfl, rfl⟩)
        | (go_at_call 44; refine HF.out.mono ?_; rintro e w1 ⟨rfl, g1, g2⟩; have H1 := Lib.hid (And.intro g1 g2); clear g1 g2))
      clear HF HAT
      have d1 := H1.out.1.blk.cell (i := 1) rfl
      obtain ⟨a', c', hq, hcells⟩ := H1.out.1.form
      rw [HD.out.2.2.2.2.2.1] at hq hcells
      simp only [Value.slice.injEq] at hq
      obtain ⟨rfl, -, rfl⟩ := hq
      obtain ⟨g, rfl, -, q1⟩ := hcells i p HD.out.2.1
      rw [HD.out.2.2.2.1] at q1
      have hct := Lib.hid (cut_ref H1.out.1 (by rw [HD.out.2.2.2.2.2.2.1]; exact HD.out.1.loo) n (bp.size : Int) (by omega))
      clear hcells
      go_upto_region 7 with (go_at_call 99; refine hct.out.mono ?_; rintro e w2 ⟨rfl, y2, g1, g2, g3⟩; have H2 := Lib.hid (And.intro g1 (And.intro g2 g3)); clear g1 g2 g3)
      clear d1 q1 hct
      refine wp_region_held_drew (S := fun _ => True) (by kernel_rfl) trivial (fun _ => ?_)
      have hSd := H2.out.1.same (Kept.refl _ _).drew
      have hKd : Kept (fun _ => False) w2 w2.drew := (Kept.refl _ _).drew
      generalize World.drew w2 = Wd at *
      obtain ⟨a2, k2, s1, m1, l1, w5, s2, m2, l2, w6, hx2, hz1, hz2, r1, r2, ⟨e0, e1, e2, f2⟩, HE0⟩ := hSd.less (by show R1.L.length ≤ 100; rw [HD.out.2.2.2.2.2.1]; exact HD.out.1.few) (i := i) (by show i < R1.L.length; rw [HD.out.2.2.2.2.2.1]; exact HI.out)
      have HE : Hid (∀ W', w6.setCell ⟨r, 1, none⟩ (.slice s2 m2 l2) = W' → IsRef W' r { R1 with loose := cutR n (bp.size : Int) R1.loose, L := R1.L.take i ++ R1.L.drop (i + 1) } (.slice s2 m2 l2) y2 ∧ Kept (· = r) w2 W' ∧ ∀ k, (Value.slice s2 m2 l2).ownBlock = some k → w2.heap.size ≤ k) := Lib.hid (fun W' hW => by
        obtain ⟨g1, g2, g3⟩ := HE0.out W' hW
        exact ⟨g1, (hKd.mono (S' := (· = r)) (fun _ _ => False.elim)).trans g2, fun k q => Nat.le_trans hKd.size (g3 k q)⟩)
      dsimp only at hx2 hz2 r2
      rw [HD.out.2.2.2.2.2.1] at hx2 hz2 r2
      simp only [Value.slice.injEq] at hx2
      obtain ⟨rfl, -, rfl⟩ := hx2
      clear HE0 hSd hKd
      have hwr : IntKind.i64.wrap ((i : Int) + 1) = (i : Int) + 1 := IntWalk.i64_in _ (by have := HI.out; omega)
      rw [← hwr] at hz2
      clear hwr
      generalize (if c = i + 1 then (some ⟨g, 0, none⟩) else ((some ⟨g, 0, none⟩) : Option Addr).map (·.add ((i + 1) * 2))) = sx at hz2 r2
      refine tk 0 rfl (fun _ _ _ h => h) trivial ?_
      refine tk 1 rfl (fun _ _ _ h => h) trivial ?_
      refine tk 2 rfl (fun _ _ _ h => h) trivial ?_
      refine tk 3 rfl (fun _ _ _ h => h) trivial ?_
      refine tk 5 rfl (fun _ _ _ h => h) trivial ?_
      refine tk 8 rfl (fun _ _ _ h => h) trivial ?_
      refine tk 9 rfl (fun _ _ _ h => h) trivial ?_
      refine tk 10 rfl (fun _ _ _ h => h) trivial ?_
      refine tk 12 rfl (fun _ _ _ h => h) trivial ?_
      refine tk 13 rfl (fun _ _ _ h => h) trivial ?_
      refine rd2 4 11 (fun K hK => ?_) (fun K hK => ?_)
      · have hq := e0
        go_simp
        clear hq
        refine hK.out _ _ trivial (fun _ => ?_)
        clear hK K
        try simp only [lyA, lyB, lyC, lyD]
        refine tk 6 rfl (fun _ _ _ h => h) trivial ?_
        refine rd2 7 11 (fun K hK => ?_) (fun K hK => ?_)
        · ((with_reducible refine step_append_runR ?_ ?_ ?_ 101 101 ?_ _ _ ?_ ?_ _ _ r1 ?_); exact rfl; rotate_left 2; exact rfl; exact rfl; exact rfl)
          refine hK.out _ _ trivial (fun _ => ?_)
          clear hK K
          try simp only [lyA, lyB, lyC, lyD]
          refine rd1 11 (fun K hK => ?_)
          have hq := e1
          go_simp
          clear hq
          refine hK.out _ _ trivial (fun _ => ?_)
          clear hK K
          try simp only [lyA, lyB, lyC, lyD]
          refine tk 14 rfl (fun _ _ _ h => h) trivial ?_
          refine rd1 15 (fun K hK => ?_)
          ((with_reducible refine step_append_runR ?_ ?_ ?_ 101 101 ?_ _ _ ?_ ?_ _ _ r2 ?_); exact rfl; rotate_left 2; exact rfl; exact rfl; exact rfl)
          refine hK.out _ _ trivial (fun _ => ?_)
          clear hK K
          try simp only [lyA, lyB, lyC, lyD]
          refine tk 16 rfl (fun _ _ _ h => h) trivial ?_
          refine tk 17 rfl (fun _ _ _ h => h) trivial ?_
          refine rd1 18 (fun K hK => ?_)
          have hq := e2
          have hq2 := f2
          go_simp
          clear hq hq2
          refine hK.out _ _ trivial (fun _ => ?_)
          clear hK K
          try simp only [lyA, lyB, lyC, lyD]
          refine wpAnyH_done (by kernel_rfl) ?_ _
          generalize hW9 : World.setCell _ _ _ = W9
          have H9 := HE.out W9 hW9
          go_wp2_with fail
          go_ret
          refine ⟨rfl, _, _, ?_, (H1.out.2.trans H2.out.2.1).trans H9.2.1, fun q e => Or.inr (by have := H9.2.2 q e; have := H1.out.2.size; have := H2.out.2.1.size; omega), fun q e => Or.inr (by have := H2.out.2.2 q e; have := H1.out.2.size; omega)⟩
          have h9 := H9.1
          rw [HD.out.2.2.2.2.2.2.2]
          rw [HD.out.2.2.2.2.1, HD.out.2.2.2.2.2.1, HD.out.2.2.2.2.2.2.1] at h9
          exact h9
        · have hq := e0
          go_simp
          clear hq
          refine hK.out _ _ trivial (fun _ => ?_)
          clear hK K
          try simp only [lyA, lyB, lyC, lyD]
          refine tk 14 rfl (fun _ _ _ h => h) trivial ?_
          refine rd1 7 (fun K hK => ?_)
          ((with_reducible refine step_append_runR ?_ ?_ ?_ 101 101 ?_ _ _ ?_ ?_ _ _ r1 ?_); exact rfl; rotate_left 2; exact rfl; exact rfl; exact rfl)
          refine hK.out _ _ trivial (fun _ => ?_)
          clear hK K
          try simp only [lyA, lyB, lyC, lyD]
          refine rd1 15 (fun K hK => ?_)
          ((with_reducible refine step_append_runR ?_ ?_ ?_ 101 101 ?_ _ _ ?_ ?_ _ _ r2 ?_); exact rfl; rotate_left 2; exact rfl; exact rfl; exact rfl)
          refine hK.out _ _ trivial (fun _ => ?_)
          clear hK K
          try simp only [lyA, lyB, lyC, lyD]
          refine tk 16 rfl (fun _ _ _ h => h) trivial ?_
          refine tk 17 rfl (fun _ _ _ h => h) trivial ?_
          refine rd1 18 (fun K hK => ?_)
          have hq := e2
          have hq2 := f2
          go_simp
          clear hq hq2
          refine hK.out _ _ trivial (fun _ => ?_)
          clear hK K
          try simp only [lyA, lyB, lyC, lyD]
          refine wpAnyH_done (by kernel_rfl) ?_ _
          generalize hW9 : World.setCell _ _ _ = W9
          have H9 := HE.out W9 hW9
          go_wp2_with fail
          go_ret
          refine ⟨rfl, _, _, ?_, (H1.out.2.trans H2.out.2.1).trans H9.2.1, fun q e => Or.inr (by have := H9.2.2 q e; have := H1.out.2.size; have := H2.out.2.1.size; omega), fun q e => Or.inr (by have := H2.out.2.2 q e; have := H1.out.2.size; omega)⟩
          have h9 := H9.1
          rw [HD.out.2.2.2.2.2.2.2]
          rw [HD.out.2.2.2.2.1, HD.out.2.2.2.2.2.1, HD.out.2.2.2.2.2.2.1] at h9
          exact h9
      · have hq := e0
        go_simp
        clear hq
        refine hK.out _ _ trivial (fun _ => ?_)
        clear hK K
        try simp only [lyA, lyB, lyC, lyD]
        refine tk 14 rfl (fun _ _ _ h => h) trivial ?_
        refine rd1 4 (fun K hK => ?_)
        have hq := e0
        go_simp
        clear hq
        refine hK.out _ _ trivial (fun _ => ?_)
        clear hK K
        try simp only [lyA, lyB, lyC, lyD]
        refine tk 6 rfl (fun _ _ _ h => h) trivial ?_
        refine rd1 7 (fun K hK => ?_)
        ((with_reducible refine step_append_runR ?_ ?_ ?_ 101 101 ?_ _ _ ?_ ?_ _ _ r1 ?_); exact rfl; rotate_left 2; exact rfl; exact rfl; exact rfl)
        refine hK.out _ _ trivial (fun _ => ?_)
        clear hK K
        try simp only [lyA, lyB, lyC, lyD]
        refine rd1 15 (fun K hK => ?_)
        ((with_reducible refine step_append_runR ?_ ?_ ?_ 101 101 ?_ _ _ ?_ ?_ _ _ r2 ?_); exact rfl; rotate_left 2; exact rfl; exact rfl; exact rfl)
        refine hK.out _ _ trivial (fun _ => ?_)
        clear hK K
        try simp only [lyA, lyB, lyC, lyD]
        refine tk 16 rfl (fun _ _ _ h => h) trivial ?_
        refine tk 17 rfl (fun _ _ _ h => h) trivial ?_
        refine rd1 18 (fun K hK => ?_)
        have hq := e2
        have hq2 := f2
        go_simp
        clear hq hq2
        refine hK.out _ _ trivial (fun _ => ?_)
        clear hK K
        try simp only [lyA, lyB, lyC, lyD]
        refine wpAnyH_done (by kernel_rfl) ?_ _
        generalize hW9 : World.setCell _ _ _ = W9
        have H9 := HE.out W9 hW9
        go_wp2_with fail
        go_ret
        refine ⟨rfl, _, _, ?_, (H1.out.2.trans H2.out.2.1).trans H9.2.1, fun q e => Or.inr (by have := H9.2.2 q e; have := H1.out.2.size; have := H2.out.2.1.size; omega), fun q e => Or.inr (by have := H2.out.2.2 q e; have := H1.out.2.size; omega)⟩
        have h9 := H9.1
        rw [HD.out.2.2.2.2.2.2.2]
        rw [HD.out.2.2.2.2.1, HD.out.2.2.2.2.2.1, HD.out.2.2.2.2.2.2.1] at h9
        exact h9
end
end Go.Proofs.YtlgeijbgkipliaaGreatDoor

namespace Go.Proofs.YtlgeijbgkipliaaGreatDoor
open Go.RowKit
def expandL (l : List (Int × Nat)) : List Int := l.flatMap fun p => List.replicate p.2 p.1
theorem expandL_append (l m : List (Int × Nat)) : expandL (l ++ m) = expandL l ++ expandL m := by simp [expandL]
theorem expandL_count (l : List (Int × Nat)) (n : Int) : (expandL l).count n = DiskM.looseOf l n := by
  induction l with
  | nil => rfl
  | cons p r ih =>
    have e : expandL (p :: r) = List.replicate p.2 p.1 ++ expandL r := by simp [expandL]
    rw [e, List.count_append, ih, looseOf_cons, List.count_replicate]
    by_cases h : p.1 = n
    · simp [h]
    · have h2 : ¬ n = p.1 := fun q => h q.symm
      simp [h]
def keepF (n : Int) : Nat → List Int → List Int
  | _, [] => []
  | s, a :: r => if a = n then (match s with | 0 => keepF n 0 r | s + 1 => a :: keepF n s r) else a :: keepF n s r
theorem keepF_ne {n a : Int} (h : ¬ a = n) (s : Nat) (r : List Int) : keepF n s (a :: r) = a :: keepF n s r := by simp [keepF, h]
theorem keepF_zero (n : Int) (r : List Int) : keepF n 0 (n :: r) = keepF n 0 r := by simp [keepF]
theorem keepF_succ (n : Int) (s : Nat) (r : List Int) : keepF n (s + 1) (n :: r) = n :: keepF n s r := by simp [keepF]
theorem cutF11_cons (n less : Int) (a : Int) (X : List Int) : cutF11 n less (a :: X).reverse = cutStep n (cutF11 n less X.reverse) a := by rw [List.reverse_cons, cutF11_snoc]
theorem cut_left (n : Int) (less : Nat) (X : List Int) : (cutF11 n less X.reverse).1 = ((less - X.count n : Nat) : Int) := by
  induction X with
  | nil => simp [cutF11]
  | cons a r ih =>
    rw [cutF11_cons]
    unfold cutStep
    by_cases h : a = n
    · subst h
      rw [List.count_cons_self]
      by_cases h2 : 0 < (cutF11 a less r.reverse).1
      · rw [if_pos ⟨rfl, h2⟩]; dsimp only; omega
      · rw [if_neg (fun q => h2 q.2)]; dsimp only; omega
    · rw [if_neg (fun q => h q.1), List.count_cons_of_ne h]; exact ih
theorem cut_keep (n : Int) (less : Nat) (X : List Int) : cutR n less X = keepF n (X.count n - less) X := by
  unfold cutR
  induction X with
  | nil => simp [cutF11, keepF]
  | cons a r ih =>
    have hl := cut_left n less r
    rw [cutF11_cons]
    unfold cutStep
    by_cases h : a = n
    · subst h
      rw [List.count_cons_self]
      by_cases h2 : 0 < (cutF11 a less r.reverse).1
      · rw [if_pos ⟨rfl, h2⟩]
        dsimp only
        rw [ih, show r.count a + 1 - less = 0 by omega, keepF_zero, show r.count a - less = 0 by omega]
      · rw [if_neg (fun q => h2 q.2)]
        dsimp only
        rw [List.reverse_append, List.reverse_singleton, List.singleton_append, ih, show r.count a + 1 - less = (r.count a - less) + 1 by omega, keepF_succ]
    · rw [if_neg (fun q => h q.1), List.count_cons_of_ne h]
      dsimp only
      rw [List.reverse_append, List.reverse_singleton, List.singleton_append, ih, keepF_ne h]
theorem keepF_rep (n : Int) (k s : Nat) (r : List Int) : keepF n s (List.replicate k n ++ r) = List.replicate (min k s) n ++ keepF n (s - min k s) r := by
  induction k generalizing s with
  | zero => simp
  | succ k ih =>
    rw [List.replicate_succ, List.cons_append]
    cases s with
    | zero => rw [keepF_zero, ih]; simp
    | succ s =>
      rw [keepF_succ, ih, show min (k + 1) (s + 1) = min k s + 1 by omega, List.replicate_succ, List.cons_append, show s + 1 - (min k s + 1) = s - min k s by omega]
theorem keepF_other {n a : Int} (h : ¬ a = n) (k s : Nat) (r : List Int) : keepF n s (List.replicate k a ++ r) = List.replicate k a ++ keepF n s r := by
  induction k with
  | zero => simp
  | succ k ih => rw [List.replicate_succ, List.cons_append, keepF_ne h, ih, List.cons_append]
theorem drop_keep (n : Int) (l : List (Int × Nat)) (s : Nat) : expandL (DiskM.dropL n l s) = keepF n s (expandL l) := by
  induction l generalizing s with
  | nil => rfl
  | cons p r ih =>
    have e : ∀ (q : Int × Nat) (m : List (Int × Nat)), expandL (q :: m) = List.replicate q.2 q.1 ++ expandL m := fun q m => by simp [expandL]
    unfold DiskM.dropL
    by_cases h : p.1 = n
    · rw [if_pos h, e, e, ih]
      dsimp only
      rw [h, keepF_rep]
    · rw [if_neg h, e, e, ih, keepF_other h]
theorem count_room : ∀ (L : List (Int × By)) (X : List Int), AM.Rise L → (∀ n, X.count n ≤ ((AM.get L n).getD []).length) → X.length ≤ AM.sum List.length L
  | [], X, _, h => by
    have : X = [] := by
      cases X with
      | nil => rfl
      | cons a r =>
        have := h a
        rw [List.count_cons_self] at this
        simp [AM.get] at this
    subst this
    simp
  | p :: L, X, hr, h => by
    obtain ⟨r1, r2⟩ := List.pairwise_cons.1 hr
    have h1 := count_room L (X.filter (fun a => !decide (a = p.1))) r2 (fun n => by
      by_cases hn : n = p.1
      · subst hn
        rw [List.count_eq_zero.2 (by simp)]
        omega
      · rw [List.count_filter (by simpa using hn)]
        have := h n
        rw [AM.get, List.find?_cons] at this
        have e : decide (p.1 = n) = false := decide_eq_false (fun q => hn q.symm)
        rw [e] at this
        exact this)
    have h2 := h p.1
    have e2 : AM.get (p :: L) p.1 = some p.2 := by simp [AM.get]
    rw [e2] at h2
    have h3 : X.length = (X.filter (fun a => !decide (a = p.1))).length + X.count p.1 := by
      rw [List.count_eq_countP, ← List.countP_eq_length_filter, Nat.add_comm]
      rw [List.length_eq_countP_add_countP (fun a => a == p.1)]
      congr 1
      exact List.countP_congr (fun a _ => by simp)
    rw [AM.sum_cons, h3]
    simp only [Option.getD_some] at h2
    omega
theorem find_get {L : List (Int × By)} (hr : AM.Rise L) (n : Int) : (AM.get L n = none ∧ findV L n = -1) ∨ ∃ (i : Nat) (b : By), AM.get L n = some b ∧ findV L n = (i : Int) ∧ L[i]? = some (n, b) := by
  rcases findV_cases L n with ⟨h1, h2⟩ | ⟨i, p, h1, h2, h3⟩
  · exact Or.inl ⟨AM.get_none.2 h2, h1⟩
  · refine Or.inr ⟨i, p.2, (AM.get_some hr).2 ?_, h1, ?_⟩
    · rw [← h3]; exact List.mem_of_getElem? h2
    · rw [h2, ← h3]
theorem rise_at {p : Int × By} {L : List (Int × By)} (hr : AM.Rise (p :: L)) {n : Int} {b : By} {i : Nat} (h : L[i]? = some (n, b)) : p.1 < n := (List.pairwise_cons.1 hr).1 (n, b) (List.mem_of_getElem? h)
theorem del_above {L : List (Int × By)} {n : Int} (h : ∀ q ∈ L, n < q.1) : AM.del L n = L := by
  unfold AM.del
  rw [List.filter_eq_self]
  intro q hq
  have := h q hq
  have : ¬ q.1 = n := by omega
  simpa using this
theorem ins_above {L : List (Int × By)} {n : Int} (v : By) (h : ∀ q ∈ L, n < q.1) : AM.ins n v L = (n, v) :: L := by
  cases L with
  | nil => rfl
  | cons a r => unfold AM.ins; rw [if_pos (h a (by simp))]
theorem set_at : ∀ {L : List (Int × By)} {n : Int} {b : By} {i : Nat}, AM.Rise L → L[i]? = some (n, b) → ∀ v : By, L.set i (n, v) = AM.set L n v
  | [], _, _, _, _, h, _ => by simp at h
  | p :: L, n, b, 0, hr, h, v => by
    simp at h
    subst h
    have ha := (List.pairwise_cons.1 hr).1
    unfold AM.set AM.del
    rw [List.filter_cons_of_neg (by simp)]
    have e := del_above (L := L) (n := n) ha
    unfold AM.del at e
    rw [e, ins_above v ha]
    rfl
  | p :: L, n, b, i + 1, hr, h, v => by
    have h2 : L[i]? = some (n, b) := by simpa using h
    have hlt := rise_at hr h2
    have ih := set_at (List.pairwise_cons.1 hr).2 h2 v
    unfold AM.set AM.del at ih ⊢
    have hpn : ¬ p.1 = n := by omega
    rw [List.filter_cons_of_pos (by simpa using hpn), List.set_cons_succ]
    unfold AM.ins
    rw [if_neg (by omega), ih]
theorem del_at : ∀ {L : List (Int × By)} {n : Int} {b : By} {i : Nat}, AM.Rise L → L[i]? = some (n, b) → L.take i ++ L.drop (i + 1) = AM.del L n
  | [], _, _, _, _, h => by simp at h
  | p :: L, n, b, 0, hr, h => by
    simp at h
    subst h
    have ha := (List.pairwise_cons.1 hr).1
    have e := del_above (L := L) (n := n) ha
    unfold AM.del at e ⊢
    rw [List.filter_cons_of_neg (by simp), e]
    simp
  | p :: L, n, b, i + 1, hr, h => by
    have h2 : L[i]? = some (n, b) := by simpa using h
    have hlt := rise_at hr h2
    have ih := del_at (List.pairwise_cons.1 hr).2 h2
    unfold AM.del at ih ⊢
    have hpn : ¬ p.1 = n := by omega
    rw [List.filter_cons_of_pos (by simpa using hpn), List.take_succ_cons, List.drop_succ_cons, List.cons_append, ih]
theorem made_at : ∀ {L : List (Int × By)} {n : Int}, AM.get L n = none → madeL L n = AM.set L n []
  | [], n, _ => rfl
  | p :: L, n, h => by
    have hne : ∀ q ∈ p :: L, q.1 ≠ n := AM.get_none.1 h
    have hpn : ¬ p.1 = n := hne p (by simp)
    have h2 : AM.get L n = none := AM.get_none.2 (fun q hq => hne q (by simp [hq]))
    have ih := made_at h2
    have e1 := AM.del_none h
    have e2 := AM.del_none h2
    unfold madeL AM.set at ih ⊢
    rw [e2] at ih
    rw [e1]
    unfold AM.ins
    by_cases hlt : p.1 < n
    · rw [List.takeWhile_cons_of_pos (by simpa using hlt), List.dropWhile_cons_of_pos (by simpa using hlt), if_neg (by omega), List.cons_append, ih]
    · rw [List.takeWhile_cons_of_neg (by simpa using hlt), List.dropWhile_cons_of_neg (by simpa using hlt), if_pos (by omega)]
      rfl
end Go.Proofs.YtlgeijbgkipliaaGreatDoor

namespace Go.Proofs.YtlgeijbgkipliaaGreatDoor
open Go.RowKit
structure Rel (M : DiskM) (R : RefM) : Prop where
  ok : M.Ok
  few : M.files.length ≤ 100
  nf : M.fails = false
  L : R.L = M.files
  loose : R.loose = expandL M.loose
  cap : R.cap = M.cap
  down : R.down = M.down
  starts : R.starts = M.starts
  fails : R.fails = 0
section
variable {M M' : DiskM} {R R' : RefM} {e : Int}
theorem Rel.sinks (h : Rel M R) : R.sinks = false := by unfold RefM.sinks; rw [h.fails]; rfl
theorem Rel.tick (h : Rel M R) : R.tick = R := by unfold RefM.tick; rw [if_pos h.fails]
theorem Rel.mtick (h : Rel M R) : M.tick = M ∧ M.sinks = false := by
  refine ⟨by unfold DiskM.tick; rw [if_neg (by rw [h.nf]; simp)], by unfold DiskM.sinks; rw [h.nf]; rfl⟩
theorem Rel.get (h : Rel M R) (n : Int) : (AM.get M.files n = none ∧ findV R.L n = -1) ∨ ∃ (i : Nat) (b : By), AM.get M.files n = some b ∧ findV R.L n = (i : Int) ∧ R.L[i]? = some (n, b) ∧ b.length ≤ 1048576 := by
  rw [h.L]
  rcases find_get h.ok.rise n with q | ⟨i, b, q1, q2, q3⟩
  · exact Or.inl q
  · refine Or.inr ⟨i, b, q1, q2, q3, ?_⟩
    have h1 := DiskM.len_le_total h.ok q1
    have h2 := h.ok.room
    have h3 := h.ok.cap1
    omega
theorem Rel.rok (h : Rel M R) : R.Ok := by
  refine ⟨by rw [h.L]; exact h.few, fun p hp => ?_, ?_, by rw [h.cap]; exact ⟨h.ok.cap0, h.ok.cap1⟩, by rw [h.fails]; omega⟩
  · rw [h.L] at hp
    have h1 := DiskM.len_le_total h.ok ((AM.get_some h.ok.rise).2 hp)
    have h2 := h.ok.room
    have h3 := h.ok.cap1
    omega
  · rw [h.loose]
    have h1 := count_room M.files (expandL M.loose) h.ok.rise (fun n => by rw [expandL_count]; exact h.ok.lo n)
    have h2 := h.ok.room
    have h3 := h.ok.cap1
    unfold DiskM.total at h2
    omega
theorem Rel.free (h : Rel M R) : R.free = M.cap - M.total := by unfold RefM.free DiskM.total; rw [h.cap, h.L]
theorem Rel.has (h : Rel M R) (hd : M.down = false) {n : Int} {b : By} (hg : AM.get M.files n = some b) : M.has n = 0 := by
  unfold DiskM.has; rw [if_neg (by rw [hd]; simp), hg]; rfl
theorem Rel.sync (h : Rel M R) (he : M.sync = (e, M')) : ∃ R', R.sync = (e, R') ∧ Rel M' R' := by
  obtain ⟨t1, t2⟩ := h.mtick
  unfold DiskM.sync at he
  unfold RefM.sync
  rw [h.down]
  by_cases hd : M.down = true
  · rw [if_pos hd] at he ⊢
    cases he
    exact ⟨_, rfl, h⟩
  · rw [if_neg hd] at he ⊢
    rw [if_neg (by rw [t2]; simp), t1] at he
    cases he
    rw [h.tick]
    exact ⟨_, rfl, h.ok.noLoose, h.few, h.nf, h.L, rfl, h.cap, h.down, h.starts, h.fails⟩
theorem Rel.create (h : Rel M R) {n : Int} (n1 : n ≤ 9223372036854775807) (hc : M.files.length + M.loose.length < 300000000) (he : M.create n = (e, M')) : ∃ R', R.create n = (e, R') ∧ Rel M' R' := by
  obtain ⟨t1, t2⟩ := h.mtick
  unfold DiskM.create at he
  unfold RefM.create
  rw [h.down]
  by_cases hd : M.down = true
  · rw [if_pos hd] at he ⊢
    cases he
    exact ⟨_, rfl, h⟩
  · rw [if_neg hd] at he ⊢
    by_cases hn : n < 0
    · rw [if_pos hn] at he ⊢
      cases he
      exact ⟨_, rfl, h⟩
    · rw [if_neg hn] at he ⊢
      rcases h.get n with ⟨g1, g2⟩ | ⟨i, b, g1, g2, g3, _⟩
      · rw [if_neg (by rw [g1]; simp)] at he
        rw [if_neg (by omega), h.L]
        by_cases hf : 100 ≤ M.files.length
        · rw [if_pos hf] at he
          rw [if_pos (by omega)]
          cases he
          exact ⟨_, rfl, h⟩
        · rw [if_neg hf, if_neg (by rw [t2]; simp), t1] at he
          rw [if_neg (by omega)]
          cases he
          rw [h.tick]
          refine ⟨_, rfl, h.ok.create n ⟨by omega, n1⟩ g1 (by omega), ?_, h.nf, made_at g1, h.loose, h.cap, h.down, h.starts, h.fails⟩
          show (AM.set M.files n []).length ≤ 100
          rw [AM.length_set, AM.del_none g1]
          omega
      · rw [if_pos (by rw [g1]; rfl)] at he
        rw [if_pos (by omega)]
        cases he
        exact ⟨_, rfl, h⟩
theorem set_few {L : List (Int × By)} (hr : AM.Rise L) {n : Int} {b v : By} (hg : AM.get L n = some b) : (AM.set L n v).length = L.length := by
  rcases find_get hr n with ⟨g1, _⟩ | ⟨i, c, g1, _, g3⟩
  · rw [g1] at hg; cases hg
  · rw [← set_at hr g3 v, List.length_set]
theorem del_few (L : List (Int × By)) (n : Int) : (AM.del L n).length ≤ L.length := List.length_filter_le _ _
theorem Rel.append (h : Rel M R) {n : Int} {s : By} (hc : M.files.length + M.loose.length < 300000000) (he : M.append n s = (e, M')) : ∃ R', R.append n s = (e, R') ∧ Rel M' R' := by
  obtain ⟨t1, t2⟩ := h.mtick
  unfold DiskM.append at he
  unfold RefM.append
  rw [h.down, h.free]
  by_cases hd : M.down = true
  · have hh : M.has n = 61 := by unfold DiskM.has; rw [if_pos hd]
    rw [hh, if_pos (by decide)] at he
    rw [if_pos hd]
    cases he
    exact ⟨_, rfl, h⟩
  · rw [if_neg hd]
    rcases h.get n with ⟨g1, g2⟩ | ⟨i, b, g1, g2, g3, _⟩
    · have hh : M.has n = 4 := by unfold DiskM.has; rw [if_neg hd, g1]; rfl
      rw [hh, if_pos (by decide)] at he
      rw [if_pos (by omega)]
      cases he
      exact ⟨_, rfl, h⟩
    · rw [h.has (by simpa using hd) g1, if_neg (by simp)] at he
      rw [if_neg (by omega), g2, Int.toNat_natCast]
      by_cases hf : M.cap - M.total < s.length
      · rw [if_pos hf] at he ⊢
        cases he
        exact ⟨_, rfl, h⟩
      · rw [if_neg hf, if_neg (by rw [t2]; simp)] at he
        rw [if_neg hf]
        have ht : (M.appended n s).tick = M.appended n s := by unfold DiskM.tick; rw [if_neg (by show ¬ M.fails = true; rw [h.nf]; simp)]
        rw [ht] at he
        cases he
        obtain ⟨s1, s2⟩ := setL_at g3 (b ++ s)
        rw [s2, s1]
        have hok := h.ok.appended g1 (s := s) (by omega) (by omega)
        refine ⟨_, rfl, hok, ?_, h.nf, ?_, ?_, ?_, ?_, ?_, ?_⟩
        · show (AM.set M.files n _).length ≤ 100
          rw [set_few h.ok.rise g1]; exact h.few
        all_goals unfold RefM.tick; rw [if_pos (by exact h.fails)]
        · show R.L.set i (n, b ++ s) = AM.set M.files n (((AM.get M.files n).getD []) ++ s)
          rw [g1, h.L]
          rw [h.L] at g3
          exact set_at h.ok.rise g3 _
        · show R.loose ++ _ = expandL (M.loose ++ [(n, s.length)])
          rw [expandL_append, h.loose]
          simp [expandL]
        · exact h.cap
        · rfl
        · exact h.starts
        · exact h.fails
theorem Rel.truncate (h : Rel M R) {n size : Int} (he : M.truncate n size = (e, M')) : ∃ R', R.truncate n size = (e, R') ∧ Rel M' R' := by
  obtain ⟨t1, t2⟩ := h.mtick
  unfold DiskM.truncate at he
  unfold RefM.truncate
  rw [h.down]
  by_cases hd : M.down = true
  · have hh : M.has n = 61 := by unfold DiskM.has; rw [if_pos hd]
    rw [hh, if_pos (by decide)] at he
    rw [if_pos hd]
    cases he
    exact ⟨_, rfl, h⟩
  · rw [if_neg hd]
    rcases h.get n with ⟨g1, g2⟩ | ⟨i, b, g1, g2, g3, _⟩
    · have hh : M.has n = 4 := by unfold DiskM.has; rw [if_neg hd, g1]; rfl
      rw [hh, if_pos (by decide)] at he
      rw [if_pos (by omega)]
      cases he
      exact ⟨_, rfl, h⟩
    · rw [h.has (by simpa using hd) g1, if_neg (by simp), g1] at he
      obtain ⟨s1, s2⟩ := setL_at g3 (b.take size.toNat)
      rw [if_neg (by omega), g2, Int.toNat_natCast, s2, s1]
      dsimp only [Option.getD_some] at he ⊢
      by_cases hf : size < 0 ∨ (b.length : Int) < size
      · rw [if_pos hf] at he ⊢
        cases he
        exact ⟨_, rfl, h⟩
      · rw [if_neg hf, if_neg (by rw [t2]; simp), t1] at he
        rw [if_neg hf]
        cases he
        rw [h.tick]
        obtain ⟨k, rfl⟩ : ∃ k : Nat, size = (k : Int) := ⟨size.toNat, by omega⟩
        rw [Int.toNat_natCast]
        have hok := h.ok.truncated g1 k (by omega)
        refine ⟨_, rfl, hok, ?_, h.nf, ?_, ?_, h.cap, h.down, h.starts, h.fails⟩
        · show (AM.set M.files n _).length ≤ 100
          rw [set_few h.ok.rise g1]; exact h.few
        · show R.L.set i (n, b.take k) = AM.set M.files n (((AM.get M.files n).getD []).take k)
          rw [g1, h.L]
          rw [h.L] at g3
          exact set_at h.ok.rise g3 _
        · show cutR n ((b.length : Int) - (k : Int)) R.loose = expandL (DiskM.dropL n M.loose (k - (((AM.get M.files n).getD []).length - DiskM.looseOf M.loose n)))
          have hlo := h.ok.lo n
          rw [g1] at hlo ⊢
          dsimp only [Option.getD_some] at hlo ⊢
          rw [show (b.length : Int) - (k : Int) = ((b.length - k : Nat) : Int) by omega, cut_keep, drop_keep, h.loose, expandL_count]
          congr 1
          omega
theorem Rel.delete (h : Rel M R) {n : Int} (he : M.delete n = (e, M')) : ∃ R', R.delete n = (e, R') ∧ Rel M' R' := by
  obtain ⟨t1, t2⟩ := h.mtick
  unfold DiskM.delete at he
  unfold RefM.delete
  rw [h.down]
  by_cases hd : M.down = true
  · have hh : M.has n = 61 := by unfold DiskM.has; rw [if_pos hd]
    rw [hh, if_pos (by decide)] at he
    rw [if_pos hd]
    cases he
    exact ⟨_, rfl, h⟩
  · rw [if_neg hd]
    rcases h.get n with ⟨g1, g2⟩ | ⟨i, b, g1, g2, g3, _⟩
    · have hh : M.has n = 4 := by unfold DiskM.has; rw [if_neg hd, g1]; rfl
      rw [hh, if_pos (by decide)] at he
      rw [if_pos (by omega)]
      cases he
      exact ⟨_, rfl, h⟩
    · rw [h.has (by simpa using hd) g1, if_neg (by simp), if_neg (by rw [t2]; simp), t1] at he
      obtain ⟨-, s2⟩ := setL_at g3 []
      rw [if_neg (by omega), g2, Int.toNat_natCast, s2]
      cases he
      rw [h.tick]
      refine ⟨_, rfl, h.ok.deleted g1, ?_, h.nf, ?_, ?_, h.cap, h.down, h.starts, h.fails⟩
      · have := del_few M.files n
        have := h.few
        show (AM.del M.files n).length ≤ 100
        omega
      · show R.L.take i ++ R.L.drop (i + 1) = AM.del M.files n
        rw [h.L]
        rw [h.L] at g3
        exact del_at h.ok.rise g3
      · show cutR n (b.length : Int) R.loose = expandL (DiskM.dropL n M.loose 0)
        have hlo := h.ok.lo n
        rw [g1] at hlo
        dsimp only [Option.getD_some] at hlo
        rw [cut_keep, drop_keep, h.loose, expandL_count]
        congr 1
        omega
def RefAt (w : World) (r : Nat) (M : DiskM) (x y : Value) : Prop := ∃ R, IsRef w r R x y ∧ Rel M R
theorem RefAt.keep {w w' : World} {r : Nat} {x y : Value} {S : Nat → Prop} (h : RefAt w r M x y) (hk : Kept S w w') (hS : ∀ k, refOwn r x y k → ¬ S k) : RefAt w' r M x y := by
  obtain ⟨R, h1, h2⟩ := h
  exact ⟨R, h1.kept hk hS, h2⟩
theorem RefAt.lt {w : World} {r : Nat} {x y : Value} (h : RefAt w r M x y) {k : Nat} (hk : refOwn r x y k) : k < w.heap.size := by
  obtain ⟨R, h1, h2⟩ := h
  exact h1.lt hk
def RefGo (w : World) (r : Nat) (x y : Value) (M' : DiskM) (w' : World) : Prop :=
  ∃ x' y', RefAt w' r M' x' y' ∧ Kept (· = r) w w' ∧ (∀ k, x'.ownBlock = some k → x.ownBlock = some k ∨ w.heap.size ≤ k) ∧ (∀ k, y'.ownBlock = some k → y.ownBlock = some k ∨ w.heap.size ≤ k)
theorem RefTo.go {w w' : World} {r : Nat} {x y : Value} (h : RefTo w r x y R' w') (hr : Rel M' R') : RefGo w r x y M' w' := by
  obtain ⟨x', y', h1, h2, h3, h4⟩ := h
  exact ⟨x', y', ⟨R', h1, hr⟩, h2, h3, h4⟩
variable {w : World} {r : Nat} {x y : Value}
theorem create_at (h : RefAt w r M x y) (n : Int) (n0 : -9223372036854775808 ≤ n ∧ n ≤ 9223372036854775807) (hc : M.files.length + M.loose.length < 300000000) (he : M.create n = (e, M')) :
    Calls Tryz.prog 12 #[.pointer (some ⟨r, 0, none⟩), .int .i64 n] w fun e' w' => e' = .returned (.int .i64 e) ∧ RefGo w r x y M' w' := by
  obtain ⟨R, h1, h2⟩ := h
  obtain ⟨R', h3, h4⟩ := h2.create n0.2 hc he
  exact (create_ref h1 h2.rok h2.sinks n n0 h3).mono fun _ _ q => ⟨q.1, q.2.go h4⟩
theorem append_at (h : RefAt w r M x y) (n : Int) (s : By) (hs : s.length ≤ 2000000) (hc : M.files.length + M.loose.length < 300000000) (he : M.append n s = (e, M')) :
    Calls Tryz.prog 14 #[.pointer (some ⟨r, 0, none⟩), .int .i64 n, .string (strB s)] w fun e' w' => e' = .returned (.int .i64 e) ∧ RefGo w r x y M' w' := by
  obtain ⟨R, h1, h2⟩ := h
  obtain ⟨R', h3, h4⟩ := h2.append hc he
  exact (append_ref h1 h2.rok h2.sinks n s hs h3).mono fun _ _ q => ⟨q.1, q.2.go h4⟩
theorem sync_at (h : RefAt w r M x y) (he : M.sync = (e, M')) :
    Calls Tryz.prog 61 #[.pointer (some ⟨r, 0, none⟩)] w fun e' w' => e' = .returned (.int .i64 e) ∧ RefGo w r x y M' w' := by
  obtain ⟨R, h1, h2⟩ := h
  obtain ⟨R', h3, h4⟩ := h2.sync he
  exact (sync_ref h1 h2.rok h2.sinks h3).mono fun _ _ q => ⟨q.1, q.2.go h4⟩
theorem truncate_at (h : RefAt w r M x y) (n size : Int) (hsz : -9223372036854775808 ≤ size ∧ size ≤ 9223372036854775807) (he : M.truncate n size = (e, M')) :
    Calls Tryz.prog 60 #[.pointer (some ⟨r, 0, none⟩), .int .i64 n, .int .i64 size] w fun e' w' => e' = .returned (.int .i64 e) ∧ RefGo w r x y M' w' := by
  obtain ⟨R, h1, h2⟩ := h
  obtain ⟨R', h3, h4⟩ := h2.truncate he
  exact (truncate_ref h1 h2.rok h2.sinks n size hsz h3).mono fun _ _ q => ⟨q.1, q.2.go h4⟩
theorem delete_at (h : RefAt w r M x y) (n : Int) (he : M.delete n = (e, M')) :
    Calls Tryz.prog 97 #[.pointer (some ⟨r, 0, none⟩), .int .i64 n] w fun e' w' => e' = .returned (.int .i64 e) ∧ RefGo w r x y M' w' := by
  obtain ⟨R, h1, h2⟩ := h
  obtain ⟨R', h3, h4⟩ := h2.delete he
  exact (delete_ref h1 h2.rok h2.sinks n h3).mono fun _ _ q => ⟨q.1, q.2.go h4⟩
theorem find_at (h : RefAt w r M x y) (n : Int) :
    Calls Tryz.prog 56 #[.pointer (some ⟨r, 0, none⟩), .int .i64 n] w fun e' w' => e' = .returned (.int .i64 (findV M.files n)) ∧ w = w' := by
  obtain ⟨R, h1, h2⟩ := h
  have := find_ref h1 h2.rok.few n
  rwa [h2.L] at this
theorem free_at (h : RefAt w r M x y) :
    Calls Tryz.prog 47 #[.pointer (some ⟨r, 0, none⟩)] w fun e' w' => e' = .returned (.int .i64 (M.cap - M.total)) ∧ w = w' := by
  obtain ⟨R, h1, h2⟩ := h
  have := free_ref h1 h2.rok
  rwa [h2.free] at this
theorem RefAt.cells (h : RefAt w r M x y) : ∃ a c, x = .slice a M.files.length c ∧ w.cell? ⟨r, 1, none⟩ = some x ∧ w.cell? ⟨r, 3, none⟩ = some (.bool M.down) ∧ w.cell? ⟨r, 4, none⟩ = some (.int .i64 M.starts) ∧ w.cell? ⟨r, 2, none⟩ = some y ∧ (∃ b c2, y = .slice b (expandL M.loose).length c2) ∧
    ∀ (i : Nat) (p : Int × By), M.files[i]? = some p → ∃ g, a = some ⟨g, 0, none⟩ ∧ w.cell? ⟨g, i * 2, none⟩ = some (.int .i64 p.1) ∧ w.cell? ⟨g, i * 2 + 1, none⟩ = some (.string (strB p.2)) := by
  obtain ⟨R, h1, h2⟩ := h
  obtain ⟨a, c, rfl, hc⟩ := h1.form
  obtain ⟨b, c2, rfl, -⟩ := h1.lform
  have c1 := h1.blk.cell (i := 1) rfl
  have c2 := h1.blk.cell (i := 2) rfl
  have c3 := h1.blk.cell (i := 3) rfl
  have c4 := h1.blk.cell (i := 4) rfl
  rw [h2.L] at c1 hc ⊢
  rw [h2.down] at c3
  rw [h2.starts] at c4
  rw [h2.loose] at c2 ⊢
  exact ⟨a, c, rfl, c1, c3, c4, c2, ⟨b, _, rfl⟩, hc⟩
def Og.ref (r : Nat) (M : DiskM) (x y : Value) : Og := ⟨refOwn r x y, fun w _ => RefAt w r M x y, fun h hk hZ => h.keep hk hZ, fun h hk => h.lt hk⟩
theorem Owg.refd {w0 w w' : World} {d r : Nat} {N : DiskM} {Os : List Og} {x y : Value} (h : Owg w0 w d N (Og.ref r M x y :: Os)) (hq : RefGo w r x y M' w') : ∃ x' y', Owg w0 w' d N (Og.ref r M' x' y' :: Os) := by
  obtain ⟨B, h⟩ := h
  obtain ⟨x', y', h1, h2, h3, h4⟩ := hq
  have hB := fun k (q : refOwn r x y k) => ((h.obs _ (List.mem_cons_self ..)).2 k q).1
  have ho : ∀ k, refOwn r x' y' k → refOwn r x y k ∨ w.heap.size ≤ k := by
    rintro k (q | q | q)
    · exact Or.inl (Or.inl q)
    · exact (h3 k q).imp (fun q => Or.inr (Or.inl q)) id
    · exact (h4 k q).imp (fun q => Or.inr (Or.inr q)) id
  refine ⟨x', y', _, h.swap (x := Og.ref r M' x' y') (h2.mono (fun k _ e => Or.inr (Or.inl e))) (h.ap.grow h2 (fun k _ e => hB k (Or.inl e)) (fun k q => ?_)) h1 ho⟩
  rcases q with q | q
  · exact Or.inl q
  · rcases ho k q with q2 | q2
    · exact Or.inl (hB k q2)
    · exact Or.inr ⟨q2, h1.lt q⟩
end
end Go.Proofs.YtlgeijbgkipliaaGreatDoor

namespace Go.Proofs.YtlgeijbgkipliaaGreatDoor
open Go.RowKit
theorem framesF_take {ps : List By} {i : Nat} {p : By} (h : ps[i]? = some p) : framesF (ps.take (i + 1)) = framesF (ps.take i) ++ frameF p := by
  rw [List.take_add_one, h]
  simp [framesF]
theorem framesF_take_le (ps : List By) (i : Nat) : (framesF (ps.take i)).length ≤ (framesF ps).length := by
  conv => rhs; rw [← List.take_append_drop i ps]
  rw [framesF_append, List.length_append]
  omega
theorem View.texts {w : World} {v : Value} {ps : List By} (h : View w 1 v (strV ps)) : ∃ a c, v = .slice a ps.length c ∧ ∀ (i : Nat) (p : By), ps[i]? = some p → ∃ g off, a = some ⟨g, off, none⟩ ∧ w.cell? ⟨g, off + i, none⟩ = some (.string (strB p)) := by
  obtain ⟨a, n, cap, rfl, h1, h2, h3, _, h5⟩ := h
  rw [strV_len] at h1
  obtain rfl : n = ps.length := by omega
  refine ⟨a, cap, rfl, fun i p hp => ?_⟩
  have hi := (List.getElem?_eq_some_iff.1 hp).1
  obtain ⟨g, off, rfl, hg, hc⟩ := h5 (by omega)
  exact ⟨g, off, rfl, hc i _ (by unfold strV; rw [List.getElem?_map, hp]; rfl)⟩
set_option maxRecDepth 100000 in
set_option maxHeartbeats 2000000 in
theorem rtext_any (w : World) (a : Option Addr) (c : Nat) (ps : List By) (hv : View w 1 (.slice a ps.length c) (strV ps)) (hp : ∀ p ∈ ps, p.length ≤ 65536) (hl : (framesF ps).length ≤ 100000000) (hn : ps.length ≤ 100000000) :
    Calls Tryz.prog 59 #[.slice a ps.length c] w fun e w' => e = .returned (.string (strB (framesF ps))) ∧ Kept (fun _ => False) w w' := by
  have HV := Lib.hid (And.intro hv (And.intro hp hl))
  clear hv hp hl
  go_enter Tryz.func59, Tryz.ntmps59
  go_wp2_with fail
  go_loopw [3, 4] (fun s y wr => ∃ i : Nat, i ≤ ps.length ∧ s = .string (strB (framesF (ps.take i))) ∧ y = .int .i64 (i : Int) ∧ Hid (Kept (fun _ => False) w wr)) (fun _ y _ => ps.length - (intOf y).toNat)
  case atStart => exact ⟨0, Nat.zero_le _, rfl, rfl, Lib.hid (Kept.refl _ _)⟩
  case round =>
    obtain ⟨i, hi, rfl, rfl, HK⟩ := hrel
    by_cases hlt : i < ps.length
    · obtain ⟨y1, y2⟩ := dec_gtr hlt
      obtain ⟨p, hp⟩ : ∃ p, ps[i]? = some p := ⟨_, List.getElem?_eq_getElem hlt⟩
      obtain ⟨a', c', hq, hcells⟩ := (HV.out.1.same HK.out (by omega)).texts
      simp only [Value.slice.injEq] at hq
      obtain ⟨rfl, -, rfl⟩ := hq
      obtain ⟨g, off, rfl, q0⟩ := hcells i p hp
      have hb := framesF_take_le ps (i + 1)
      have hpl := HV.out.2.1 p (List.mem_of_getElem? hp)
      have hft := framesF_take hp
      rw [hft, List.length_append] at hb
      obtain ⟨t, ht⟩ : ∃ t, strB (framesF (ps.take i)) = t := ⟨_, rfl⟩
      obtain ⟨u, hu⟩ : ∃ u, strB (frameF p) = u := ⟨_, rfl⟩
      have hts : t.size = (framesF (ps.take i)).length := by rw [← ht]; exact strB_size _
      have hus : u.size = (frameF p).length := by rw [← hu]; exact strB_size _
      have hts2 : t.size ≤ 100000000 := by have := HV.out.2.2; omega
      have hus2 : u.size ≤ 100000000 := by have := HV.out.2.2; omega
      have HS := Lib.hid (show strB (framesF (ps.take (i + 1))) = t ++ u by rw [hft, ← ht, ← hu]; exact (bstr_cat _ _).symm)
      have hf := rframe_any wr (strB p) (by rw [strB_size]; exact hpl)
      rw [strB_data, hu] at hf
      have HF := Lib.hid hf
      have HLT := Lib.hid hlt
      obtain ⟨bp, hbp⟩ : ∃ bp, strB p = bp := ⟨_, rfl⟩
      rw [hbp] at q0 HF
      rw [ht]
      clear hcells hi hp hb hpl hft ht hu hts hus hf hbp
      go_wp2_with (go_at_call 98; refine HF.out.mono ?_; rintro e w2 ⟨rfl, hk2⟩; have HK2 := Lib.hid (HK.out.trans hk2); clear hk2)
      go_roundw
      case rel => exact ⟨i + 1, HLT.out, by rw [HS.out], by go_num, HK2⟩
      case measure => have := HLT.out; simp [intOf]; omega
    · obtain rfl : i = ps.length := by omega
      obtain ⟨y1, y2⟩ := dec_ler hlt
      rw [List.take_length]
      clear hlt hi
      go_wp2_with fail
      go_ret
      exact ⟨rfl, HK.out⟩
theorem loadGo_is (k : Nat) (t : By) : loadGo k t = ((wholeF t).1.take k).takeWhile (fun p => decide (p.length ≤ 200)) := by
  induction k generalizing t with
  | zero => simp [loadGo]
  | succ k ih =>
    cases hc : cutF t with
    | none => rw [loadGo_none hc, wholeF_none hc]; simp
    | some x =>
      by_cases hx : x.1.length ≤ 200
      · rw [loadGo_some hc hx, wholeF_some hc, ih]
        simp [List.takeWhile_cons, hx]
      · rw [loadGo_long hc hx, wholeF_some hc]
        simp [List.takeWhile_cons, hx]
theorem short_at {ps : List By} {n : Nat} (h1 : ∀ j p, ps[j]? = some p → j < n → p.length ≤ 200) (h2 : n = 64 ∨ n = ps.length ∨ ∃ p, ps[n]? = some p ∧ ¬ p.length ≤ 200) (h3 : n ≤ 64) (h4 : n ≤ ps.length) : (ps.take 64).takeWhile (fun p => decide (p.length ≤ 200)) = ps.take n := by
  have key : ∀ (k : Nat) (ps : List By) (n : Nat), (∀ j p, ps[j]? = some p → j < n → p.length ≤ 200) → (n = k ∨ n = ps.length ∨ ∃ p, ps[n]? = some p ∧ ¬ p.length ≤ 200) → n ≤ k → n ≤ ps.length → (ps.take k).takeWhile (fun p => decide (p.length ≤ 200)) = ps.take n := by
    intro k
    induction k with
    | zero =>
      intro ps m _ _ q3 _
      have e : m = 0 := by omega
      subst e
      simp
    | succ k ih =>
      intro ps n h1 h2 h3 h4
      cases ps with
      | nil => simp
      | cons a r =>
        cases n with
        | zero =>
          rcases h2 with h2 | h2 | ⟨p, h2, h5⟩
          · omega
          · simp at h2
          · simp at h2
            subst h2
            simp [List.takeWhile_cons, h5]
        | succ n =>
          have h0 := h1 0 a rfl (by omega)
          have := ih r n (fun j p hp hj => h1 (j + 1) p (by simpa using hp) (by omega)) (by
            rcases h2 with h2 | h2 | ⟨p, h2, h5⟩
            · exact Or.inl (by omega)
            · exact Or.inr (Or.inl (by simpa using h2))
            · exact Or.inr (Or.inr ⟨p, by simpa using h2, h5⟩)) (by omega) (by simpa using h4)
          simp only [List.take_succ_cons, List.takeWhile_cons, h0, decide_true, if_true, this]
  exact key 64 ps n h1 h2 h3 h4
theorem NewTexts.head {w W : World} {a : Option Addr} {n c : Nat} {ps : List By} (h : NewTexts w (.slice a n c) ps W) (i : Nat) (hi : i ≤ n) : NewTexts w (.slice a i c) (ps.take i) W := by
  refine ⟨?_, fun k q => h.2.1 k (by cases a <;> exact q), h.2.2⟩
  cases a with
  | none =>
    have hr := h.1
    obtain ⟨a', n', c', hv, q, _, hc⟩ := hr.form (by omega)
    cases hv
    have h0 : n = 0 := by
      rcases Nat.eq_zero_or_pos n with q2 | q2
      · exact q2
      · obtain ⟨g, hg, _⟩ := hc q2
        cases hg
    subst h0
    have : i = 0 := by omega
    subst this
    rw [strV_len] at q
    have : ps = [] := List.eq_nil_of_length_eq_zero (by omega)
    subst this
    exact hr
  | some ad =>
    have hr := h.1
    rcases hr with ⟨e, _⟩ | ⟨g, n', c', rest, e, h1, hb, h2, h3, h4⟩
    · cases e
    · cases e
      have q := Row.shorter (w := W) (e := 9) (size := 1) (g := g) (n := n) (cap := c) (xs := strV ps) (Or.inr ⟨g, n, c, rest, rfl, h1, hb, h2, h3, h4⟩) i hi
      rw [Nat.mul_one] at q
      have e2 : (strV ps).take i = strV (ps.take i) := by unfold strV; rw [List.map_take]
      rwa [e2] at q
set_option maxRecDepth 100000 in
set_option maxHeartbeats 2000000 in
theorem rentries_any (w : World) (l : By) (hl : l.length ≤ 2000000) :
    Calls Tryz.prog 57 #[.string (strB l)] w fun e w' => ∃ sa c, e = .returned (.slice sa (fileE l).length c) ∧ NewTexts w (.slice sa (fileE l).length c) (fileE l) w' := by
  have HW := Lib.hid (rwhole_any w l hl)
  obtain ⟨ps, hps⟩ : ∃ ps, (wholeF l).1 = ps := ⟨_, rfl⟩
  obtain ⟨z, hz⟩ : ∃ z : Nat, l.length - (wholeF l).2.length = z := ⟨_, rfl⟩
  have hpl : ps.length ≤ 2000000 := by have := wholeF_len l; rw [hps] at this; omega
  rw [hps, hz] at HW
  have HE := Lib.hid (show ∀ n, (∀ j p, ps[j]? = some p → j < n → p.length ≤ 200) → (n = 64 ∨ n = ps.length ∨ ∃ p, ps[n]? = some p ∧ ¬ p.length ≤ 200) → n ≤ 64 → n ≤ ps.length → fileE l = ps.take n from fun n h1 h2 h3 h4 => by
    unfold fileE
    rw [loadGo_is, hps]
    exact short_at h1 h2 h3 h4)
  obtain ⟨bs, hbs⟩ : ∃ bs, strB l = bs := ⟨_, rfl⟩
  rw [hbs] at HW ⊢
  clear hbs hps hz
  go_enter Tryz.func57, Tryz.ntmps57
  go_upto_region 2 with (go_at_call 96; refine HW.out.mono ?_; rintro e w2 ⟨sa, n, c, rfl, hn⟩; have HN := Lib.hid hn; clear hn)
  obtain ⟨a', c', hq, hcells⟩ := HN.out.1.view.texts
  simp only [Value.slice.injEq] at hq
  obtain ⟨rfl, rfl, rfl⟩ := hq
  have HC := Lib.hid hcells
  clear hcells HW
  go_wp2_with fail
  go_loop [5] (fun y => ∃ i : Nat, i ≤ ps.length ∧ i ≤ 64 ∧ y = .int .i64 (i : Int) ∧ Hid (∀ j p, ps[j]? = some p → j < i → p.length ≤ 200)) (fun y => 64 - (intOf y).toNat)
  case atStart => exact ⟨0, Nat.zero_le _, by omega, rfl, Lib.hid (fun j p _ hj => absurd hj (Nat.not_lt_zero _))⟩
  case round =>
    obtain ⟨i, hi, h64, rfl, HS⟩ := hrel
    have END : (i = 64 ∨ i = ps.length ∨ ∃ p, ps[i]? = some p ∧ ¬ p.length ≤ 200) → fileE l = ps.take i := fun h => HE.out i HS.out h h64 hi
    have hz := fun w0 => HN.out.1.view.run_head (P := Tryz.prog) (t := 23) (by kernel_rfl) (fun _ => by kernel_rfl) i hi w0
    have HFIN := Lib.hid (fun (h : fileE l = ps.take i) => (show ∃ sb c2, (Value.slice sa i c) = .slice sb (fileE l).length c2 ∧ NewTexts w (.slice sb (fileE l).length c2) (fileE l) w2 from ⟨sa, c, by rw [h, List.length_take, Nat.min_eq_left hi], by rw [h, List.length_take, Nat.min_eq_left hi]; exact HN.out.head i hi⟩))
    by_cases hlt : i < ps.length
    · obtain ⟨y1, y2⟩ := dec_gtr hlt
      obtain ⟨p, hp⟩ : ∃ p, ps[i]? = some p := ⟨_, List.getElem?_eq_getElem hlt⟩
      by_cases h6 : i < 64
      · have y3 : decide ((i : Int) < 64) = true := decide_eq_true (by omega)
        have y4 : decide (i < 64) = true := decide_eq_true h6
        obtain ⟨g, off, rfl, q0⟩ := HC.out i p hp
        obtain ⟨bp, hbp⟩ : ∃ bp, strB p = bp := ⟨_, rfl⟩
        have hbl : bp.size = p.length := by rw [← hbp]; exact strB_size p
        rw [hbp] at q0
        by_cases hs : p.length ≤ 200
        · have z1 : decide ((bp.size : Int) ≤ 200) = true := decide_eq_true (by omega)
          have z2 : decide (bp.size ≤ 200) = true := decide_eq_true (by omega)
          have HS3 : Hid (∀ j q, ps[j]? = some q → j < i + 1 → q.length ≤ 200) := by
            refine Lib.hid ?_
            intro j q hq hj
            rcases Nat.lt_or_ge j i with z | z
            · exact HS.out j q hq z
            · obtain rfl : j = i := by omega
              rw [hp] at hq
              cases hq
              exact hs
          have HLT := Lib.hid (And.intro hlt h6)
          clear hi hp hbp hbl hs END hz HFIN h64
          go_wp2_with fail
          go_round
          case rel => exact ⟨i + 1, HLT.out.1, HLT.out.2, by go_num, HS3⟩
          case measure => have := HLT.out; simp [intOf]; omega
        · have z1 : decide ((bp.size : Int) ≤ 200) = false := decide_eq_false (by omega)
          have z2 : decide (bp.size ≤ 200) = false := decide_eq_false (by omega)
          have hE := END (Or.inr (Or.inr ⟨p, hp, hs⟩))
          obtain ⟨sb, c2, e1, e2⟩ := HFIN.out hE
          have HR := Lib.hid (And.intro e1 e2)
          clear hi hp hbp hbl hs END HFIN hE e1 e2
          go_wp2_with fail
          go_ret
          exact ⟨sb, c2, by rw [← HR.out.1]; rfl, HR.out.2⟩
      · have y3 : decide ((i : Int) < 64) = false := decide_eq_false (by omega)
        have y4 : decide (i < 64) = false := decide_eq_false h6
        have hE := END (Or.inl (by omega))
        obtain ⟨sb, c2, e1, e2⟩ := HFIN.out hE
        have HR := Lib.hid (And.intro e1 e2)
        clear hi hp END HFIN hE e1 e2
        go_wp2_with fail
        go_ret
        exact ⟨sb, c2, by rw [← HR.out.1]; rfl, HR.out.2⟩
    · have hE := END (Or.inr (Or.inl (by omega)))
      obtain ⟨y1, y2⟩ := dec_ler hlt
      obtain ⟨sb, c2, e1, e2⟩ := HFIN.out hE
      have HR := Lib.hid (And.intro e1 e2)
      clear hi END HFIN hE e1 e2 hlt
      go_wp2_with fail
      go_ret
      exact ⟨sb, c2, by rw [← HR.out.1]; rfl, HR.out.2⟩
end Go.Proofs.YtlgeijbgkipliaaGreatDoor
