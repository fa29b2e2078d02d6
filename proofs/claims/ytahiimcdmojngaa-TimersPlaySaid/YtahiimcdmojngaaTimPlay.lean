/- The law TimersPlay, walked. -/
import Derived.Test.YtahiimcdmojngaaTimPlayM
import Derived.Test.YtahiimcdmojngaaTimOnce
import Derived.Test.YtahiimcdmojngaaTimNone
namespace Go.Proofs.Ytahiimcdmojngaa
open Go.RowKit Go.WideShapes Go.ChangeShapes Go.Joins

/-- The acts that came in. -/
def Acts18 (w : World) (ad : Option Addr) (len : Nat) : Prop := ∀ i, i < len → ∃ k a b at' : Int, (0 ≤ k ∧ k ≤ 255) ∧ InR (a, b) ∧ I64 at' ∧ ElemAt w ad 4 i [.int .u8 k, .int .i64 a, .int .i64 b, .int .i64 at']
theorem Acts18.below {w w' : World} {ad : Option Addr} {len : Nat} (h : Acts18 w ad len) (hb : Below w.heap.size w w') : Acts18 w' ad len := fun i hi => by
  obtain ⟨k, a, b, at', h1, h2, h3, h4⟩ := h i hi
  exact ⟨k, a, b, at', h1, h2, h3, h4.below hb⟩

/-- Both have the same timers. -/
structure PlayR (w : World) (t mb n : Nat) (rv : Value) (T r : Tim) (wr : World) : Prop where
  own : OwnT w t mb T wr
  view : View wr 3 rv (tcells r)
  perm : T.Perm r
  sorted : Sorted r
  len : r.length ≤ n
  low : ∀ x, rv.ownBlock = some x → x < wr.heap.size
section
variable {w wr w' : World} {t mb n : Nat} {rv : Value} {T r : Tim}
theorem OwnT.heap_map (h : OwnT w t mb T wr) : ∃ es cl, wr.heap[mb]? = some (.map es cl) := by
  obtain ⟨_, _, _, _, es, cl, hh, _⟩ := h.1.map
  exact ⟨es, cl, hh⟩
theorem PlayR.same (h : PlayR w t mb n rv T r wr) (hk : Kept (fun _ => False) wr w') : PlayR w t mb n rv T r w' :=
  ⟨h.own.same hk, h.view.same hk (by omega), h.perm, h.sorted, h.len, fun x hx => Nat.lt_of_lt_of_le (h.low x hx) hk.size⟩
/-- The timers have turned; the document's follow. -/
theorem PlayR.turn {T' r' : Tim} {rv' : Value} {w2 : World} (h : PlayR w t mb n rv T r wr) (hT : IsTim w' t mb T') (hk : Kept (· = mb) wr w') (hk2 : Kept (fun _ => False) w' w2) (hv : View w2 3 rv' (tcells r')) (hp : T'.Perm r') (hs : Sorted r') (hl : r'.length ≤ n + 1) (hlow : ∀ x, rv'.ownBlock = some x → x < w2.heap.size) : PlayR w t mb (n + 1) rv' T' r' w2 :=
  ⟨(h.own.step hT hk).same hk2, hv, hp, hs, hl, hlow⟩
theorem PlayR.old (h : PlayR w t mb n rv T r wr) (hk : Kept (· = mb) wr w') : View w' 3 rv (tcells r) := by
  obtain ⟨es, cl, hh⟩ := h.own.heap_map
  exact h.view.map hk (fun x e => e) hh (by omega)
theorem PlayR.more (h : PlayR w t mb n rv T r wr) : PlayR w t mb (n + 1) rv T r wr := ⟨h.own, h.view, h.perm, h.sorted, by have := h.len; omega, h.low⟩
theorem PlayR.len_eq (h : PlayR w t mb n rv T r wr) : T.length = r.length := h.perm.length_eq
theorem PlayR.get (h : PlayR w t mb n rv T r wr) (k : Int × Int) : PM.get r k = PM.get T k := (PM.get_perm h.own.1.nd h.perm k).symm
end
/-- Another map turns. -/
theorem PlayR.beside {w wr w' : World} {t mb n m' : Nat} {rv : Value} {T r : Tim} {es : Array MapEntry} {cl : Nat} (h : PlayR w t mb n rv T r wr) (hk : Kept (· = m') wr w') (hm : wr.heap[m']? = some (.map es cl)) (h1 : m' ≠ t) (h2 : m' ≠ mb) (h3 : w.heap.size ≤ m') : PlayR w t mb n rv T r w' :=
  ⟨⟨h.own.1.kept hk (fun e => h1 e.symm) (fun e => h2 e.symm), h.own.2.1, h.own.2.2.1, h.own.2.2.2.trans (hk.below (fun k hk' e => by omega) h.own.2.2.2.size)⟩, h.view.map hk (fun _ e => e) hm (by omega), h.perm, h.sorted, h.len, fun x hx => Nat.lt_of_lt_of_le (h.low x hx) hk.size⟩
theorem setR_len (r : Tim) (k : Int × Int) (at' : Int) : (setR r k at').length ≤ r.length + 1 := by
  rw [← (setR_perm r k at').length_eq]
  exact PM.length_set_le r k at'
theorem Row.low {w : World} {e : TypeId} {size : Nat} {v : Value} {xs : List Value} (h : Row w e size v xs) : ∀ x, v.ownBlock = some x → x < w.heap.size := fun x hx => h.lt hx
theorem ref_at' (w : World) (v : Value) (r : Tim) (a b : Int) (hr : r.length < 1000000) (h : View w 3 v (tcells r)) :
    Calls Try.prog 66 #[v, .agg #[.int .i64 a, .int .i64 b]] w fun e w' => e = .returned (.tuple #[.int .i64 ((PM.get r (a, b)).getD 0), .bool (PM.get r (a, b)).isSome]) ∧ Kept (fun _ => False) w w' := ref_at w v r (a, b) hr h
theorem tim_clear' {t mb : Nat} {T : Tim} (w : World) (a b : Int) (hk : InR (a, b)) (h : IsTim w t mb T) :
    Calls Try.prog 60 #[.pointer (some ⟨t, 0, none⟩), .agg #[.int .i64 a, .int .i64 b]] w fun e w' => e = .returned (.tuple #[]) ∧ IsTim w' t mb (PM.del T (a, b)) ∧ Kept (· = mb) w w' := tim_clear w (a, b) hk h
theorem ref_clear' (w : World) (v : Value) (r : Tim) (a b : Int) (hr : r.length < 1000000) (h : View w 3 v (tcells r)) :
    Calls Try.prog 61 #[v, .agg #[.int .i64 a, .int .i64 b]] w (NewTims w (PM.del r (a, b))) := ref_clear w v r (a, b) hr h
theorem ref_set' (w : World) (v : Value) (r : Tim) (a b at' : Int) (hr : r.length < 900000) (h : View w 3 v (tcells r)) :
    Calls Try.prog 65 #[v, .agg #[.int .i64 a, .int .i64 b], .int .i64 at'] w (NewTims w (setR r (a, b) at')) := ref_set w v r (a, b) at' hr h

set_option maxRecDepth 100000 in
set_option maxHeartbeats 8000000 in
theorem play_walk (w : World) (ad : Option Addr) (n cap : Nat) (hn : n ≤ 200) (hacts : Acts18 w ad n) :
    Calls Try.prog 12 #[.slice ad n cap] w fun e w' => e = .returned (.bool true) ∧ Below w.heap.size w w' := by
  have x1 : decide (200 < n) = false := by simp; omega
  have x2 : decide ((200 : Int) < (n : Int)) = false := by simp; omega
  go_enter Try.func12, Try.ntmps12
  go_wp2_with fail
  refine (tim_new _).mono ?_
  rintro e w1 ⟨t, mb, rfl, hT, hk1, ht1, hm1⟩
  have HP : Hid (PlayR w t mb 0 (.slice none 0 0) [] [] w1) := Lib.hid ⟨⟨hT, ht1, hm1, hk1.below (fun _ _ => id) (Nat.le_refl _)⟩, View.nil _ _, List.Perm.refl _, List.Pairwise.nil, Nat.zero_le _, (fun x hx => by simp [Value.ownBlock] at hx)⟩
  clear hT hk1 ht1 hm1 x1 x2
  go_wp2_with fail
  go_loopw [4, 5] (fun z y wr => ∃ (i : Nat) (sa : Option Addr) (sn sc : Nat) (T r : Tim), z = .slice sa sn sc ∧ y = .int .i64 (i : Int) ∧ i ≤ n ∧ PlayR w t mb i (.slice sa sn sc) T r wr) (fun _ y _ => n - (intOf y).toNat)
  case atStart => exact ⟨0, _, _, _, _, _, rfl, rfl, Nat.zero_le _, HP.out⟩
  case round =>
    clear HP
    obtain ⟨i, sa, sn, sc, T, r, rfl, rfl, hi, hP⟩ := hrel
    by_cases hlt : i < n
    · have x : decide (i < n) = true := decide_eq_true hlt
      obtain ⟨k, a, b, at', hk, hab, hat, bb, off, rfl, hbb, hc⟩ := hacts.below hP.own.2.2.2 i hlt
      have q0 := hc 0 _ rfl
      have q1 := hc 1 _ rfl
      have q2 := hc 2 _ rfl
      have q3 := hc 3 _ rfl
      rw [Nat.add_zero] at q0
      have hnew := Blk.new wr [.int .u8 k, .int .i64 a, .int .i64 b, .int .i64 at'] 94
      have hlen := hP.len
      have HP0 := Lib.hid (hP.same ((Kept.refl _ _).alloc (.cells #[.int .u8 k, .int .i64 a, .int .i64 b, .int .i64 at'] 94)))
      have HB0 := Lib.hid hnew
      have hTl := hP.len_eq
      have hTl2 : T.length ≤ 200 := by omega
      have hrl2 : r.length ≤ 200 := by omega
      clear hP hc hnew hbb hlen hTl
      have hcase : k % 8 = 3 ∨ (k % 8 = 5 ∨ k % 8 = 6) ∨ k % 8 = 7 ∨ k % 8 = 4 ∨ (k % 8 = 0 ∨ k % 8 = 1 ∨ k % 8 = 2) := by omega
      rcases hcase with hkk | hkk | hkk | hkk | hkk
      · have c1 := HB0.out.cell (i := 1) rfl
        have c2 := HB0.out.cell (i := 2) rfl
        go_wp2_with fail
        refine (tim_clear' _ a b hab HP0.out.own.1).mono ?_
        rintro e w2 ⟨rfl, hT2, hk2⟩
        have HB1 := Lib.hid (HB0.out.kept hk2 (fun e => HP0.out.own.1.map.ne_blk HB0.out e.symm))
        clear c1 c2
        have c1 := HB1.out.cell (i := 1) rfl
        have c2 := HB1.out.cell (i := 2) rfl
        have hrc := ref_clear' w2 _ r a b (by omega) (HP0.out.old hk2)
        have HT := Lib.hid (And.intro hT2 hk2)
        clear hT2 hk2
        go_wp2_with fail
        refine hrc.mono ?_
        rintro e w3 ⟨sa', sn', sc', rfl, hrow, -, hk3⟩
        have HB := Lib.hid (HB1.out.kept hk3 id)
        have HP := Lib.hid (HP0.out.turn HT.out.1 HT.out.2 hk3 hrow.view (PM.del_perm HP0.out.perm _) (HP0.out.sorted.del _) (by have h1 := List.length_filter_le (fun p : (Int × Int) × Int => !decide (p.1 = (a, b))) r; have h2 := HP0.out.len; unfold PM.del; omega) hrow.low)
        clear c1 c2 hrow hk3 HB1 HT HP0 HB0 hrc
        have c1 := HB.out.cell (i := 1) rfl
        have c2 := HB.out.cell (i := 2) rfl
        go_wp2_with fail
        refine (tim_at' _ a b hab HP.out.own.1).mono ?_
        rintro e wa ⟨rfl, hka⟩
        have HPa := Lib.hid (HP.out.same hka)
        have HBa := Lib.hid (HB.out.kept hka id)
        clear hka c1 c2 HB
        have hget := HP.out.get (a, b)
        have hra := ref_at' wa _ _ a b (by have := HPa.out.len; omega) HPa.out.view
        rw [hget] at hra
        clear hget HP
        have c1 := HBa.out.cell (i := 1) rfl
        have c2 := HBa.out.cell (i := 2) rfl
        generalize (PM.get _ (a, b)).getD 0 = gx at hra ⊢
        generalize (PM.get _ (a, b)).isSome = gy at hra ⊢
        go_wp2_with fail
        refine hra.mono ?_
        rintro e wb ⟨rfl, hkb⟩
        have HPb := Lib.hid (HPa.out.same hkb)
        clear hkb c1 c2 HBa HPa hra
        go_wp2_with fail
        go_roundw
        case rel => exact ⟨i + 1, _, _, _, _, _, rfl, by go_num, hlt, HPb.out⟩
        case measure => simp [intOf]; omega
      · have hpl := Lib.hid HP0.out.own.1.nd
        rcases hkk with hkk | hkk
        all_goals
          have c3 := HB0.out.cell (i := 3) rfl
          have hrd := ref_due _ _ r at' (by omega) HP0.out.view HP0.out.low
          go_wp2_with fail
          refine hrd.mono ?_
          rintro e w2 ⟨ua, un, uc, la, ln, lc, rfl, hv2, hv3, hl3, hk2⟩
          clear c3 hrd
          have HP1 := Lib.hid (HP0.out.same hk2)
          have HB1 := Lib.hid (HB0.out.kept hk2 id)
          have hd := HP0.out.sorted.dueIs HP0.out.perm hpl.out at'
          have hlow2 : ∀ x, (Value.slice la ln lc).ownBlock = some x → x < w2.heap.size := fun x hx => Nat.lt_of_lt_of_le (hl3 x hx) hk2.size
          have HV := Lib.hid (And.intro hv2 (And.intro hv3 hlow2))
          have hkl : ((r.takeWhile fun p => decide (p.2 ≤ at')).map (·.1)).length ≤ 200 := by
            rw [List.length_map]
            exact Nat.le_trans (List.Sublist.length_le (List.takeWhile_sublist _)) hrl2
          clear hv2 hv3 hl3 hlow2 hk2 HP0 HB0
          generalize (r.takeWhile fun p => decide (p.2 ≤ at')).map (·.1) = ks at hd HV hkl
          have c3 := HB1.out.cell (i := 3) rfl
          go_wp2_with fail
          refine (tim_due' _ at' ks hat (by omega) hd HP1.out.own.1).mono ?_
          rintro e w3 ⟨ak, ck, rfl, hrow, -, hT3, hk3⟩
          obtain ⟨es, cl, hh⟩ := HP1.out.own.heap_map
          have hu3 := HV.out.1.map hk3 (fun _ e => e) hh (by omega)
          have hl3 := HV.out.2.1.map hk3 (fun _ e => e) hh (by omega)
          have hlow3 : ∀ x, (Value.slice la ln lc).ownBlock = some x → x < w3.heap.size := fun x hx => Nat.lt_of_lt_of_le (HV.out.2.2 x hx) hk3.size
          have HB2 := Lib.hid (HB1.out.kept hk3 (fun e => HP1.out.own.1.map.ne_blk HB1.out e.symm))
          have hsame := same_true w3 _ _ ks (by omega) hrow.view hu3
          have HP2 := Lib.hid (HP1.out.turn hT3 hk3 (Kept.refl _ _) hl3 (rest_perm HP1.out.sorted HP1.out.perm at') (HP1.out.sorted.rest at') (by have h1 := List.Sublist.length_le (List.dropWhile_sublist (l := r) (fun p => decide (p.2 ≤ at'))); have h2 := HP1.out.len; omega) hlow3)
          clear hrow hT3 hk3 hh hu3 hl3 hlow3 HB1 HP1 HV hd c3
          go_wp2_with fail
          refine hsame.mono ?_
          rintro e w4 ⟨rfl, hk4⟩
          have HB := Lib.hid (HB2.out.kept hk4 id)
          have HP := Lib.hid (HP2.out.same hk4)
          clear HB2 HP2 hk4 hsame
          have c1 := HB.out.cell (i := 1) rfl
          have c2 := HB.out.cell (i := 2) rfl
          go_wp2_with fail
          refine (tim_at' _ a b hab HP.out.own.1).mono ?_
          rintro e wa ⟨rfl, hka⟩
          have HPa := Lib.hid (HP.out.same hka)
          have HBa := Lib.hid (HB.out.kept hka id)
          clear hka c1 c2 HB
          have hget := HP.out.get (a, b)
          have hra := ref_at' wa _ _ a b (by have := HPa.out.len; omega) HPa.out.view
          rw [hget] at hra
          clear hget HP
          have c1 := HBa.out.cell (i := 1) rfl
          have c2 := HBa.out.cell (i := 2) rfl
          generalize (PM.get _ (a, b)).getD 0 = gx at hra ⊢
          generalize (PM.get _ (a, b)).isSome = gy at hra ⊢
          go_wp2_with fail
          refine hra.mono ?_
          rintro e wb ⟨rfl, hkb⟩
          have HPb := Lib.hid (HPa.out.same hkb)
          clear hkb c1 c2 HBa HPa hra
          go_wp2_with fail
          go_roundw
          case rel => exact ⟨i + 1, _, _, _, _, _, rfl, by go_num, hlt, HPb.out⟩
          case measure => simp [intOf]; omega
      · go_wp2_with fail
        refine (tim_copy _ HP0.out.own.1).mono ?_
        rintro e w2 ⟨t', mb', rfl, hT2, ht2, hm2, hk2⟩
        have HP1 := Lib.hid (HP0.out.same hk2)
        have HB1 := Lib.hid (HB0.out.kept hk2 id)
        have hlt1 := HP0.out.own.1.lt_t
        have hlt2 := HP0.out.own.1.lt_m
        have hsz := HP0.out.own.2.2.2.size
        have hnt : mb' ≠ t := by omega
        have hnm : mb' ≠ mb := by omega
        have hnb : mb' ≠ wr.heap.size := by simp only [World.size_alloc] at hm2; omega
        have hlow' : w.heap.size ≤ mb' := by omega
        have HT := Lib.hid hT2
        clear hT2 ht2 hm2 hk2 HP0 HB0 hlt1 hlt2 hsz
        have c1 := HB1.out.cell (i := 1) rfl
        have c2 := HB1.out.cell (i := 2) rfl
        have c3 := HB1.out.cell (i := 3) rfl
        go_wp2_with fail
        refine (tim_set' _ a b at' hab hat (by omega) HT.out).mono ?_
        rintro e w3 ⟨rfl, hT3, hk3⟩
        obtain ⟨_, _, _, _, es, cl, hh, _⟩ := HT.out.map
        have HP2 := Lib.hid (HP1.out.beside hk3 hh hnt hnm hlow')
        have HB2 := Lib.hid (HB1.out.kept hk3 (fun e => hnb e.symm))
        have HT3 := Lib.hid hT3
        have hTl3 : (PM.set T (a, b) at').length ≤ 201 := by have := PM.length_set_le T (a, b) at'; omega
        clear hT3 hk3 hh HT HP1 HB1 c1 c2 c3
        have c3 := HB2.out.cell (i := 3) rfl
        go_wp2_with fail
        refine (tim_due _ at' hat (by omega) HT3.out).mono ?_
        rintro e w4 ⟨v4, ks4, rfl, -, -, -, -, hk4⟩
        obtain ⟨_, _, _, _, es, cl, hh, _⟩ := HT3.out.map
        have HP := Lib.hid (HP2.out.beside hk4 hh hnt hnm hlow').more
        have HB := Lib.hid (HB2.out.kept hk4 (fun e => hnb e.symm))
        clear hk4 hh HT3 HP2 HB2 c3
        have c1 := HB.out.cell (i := 1) rfl
        have c2 := HB.out.cell (i := 2) rfl
        go_wp2_with fail
        refine (tim_at' _ a b hab HP.out.own.1).mono ?_
        rintro e wa ⟨rfl, hka⟩
        have HPa := Lib.hid (HP.out.same hka)
        have HBa := Lib.hid (HB.out.kept hka id)
        clear hka c1 c2 HB
        have hget := HP.out.get (a, b)
        have hra := ref_at' wa _ _ a b (by have := HPa.out.len; omega) HPa.out.view
        rw [hget] at hra
        clear hget HP
        have c1 := HBa.out.cell (i := 1) rfl
        have c2 := HBa.out.cell (i := 2) rfl
        generalize (PM.get _ (a, b)).getD 0 = gx at hra ⊢
        generalize (PM.get _ (a, b)).isSome = gy at hra ⊢
        go_wp2_with fail
        refine hra.mono ?_
        rintro e wb ⟨rfl, hkb⟩
        have HPb := Lib.hid (HPa.out.same hkb)
        clear hkb c1 c2 HBa HPa hra
        go_wp2_with fail
        go_roundw
        case rel => exact ⟨i + 1, _, _, _, _, _, rfl, by go_num, hlt, HPb.out⟩
        case measure => simp [intOf]; omega
      · have HP := Lib.hid HP0.out.more
        have HB := Lib.hid HB0.out
        clear HP0 HB0
        have c1 := HB.out.cell (i := 1) rfl
        have c2 := HB.out.cell (i := 2) rfl
        go_wp2_with fail
        refine (tim_at' _ a b hab HP.out.own.1).mono ?_
        rintro e wa ⟨rfl, hka⟩
        have HPa := Lib.hid (HP.out.same hka)
        have HBa := Lib.hid (HB.out.kept hka id)
        clear hka c1 c2 HB
        have hget := HP.out.get (a, b)
        have hra := ref_at' wa _ _ a b (by have := HPa.out.len; omega) HPa.out.view
        rw [hget] at hra
        clear hget HP
        have c1 := HBa.out.cell (i := 1) rfl
        have c2 := HBa.out.cell (i := 2) rfl
        generalize (PM.get _ (a, b)).getD 0 = gx at hra ⊢
        generalize (PM.get _ (a, b)).isSome = gy at hra ⊢
        go_wp2_with fail
        refine hra.mono ?_
        rintro e wb ⟨rfl, hkb⟩
        have HPb := Lib.hid (HPa.out.same hkb)
        clear hkb c1 c2 HBa HPa hra
        go_wp2_with fail
        go_roundw
        case rel => exact ⟨i + 1, _, _, _, _, _, rfl, by go_num, hlt, HPb.out⟩
        case measure => simp [intOf]; omega
      · have hk3 : k % 8 < 3 := by omega
        rcases hkk with hkk | hkk | hkk
        all_goals
          have c1 := HB0.out.cell (i := 1) rfl
          have c2 := HB0.out.cell (i := 2) rfl
          have c3 := HB0.out.cell (i := 3) rfl
          have c0 := HB0.out.cell (i := 0) rfl
          go_wp2_with fail
          refine (tim_set' _ a b at' hab hat (by omega) HP0.out.own.1).mono ?_
          rintro e w2 ⟨rfl, hT2, hk2⟩
          have HB1 := Lib.hid (HB0.out.kept hk2 (fun e => HP0.out.own.1.map.ne_blk HB0.out e.symm))
          clear c1 c2 c3 c0
          have c1 := HB1.out.cell (i := 1) rfl
          have c2 := HB1.out.cell (i := 2) rfl
          have c3 := HB1.out.cell (i := 3) rfl
          have hrc := ref_set' w2 _ r a b at' (by omega) (HP0.out.old hk2)
          have HT := Lib.hid (And.intro hT2 hk2)
          clear hT2 hk2
          go_wp2_with fail
          refine hrc.mono ?_
          rintro e w3 ⟨sa', sn', sc', rfl, hrow, -, hk3⟩
          have HB := Lib.hid (HB1.out.kept hk3 id)
          have HP := Lib.hid (HP0.out.turn HT.out.1 HT.out.2 hk3 hrow.view ((PM.set_perm HP0.out.perm _ _).trans (setR_perm r (a, b) at')) (HP0.out.sorted.set _ _) (by have h1 := setR_len r (a, b) at'; have h2 := HP0.out.len; omega) hrow.low)
          clear c1 c2 c3 hrow hk3 HB1 HT HP0 HB0 hrc
          have c1 := HB.out.cell (i := 1) rfl
          have c2 := HB.out.cell (i := 2) rfl
          go_wp2_with fail
          refine (tim_at' _ a b hab HP.out.own.1).mono ?_
          rintro e wa ⟨rfl, hka⟩
          have HPa := Lib.hid (HP.out.same hka)
          have HBa := Lib.hid (HB.out.kept hka id)
          clear hka c1 c2 HB
          have hget := HP.out.get (a, b)
          have hra := ref_at' wa _ _ a b (by have := HPa.out.len; omega) HPa.out.view
          rw [hget] at hra
          clear hget HP
          have c1 := HBa.out.cell (i := 1) rfl
          have c2 := HBa.out.cell (i := 2) rfl
          generalize (PM.get _ (a, b)).getD 0 = gx at hra ⊢
          generalize (PM.get _ (a, b)).isSome = gy at hra ⊢
          go_wp2_with fail
          refine hra.mono ?_
          rintro e wb ⟨rfl, hkb⟩
          have HPb := Lib.hid (HPa.out.same hkb)
          clear hkb c1 c2 HBa HPa hra
          go_wp2_with fail
          go_roundw
          case rel => exact ⟨i + 1, _, _, _, _, _, rfl, by go_num, hlt, HPb.out⟩
          case measure => simp [intOf]; omega
    · have x : decide (i < n) = false := by simp; omega
      have hlen := hP.len
      have hTl := hP.len_eq
      have hTl2 : T.length ≤ 200 := by omega
      have hrl2 : r.length ≤ 200 := by omega
      obtain ⟨mx, hmx⟩ : ∃ mx : Int, mx = 9223372036854775807 := ⟨_, rfl⟩
      have hrd := ref_due _ _ r mx (by omega) hP.view hP.low
      have hd := hP.sorted.dueIs hP.perm hP.own.1.nd mx
      have HP0 := Lib.hid hP
      clear hP hlen hTl
      go_wp2_with fail
      rw [hmx] at hrd
      refine hrd.mono ?_
      rw [← hmx]
      rintro e w2 ⟨ua, un, uc, la, ln, lc, rfl, hv2, -, -, hk2⟩
      clear hrd
      have HP1 := Lib.hid (HP0.out.same hk2)
      have HV := Lib.hid hv2
      have hkl : ((r.takeWhile fun p => decide (p.2 ≤ mx)).map (·.1)).length ≤ 200 := by
        rw [List.length_map]
        exact Nat.le_trans (List.Sublist.length_le (List.takeWhile_sublist _)) hrl2
      clear hv2 hk2 HP0
      generalize (r.takeWhile fun p => decide (p.2 ≤ mx)).map (·.1) = ks at hd HV hkl
      have htd := tim_due' w2 mx ks (by unfold I64; omega) (by omega) hd HP1.out.own.1
      rw [hmx] at htd
      go_wp2_with fail
      refine htd.mono ?_
      rintro e w3 ⟨ak, ck, rfl, hrow, -, hT3, hk3⟩
      obtain ⟨es, cl, hh⟩ := HP1.out.own.heap_map
      have hsame := same_true w3 _ _ ks (by omega) hrow.view (HV.out.map hk3 (fun _ e => e) hh (by omega))
      have HO := Lib.hid (HP1.out.own.step hT3 hk3)
      clear hrow hT3 hk3 hh HP1 HV hd htd
      go_wp2_with fail
      refine hsame.mono ?_
      rintro e w4 ⟨rfl, hk4⟩
      have HO4 := Lib.hid (HO.out.same hk4)
      clear hk4 HO hsame
      go_wp2_with fail
      refine (rang_true _).mono ?_
      rintro e w5 ⟨rfl, hk5⟩
      have hB := (HO4.out.same hk5).2.2.2
      clear hk5 HO4
      go_wp2_with fail
      go_ret
      exact ⟨rfl, hB⟩

theorem play_big (w : World) (ad : Option Addr) (n cap : Nat) (h : 200 < n) :
    Calls Try.prog 12 #[.slice ad n cap] w fun e w' => e = .returned (.bool true) ∧ Below w.heap.size w w' := by
  have x1 : decide (200 < n) = true := decide_eq_true h
  have x3 : decide ((200 : Int) < (n : Int)) = true := by simp; omega
  go_enter Try.func12, Try.ntmps12
  go_wp2_with fail
  refine (rang_true _).mono ?_
  rintro e w2 ⟨rfl, hk2⟩
  go_wp2_with fail
  go_ret
  exact ⟨rfl, hk2.below (fun _ _ => id) (Nat.le_refl _)⟩
set_option maxRecDepth 100000 in
theorem timersPlay_walk {H : Type} {enc : TypeId × Value → H} {base : Nat} {d0 : DataW H} {p0 : List MemPlace} (v : Value) (w : World) (hv : Value.okWide Try.prog w .any base 91 v) (h : DataW.Trod enc Try.prog w 0 (fun _ => true) true 91 v d0 p0) :
    Calls Try.prog 12 #[v] w fun e w' => e = .returned (.bool true) ∧ Below w.heap.size w w' := by
  obtain ⟨ad, n, cap, rfl, _, hx⟩ := open_rows (e := 94) (n := 4) Try.underlying91 (by kernel_rfl) (by omega) hv h
  by_cases hn : 200 < n
  · exact play_big w ad n cap hn
  · refine play_walk w ad n cap (by omega) (fun i hi => ?_)
    obtain ⟨cs, m, x, hl, he, ht⟩ := hx i hi
    obtain ⟨k, a, b, at', e, h1, h2, h3⟩ := act18_cells cs hl ht
    subst e
    exact ⟨k, a, b, at', h1, h2, h3, he⟩
end Go.Proofs.Ytahiimcdmojngaa
