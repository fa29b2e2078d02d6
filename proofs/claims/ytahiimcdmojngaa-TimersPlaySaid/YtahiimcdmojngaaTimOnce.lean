/- The law TimersOnce, walked. -/
import Derived.Test.YtahiimcdmojngaaTimOnceM
import Derived.Test.YtahiimcdmojngaaTimRang
import Derived.Test.YtahiimcdmojngaaOpen
namespace Go.Proofs.Ytahiimcdmojngaa
open Go.RowKit Go.WideShapes Go.ChangeShapes Go.Joins

/-- The timers that came in. -/
def Pairs (w : World) (a : Option Addr) (len : Nat) (f s : Nat → Int) : Prop := ∀ i, i < len → (0 ≤ f i ∧ f i ≤ 255) ∧ (0 ≤ s i ∧ s i ≤ 255) ∧ ElemAt w a 2 i [.int .u8 (f i), .int .u8 (s i)]
def Ticks (w : World) (a : Option Addr) (len : Nat) (f : Nat → Int) : Prop := ∀ i, i < len → (0 ≤ f i ∧ f i ≤ 255) ∧ ElemAt w a 1 i [.int .u8 (f i)]
theorem Pairs.below {w w' : World} {a : Option Addr} {len : Nat} {f s : Nat → Int} (h : Pairs w a len f s) (hb : Below w.heap.size w w') : Pairs w' a len f s := fun i hi => ⟨(h i hi).1, (h i hi).2.1, (h i hi).2.2.below hb⟩
theorem Ticks.below {w w' : World} {a : Option Addr} {len : Nat} {f : Nat → Int} (h : Ticks w a len f) (hb : Below w.heap.size w w') : Ticks w' a len f := fun i hi => ⟨(h i hi).1, (h i hi).2.below hb⟩
theorem tim_at' {t mb : Nat} {T : Tim} (w : World) (a b : Int) (hk : InR (a, b)) (h : IsTim w t mb T) :
    Calls Try.prog 59 #[.pointer (some ⟨t, 0, none⟩), .agg #[.int .i64 a, .int .i64 b]] w fun e w' => e = .returned (.tuple #[.int .i64 ((PM.get T (a, b)).getD 0), .bool (PM.get T (a, b)).isSome]) ∧ Kept (fun _ => False) w w' := tim_at w (a, b) hk h

/-- The timers' blocks are the call's own; what lay there ahead of it is as it was. -/
def OwnT (w : World) (t mb : Nat) (T : Tim) (wr : World) : Prop := IsTim wr t mb T ∧ w.heap.size ≤ t ∧ w.heap.size ≤ mb ∧ Below w.heap.size w wr
theorem OwnT.step {w wr w' : World} {t mb : Nat} {T T' : Tim} (h : OwnT w t mb T wr) (hT : IsTim w' t mb T') (hk : Kept (· = mb) wr w') : OwnT w t mb T' w' :=
  ⟨hT, h.2.1, h.2.2.1, h.2.2.2.trans (hk.below (fun k hk' e => by have := h.2.2.1; omega) h.2.2.2.size)⟩
theorem OwnT.same {w wr w' : World} {t mb : Nat} {T : Tim} (h : OwnT w t mb T wr) (hk : Kept (fun _ => False) wr w') : OwnT w t mb T w' :=
  h.step (h.1.kept hk id id) (hk.mono (fun _ _ => False.elim))

/-- The ticks' loop: now is where the clock stands; all up to p were told. -/
def OnceR (w : World) (t mb N : Nat) (s : Nat → Int) (tb k : Nat) (now : Int) (wr : World) : Prop :=
  ∃ (p : Int) (T : Tim), p ≤ now ∧ OwnT w t mb T wr ∧ Tab N s p T ∧ Blk wr tb (toldL N s p [] 0) 4 ∧ w.heap.size ≤ tb

def OnceQ (w : World) (t mb N : Nat) (s : Nat → Int) (tb : Nat) (p : Int) (ks : List (Int × Int)) (v : Value) (T : Tim) (i : Nat) (wx : World) : Prop :=
  OwnT w t mb T wx ∧ Row wx 85 2 v (kcells ks) ∧ Blk wx tb (toldL N s p ks i) 4
theorem OnceQ.told {w wx : World} {t mb N tb : Nat} {s : Nat → Int} {p : Int} {ks : List (Int × Int)} {v : Value} {T : Tim} {i n : Nat} (h : OnceQ w t mb N s tb p ks v T i wx) (hy : ks[i]? = some ((n : Int), 0)) (htb : w.heap.size ≤ tb) :
    OnceQ w t mb N s tb p ks v T (i + 1) (wx.setCell ⟨tb, n, none⟩ (.bool true)) := by
  obtain ⟨hO, hrow, htold⟩ := h
  have hk : Kept (· = tb) wx (wx.setCell ⟨tb, n, none⟩ (.bool true)) := Kept.setCell (S := fun x => x = tb) (Kept.refl _ _) (p := ⟨tb, n, none⟩) (fun _ => by rfl) _
  have hset := htold.set n (.bool true)
  rw [toldL_set hy] at hset
  refine ⟨⟨hO.1.kept hk (fun e => ?_) (fun e => ?_), hO.2.1, hO.2.2.1, hO.2.2.2.trans (hk.below (fun x hx e => by omega) hO.2.2.2.size)⟩, hrow.kept hk (fun x hx e => hrow.ne_blk hx htold (by decide) e), hset⟩
  · have h1 := hO.1.head
    rw [e] at h1
    unfold Blk at h1 htold
    rw [h1] at htold
    simp at htold
  · exact hO.1.map.ne_blk htold e

set_option maxRecDepth 100000 in
set_option maxHeartbeats 4000000 in
theorem once_walk (w : World) (a1 a2 : Option Addr) (n1 c1 n2 c2 : Nat) (f s tk : Nat → Int) (h1 : n1 ≤ 50) (h2 : n2 ≤ 40) (hp : Pairs w a1 n1 f s) (ht : Ticks w a2 n2 tk) :
    Calls Try.prog 11 #[.slice a1 n1 c1, .slice a2 n2 c2] w fun e w' => e = .returned (.bool true) ∧ Below w.heap.size w w' := by
  have x1 : decide (50 < n1) = false := by simp; omega
  have x2 : decide (40 < n2) = false := by simp; omega
  have x3 : decide ((50 : Int) < (n1 : Int)) = false := by simp; omega
  have x4 : decide ((40 : Int) < (n2 : Int)) = false := by simp; omega
  go_enter Try.func11, Try.ntmps11
  go_wp2_with fail
  refine (tim_new _).mono ?_
  rintro e w1 ⟨t, mb, rfl, hT, hk1, ht1, hm1⟩
  have hO : OwnT w t mb [] w1 := ⟨hT, ht1, hm1, hk1.below (fun _ _ => id) (Nat.le_refl _)⟩
  clear hT hk1 ht1 hm1 x1 x2 x3 x4
  have HO := Lib.hid hO
  clear hO
  go_wp2_with fail
  go_loopw [6] (fun y wr => ∃ (i : Nat) (T : Tim), y = .int .i64 (i : Int) ∧ i ≤ n1 ∧ OwnT w t mb T wr ∧ Pre1 n1 i T) (fun y _ => n1 - (intOf y).toNat)
  case atStart => exact ⟨0, [], rfl, Nat.zero_le _, HO.out, (fun q hq => by simp at hq), by simp⟩
  case round =>
    obtain ⟨i, T, rfl, hi, hO, hP⟩ := hrel
    by_cases hlt : i < n1
    · have x : decide (i < n1) = true := decide_eq_true hlt
      obtain ⟨f0, _, b, off, rfl, hb, hc⟩ := hp.below hO.2.2.2 i hlt
      have q0 := hc 0 _ rfl
      rw [Nat.add_zero] at q0
      have HO' := Lib.hid (And.intro hO hP)
      clear hc hO hP
      go_wp2_with fail
      refine (tim_set' _ (i : Int) 0 (f i) (by simp [InR]; omega) (by unfold I64; omega) (by have := HO'.out.2.2; omega) HO'.out.1.1).mono ?_
      rintro e w2 ⟨rfl, hT2, hk2⟩
      have HD := Lib.hid (And.intro (HO'.out.1.step hT2 hk2) (HO'.out.2.set hlt (f i)))
      clear HO' hT2 hk2
      go_wp2_with fail
      go_roundw
      case rel => exact ⟨i + 1, _, by go_num, hlt, HD.out.1, HD.out.2⟩
      case measure => simp [intOf]; omega
    · have x : decide (i < n1) = false := by simp; omega
      have hin : i = n1 := by omega
      subst hin
      have HO2 := Lib.hid (And.intro hO (hP.done (s := s)))
      clear hO hP HO hi hlt
      go_wp2_with fail
      go_loopw [7] (fun y wr => ∃ (j : Nat) (T : Tim), y = .int .i64 (j : Int) ∧ j ≤ i ∧ OwnT w t mb T wr ∧ Pre2 i j s T) (fun y _ => i - (intOf y).toNat)
      case atStart => exact ⟨0, T, rfl, Nat.zero_le _, HO2.out.1, HO2.out.2⟩
      case round =>
        clear HO2 x T
        obtain ⟨j, T, rfl, hj, hO, hP⟩ := hrel
        by_cases hlt : j < i
        · have x : decide (j < i) = true := decide_eq_true hlt
          obtain ⟨_, s0, b, off, rfl, hb, hc⟩ := hp.below hO.2.2.2 j hlt
          have q0 := hc 1 _ rfl
          have HO' := Lib.hid (And.intro hO hP)
          clear hc hO hP
          go_wp2_with fail
          refine (tim_set' _ (j : Int) 0 (s j) (by simp [InR]; omega) (by unfold I64; omega) (by have := HO'.out.2.2.1; omega) HO'.out.1.1).mono ?_
          rintro e w2 ⟨rfl, hT2, hk2⟩
          have HD := Lib.hid (And.intro (HO'.out.1.step hT2 hk2) (HO'.out.2.set hlt))
          clear HO' hT2 hk2
          go_wp2_with fail
          go_roundw
          case rel => exact ⟨j + 1, _, by go_num, hlt, HD.out.1, HD.out.2⟩
          case measure => simp [intOf]; omega
        · have x : decide (j < i) = false := by simp; omega
          have hji : j = i := by omega
          subst hji
          have hs : ∀ m, m < j → 0 ≤ s m := fun m hm => (hp m hm).2.1.1
          have hTab := hP.done h1 hs
          have hmk := run_make_row' (P := Try.prog) 26 4 (.bool false) 1 Try.underlying26 (by kernel_rfl) rfl .i64 .i64 j (by omega) (by omega)
          obtain ⟨wo, hwo⟩ : ∃ wo : World, wo = wr := ⟨_, rfl⟩
          have hstart : OnceR w t mb j s wo.heap.size 0 0 (wo.alloc (.cells (madeCells #[.bool false] j) 4)) := by
            subst hwo
            refine ⟨-1, T, by omega, hO.same ((Kept.refl _ _).alloc _), hTab, ?_, hO.2.2.2.size⟩
            rw [toldL_start hs]
            have := Blk.new wo (List.replicate j (.bool false)) 4
            have e : madeCells #[Value.bool false] j = (List.replicate j (Value.bool false)).toArray := by rw [madeCells_one]; simp
            rw [e]; exact this
          subst hwo
          have HS := Lib.hid hstart
          clear hstart hTab hO hP hs hj hlt
          go_wp2_with fail
          go_loopw [9, 10] (fun x y wr => ∃ (k : Nat) (now : Int), x = .int .i64 now ∧ y = .int .i64 (k : Int) ∧ k ≤ n2 ∧ 0 ≤ now ∧ now ≤ 255 * k ∧ OnceR w t mb j s wo.heap.size k now wr) (fun _ y _ => n2 - (intOf y).toNat)
          case atStart => exact ⟨0, 0, rfl, rfl, Nat.zero_le _, by omega, by omega, HS.out⟩
          case round =>
            clear HS x T
            obtain ⟨k, now, rfl, rfl, hk, hn0, hn1, p, T, hpn, hO, hTab, htold, htb⟩ := hrel
            by_cases hlt : k < n2
            · have x : decide (k < n2) = true := decide_eq_true hlt
              obtain ⟨t0, b2, off2, rfl, hb2, hc2⟩ := ht.below hO.2.2.2 k hlt
              have q0 := hc2 0 _ rfl
              rw [Nat.mul_one, Nat.add_zero] at q0
              clear hc2
              go_wp2_with fail
              refine (tim_due _ (now + tk k) (by unfold I64; omega) (by have := hTab.2.1; omega) hO.1).mono ?_
              rintro e w2 ⟨v, ks, rfl, hd, hrow, hfr, hT2, hk2⟩
              have hnd := hO.1.nd
              have hO2 := hO.step hT2 hk2
              have htold2 := htold.kept hk2 (fun e => hO.1.map.ne_blk htold e.symm)
              have hTab2 := hTab.rest hnd (show p ≤ now + tk k by omega)
              obtain ⟨va, vn, vcap, rfl, hvn, _, hvc⟩ := hrow.form (by omega)
              rw [kcells_len] at hvn
              have hvn' : vn = ks.length := by omega
              subst hvn'
              have hQ0 : OnceQ w t mb j s wo.heap.size p ks (.slice va ks.length vcap) (restOf T (now + tk k)) 0 w2 := ⟨hO2, hrow, by rw [toldL_zero]; exact htold2⟩
              have hmem := fun (x : Int × Int) (hx : x ∈ ks) => hTab.mem hnd hd hx
              have hend := fun (i : Nat) (hi : ks.length ≤ i) => toldL_end hTab hnd hd (show p ≤ now + tk k by omega) (j := i) hi
              have hks := hd.nodup
              have hkl : ks.length ≤ 100 := by
                have h3 := hd.1.length_eq
                have h4 := List.length_filter_le (fun p : (Int × Int) × Int => decide (p.2 ≤ now + tk k)) T
                have h5 := hTab.2.1
                simp only [List.length_map] at h3
                omega
              have HQ := Lib.hid (And.intro hQ0 (And.intro hmem (And.intro hend (And.intro hks (And.intro hTab2 htb)))))
              clear hQ0 hmem hend hks hTab2 hTab hO hO2 htold htold2 hd hrow hfr hT2 hk2 hvc hvn hnd htb
              obtain ⟨nw, hnw⟩ : ∃ nw : Int, nw = now + tk k := ⟨_, rfl⟩
              rw [← hnw] at HQ
              have hnw1 : nw ≤ 255 * (k + 1) := by omega
              have hnw0 : 0 ≤ nw := by omega
              have hvl : ks.length ≤ 100 := by omega
              go_wp2_with fail
              rw [← hnw]
              clear hnw q0 t0 hb2
              go_loopw [12] (fun y wx => ∃ i : Nat, y = .int .i64 (i : Int) ∧ i ≤ ks.length ∧ OnceQ w t mb j s wo.heap.size p ks (.slice va ks.length vcap) (restOf T nw) i wx) (fun y _ => ks.length - (intOf y).toNat)
              case atStart => exact ⟨0, rfl, Nat.zero_le _, HQ.out.1⟩
              case round =>
                obtain ⟨i, rfl, hi, hO, hrow, htold⟩ := hrel
                by_cases hlt4 : i < ks.length
                · have x4 : decide (i < ks.length) = true := decide_eq_true hlt4
                  obtain ⟨y, hy⟩ : ∃ y, ks[i]? = some y := ⟨ks[i]'(by omega), List.getElem?_eq_getElem (by omega)⟩
                  obtain ⟨n, hnj, rfl, hn1', hn2'⟩ := HQ.out.2.1 y (List.mem_of_getElem? hy)
                  obtain ⟨_, _, _, hv, _, _, hcs⟩ := hrow.form (by omega)
                  simp only [Value.slice.injEq] at hv
                  obtain ⟨rfl, rfl, rfl⟩ := hv
                  obtain ⟨g, rfl, _, hcell⟩ := hcs (by omega)
                  have g0 := hcell _ _ (kcells_get ks i _ hy).1
                  have hz := toldL_fresh (s := s) HQ.out.2.2.2.1 hy hn1'
                  have hg := toldL_get j s p ks i hnj
                  rw [hz] at hg
                  have tc := htold.cell hg
                  have tf := htold.free n
                  obtain ⟨_, sn, b1, off1, rfl, hb1, hc1⟩ := hp.below hO.2.2.2 n hnj
                  have q1 := hc1 1 _ rfl
                  have x5 : decide (j ≤ n) = false := by simp; omega
                  have x6 : decide (nw < s n) = false := by simp; omega
                  have x7 : decide ((j : Int) ≤ (n : Int)) = false := by simp; omega
                  have hD := Lib.hid (OnceQ.told ⟨hO, hrow, htold⟩ hy HQ.out.2.2.2.2.2)
                  clear hO hrow htold hcell hcs hc1 hz hg hy
                  go_wp2_with fail
                  go_roundw
                  case rel => exact ⟨i + 1, by go_num, hlt4, hD.out⟩
                  case measure => simp [intOf]; omega
                · have x4 : decide (i < ks.length) = false := by simp; omega
                  have he := HQ.out.2.2.1 i (by omega)
                  rw [he] at htold
                  have hT5 := HQ.out.2.2.2.2
                  have HR := Lib.hid (And.intro hO (And.intro htold hT5))
                  clear HQ hO hrow htold he hi hT5
                  go_wp2_with fail
                  go_loopw [14] (fun y wx => ∃ m : Nat, y = .int .i64 (m : Int) ∧ m ≤ j ∧ OwnT w t mb (restOf T nw) wx ∧ Blk wx wo.heap.size (toldL j s nw [] 0) 4) (fun y _ => j - (intOf y).toNat)
                  case atStart => exact ⟨0, rfl, Nat.zero_le _, HR.out.1, HR.out.2.1⟩
                  case round =>
                    obtain ⟨m, rfl, hm, hO, htold⟩ := hrel
                    by_cases hlt5 : m < j
                    · have x5 : decide (m < j) = true := decide_eq_true hlt5
                      have hget := HR.out.2.2.1.2.2 m hlt5
                      have hat := fun w' hT => tim_at' (T := restOf T nw) (t := t) (mb := mb) w' (m : Int) 0 (by simp [InR]; omega) hT
                      have hg := toldL_get j s nw [] 0 hlt5
                      obtain ⟨_, sm, b1, off1, rfl, hb1, hc1⟩ := hp.below hO.2.2.2 m hlt5
                      by_cases hsm : s m ≤ nw
                      · rw [if_pos hsm] at hget
                        rw [hget] at hat
                        have hg2 : (toldL j s nw [] 0)[m]? = some (.bool true) := by rw [hg]; simp [hsm]
                        have HA := Lib.hid hO
                        have HT := Lib.hid htold
                        have HP := Lib.hid hp
                        clear hO htold hg hget hc1
                        go_wp2_with fail
                        refine (hat _ HA.out.1).mono ?_
                        rintro e w5 ⟨rfl, hk5⟩
                        have hO5 := HA.out.same hk5
                        have ht5 := HT.out.kept hk5 id
                        have tc := ht5.cell hg2
                        obtain ⟨_, _, b1', off1', hbe, hb1', hc1⟩ := HP.out.below hO5.2.2.2 m hlt5
                        simp only [Option.some.injEq, Addr.mk.injEq, and_true] at hbe
                        obtain ⟨rfl, rfl⟩ := hbe
                        have q1 := hc1 1 _ rfl
                        have x6 : decide (s m ≤ nw) = true := decide_eq_true hsm
                        have HD := Lib.hid (And.intro hO5 ht5)
                        clear hO5 ht5 hk5 HA HT hc1 hat hg2
                        go_wp2_with fail
                        go_quiet (fail)
                        go_wp2_with fail
                        go_roundw
                        case rel => exact ⟨m + 1, by go_num, hlt5, HD.out.1.same ((Kept.refl _ _).drewN _), HD.out.2.drewN _⟩
                        case measure => simp [intOf]; omega
                      · rw [if_neg hsm] at hget
                        rw [hget] at hat
                        have hg2 : (toldL j s nw [] 0)[m]? = some (.bool false) := by rw [hg]; simp [hsm]
                        have HA := Lib.hid hO
                        have HT := Lib.hid htold
                        have HP := Lib.hid hp
                        clear hO htold hg hget hc1
                        go_wp2_with fail
                        refine (hat _ HA.out.1).mono ?_
                        rintro e w5 ⟨rfl, hk5⟩
                        have hO5 := HA.out.same hk5
                        have ht5 := HT.out.kept hk5 id
                        have tc := ht5.cell hg2
                        obtain ⟨_, _, b1', off1', hbe, hb1', hc1⟩ := HP.out.below hO5.2.2.2 m hlt5
                        simp only [Option.some.injEq, Addr.mk.injEq, and_true] at hbe
                        obtain ⟨rfl, rfl⟩ := hbe
                        have q1 := hc1 1 _ rfl
                        have x6 : decide (s m ≤ nw) = false := by simpa using hsm
                        have HD := Lib.hid (And.intro hO5 ht5)
                        clear hO5 ht5 hk5 HA HT hc1 hat hg2
                        go_wp2_with fail
                        go_quiet (fail)
                        go_wp2_with fail
                        go_roundw
                        case rel => exact ⟨m + 1, by go_num, hlt5, HD.out.1.same ((Kept.refl _ _).drewN _), HD.out.2.drewN _⟩
                        case measure => simp [intOf]; omega
                    · have x5 : decide (m < j) = false := by simp; omega
                      have HE : Hid (OnceR w t mb j s wo.heap.size (k + 1) nw _) := Lib.hid ⟨nw, _, by omega, hO, HR.out.2.2.1, htold, HR.out.2.2.2⟩
                      clear HR hO htold
                      go_wp2_with fail
                      go_roundw
                      case rel => exact ⟨k + 1, nw, rfl, by go_num, hlt, hnw0, by omega, HE.out⟩
                      case measure => simp [intOf]; omega
            · have x : decide (k < n2) = false := by simp; omega
              have hB := Lib.hid hO.2.2.2
              clear hO hTab htold htb hpn
              go_wp2_with fail
              refine (rang_true _).mono ?_
              rintro e w2 ⟨rfl, hk2⟩
              have hB2 := hB.out.trans (hk2.below (fun _ _ => id) hB.out.size)
              clear hk2 hB
              go_wp2_with fail
              go_ret
              exact ⟨rfl, hB2⟩

theorem once_big (w : World) (a1 a2 : Option Addr) (n1 c1 n2 c2 : Nat) (h : 50 < n1 ∨ 40 < n2) :
    Calls Try.prog 11 #[.slice a1 n1 c1, .slice a2 n2 c2] w fun e w' => e = .returned (.bool true) ∧ Below w.heap.size w w' := by
  by_cases h1 : 50 < n1
  · have x1 : decide (50 < n1) = true := decide_eq_true h1
    have x3 : decide ((50 : Int) < (n1 : Int)) = true := by simp; omega
    go_enter Try.func11, Try.ntmps11
    go_wp2_with fail
    refine (rang_true _).mono ?_
    rintro e w2 ⟨rfl, hk2⟩
    go_wp2_with fail
    go_ret
    exact ⟨rfl, hk2.below (fun _ _ => id) (Nat.le_refl _)⟩
  · have h2 : 40 < n2 := h.resolve_left h1
    have x1 : decide (50 < n1) = false := by simp; omega
    have x3 : decide ((50 : Int) < (n1 : Int)) = false := by simp; omega
    have x2 : decide (40 < n2) = true := decide_eq_true h2
    have x4 : decide ((40 : Int) < (n2 : Int)) = true := by simp; omega
    go_enter Try.func11, Try.ntmps11
    go_wp2_with fail
    refine (rang_true _).mono ?_
    rintro e w2 ⟨rfl, hk2⟩
    go_wp2_with fail
    go_ret
    exact ⟨rfl, hk2.below (fun _ _ => id) (Nat.le_refl _)⟩

set_option maxRecDepth 100000 in
theorem pairs_of {H : Type} {enc : TypeId × Value → H} {base : Nat} {dd : DataW H} {pp : List MemPlace} (v : Value) (w : World) (hv : Value.okWide Try.prog w .any base 79 v) (h : DataW.Trod enc Try.prog w 0 (fun _ => true) true 79 v dd pp) :
    ∃ a n c f s, v = .slice a n c ∧ Pairs w a n f s := by
  obtain ⟨a, n, c, rfl, _, hx⟩ := open_rows (e := 86) (n := 2) Try.underlying79 (by kernel_rfl) (by omega) hv h
  have k1 : Try.prog.cellsOf 5 = 1 := by kernel_rfl
  have hy : ∀ i, ∃ p : Int × Int, i < n → (0 ≤ p.1 ∧ p.1 ≤ 255) ∧ (0 ≤ p.2 ∧ p.2 ≤ 255) ∧ ElemAt w a 2 i [.int .u8 p.1, .int .u8 p.2] := by
    intro i
    by_cases hi : i < n
    · obtain ⟨cs, m, x, hl, he, ht⟩ := hx i hi
      match cs, hl with
      | [c0, c1], _ =>
        obtain ⟨xs1, m1, _, _, _, hl1, hg1⟩ := DataW.trod_array Try.underlying86 ht
        match xs1, hl1 with
        | [z0, z1], _ =>
          have q0 := hg1 0 (by decide)
          have q1 := hg1 1 (by decide)
          simp [k1] at q0 q1
          obtain ⟨a0, e0, _, w0⟩ := DataW.trod_int Try.underlying5 q0
          obtain ⟨a1, e1, _, w1⟩ := DataW.trod_int Try.underlying5 q1
          simp at e0 e1
          subst e0 e1
          exact ⟨(a0, a1), fun _ => ⟨wf_u8 w0, wf_u8 w1, he⟩⟩
    · exact ⟨(0, 0), fun q => absurd q hi⟩
  obtain ⟨F, hF⟩ := Classical.axiomOfChoice hy
  exact ⟨a, n, c, fun i => (F i).1, fun i => (F i).2, rfl, hF⟩
set_option maxRecDepth 100000 in
theorem ticks_of {H : Type} {enc : TypeId × Value → H} {base : Nat} {dd : DataW H} {pp : List MemPlace} (v : Value) (w : World) (hv : Value.okWide Try.prog w .any base 80 v) (h : DataW.Trod enc Try.prog w 0 (fun _ => true) true 80 v dd pp) :
    ∃ a n c f, v = .slice a n c ∧ Ticks w a n f := by
  obtain ⟨a, n, c, rfl, _, hx⟩ := open_rows (e := 5) (n := 1) Try.underlying80 (by kernel_rfl) (by omega) hv h
  have hy : ∀ i, ∃ p : Int, i < n → (0 ≤ p ∧ p ≤ 255) ∧ ElemAt w a 1 i [.int .u8 p] := by
    intro i
    by_cases hi : i < n
    · obtain ⟨cs, m, x, hl, he, ht⟩ := hx i hi
      match cs, hl with
      | [c0], _ =>
        obtain ⟨a0, e0, _, w0⟩ := DataW.trod_int Try.underlying5 ht
        simp at e0
        subst e0
        exact ⟨a0, fun _ => ⟨wf_u8 w0, he⟩⟩
    · exact ⟨0, fun q => absurd q hi⟩
  obtain ⟨F, hF⟩ := Classical.axiomOfChoice hy
  exact ⟨a, n, c, F, rfl, hF⟩
set_option maxRecDepth 100000 in
theorem timersOnce_walk {H : Type} {enc : TypeId × Value → H} {base : Nat} {d0 d1 : DataW H} {p0 p1 : List MemPlace} (v0 v1 : Value) (w : World) (hv0 : Value.okWide Try.prog w .any base 79 v0) (h0 : DataW.Trod enc Try.prog w 0 (fun _ => true) true 79 v0 d0 p0)
    (hv1 : Value.okWide Try.prog w .any base 80 v1) (h1 : DataW.Trod enc Try.prog w 0 (fun _ => true) true 80 v1 d1 p1) :
    Calls Try.prog 11 #[v0, v1] w fun e w' => e = .returned (.bool true) ∧ Below w.heap.size w w' := by
  obtain ⟨a1, n1, c1, f, s, rfl, hp⟩ := pairs_of v0 w hv0 h0
  obtain ⟨a2, n2, c2, tk, rfl, ht⟩ := ticks_of v1 w hv1 h1
  by_cases h : 50 < n1 ∨ 40 < n2
  · exact once_big w a1 a2 n1 c1 n2 c2 h
  · exact once_walk w a1 a2 n1 c1 n2 c2 f s tk (by omega) (by omega) hp ht
end Go.Proofs.Ytahiimcdmojngaa
