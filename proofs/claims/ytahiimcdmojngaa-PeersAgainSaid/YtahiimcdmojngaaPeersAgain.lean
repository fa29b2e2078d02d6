/- The walk of the law PeersAgain. -/
import Derived.Test.YtahiimcdmojngaaPeersAsks
import Derived.Test.YtahiimcdmojngaaPeersActs
namespace Go.Proofs.Ytahiimcdmojngaa
open Go.RowKit Go.Joins

theorem i64_mask3 (x : Int) : bits .and .i64 x 3 = x % 4 := i64_mask 2 (by decide) x

theorem gapZ_le (t d : Int) : gapZ t d ≤ 32 := by
  have hb := baseZ_bd t
  have h1 := Int.emod_lt_of_pos d (b := baseZ t / 2 + 1) (by omega)
  have h2 := Int.emod_nonneg d (b := baseZ t / 2 + 1) (by omega)
  unfold gapZ; omega

/-- What the law's loop keeps: four peers; all may be asked within 1024 ticks; one that never was Bad is not barred, and may be asked within 32. -/
structure Again (l : List Pr) (bad : List Bool) (now : Int) : Prop where
  len : l.length = 4
  blen : bad.length = 4
  all : ∀ (i : Nat) (p : Pr), l[i]? = some p → p.until_ ≤ now + 1024
  good : ∀ (i : Nat) (p : Pr), l[i]? = some p → bad[i]? = some false → p.barred = false ∧ p.until_ ≤ now + 32

theorem Again.later {l : List Pr} {bad : List Bool} {now now' : Int} (h : Again l bad now) (hn : now ≤ now') : Again l bad now' :=
  ⟨h.len, h.blen, fun i p hp => by have := h.all i p hp; omega, fun i p hp hb => by have := h.good i p hp hb; exact ⟨this.1, by omega⟩⟩
theorem Again.set {l : List Pr} {bad : List Bool} {now : Int} (h : Again l bad now) (i : Nat) (q : Pr) (h1 : q.until_ ≤ now + 1024) (h2 : bad[i]? = some false → q.barred = false ∧ q.until_ ≤ now + 32) : Again (l.set i q) bad now := by
  refine ⟨by simpa using h.len, h.blen, fun j p hp => ?_, fun j p hp hb => ?_⟩
  · rw [List.getElem?_set] at hp
    split at hp
    · split at hp
      · cases hp; exact h1
      · cases hp
    · exact h.all j p hp
  · rw [List.getElem?_set] at hp
    split at hp
    · rename_i e
      subst e
      split at hp
      · cases hp; exact h2 hb
      · cases hp
    · exact h.good j p hp hb
theorem Again.mark {l : List Pr} {bad : List Bool} {now : Int} (h : Again l bad now) (i : Nat) : Again l (bad.set i true) now := by
  refine ⟨h.len, by simpa using h.blen, h.all, fun j p hp hb => ?_⟩
  rw [List.getElem?_set] at hb
  split at hb
  · split at hb <;> simp at hb
  · exact h.good j p hp hb
theorem Again.next {l : List Pr} {bad : List Bool} {now : Int} {last : Nat} (h : Again l bad now) (h0 : 0 ≤ now) (h1 : now ≤ 10000) : ∃ i, Pr.next l last (nearZ (now + 1024)) = some i := by
  have hz : nearZ (now + 1024) = now + 1024 := by unfold nearZ; rw [if_neg (by omega), if_neg (by omega)]
  rw [hz]
  refine ⟨_, Pr.next_some l last (now + 1024) 0 (by rw [h.len]; omega) (fun j hj => by omega) ?_⟩
  have hlt : (last + (0 + 1)) % l.length < l.length := Nat.mod_lt _ (by rw [h.len]; omega)
  have hg : l[(last + (0 + 1)) % l.length]? = some l[(last + (0 + 1)) % l.length] := List.getElem?_eq_getElem hlt
  unfold Pr.due
  rw [hg]
  simpa using h.all _ _ hg

set_option maxRecDepth 100000 in
set_option maxHeartbeats 4000000 in
theorem peersAgain_walk1 (a : Option Addr) (len cap : Nat) (w : World) (ha : Acts w a len) (hl : len ≤ 9223372036854775807) :
    Calls Try.prog 7 #[.slice a len cap] w fun e w' => e = .returned (.bool true) ∧ Below w.heap.size w w' := by
  by_cases hlen : 100 < len
  · go_enter Try.func7, Try.ntmps7
    go_wp2_with (go_at_call 27; refine (asks_true _).mono ?_; rintro e w' ⟨rfl, hbel⟩)
    go_ret
    exact ⟨rfl, hbel⟩
  · have e1 : decide ((100 : Int) < (len : Int)) = false := by simp; omega
    go_enter Try.func7, Try.ntmps7
    go_wp2_with fail
    refine (new_ok 4 (by omega) (by omega) _).mono ?_
    rintro e w1 ⟨rfl, hs1, hk1⟩
    obtain ⟨b, hb⟩ : ∃ b, b = w.heap.size + 1 := ⟨_, rfl⟩
    obtain ⟨bl, hbl⟩ : ∃ bl, bl = w.heap.size := ⟨_, rfl⟩
    have hs1' : IsPeers 65 52 w1 b bl 4 [] (List.replicate 4 Pr.zero) 3 := by rw [hb, hbl]; exact hs1
    rw [← hb]
    have gb : w.heap.size ≤ b := by omega
    have gbl : w.heap.size ≤ bl := by omega
    clear hs1 hb hbl
    have l1 := hs1'.head.lt
    have l2 := hs1'.row.lt
    go_wp2_with fail
    go_loopw [4, 5, 7] (fun er n i wr => ∃ (j : Nat) (now : Int) (bad : List Bool) (l : List Pr) (last : Nat), j ≤ len ∧ i = .int .i64 j ∧ n = .int .i64 now ∧ er = .int .i64 0 ∧ 0 ≤ now ∧ now ≤ 16 * j ∧ IsPeers 65 52 wr b bl 4 [] l last ∧ Blk wr w1.heap.size (bad.map Value.bool) 43 ∧ Again l bad now ∧ Kept (fun x => w.heap.size ≤ x) w wr) (fun _ _ i _ => len - (intOf i).toNat)
    case atStart =>
      refine ⟨0, 0, [false, false, false, false], List.replicate 4 Pr.zero, 3, by omega, rfl, rfl, rfl, by omega, by omega, hs1'.alloc _, ?_, ⟨rfl, rfl, ?_, ?_⟩, ?_⟩
      · exact Blk.new w1 [.bool false, .bool false, .bool false, .bool false] 43
      · intro i p hp; have := List.eq_of_mem_replicate (List.mem_of_getElem? hp); subst this; simp [Pr.zero]
      · intro i p hp _; have := List.eq_of_mem_replicate (List.mem_of_getElem? hp); subst this; simp [Pr.zero]
      · exact (hk1.mono (fun _ _ h => h.elim)).alloc _
    case round =>
      obtain ⟨j, now, bad, l, last, hj, rfl, rfl, rfl, n0, n1, hs, hbk, hag, hkept⟩ := hrel
      by_cases hlt : j < len
      · obtain ⟨k, ix, nw, d, k0, k1, d0, d1, x0, x1, y0, y1, hel⟩ := ha j hlt
        have hel2 := hel
        obtain ⟨ab, aoff, rfl, hab, hcell⟩ := hel2
        have hkb := hkept.block ab hab (by omega)
        have t0 : wr.cell? ⟨ab, aoff + j * 4, none⟩ = some (.int .u8 k) := (World.cell?_of_block (w := w) (a := ⟨ab, aoff + j * 4, none⟩) hkb).trans (hcell 0 _ rfl)
        have t1 : wr.cell? ⟨ab, aoff + j * 4 + 1, none⟩ = some (.int .i64 ix) := (World.cell?_of_block (w := w) (a := ⟨ab, aoff + j * 4 + 1, none⟩) hkb).trans (hcell 1 _ rfl)
        have t3 : wr.cell? ⟨ab, aoff + j * 4 + 3, none⟩ = some (.int .u8 d) := (World.cell?_of_block (w := w) (a := ⟨ab, aoff + j * 4 + 3, none⟩) hkb).trans (hcell 3 _ rfl)
        obtain ⟨kk, hkk, hk4⟩ : ∃ kk : Nat, bits .and .i64 ix 3 = (kk : Int) ∧ kk < 4 := ⟨(ix % 4).toNat, by rw [i64_mask3]; omega, by omega⟩
        obtain ⟨dd, hdd, dd0, dd1⟩ : ∃ dd : Int, d % 16 = dd ∧ 0 ≤ dd ∧ dd ≤ 15 := ⟨_, rfl, by omega, by omega⟩
        have hjl : (j : Int) < (len : Int) := by omega
        obtain ⟨now2, hnow2, m0, m1, m2⟩ : ∃ now2 : Int, now + dd = now2 ∧ 0 ≤ now2 ∧ now2 ≤ 16 * ((j : Int) + 1) ∧ now ≤ now2 := ⟨_, rfl, by omega, by omega, by omega⟩
        have hag2 := hag.later m2
        have hnear : Hid (nearZ now2 = now2) := by unfold nearZ; rw [if_neg (by omega), if_neg (by omega)]; exact rfl
        obtain ⟨p, hp⟩ : ∃ p, l[kk]? = some p := ⟨_, List.getElem?_eq_getElem (by rw [hag.len]; exact hk4)⟩
        have HP := Lib.hid hp
        clear hp hcell hel hkb
        have l3 := hs.head.lt
        have l4 := hs.row.lt
        have l8 := hbk.lt
        have hcase : k % 5 = 0 ∨ k % 5 = 1 ∨ k % 5 = 2 ∨ k % 5 = 3 ∨ k % 5 = 4 := by omega
        rcases hcase with hc | hc | hc | hc | hc
        · go_wp2_with fail
          refine (good_in _ _ _ _ _ _ _ kk p hs HP.out).mono ?_
          rintro e w2 ⟨rfl, hs2, hk2⟩
          have hbk2 := hbk.kept hk2 (fun e => by omega)
          have hkp2 := hkept.then_ hk2 (fun x hx he => by omega)
          have hag3 : Again (l.set kk (p.good)) bad now2 := hag2.set kk _ (hag2.all kk p HP.out) (fun hb => ⟨rfl, (hag2.good kk p HP.out hb).2⟩)
          go_wp2_with fail
          go_loopw [9] (fun i wr => ∃ n : Nat, n ≤ 4 ∧ i = .int .i64 n ∧ IsPeers 65 52 wr b bl 4 [] (l.set kk (p.good)) last ∧ Blk wr w1.heap.size ((bad).map Value.bool) 43 ∧ Kept (fun x => w.heap.size ≤ x) w wr) (fun i _ => 4 - (intOf i).toNat)
          case atStart => exact ⟨0, by omega, rfl, hs2, hbk2, hkp2⟩
          case round =>
            obtain ⟨n, hn, rfl, hs3, hbk3, hkept3⟩ := hrel
            by_cases hn4 : n < 4
            · obtain ⟨q, hq⟩ : ∃ q, ((l.set kk (p.good)))[n]? = some q := ⟨_, List.getElem?_eq_getElem (by rw [(hag3).len]; exact hn4)⟩
              obtain ⟨bn, hbn⟩ : ∃ bn, (bad)[n]? = some bn := ⟨_, List.getElem?_eq_getElem (by rw [(hag3).blen]; exact hn4)⟩
              have hall := (hag3).all n q hq
              have cb := hbk3.cell (i := n) (v := .bool bn) (by rw [List.getElem?_map, hbn]; rfl)
              have l5 := hs3.head.lt
              have l6 := hs3.row.lt
              have l7 := hbk3.lt
              have hs4 := (hs3.alloc (.cells #[.int .i64 q.tries, .int .i64 q.strikes, .int .i64 q.until_, .bool q.barred] 52)).alloc (.cells #[.int .i64 q.tries, .int .i64 q.strikes, .int .i64 q.until_, .bool q.barred] 52)
              have hbk4 := (hbk3.alloc (.cells #[.int .i64 q.tries, .int .i64 q.strikes, .int .i64 q.until_, .bool q.barred] 52)).alloc (.cells #[.int .i64 q.tries, .int .i64 q.strikes, .int .i64 q.until_, .bool q.barred] 52)
              have hkp4 := (hkept3.alloc (.cells #[.int .i64 q.tries, .int .i64 q.strikes, .int .i64 q.until_, .bool q.barred] 52)).alloc (.cells #[.int .i64 q.tries, .int .i64 q.strikes, .int .i64 q.until_, .bool q.barred] 52)
              have u1024 : decide (now2 + 1024 < q.until_) = false := by simp; omega
              have HQ := Lib.hid hq
              have HBN := Lib.hid hbn
              clear hq hbn
              have hn4' : (n : Int) < 4 := by omega
              cases bn
              · obtain ⟨g1, g2⟩ := (hag3).good n q HQ.out HBN.out
                have hbar : Hid (q.isBarred now2 = false) := by unfold Pr.isBarred; rw [g1]; rfl
                clear g1
                have u32 : decide (now2 + 32 < q.until_) = false := by simp; omega
                go_wp2_with fail
                refine (state_in _ _ _ _ _ _ _ n q hs3 HQ.out).mono ?_
                rintro e w5 ⟨rfl, rfl⟩
                go_wp2_with fail
                refine (barred_in _ _ _ _ _ _ _ n now2 q hs4 HQ.out).mono ?_
                rw [hbar.out]
                rintro e w6 ⟨rfl, hk6⟩
                have cu := ((Blk.new (wr.alloc (.cells #[.int .i64 q.tries, .int .i64 q.strikes, .int .i64 q.until_, .bool q.barred] 52)) [.int .i64 q.tries, .int .i64 q.strikes, .int .i64 q.until_, .bool q.barred] 52).kept hk6 id).cell (i := 2) rfl
                simp only [World.size_alloc] at cu
                go_wp2_with fail
                go_roundw
                case rel => exact ⟨n + 1, by omega, by go_num, hs4.kept hk6 id id, hbk4.kept hk6 id, hkp4.then_ hk6 (fun _ _ h => h.elim)⟩
                case measure => simp [intOf]; omega
              · go_wp2_with fail
                refine (state_in _ _ _ _ _ _ _ n q hs3 HQ.out).mono ?_
                rintro e w5 ⟨rfl, rfl⟩
                go_wp2_with fail
                go_roundw
                case rel => exact ⟨n + 1, by omega, by go_num, hs4, hbk4, hkp4⟩
                case measure => simp [intOf]; omega
            · obtain ⟨ix2, hnx⟩ := Again.next (last := last) hag3 (by omega) (by omega)
              have HNX := Lib.hid hnx
              clear hnx
              go_wp2_with fail
              refine (next_any _ _ _ _ _ _ _ _ hs3).mono ?_
              unfold NextPost
              rw [HNX.out]
              rintro e w7 ⟨rfl, hs7, hk7⟩
              go_wp2_with fail
              go_roundw
              case rel => exact ⟨j + 1, now2, bad, (l.set kk (p.good)), ix2, by omega, by go_num, by first | rfl | trivial, by first | rfl | trivial, by omega, by omega, hs7, hbk3.kept hk7 (fun e => by omega), hag3, hkept3.then_ hk7 (fun x hx he => by omega)⟩
              case measure => simp [intOf]; omega
        · go_wp2_with fail
          refine (late_in _ _ _ _ _ _ _ kk now2 d p hs HP.out d0 d1).mono ?_
          rintro e w2 ⟨rfl, hs2, hk2⟩
          have hbk2 := hbk.kept hk2 (fun e => by omega)
          have hkp2 := hkept.then_ hk2 (fun x hx he => by omega)
          have hag3 : Again (l.set kk (p.late now2 d)) bad now2 := hag2.set kk _ (by have := gapZ_le (minT p.tries) d; show nearZ now2 + gapZ _ _ ≤ _; rw [hnear.out]; omega) (fun hb => ⟨(hag2.good kk p HP.out hb).1, by have := gapZ_le (minT p.tries) d; show nearZ now2 + gapZ _ _ ≤ _; rw [hnear.out]; omega⟩)
          go_wp2_with fail
          go_loopw [9] (fun i wr => ∃ n : Nat, n ≤ 4 ∧ i = .int .i64 n ∧ IsPeers 65 52 wr b bl 4 [] (l.set kk (p.late now2 d)) last ∧ Blk wr w1.heap.size ((bad).map Value.bool) 43 ∧ Kept (fun x => w.heap.size ≤ x) w wr) (fun i _ => 4 - (intOf i).toNat)
          case atStart => exact ⟨0, by omega, rfl, hs2, hbk2, hkp2⟩
          case round =>
            obtain ⟨n, hn, rfl, hs3, hbk3, hkept3⟩ := hrel
            by_cases hn4 : n < 4
            · obtain ⟨q, hq⟩ : ∃ q, ((l.set kk (p.late now2 d)))[n]? = some q := ⟨_, List.getElem?_eq_getElem (by rw [(hag3).len]; exact hn4)⟩
              obtain ⟨bn, hbn⟩ : ∃ bn, (bad)[n]? = some bn := ⟨_, List.getElem?_eq_getElem (by rw [(hag3).blen]; exact hn4)⟩
              have hall := (hag3).all n q hq
              have cb := hbk3.cell (i := n) (v := .bool bn) (by rw [List.getElem?_map, hbn]; rfl)
              have l5 := hs3.head.lt
              have l6 := hs3.row.lt
              have l7 := hbk3.lt
              have hs4 := (hs3.alloc (.cells #[.int .i64 q.tries, .int .i64 q.strikes, .int .i64 q.until_, .bool q.barred] 52)).alloc (.cells #[.int .i64 q.tries, .int .i64 q.strikes, .int .i64 q.until_, .bool q.barred] 52)
              have hbk4 := (hbk3.alloc (.cells #[.int .i64 q.tries, .int .i64 q.strikes, .int .i64 q.until_, .bool q.barred] 52)).alloc (.cells #[.int .i64 q.tries, .int .i64 q.strikes, .int .i64 q.until_, .bool q.barred] 52)
              have hkp4 := (hkept3.alloc (.cells #[.int .i64 q.tries, .int .i64 q.strikes, .int .i64 q.until_, .bool q.barred] 52)).alloc (.cells #[.int .i64 q.tries, .int .i64 q.strikes, .int .i64 q.until_, .bool q.barred] 52)
              have u1024 : decide (now2 + 1024 < q.until_) = false := by simp; omega
              have HQ := Lib.hid hq
              have HBN := Lib.hid hbn
              clear hq hbn
              have hn4' : (n : Int) < 4 := by omega
              cases bn
              · obtain ⟨g1, g2⟩ := (hag3).good n q HQ.out HBN.out
                have hbar : Hid (q.isBarred now2 = false) := by unfold Pr.isBarred; rw [g1]; rfl
                clear g1
                have u32 : decide (now2 + 32 < q.until_) = false := by simp; omega
                go_wp2_with fail
                refine (state_in _ _ _ _ _ _ _ n q hs3 HQ.out).mono ?_
                rintro e w5 ⟨rfl, rfl⟩
                go_wp2_with fail
                refine (barred_in _ _ _ _ _ _ _ n now2 q hs4 HQ.out).mono ?_
                rw [hbar.out]
                rintro e w6 ⟨rfl, hk6⟩
                have cu := ((Blk.new (wr.alloc (.cells #[.int .i64 q.tries, .int .i64 q.strikes, .int .i64 q.until_, .bool q.barred] 52)) [.int .i64 q.tries, .int .i64 q.strikes, .int .i64 q.until_, .bool q.barred] 52).kept hk6 id).cell (i := 2) rfl
                simp only [World.size_alloc] at cu
                go_wp2_with fail
                go_roundw
                case rel => exact ⟨n + 1, by omega, by go_num, hs4.kept hk6 id id, hbk4.kept hk6 id, hkp4.then_ hk6 (fun _ _ h => h.elim)⟩
                case measure => simp [intOf]; omega
              · go_wp2_with fail
                refine (state_in _ _ _ _ _ _ _ n q hs3 HQ.out).mono ?_
                rintro e w5 ⟨rfl, rfl⟩
                go_wp2_with fail
                go_roundw
                case rel => exact ⟨n + 1, by omega, by go_num, hs4, hbk4, hkp4⟩
                case measure => simp [intOf]; omega
            · obtain ⟨ix2, hnx⟩ := Again.next (last := last) hag3 (by omega) (by omega)
              have HNX := Lib.hid hnx
              clear hnx
              go_wp2_with fail
              refine (next_any _ _ _ _ _ _ _ _ hs3).mono ?_
              unfold NextPost
              rw [HNX.out]
              rintro e w7 ⟨rfl, hs7, hk7⟩
              go_wp2_with fail
              go_roundw
              case rel => exact ⟨j + 1, now2, bad, (l.set kk (p.late now2 d)), ix2, by omega, by go_num, by first | rfl | trivial, by first | rfl | trivial, by omega, by omega, hs7, hbk3.kept hk7 (fun e => by omega), hag3, hkept3.then_ hk7 (fun x hx he => by omega)⟩
              case measure => simp [intOf]; omega
        · go_wp2_with fail
          refine (bad_in _ _ _ _ _ _ _ kk now2 p hs HP.out).mono ?_
          rintro e w2 ⟨rfl, hs2a, hk2⟩
          have hbk2a := hbk.kept hk2 (fun e => by omega)
          have hkp2a := hkept.then_ hk2 (fun x hx he => by omega)
          have hfr := hbk2a.free kk
          have hk4' : (kk : Int) < 4 := by omega
          obtain ⟨bv, hbv⟩ : ∃ bv, bad[kk]? = some bv := ⟨_, List.getElem?_eq_getElem (by rw [hag.blen]; exact hk4)⟩
          have cbk := hbk2a.cell (i := kk) (v := .bool bv) (by rw [List.getElem?_map, hbv]; rfl)
          have HBV := Lib.hid hbv
          clear hbv
          have hag3 : Again (l.set kk (p.bad now2)) (bad.set kk true) now2 := by
            refine (hag2.mark kk).set kk _ (by have := paroleZ_bd p.strikes; show nearZ now2 + paroleZ _ ≤ _; rw [hnear.out]; omega) (fun hb => ?_)
            rw [List.getElem?_set] at hb
            simp at hb
          have hs2 := (hs2a.kept ((Kept.refl (fun x => x = w1.heap.size) w2).setCell (p := ⟨w1.heap.size, kk, none⟩) (fun _ => rfl) (.bool true)) (fun e => by omega) (fun e => by omega))
          have hbk2 : Blk (w2.setCell ⟨w1.heap.size, kk, none⟩ (.bool true)) w1.heap.size ((bad.set kk true).map Value.bool) 43 := by
            have := hbk2a.set kk (.bool true)
            rwa [← List.map_set] at this
          have hkp2 := hkp2a.setCell (p := ⟨w1.heap.size, kk, none⟩) (fun _ => by have := hk1.size; exact this) (.bool true)
          go_wp2_with fail
          go_loopw [9] (fun i wr => ∃ n : Nat, n ≤ 4 ∧ i = .int .i64 n ∧ IsPeers 65 52 wr b bl 4 [] (l.set kk (p.bad now2)) last ∧ Blk wr w1.heap.size (((bad.set kk true)).map Value.bool) 43 ∧ Kept (fun x => w.heap.size ≤ x) w wr) (fun i _ => 4 - (intOf i).toNat)
          case atStart => exact ⟨0, by omega, rfl, hs2, hbk2, hkp2⟩
          case round =>
            obtain ⟨n, hn, rfl, hs3, hbk3, hkept3⟩ := hrel
            by_cases hn4 : n < 4
            · obtain ⟨q, hq⟩ : ∃ q, ((l.set kk (p.bad now2)))[n]? = some q := ⟨_, List.getElem?_eq_getElem (by rw [(hag3).len]; exact hn4)⟩
              obtain ⟨bn, hbn⟩ : ∃ bn, ((bad.set kk true))[n]? = some bn := ⟨_, List.getElem?_eq_getElem (by rw [(hag3).blen]; exact hn4)⟩
              have hall := (hag3).all n q hq
              have cb := hbk3.cell (i := n) (v := .bool bn) (by rw [List.getElem?_map, hbn]; rfl)
              have l5 := hs3.head.lt
              have l6 := hs3.row.lt
              have l7 := hbk3.lt
              have hs4 := (hs3.alloc (.cells #[.int .i64 q.tries, .int .i64 q.strikes, .int .i64 q.until_, .bool q.barred] 52)).alloc (.cells #[.int .i64 q.tries, .int .i64 q.strikes, .int .i64 q.until_, .bool q.barred] 52)
              have hbk4 := (hbk3.alloc (.cells #[.int .i64 q.tries, .int .i64 q.strikes, .int .i64 q.until_, .bool q.barred] 52)).alloc (.cells #[.int .i64 q.tries, .int .i64 q.strikes, .int .i64 q.until_, .bool q.barred] 52)
              have hkp4 := (hkept3.alloc (.cells #[.int .i64 q.tries, .int .i64 q.strikes, .int .i64 q.until_, .bool q.barred] 52)).alloc (.cells #[.int .i64 q.tries, .int .i64 q.strikes, .int .i64 q.until_, .bool q.barred] 52)
              have u1024 : decide (now2 + 1024 < q.until_) = false := by simp; omega
              have HQ := Lib.hid hq
              have HBN := Lib.hid hbn
              clear hq hbn
              have hn4' : (n : Int) < 4 := by omega
              cases bn
              · obtain ⟨g1, g2⟩ := (hag3).good n q HQ.out HBN.out
                have hbar : Hid (q.isBarred now2 = false) := by unfold Pr.isBarred; rw [g1]; rfl
                clear g1
                have u32 : decide (now2 + 32 < q.until_) = false := by simp; omega
                go_wp2_with fail
                refine (state_in _ _ _ _ _ _ _ n q hs3 HQ.out).mono ?_
                rintro e w5 ⟨rfl, rfl⟩
                go_wp2_with fail
                refine (barred_in _ _ _ _ _ _ _ n now2 q hs4 HQ.out).mono ?_
                rw [hbar.out]
                rintro e w6 ⟨rfl, hk6⟩
                have cu := ((Blk.new (wr.alloc (.cells #[.int .i64 q.tries, .int .i64 q.strikes, .int .i64 q.until_, .bool q.barred] 52)) [.int .i64 q.tries, .int .i64 q.strikes, .int .i64 q.until_, .bool q.barred] 52).kept hk6 id).cell (i := 2) rfl
                simp only [World.size_alloc] at cu
                go_wp2_with fail
                go_roundw
                case rel => exact ⟨n + 1, by omega, by go_num, hs4.kept hk6 id id, hbk4.kept hk6 id, hkp4.then_ hk6 (fun _ _ h => h.elim)⟩
                case measure => simp [intOf]; omega
              · go_wp2_with fail
                refine (state_in _ _ _ _ _ _ _ n q hs3 HQ.out).mono ?_
                rintro e w5 ⟨rfl, rfl⟩
                go_wp2_with fail
                go_roundw
                case rel => exact ⟨n + 1, by omega, by go_num, hs4, hbk4, hkp4⟩
                case measure => simp [intOf]; omega
            · obtain ⟨ix2, hnx⟩ := Again.next (last := last) hag3 (by omega) (by omega)
              have HNX := Lib.hid hnx
              clear hnx
              go_wp2_with fail
              refine (next_any _ _ _ _ _ _ _ _ hs3).mono ?_
              unfold NextPost
              rw [HNX.out]
              rintro e w7 ⟨rfl, hs7, hk7⟩
              go_wp2_with fail
              go_roundw
              case rel => exact ⟨j + 1, now2, (bad.set kk true), (l.set kk (p.bad now2)), ix2, by omega, by go_num, by first | rfl | trivial, by first | rfl | trivial, by omega, by omega, hs7, hbk3.kept hk7 (fun e => by omega), hag3, hkept3.then_ hk7 (fun x hx he => by omega)⟩
              case measure => simp [intOf]; omega
        · go_wp2_with fail
          refine (idle_in _ _ _ _ _ _ _ kk now2 p hs HP.out).mono ?_
          rintro e w2 ⟨rfl, hs2, hk2⟩
          have hbk2 := hbk.kept hk2 (fun e => by omega)
          have hkp2 := hkept.then_ hk2 (fun x hx he => by omega)
          have hag3 : Again (l.set kk (p.idle now2)) bad now2 := hag2.set kk _ (by show nearZ now2 + 4 ≤ _; rw [hnear.out]; omega) (fun hb => ⟨(hag2.good kk p HP.out hb).1, by show nearZ now2 + 4 ≤ _; rw [hnear.out]; omega⟩)
          go_wp2_with fail
          go_loopw [9] (fun i wr => ∃ n : Nat, n ≤ 4 ∧ i = .int .i64 n ∧ IsPeers 65 52 wr b bl 4 [] (l.set kk (p.idle now2)) last ∧ Blk wr w1.heap.size ((bad).map Value.bool) 43 ∧ Kept (fun x => w.heap.size ≤ x) w wr) (fun i _ => 4 - (intOf i).toNat)
          case atStart => exact ⟨0, by omega, rfl, hs2, hbk2, hkp2⟩
          case round =>
            obtain ⟨n, hn, rfl, hs3, hbk3, hkept3⟩ := hrel
            by_cases hn4 : n < 4
            · obtain ⟨q, hq⟩ : ∃ q, ((l.set kk (p.idle now2)))[n]? = some q := ⟨_, List.getElem?_eq_getElem (by rw [(hag3).len]; exact hn4)⟩
              obtain ⟨bn, hbn⟩ : ∃ bn, (bad)[n]? = some bn := ⟨_, List.getElem?_eq_getElem (by rw [(hag3).blen]; exact hn4)⟩
              have hall := (hag3).all n q hq
              have cb := hbk3.cell (i := n) (v := .bool bn) (by rw [List.getElem?_map, hbn]; rfl)
              have l5 := hs3.head.lt
              have l6 := hs3.row.lt
              have l7 := hbk3.lt
              have hs4 := (hs3.alloc (.cells #[.int .i64 q.tries, .int .i64 q.strikes, .int .i64 q.until_, .bool q.barred] 52)).alloc (.cells #[.int .i64 q.tries, .int .i64 q.strikes, .int .i64 q.until_, .bool q.barred] 52)
              have hbk4 := (hbk3.alloc (.cells #[.int .i64 q.tries, .int .i64 q.strikes, .int .i64 q.until_, .bool q.barred] 52)).alloc (.cells #[.int .i64 q.tries, .int .i64 q.strikes, .int .i64 q.until_, .bool q.barred] 52)
              have hkp4 := (hkept3.alloc (.cells #[.int .i64 q.tries, .int .i64 q.strikes, .int .i64 q.until_, .bool q.barred] 52)).alloc (.cells #[.int .i64 q.tries, .int .i64 q.strikes, .int .i64 q.until_, .bool q.barred] 52)
              have u1024 : decide (now2 + 1024 < q.until_) = false := by simp; omega
              have HQ := Lib.hid hq
              have HBN := Lib.hid hbn
              clear hq hbn
              have hn4' : (n : Int) < 4 := by omega
              cases bn
              · obtain ⟨g1, g2⟩ := (hag3).good n q HQ.out HBN.out
                have hbar : Hid (q.isBarred now2 = false) := by unfold Pr.isBarred; rw [g1]; rfl
                clear g1
                have u32 : decide (now2 + 32 < q.until_) = false := by simp; omega
                go_wp2_with fail
                refine (state_in _ _ _ _ _ _ _ n q hs3 HQ.out).mono ?_
                rintro e w5 ⟨rfl, rfl⟩
                go_wp2_with fail
                refine (barred_in _ _ _ _ _ _ _ n now2 q hs4 HQ.out).mono ?_
                rw [hbar.out]
                rintro e w6 ⟨rfl, hk6⟩
                have cu := ((Blk.new (wr.alloc (.cells #[.int .i64 q.tries, .int .i64 q.strikes, .int .i64 q.until_, .bool q.barred] 52)) [.int .i64 q.tries, .int .i64 q.strikes, .int .i64 q.until_, .bool q.barred] 52).kept hk6 id).cell (i := 2) rfl
                simp only [World.size_alloc] at cu
                go_wp2_with fail
                go_roundw
                case rel => exact ⟨n + 1, by omega, by go_num, hs4.kept hk6 id id, hbk4.kept hk6 id, hkp4.then_ hk6 (fun _ _ h => h.elim)⟩
                case measure => simp [intOf]; omega
              · go_wp2_with fail
                refine (state_in _ _ _ _ _ _ _ n q hs3 HQ.out).mono ?_
                rintro e w5 ⟨rfl, rfl⟩
                go_wp2_with fail
                go_roundw
                case rel => exact ⟨n + 1, by omega, by go_num, hs4, hbk4, hkp4⟩
                case measure => simp [intOf]; omega
            · obtain ⟨ix2, hnx⟩ := Again.next (last := last) hag3 (by omega) (by omega)
              have HNX := Lib.hid hnx
              clear hnx
              go_wp2_with fail
              refine (next_any _ _ _ _ _ _ _ _ hs3).mono ?_
              unfold NextPost
              rw [HNX.out]
              rintro e w7 ⟨rfl, hs7, hk7⟩
              go_wp2_with fail
              go_roundw
              case rel => exact ⟨j + 1, now2, bad, (l.set kk (p.idle now2)), ix2, by omega, by go_num, by first | rfl | trivial, by first | rfl | trivial, by omega, by omega, hs7, hbk3.kept hk7 (fun e => by omega), hag3, hkept3.then_ hk7 (fun x hx he => by omega)⟩
              case measure => simp [intOf]; omega
        · go_wp2_with fail
          refine (next_any _ _ _ _ _ _ _ now2 hs).mono ?_
          unfold NextPost
          rcases hnn : Pr.next l last (nearZ now2) with _ | last2
          · rintro e w2 ⟨rfl, hs2, hk2⟩
            clear hnn
            have hbk2 := hbk.kept hk2 (fun e => by omega)
            have hkp2 := hkept.then_ hk2 (fun x hx he => by omega)
            go_wp2_with fail
            go_loopw [9] (fun i wr => ∃ n : Nat, n ≤ 4 ∧ i = .int .i64 n ∧ IsPeers 65 52 wr b bl 4 [] l last ∧ Blk wr w1.heap.size ((bad).map Value.bool) 43 ∧ Kept (fun x => w.heap.size ≤ x) w wr) (fun i _ => 4 - (intOf i).toNat)
            case atStart => exact ⟨0, by omega, rfl, hs2, hbk2, hkp2⟩
            case round =>
              obtain ⟨n, hn, rfl, hs3, hbk3, hkept3⟩ := hrel
              by_cases hn4 : n < 4
              · obtain ⟨q, hq⟩ : ∃ q, (l)[n]? = some q := ⟨_, List.getElem?_eq_getElem (by rw [(hag2).len]; exact hn4)⟩
                obtain ⟨bn, hbn⟩ : ∃ bn, (bad)[n]? = some bn := ⟨_, List.getElem?_eq_getElem (by rw [(hag2).blen]; exact hn4)⟩
                have hall := (hag2).all n q hq
                have cb := hbk3.cell (i := n) (v := .bool bn) (by rw [List.getElem?_map, hbn]; rfl)
                have l5 := hs3.head.lt
                have l6 := hs3.row.lt
                have l7 := hbk3.lt
                have hs4 := (hs3.alloc (.cells #[.int .i64 q.tries, .int .i64 q.strikes, .int .i64 q.until_, .bool q.barred] 52)).alloc (.cells #[.int .i64 q.tries, .int .i64 q.strikes, .int .i64 q.until_, .bool q.barred] 52)
                have hbk4 := (hbk3.alloc (.cells #[.int .i64 q.tries, .int .i64 q.strikes, .int .i64 q.until_, .bool q.barred] 52)).alloc (.cells #[.int .i64 q.tries, .int .i64 q.strikes, .int .i64 q.until_, .bool q.barred] 52)
                have hkp4 := (hkept3.alloc (.cells #[.int .i64 q.tries, .int .i64 q.strikes, .int .i64 q.until_, .bool q.barred] 52)).alloc (.cells #[.int .i64 q.tries, .int .i64 q.strikes, .int .i64 q.until_, .bool q.barred] 52)
                have u1024 : decide (now2 + 1024 < q.until_) = false := by simp; omega
                have HQ := Lib.hid hq
                have HBN := Lib.hid hbn
                clear hq hbn
                have hn4' : (n : Int) < 4 := by omega
                cases bn
                · obtain ⟨g1, g2⟩ := (hag2).good n q HQ.out HBN.out
                  have hbar : Hid (q.isBarred now2 = false) := by unfold Pr.isBarred; rw [g1]; rfl
                  clear g1
                  have u32 : decide (now2 + 32 < q.until_) = false := by simp; omega
                  go_wp2_with fail
                  refine (state_in _ _ _ _ _ _ _ n q hs3 HQ.out).mono ?_
                  rintro e w5 ⟨rfl, rfl⟩
                  go_wp2_with fail
                  refine (barred_in _ _ _ _ _ _ _ n now2 q hs4 HQ.out).mono ?_
                  rw [hbar.out]
                  rintro e w6 ⟨rfl, hk6⟩
                  have cu := ((Blk.new (wr.alloc (.cells #[.int .i64 q.tries, .int .i64 q.strikes, .int .i64 q.until_, .bool q.barred] 52)) [.int .i64 q.tries, .int .i64 q.strikes, .int .i64 q.until_, .bool q.barred] 52).kept hk6 id).cell (i := 2) rfl
                  simp only [World.size_alloc] at cu
                  go_wp2_with fail
                  go_roundw
                  case rel => exact ⟨n + 1, by omega, by go_num, hs4.kept hk6 id id, hbk4.kept hk6 id, hkp4.then_ hk6 (fun _ _ h => h.elim)⟩
                  case measure => simp [intOf]; omega
                · go_wp2_with fail
                  refine (state_in _ _ _ _ _ _ _ n q hs3 HQ.out).mono ?_
                  rintro e w5 ⟨rfl, rfl⟩
                  go_wp2_with fail
                  go_roundw
                  case rel => exact ⟨n + 1, by omega, by go_num, hs4, hbk4, hkp4⟩
                  case measure => simp [intOf]; omega
              · obtain ⟨ix2, hnx⟩ := Again.next (last := last) hag2 (by omega) (by omega)
                have HNX := Lib.hid hnx
                clear hnx
                go_wp2_with fail
                refine (next_any _ _ _ _ _ _ _ _ hs3).mono ?_
                unfold NextPost
                rw [HNX.out]
                rintro e w7 ⟨rfl, hs7, hk7⟩
                go_wp2_with fail
                go_roundw
                case rel => exact ⟨j + 1, now2, bad, l, ix2, by omega, by go_num, by first | rfl | trivial, by first | rfl | trivial, by omega, by omega, hs7, hbk3.kept hk7 (fun e => by omega), hag2, hkept3.then_ hk7 (fun x hx he => by omega)⟩
                case measure => simp [intOf]; omega

          · rintro e w2 ⟨rfl, hs2, hk2⟩
            clear hnn
            have hbk2 := hbk.kept hk2 (fun e => by omega)
            have hkp2 := hkept.then_ hk2 (fun x hx he => by omega)
            go_wp2_with fail
            go_loopw [9] (fun i wr => ∃ n : Nat, n ≤ 4 ∧ i = .int .i64 n ∧ IsPeers 65 52 wr b bl 4 [] l last2 ∧ Blk wr w1.heap.size ((bad).map Value.bool) 43 ∧ Kept (fun x => w.heap.size ≤ x) w wr) (fun i _ => 4 - (intOf i).toNat)
            case atStart => exact ⟨0, by omega, rfl, hs2, hbk2, hkp2⟩
            case round =>
              obtain ⟨n, hn, rfl, hs3, hbk3, hkept3⟩ := hrel
              by_cases hn4 : n < 4
              · obtain ⟨q, hq⟩ : ∃ q, (l)[n]? = some q := ⟨_, List.getElem?_eq_getElem (by rw [(hag2).len]; exact hn4)⟩
                obtain ⟨bn, hbn⟩ : ∃ bn, (bad)[n]? = some bn := ⟨_, List.getElem?_eq_getElem (by rw [(hag2).blen]; exact hn4)⟩
                have hall := (hag2).all n q hq
                have cb := hbk3.cell (i := n) (v := .bool bn) (by rw [List.getElem?_map, hbn]; rfl)
                have l5 := hs3.head.lt
                have l6 := hs3.row.lt
                have l7 := hbk3.lt
                have hs4 := (hs3.alloc (.cells #[.int .i64 q.tries, .int .i64 q.strikes, .int .i64 q.until_, .bool q.barred] 52)).alloc (.cells #[.int .i64 q.tries, .int .i64 q.strikes, .int .i64 q.until_, .bool q.barred] 52)
                have hbk4 := (hbk3.alloc (.cells #[.int .i64 q.tries, .int .i64 q.strikes, .int .i64 q.until_, .bool q.barred] 52)).alloc (.cells #[.int .i64 q.tries, .int .i64 q.strikes, .int .i64 q.until_, .bool q.barred] 52)
                have hkp4 := (hkept3.alloc (.cells #[.int .i64 q.tries, .int .i64 q.strikes, .int .i64 q.until_, .bool q.barred] 52)).alloc (.cells #[.int .i64 q.tries, .int .i64 q.strikes, .int .i64 q.until_, .bool q.barred] 52)
                have u1024 : decide (now2 + 1024 < q.until_) = false := by simp; omega
                have HQ := Lib.hid hq
                have HBN := Lib.hid hbn
                clear hq hbn
                have hn4' : (n : Int) < 4 := by omega
                cases bn
                · obtain ⟨g1, g2⟩ := (hag2).good n q HQ.out HBN.out
                  have hbar : Hid (q.isBarred now2 = false) := by unfold Pr.isBarred; rw [g1]; rfl
                  clear g1
                  have u32 : decide (now2 + 32 < q.until_) = false := by simp; omega
                  go_wp2_with fail
                  refine (state_in _ _ _ _ _ _ _ n q hs3 HQ.out).mono ?_
                  rintro e w5 ⟨rfl, rfl⟩
                  go_wp2_with fail
                  refine (barred_in _ _ _ _ _ _ _ n now2 q hs4 HQ.out).mono ?_
                  rw [hbar.out]
                  rintro e w6 ⟨rfl, hk6⟩
                  have cu := ((Blk.new (wr.alloc (.cells #[.int .i64 q.tries, .int .i64 q.strikes, .int .i64 q.until_, .bool q.barred] 52)) [.int .i64 q.tries, .int .i64 q.strikes, .int .i64 q.until_, .bool q.barred] 52).kept hk6 id).cell (i := 2) rfl
                  simp only [World.size_alloc] at cu
                  go_wp2_with fail
                  go_roundw
                  case rel => exact ⟨n + 1, by omega, by go_num, hs4.kept hk6 id id, hbk4.kept hk6 id, hkp4.then_ hk6 (fun _ _ h => h.elim)⟩
                  case measure => simp [intOf]; omega
                · go_wp2_with fail
                  refine (state_in _ _ _ _ _ _ _ n q hs3 HQ.out).mono ?_
                  rintro e w5 ⟨rfl, rfl⟩
                  go_wp2_with fail
                  go_roundw
                  case rel => exact ⟨n + 1, by omega, by go_num, hs4, hbk4, hkp4⟩
                  case measure => simp [intOf]; omega
              · obtain ⟨ix2, hnx⟩ := Again.next (last := last2) hag2 (by omega) (by omega)
                have HNX := Lib.hid hnx
                clear hnx
                go_wp2_with fail
                refine (next_any _ _ _ _ _ _ _ _ hs3).mono ?_
                unfold NextPost
                rw [HNX.out]
                rintro e w7 ⟨rfl, hs7, hk7⟩
                go_wp2_with fail
                go_roundw
                case rel => exact ⟨j + 1, now2, bad, l, ix2, by omega, by go_num, by first | rfl | trivial, by first | rfl | trivial, by omega, by omega, hs7, hbk3.kept hk7 (fun e => by omega), hag2, hkept3.then_ hk7 (fun x hx he => by omega)⟩
                case measure => simp [intOf]; omega

      · go_wp2_with (go_at_call 27; refine (asks_true _).mono ?_; rintro e w' ⟨rfl, hbel⟩)
        go_ret
        exact ⟨rfl, (hkept.trans (Kept.of_below hbel)).below (fun k h1 h2 => by omega) (Nat.le_refl _)⟩

set_option maxRecDepth 100000 in
theorem peersAgain_walk {H : Type} {enc : TypeId × Value → H} {base : Nat} {dd : DataW H} {pp : List MemPlace} (v : Value) (w : World) (hv : Value.okWide Try.prog w .any base 38 v) (h : DataW.Trod enc Try.prog w 0 (fun _ => true) true 38 v dd pp) :
    Calls Try.prog 7 #[v] w fun e w' => e = .returned (.bool true) ∧ Below w.heap.size w w' := by
  obtain ⟨a, len, cap, rfl, hl, ha⟩ := acts_of v w hv h
  exact peersAgain_walk1 a len cap w ha hl
end Go.Proofs.Ytahiimcdmojngaa
