/- Contracts of the reference of package peers. -/
import Derived.Test.YtahiimcdmojngaaPeers2
namespace Go.Proofs.Ytahiimcdmojngaa
open Go.RowKit

theorem refNear_any (t : Int) (w : World) : Calls Try.prog 78 #[.int .i64 t] w fun e w' => e = .returned (.int .i64 (nearZ t)) ∧ w = w' := by
  by_cases h0 : t < 0
  · have e : nearZ t = 0 := by simp [nearZ, h0]
    rw [e]; clear e
    go_enter Try.func78, Try.ntmps78
    go_wp2
    go_ret
    exact ⟨rfl, rfl⟩
  · by_cases h1 : 1099511627776 < t
    · have e : nearZ t = 1099511627776 := by simp [nearZ, h0, h1]
      rw [e]; clear e
      go_enter Try.func78, Try.ntmps78
      go_wp2
      go_ret
      exact ⟨rfl, rfl⟩
    · have e : nearZ t = t := by simp [nearZ, h0, h1]
      rw [e]; clear e
      go_enter Try.func78, Try.ntmps78
      go_wp2
      all_goals
        go_ret
        exact ⟨ret_int (by omega), rfl⟩

theorem is_in (w : World) (b bl n cap : Nat) (i : Int) (h : w.cell? ⟨b, 0, none⟩ = some (.slice (some ⟨bl, 0, none⟩) n cap)) (h0 : 0 ≤ i) (h1 : i < n) :
    Calls Try.prog 76 #[.pointer (some ⟨b, 0, none⟩), .int .i64 i] w fun e w' => e = .returned (.bool true) ∧ w = w' := by
  go_enter Try.func76, Try.ntmps76
  go_wp2
  go_ret
  exact ⟨rfl, rfl⟩
theorem is_out (w : World) (b bl n cap : Nat) (i : Int) (h : w.cell? ⟨b, 0, none⟩ = some (.slice (some ⟨bl, 0, none⟩) n cap)) (hi : i < 0 ∨ n ≤ i) :
    Calls Try.prog 76 #[.pointer (some ⟨b, 0, none⟩), .int .i64 i] w fun e w' => e = .returned (.bool false) ∧ w = w' := by
  by_cases h0 : i < 0
  · go_enter Try.func76, Try.ntmps76
    go_wp2
    go_ret
    exact ⟨rfl, rfl⟩
  · have h1 : (n : Int) ≤ i := by omega
    have h2 : 0 ≤ i := by omega
    clear hi
    go_enter Try.func76, Try.ntmps76
    go_wp2
    go_ret
    exact ⟨by simp; omega, rfl⟩

theorem Try.infoRefPeer : (Try.prog.info? 116).map (fun i => (i.zero, i.size, i.bytes)) = some (some (.agg #[.int .i64 0, .int .i64 0, .int .i64 0, .bool false]), 4, 32) := by kernel_rfl

/-- What with leaves: the peer is another, in a new list. -/
def WithPost (T E : TypeId) (w : World) (b : Nat) (l : List Pr) (last : Nat) (e : Ending) (w' : World) : Prop :=
  ∃ bl cap rest, e = .returned (.int .i64 0) ∧ IsPeers T E w' b bl cap rest l last ∧ w.heap.size ≤ bl ∧ Kept (· = b) w w'

theorem flat_one (l : List Pr) : ∀ u ∈ Pr.flat l, u.oneCell' = true := by
  intro u hu
  obtain ⟨p, _, hp⟩ := List.mem_flatMap.1 hu
  simp [Pr.cells] at hp
  rcases hp with rfl | rfl | rfl | rfl <;> rfl

/-- A whole peer stored, cell by cell. -/
theorem IsPeers.put {T E : TypeId} {w : World} {b bl cap : Nat} {rest : List Value} {l : List Pr} {last i : Nat} (hs : IsPeers T E w b bl cap rest l last) (hlt : i < l.length) (q : Pr) (hq : q.ok) :
    IsPeers T E ((((w.setCell ⟨bl, i * 4, none⟩ (.int .i64 q.tries)).setCell ⟨bl, i * 4 + 1, none⟩ (.int .i64 q.strikes)).setCell ⟨bl, i * 4 + 2, none⟩ (.int .i64 q.until_)).setCell ⟨bl, i * 4 + 3, none⟩ (.bool q.barred)) b bl cap rest (l.set i q) last := by
  obtain ⟨p, hi⟩ : ∃ p, l[i]? = some p := ⟨_, List.getElem?_eq_getElem hlt⟩
  obtain ⟨o1, o2, o3, o4, o5, o6⟩ := hs.ok p (List.mem_of_getElem? hi)
  obtain ⟨k1, k2, k3, k4, k5, k6⟩ := hq
  have h1 := hs.set1 (j := 0) (p' := ⟨q.tries, p.strikes, p.until_, p.barred⟩) hi (by omega) (v := .int .i64 q.tries) rfl ⟨k1, k2, o3, o4, o5, o6⟩
  have h2 := h1.set1 (i := i) (j := 1) (p := ⟨q.tries, p.strikes, p.until_, p.barred⟩) (p' := ⟨q.tries, q.strikes, p.until_, p.barred⟩) (by simp [hlt]) (by omega) (v := .int .i64 q.strikes) rfl ⟨k1, k2, k3, k4, o5, o6⟩
  have h3 := h2.set1 (i := i) (j := 2) (p := ⟨q.tries, q.strikes, p.until_, p.barred⟩) (p' := ⟨q.tries, q.strikes, q.until_, p.barred⟩) (by simp [hlt]) (by omega) (v := .int .i64 q.until_) rfl ⟨k1, k2, k3, k4, k5, k6⟩
  have h4 := h3.set1 (i := i) (j := 3) (p := ⟨q.tries, q.strikes, q.until_, p.barred⟩) (p' := q) (by simp [hlt]) (by omega) (v := .bool q.barred) rfl ⟨k1, k2, k3, k4, k5, k6⟩
  simp only [List.set_set] at h4
  exact h4

set_option maxRecDepth 100000 in
set_option maxHeartbeats 1000000 in
theorem with_any (w : World) (b bl cap : Nat) (rest : List Value) (l : List Pr) (last i : Nat) (q : Pr) (hs : IsPeers 115 116 w b bl cap rest l last) (hi : i < l.length) (hq : q.ok) :
    Calls Try.prog 77 #[.pointer (some ⟨b, 0, none⟩), .int .i64 i, .agg #[.int .i64 q.tries, .int .i64 q.strikes, .int .i64 q.until_, .bool q.barred]] w
      (WithPost 115 116 w b (l.set i q) last) := by
  have few := hs.few
  have hlast := hs.last
  have hbw := hs.head.lt
  have c0 := hs.c0
  have z0 := hs.head.free 0
  obtain ⟨i0, hinf, hz0, hz1, hz2⟩ := info_parts Try.infoRefPeer
  have hr := hs.row.alloc (.cells #[.int .i64 q.tries, .int .i64 q.strikes, .int .i64 q.until_, .bool q.barred] 116)
  have hnews : ∀ (j : Nat) (u : Value), (Pr.flat l)[j]? = some u → (w.alloc (.cells #[.int .i64 q.tries, .int .i64 q.strikes, .int .i64 q.until_, .bool q.barred] 116)).cell? ((⟨bl, 0, none⟩ : Addr).add j) = some u := by
    intro j u hu
    have hadd : (⟨bl, 0, none⟩ : Addr).add j = ⟨bl, j, none⟩ := by unfold Addr.add; split <;> simp_all
    rw [hadd]
    refine hr.cell ?_
    rw [List.getElem?_append_left (List.getElem?_eq_some_iff.1 hu).1]
    exact hu
  have hlen' : (Pr.flat l).length = l.length * 4 := by rw [Pr.flat_len]; omega
  have hone := flat_one l
  have hown := World.ownsRow_nil (w.alloc (.cells #[.int .i64 q.tries, .int .i64 q.strikes, .int .i64 q.until_, .bool q.barred] 116)) (w.heap.size + 1) 116 4
  have HN := Lib.hid hnews
  have HL := Lib.hid hlen'
  clear hnews hlen'
  go_enter Try.func77, Try.ntmps77
  go_wp2_with (at_builtin; refine wpList_append_own _ rfl _ _ 113 rfl (w.heap.size + 1) 116 i0 _ 4 32 Try.underlying113 hinf hz0 hz1 hz2 rfl (by decide) _ _ _ rfl hown ⟨bl, 0, none⟩ l.length cap (Pr.flat l) rfl HL.out HN.out hone ?c3 ?c4 ?c5 ?_)
  case c3 => unfold maxLen; omega
  case c4 => omega
  case c5 => simp
  intro v' w1 hown' hgrow _
  have hbk := ownsRow_blk hown' (by omega)
  obtain ⟨g, cap', rest', hv, hg, hblk⟩ := hbk
  try simp only [Nat.zero_add] at hv
  try simp only [List.nil_append] at hblk
  rw [hv]
  have hk1 : Kept (fun _ => False) w w1 := ((Kept.refl _ _).alloc _).grown hgrow (fun k hk hlt => by simp [Value.ownBlock] at hk)
  have hs1 : IsPeers 115 116 w1 b bl cap rest l last := hs.kept hk1 id id
  have d0 := hs1.c0
  have y0 := hs1.head.free 0
  have hxb := ((Blk.new w [.int .i64 q.tries, .int .i64 q.strikes, .int .i64 q.until_, .bool q.barred] 116).kept ((Kept.refl (fun _ => False) _).grown hgrow (fun k hk hlt => by simp [Value.ownBlock] at hk)) id)
  clear hown hown' HN HL hr c0 z0 hs hgrow
  have hbg : b ≠ g := by omega
  have hle : (i : Int) < (l.length : Int) := by omega
  have hs2 : IsPeers 115 116 (w1.setCell ⟨b, 0, none⟩ (.slice (some ⟨g, 0, none⟩) l.length cap')) b g cap' rest' l last :=
    ⟨hs1.head.set 0 _, hblk.other (p := ⟨b, 0, none⟩) hbg _, hbg, hlast, few, hs1.ok⟩
  have hxb2 := hxb.other (p := ⟨b, 0, none⟩) (by show b ≠ _; omega) (.slice (some ⟨g, 0, none⟩) l.length cap')
  have hk2 : Kept (· = b) w (w1.setCell ⟨b, 0, none⟩ (.slice (some ⟨g, 0, none⟩) l.length cap')) := (hk1.mono (fun _ _ h => h.elim)).setCell (fun _ => by rfl) _
  go_wp2
  revert hs2 hxb2 hk2
  generalize w1.setCell ⟨b, 0, none⟩ (.slice (some ⟨g, 0, none⟩) l.length cap') = w2
  intro hs2 hxb2 hk2
  clear hs1 d0 y0 hxb hk1 hblk hv
  obtain ⟨pq, hpq, pok, p0, p1, p2, p3⟩ := hs2.at_ hi
  have c0 := hs2.c0
  have x0 := hxb2.cell (i := 0) rfl
  have x1 := hxb2.cell (i := 1) rfl
  have x2 := hxb2.cell (i := 2) rfl
  have x3 := hxb2.cell (i := 3) rfl
  have f0 := hs2.row.free (i * 4)
  have f1 := hs2.row.free (i * 4 + 1)
  have f2 := hs2.row.free (i * 4 + 2)
  have f3 := hs2.row.free (i * 4 + 3)
  have HPQ := Lib.hid hpq
  clear hpq
  refine wp_region_tail 7 (by kernel_rfl) (by kernel_rfl) ?_
  simp only [List.take_succ_cons, List.take_zero, List.drop_succ_cons, List.drop_zero]
  repeat still_step
  refine wpStill_nil ?_
  go_wp2
  go_ret
  exact ⟨g, cap', rest', rfl, (hs2.put hi q hq).drew, by omega, by repeat (first | exact hk2 | (refine Kept.drew ?_) | (refine Kept.setCell ?_ (fun h => by simp only at h; omega) _))⟩
end Go.Proofs.Ytahiimcdmojngaa
