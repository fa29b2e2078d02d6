/- Contracts of package disk: Crash. -/
import Derived.Test.YtahiimcdmojngaaDisk5
namespace Go.Proofs.Ytahiimcdmojngaa
open Go.RowKit

def ivals (G : List (Int × Nat)) : List (Int × Value) := AM.vmap (fun n : Nat => Value.int .i64 (n : Int)) G
theorem ivals_get (G : List (Int × Nat)) (n : Int) : (AM.get (ivals G) n).getD (.int .i64 0) = .int .i64 (((AM.get G n).getD 0 : Nat) : Int) := by
  unfold ivals
  rw [AM.get_vmap]
  cases AM.get G n <;> rfl
theorem ivals_set (G : List (Int × Nat)) (n : Int) (k : Nat) : AM.set (ivals G) n (.int .i64 (k : Int)) = ivals (AM.set G n k) := by
  unfold ivals
  rw [AM.vmap_set]
def gfold (l : List (Int × Nat)) (keep : Int) (i : Nat) : Int × List (Int × Nat) := (l.take i).foldl DiskM.gstep (keep, [])
theorem gfold_zero (l : List (Int × Nat)) (keep : Int) : gfold l keep 0 = (keep, []) := by simp [gfold]
theorem gfold_succ (l : List (Int × Nat)) (keep : Int) (i : Nat) (p : Int × Nat) (h : l[i]? = some p) : gfold l keep (i + 1) = DiskM.gstep (gfold l keep i) p := by
  unfold gfold
  rw [List.take_add_one, h]
  simp
theorem looseOf_append (l r : List (Int × Nat)) (n : Int) : DiskM.looseOf (l ++ r) n = DiskM.looseOf l n + DiskM.looseOf r n := by
  induction l with
  | nil => simp [DiskM.looseOf]
  | cons a l ih => simp only [List.cons_append, DiskM.looseOf, ih]; omega
theorem gfold_le (l : List (Int × Nat)) (keep : Int) (i : Nat) (p : Int × Nat) (h : l[i]? = some p) : (AM.get (gfold l keep i).2 p.1).getD 0 + p.2 ≤ DiskM.looseOf l p.1 := by
  have h1 := (DiskM.fold_get (l.take i) (st := (keep, [])) AM.rise_nil p.1).1
  have h2 : DiskM.looseOf l p.1 = DiskM.looseOf (l.take (i + 1)) p.1 + DiskM.looseOf (l.drop (i + 1)) p.1 := by rw [← looseOf_append, List.take_append_drop]
  rw [List.take_add_one, h, looseOf_append] at h2
  simp [DiskM.looseOf] at h2
  have h3 : (AM.get ([] : List (Int × Nat)) p.1).getD 0 = 0 := rfl
  simp only [h3] at h1
  unfold gfold
  omega
theorem gfold_keep (l : List (Int × Nat)) (keep : Int) (i : Nat) : (keep < 0 → (gfold l keep i).1 = keep) ∧ (0 ≤ keep → 0 ≤ (gfold l keep i).1 ∧ (gfold l keep i).1 ≤ keep) := DiskM.fold_keep (l.take i) (keep, [])

section
variable {w w' : World} {d mb : Nat} {fp : Nat → Prop} {M : DiskM} {lv : Value} {fs : List (Int × Value)}
/-- The blocks that it is made of have been made. -/
theorem DiskRaw.low (h : DiskRaw w d fp M mb lv fs) : DiskRaw w d (fun x => fp x ∧ x < w.heap.size) M mb lv fs := by
  refine ⟨h.head, h.map, h.keys, h.rows, h.apart, h.loose, ⟨h.fpd, h.head.lt⟩, ⟨h.fpm, h.map.lt⟩, fun k hk => ⟨h.fpl k hk, h.loose.lt hk⟩, fun n v k h1 h2 => ⟨h.fpf n v k h1 h2, ?_⟩⟩
  have hs := h.keys n
  rw [h1] at hs
  obtain ⟨b, hb⟩ := Option.isSome_iff_exists.1 hs.symm
  exact (h.rows n v b h1 hb).lt h2
theorem DiskRaw.fpmono {fp' : Nat → Prop} (h : DiskRaw w d fp M mb lv fs) (hf : ∀ x, fp x → fp' x) : DiskRaw w d fp' M mb lv fs :=
  ⟨h.head, h.map, h.keys, h.rows, h.apart, h.loose, hf _ h.fpd, hf _ h.fpm, fun k hk => hf _ (h.fpl k hk), fun n v k h1 h2 => hf _ (h.fpf n v k h1 h2)⟩
theorem MapI.ne_row {P : Program} {k e : TypeId} {b n size g : Nat} {m : List (Int × Value)} {v : Value} {xs : List Value} (h : MapI P k w b n m) (hr : Row w e size v xs) (hg : v.ownBlock = some g) : g ≠ b := by
  rcases hr with ⟨rfl, _⟩ | ⟨g', n', cap, rest, rfl, _, hb, _⟩
  · simp [Value.ownBlock] at hg
  · simp [Value.ownBlock] at hg
    subst hg
    exact fun e => h.ne_blk hb e.symm
/-- One file has other bytes. -/
theorem DiskRaw.setFile (h : DiskRaw w d fp M mb lv fs) (hF : AM.Rise M.files) {a : Int} {v : Value} {b : List UInt8} {n : Nat} (hm : MapI Try.prog 3 w' mb n (AM.set fs a v)) (hk : Kept (· = mb) w w') (hrow : Row w 5 1 v (bcells b))
    (hap : ∀ n' v' k, n' ≠ a → AM.get fs n' = some v' → v'.ownBlock = some k → v.ownBlock ≠ some k) (hfp : ∀ k, v.ownBlock = some k → fp k) : DiskRaw w' d fp { M with files := AM.set M.files a b } mb lv (AM.set fs a v) := by
  have hr := h.map.rise Try.underlying3
  have hne : ∀ n' v' k, AM.get fs n' = some v' → v'.ownBlock = some k → k ≠ mb := by
    intro n' v' k h1 h2
    have hs := h.keys n'
    rw [h1] at hs
    obtain ⟨b', hb'⟩ := Option.isSome_iff_exists.1 hs.symm
    exact h.map.ne_row (h.rows n' v' b' h1 hb') h2
  refine ⟨h.head.kept hk (fun e => h.map.ne_blk h.head e.symm), hm.tight, fun n' => ?_, fun n' v' b' h1 h2 => ?_, fun n1 n2 v1 v2 k h1 h2 h3 h4 => ?_, h.loose.kept hk (fun k hk' e => h.map.ne_row h.loose hk' e), h.fpd, h.fpm, h.fpl, fun n' v' k h1 h2 => ?_⟩
  · show _ = (AM.get (AM.set M.files a b) n').isSome
    by_cases e : n' = a
    · subst e; rw [AM.get_set_same hr, AM.get_set_same hF]; rfl
    · rw [AM.get_set_other hr _ e, AM.get_set_other hF _ e]; exact h.keys n'
  · replace h2 : AM.get (AM.set M.files a b) n' = some b' := h2
    by_cases e : n' = a
    · subst e
      rw [AM.get_set_same hr] at h1
      rw [AM.get_set_same hF] at h2
      cases h1; cases h2
      exact hrow.kept hk (fun k hk' e => h.map.ne_row hrow hk' e)
    · rw [AM.get_set_other hr _ e] at h1
      rw [AM.get_set_other hF _ e] at h2
      exact (h.rows n' v' b' h1 h2).kept hk (fun k hk' e => hne n' v' k h1 hk' e)
  · by_cases e1 : n1 = a
    · by_cases e2 : n2 = a
      · rw [e1, e2]
      · subst e1
        rw [AM.get_set_same hr] at h1
        cases h1
        rw [AM.get_set_other hr _ e2] at h2
        exact absurd h3 (hap n2 v2 k e2 h2 h4)
    · by_cases e2 : n2 = a
      · subst e2
        rw [AM.get_set_same hr] at h2
        cases h2
        rw [AM.get_set_other hr _ e1] at h1
        exact absurd h4 (hap n1 v1 k e1 h1 h3)
      · rw [AM.get_set_other hr _ e1] at h1
        rw [AM.get_set_other hr _ e2] at h2
        exact h.apart n1 n2 v1 v2 k h1 h2 h3 h4
  · by_cases e : n' = a
    · subst e
      rw [AM.get_set_same hr] at h1
      cases h1
      exact hfp k h2
    · rw [AM.get_set_other hr _ e] at h1
      exact h.fpf n' v' k h1 h2
theorem DiskRaw.noLoose (h : DiskRaw w d fp M mb lv fs) : DiskRaw (w.setCell ⟨d, 1, none⟩ (.slice none 0 0)) d fp { M with loose := [] } mb (.slice none 0 0) fs := by
  refine ⟨h.head.set 1 _, h.map.other (fun e => h.map.ne_blk h.head e.symm) _, h.keys, fun n x b h1 h2 => (h.rows n x b h1 h2).other (fun e => h.row_ne h1 e rfl) _, h.apart, Row.nil _ _ _, h.fpd, h.fpm, fun k hk => by simp [Value.ownBlock] at hk, h.fpf⟩
theorem AM.length_del_some {α : Type} {m : List (Int × α)} (h : AM.Rise m) {k : Int} {v : α} (hg : AM.get m k = some v) : (AM.del m k).length + 1 = m.length := by
  have := AM.sum_del (fun _ => 1) h hg
  have e : ∀ l : List (Int × α), AM.sum (fun _ => 1) l = l.length := by
    intro l
    induction l with
    | nil => rfl
    | cons p r ih => rw [AM.sum_cons, ih, List.length_cons]; omega
  rw [e, e] at this
  omega
theorem DiskRaw.len_eq (h : DiskRaw w d fp M mb lv fs) (hF : AM.Rise M.files) : fs.length = M.files.length := by
  have hr := h.map.rise Try.underlying3
  have e : AM.vmap (fun _ => ()) fs = AM.vmap (fun _ => ()) M.files := by
    refine AM.ext (AM.rise_vmap hr _) (AM.rise_vmap hF _) (fun n => ?_)
    rw [AM.get_vmap, AM.get_vmap]
    have := h.keys n
    cases h1 : AM.get fs n <;> cases h2 : AM.get M.files n <;> simp_all
  have := congrArg List.length e
  simpa [AM.vmap] using this
/-- A file's slice, or none. -/
theorem DiskRaw.rowOf (h : DiskRaw w d fp M mb lv fs) (n : Int) : Row w 5 1 ((AM.get fs n).getD (.slice none 0 0)) (bcells ((AM.get M.files n).getD [])) := by
  cases hg : AM.get M.files n with
  | none => rw [h.get_none hg]; exact Row.nil _ _ _
  | some b =>
    obtain ⟨v, hv⟩ := h.get_some hg
    rw [hv]
    exact h.rows n v b hv hg
/-- 'b[:m]'. -/
theorem Row.head {a : Option Addr} {n cap : Nat} {b : List UInt8} (h : Row w 5 1 (.slice a n cap) (bcells b)) (m : Nat) (hm : m ≤ n) (x : Int) (hx : x = m) :
    (Instr.slice 80 (.slice a n cap) none (some (.int .i64 x)) none).run Try.prog w = .ok (.slice a m cap) w ∧ Row w 5 1 (.slice a m cap) (bcells (b.take m)) := by
  subst hx
  have hsz : (sizeOf (Try.prog.elem 80)).run Try.prog w = .ok 1 w := by kernel_rfl
  have hcap : n ≤ cap := by
    rcases h with ⟨h, _⟩ | ⟨g, n', cap', rest, hv, _, _, h2, _⟩
    · cases h; exact Nat.le_refl _
    · simp only [Value.slice.injEq] at hv; omega
  have hs := run_slice_h (P := Try.prog) (w := w) 80 a n cap (by kernel_rfl) .i64 (m : Int) (by omega) (by omega)
  rw [hsz] at hs
  simp only [Result.andThen, sliced] at hs
  have ea : (if cap = 0 then a else a.map (·.add (0 * 1))) = a := by
    split
    · rfl
    · cases a <;> simp [Addr.add]
  refine ⟨by rw [hs, ea]; simp, ?_⟩
  rcases h with ⟨h, hb⟩ | ⟨g, n', cap', rest, hv, h1, h2⟩
  · cases h
    have : m = 0 := by omega
    subst this
    exact Or.inl ⟨rfl, by simp [bcells]⟩
  · have hrow : Row w 5 1 (.slice a n cap) (bcells b) := Or.inr ⟨g, n', cap', rest, hv, h1, h2⟩
    simp only [Value.slice.injEq] at hv
    obtain ⟨rfl, rfl, rfl⟩ := hv
    have := hrow.shorter m hm
    rw [Nat.mul_one] at this
    have e : bcells (b.take m) = (bcells b).take m := by simp [bcells, List.map_take]
    rw [e]; exact this
end

section
variable {d : Nat} {fp : Nat → Prop} {M : DiskM}
theorem crash_down (w : World) (keep : Int) (hd : IsDisk w d fp M) (hdn : M.down = true) : Calls Try.prog 50 #[.pointer (some ⟨d, 0, none⟩), .int .i64 keep] w fun e w' => e = .returned (.int .i64 61) ∧ w = w' := by
  have hr : M.ready = 61 := by simp [DiskM.ready, hdn]
  go_enter Try.func50, Try.ntmps50
  go_wp2_with (go_at_call 84; refine (ready_any _ hd).mono ?_; rw [hr]; rintro e w' ⟨rfl, rfl⟩)
  go_ret
  exact ⟨rfl, rfl⟩

theorem zeroInt (w : World) : (zeroValue 3).run Try.prog w = .ok (.int .i64 0) w := by kernel_rfl
set_option maxRecDepth 100000 in
set_option maxHeartbeats 2000000 in
theorem crash_up (w : World) (keep : Int) (k0 : -9223372036854775808 ≤ keep ∧ keep ≤ 9223372036854775807) (hd : IsDisk w d fp M) (hdn : M.down = false) : Calls Try.prog 50 #[.pointer (some ⟨d, 0, none⟩), .int .i64 keep] w fun e w' => e = .returned (.int .i64 0) ∧ IsDisk w' d fp (M.crash keep) ∧ Kept fp w w' := by
  have hr : M.ready = 0 := by simp [DiskM.ready, hdn]
  have hc := ready_any w hd
  rw [hr] at hc
  obtain ⟨mb, lv, fs, h⟩ := hd
  have c1 := (h.head.kept (S := fun _ => False) ((Kept.refl _ _).alloc (.map #[] 0)) id).cell (i := 1) rfl
  have hrow := h.loose
  have hok := h.ok
  obtain ⟨a, m, cap, rfl, hm, hml, hcell⟩ := hrow.form (by omega)
  rw [pcells_len] at hm
  have hml' : maxLen = 9223372036854775807 := rfl
  have hlen : M.loose.length = m := by omega
  have hmm := @run_makeMap Try.prog
  clear hm
  go_enter Try.func50, Try.ntmps50
  go_wp2_with (go_at_call 84; refine hc.mono ?_; rintro e w' ⟨rfl, rfl⟩)
  go_loopw [1, 24] (fun x y wr => ∃ i : Nat, y = .int .i64 i ∧ i ≤ m ∧ x = .int .i64 (gfold M.loose keep i).1 ∧ MapI Try.prog 3 wr w.heap.size i (ivals (gfold M.loose keep i).2) ∧ Kept (fun _ => False) w wr ∧ w.heap.size < wr.heap.size) (fun _ y _ => m - (intOf y).toNat)
  case atStart => exact ⟨0, rfl, Nat.zero_le _, by rw [gfold_zero], MapI.made _ _ _, (Kept.refl _ _).alloc _, by show _ < (w.heap.push _).size; rw [Array.size_push]; omega⟩
  case round =>
    obtain ⟨i, rfl, hi, rfl, hmap, hk, hsz⟩ := hrel
    have hrow' := hrow.kept hk (fun _ _ => id)
    by_cases hlt : i < m
    · obtain ⟨g, rfl, hown, hcs⟩ := hcell (by omega)
      obtain ⟨p, hp⟩ : ∃ p, M.loose[i]? = some p := ⟨M.loose[i], List.getElem?_eq_getElem (by omega)⟩
      obtain ⟨hp0, hp1⟩ := pcells_get M.loose i p hp
      have q0 := hrow'.cellsAt hp0
      have q1 := hrow'.cellsAt hp1
      have hpk := hok.loks p (List.mem_of_getElem? hp)
      have hst := gfold_succ M.loose keep i p hp
      have hgle := gfold_le M.loose keep i p hp
      have hlo := hok.lo p.1
      have hpl := DiskM.loose_le hok p (List.mem_of_getElem? hp)
      have hgk := gfold_keep M.loose keep i
      have hx : decide (i < m) = true := decide_eq_true hlt
      have hl := (hmap.alloc (.cells #[Value.int IntKind.i64 p.fst, Value.int IntKind.i64 ↑p.snd] 126)).look (t := 127) (e := 3) Try.underlying3 Try.underlying127 (zeroInt _) (a := p.1) (by omega)
      rw [ivals_get] at hl
      have hcap1 := hok.cap1
      have hp2 : (p.2 : Int) ≤ 1048576 := by omega
      have hfl : ((AM.get M.files p.1).getD []).length ≤ 1048576 := by
        cases hg : AM.get M.files p.1 with
        | none => simp
        | some b => have := DiskM.len_le_total hok hg; have := hok.room; simp; omega
      have hq : (AM.get (gfold M.loose keep i).2 p.1).getD 0 + p.2 ≤ 1048576 := by omega
      have HG : Hid ((gfold M.loose keep (i + 1)).1 = (gfold M.loose keep i).1 - (DiskM.stay (gfold M.loose keep i).1 p.2 : Nat) ∧ (gfold M.loose keep (i + 1)).2 = AM.set (gfold M.loose keep i).2 p.1 ((AM.get (gfold M.loose keep i).2 p.1).getD 0 + (p.2 - DiskM.stay (gfold M.loose keep i).1 p.2))) := Lib.hid (by rw [hst]; exact ⟨rfl, rfl⟩)
      have hstore : ∀ v : Nat, ∃ w', (Instr.mapUpdate 127 (.map (some w.heap.size)) (.int .i64 p.1) (.int .i64 (v : Int))).run Try.prog (wr.alloc (.cells #[Value.int IntKind.i64 p.fst, Value.int IntKind.i64 ↑p.snd] 126)) = .ok () w' ∧ MapI Try.prog 3 w' w.heap.size (i + 1) (ivals (AM.set (gfold M.loose keep i).2 p.1 v)) ∧ Kept (fun _ => False) w w' ∧ w.heap.size < w'.heap.size := by
        intro v
        obtain ⟨w', h1, h2, h3, h4⟩ := (hmap.alloc (.cells #[Value.int IntKind.i64 p.fst, Value.int IntKind.i64 ↑p.snd] 126)).store (t := 127) (e := 3) Try.underlying3 Try.underlying127 (by omega) (a := p.1) (by omega) (.int .i64 (v : Int))
        rw [ivals_set] at h2
        exact ⟨w', h1, h2, (hk.alloc _).then_ h3 (fun y hy he => by omega), by rw [h4]; show _ < (wr.heap.push _).size; rw [Array.size_push]; omega⟩
      clear hst hgle hlo hpl hfl hp0 hp1 hcs hcell hcap1
      generalize (gfold M.loose keep i).1 = kp at *
      generalize (gfold M.loose keep i).2 = G at *
      generalize hqe : (AM.get G p.1).getD 0 = q at *
      rcases Int.lt_or_le kp 0 with hneg | hpos
      · have hs0 : DiskM.stay kp p.2 = 0 := DiskM.stay_neg hneg p.2
        obtain ⟨w2, hrun, hm2, hk2, hsz2⟩ := hstore (q + p.2)
        rw [hs0] at HG
        have hx2 : decide (kp < 0) = true := decide_eq_true hneg
        rw [Int.natCast_add] at hrun
        go_wp2_with fail
        go_roundw
        case rel => exact ⟨i + 1, by go_num, hlt, by rw [HG.out.1]; first | done | go_num, by rw [HG.out.2]; exact hm2, hk2, hsz2⟩
        case measure => simp [intOf]; omega
      · obtain ⟨kn, rfl⟩ := Int.eq_ofNat_of_zero_le hpos
        have hx2 : decide ((kn : Int) < 0) = false := by simp
        rcases Nat.lt_or_ge p.2 kn with hmore | hless
        · have hs0 : DiskM.stay (kn : Int) p.2 = p.2 := by unfold DiskM.stay; omega
          obtain ⟨w2, hrun, hm2, hk2, hsz2⟩ := hstore q
          rw [hs0, Nat.sub_self] at HG
          have hx4 : p.2 < kn := hmore
          go_wp2_with fail
          go_roundw
          case rel => exact ⟨i + 1, by go_num, hlt, by rw [HG.out.1]; first | done | go_num, by rw [HG.out.2]; exact hm2, hk2, hsz2⟩
          case measure => simp [intOf]; omega
        · have hs0 : DiskM.stay (kn : Int) p.2 = kn := by unfold DiskM.stay; omega
          obtain ⟨w2, hrun, hm2, hk2, hsz2⟩ := hstore (q + (p.2 - kn))
          rw [hs0] at HG
          rw [Int.natCast_add, Int.ofNat_sub hless] at hrun
          have hx3 : decide (kn ≤ p.2) = true := decide_eq_true hless
          have hx4 : kn ≤ p.2 := hless
          go_wp2_with fail
          go_roundw
          case rel => exact ⟨i + 1, by go_num, hlt, by rw [HG.out.1]; first | done | go_num, by rw [HG.out.2]; exact hm2, hk2, hsz2⟩
          case measure => simp [intOf]; omega
    · have hx : decide (i < m) = false := by simp; omega
      have him : i = m := by omega
      have hall : gfold M.loose keep i = M.loose.foldl DiskM.gstep (keep, []) := by unfold gfold; rw [List.take_of_length_le (by omega)]
      have hG : (gfold M.loose keep i).2 = DiskM.gone M.loose keep := by rw [hall]; rfl
      rw [hG] at hmap
      have hgr := DiskM.gone_rise M.loose keep
      have hgl := DiskM.gone_le M.loose keep
      have hgs := DiskM.gone_some M.loose keep
      have hcg := DiskM.crashed_get hok.rise hgr
      have hcnt : fs.length + (ivals (DiskM.gone M.loose keep)).length ≤ 800000000 := by
        have h1 := h.toDiskRaw.len_eq hok.rise
        have h2 := DiskM.gone_len M.loose keep
        have h3 := hok.count
        have h4 : (ivals (DiskM.gone M.loose keep)).length = (DiskM.gone M.loose keep).length := by simp [ivals, AM.vmap]
        omega
      have hcr := DiskM.crashed_rise hok.rise (DiskM.gone M.loose keep)
      have hokc := hok.crash keep
      have hraw := h.toDiskRaw.low.kept hk (fun _ _ => id)
      obtain ⟨w3, hrg, hR, hk3, hs3⟩ := hmap.range (t := 127) (e := 3) Try.underlying3 Try.underlying127
      have hraw3 := hraw.kept hk3 (fun _ _ => id)
      have hk03 := hk.trans hk3
      generalize hgg : DiskM.gone M.loose keep = G at *
      have hw := Lib.hid (And.intro hsz hs3)
      clear hcell hrow hrow' hall hG him
      go_wp2_with fail
      go_loopw [] (fun wx => ∃ todo fs2 F, RangeI Try.prog 3 wx w.heap.size wr.heap.size i (ivals G) todo ∧ DiskRaw wx d (fun x => fp x ∧ x < w.heap.size) { M with files := F } mb (.slice a m cap) fs2 ∧ Kept fp w wx ∧ AM.Rise F ∧ fs2.length + todo.length ≤ 800000000 ∧ Hid (∀ n, AM.get F n = if (AM.get todo n).isSome = true then AM.get M.files n else AM.get (DiskM.crashed M.files G) n)) (fun wx => wx.rangeLeft w.heap.size wr.heap.size)
      case atStart =>
        refine ⟨ivals G, fs, M.files, hR, hraw3, hk03.mono (fun _ _ => False.elim), hok.rise, hcnt, Lib.hid (fun n => ?_)⟩
        split
        · rfl
        · rename_i hn
          rw [hcg n]
          have : AM.get G n = none := by
            unfold ivals at hn
            rw [AM.get_vmap] at hn
            simpa using hn
          rw [this]
      case round =>
        obtain ⟨todo, fs2, F, hr, hraw2, hkx, hFr, hcount, HF⟩ := hrel
        have hwo := hw.out
        rcases hr.next Try.underlying3 0 with ⟨rfl, hrun⟩ | ⟨n, v, w4, hmem, hn, hrun, hr', hlt', hk4, hsz4, hent⟩
        · have hFe : F = DiskM.crashed M.files G := AM.ext hFr hcr (fun n => by rw [HF.out n]; simp [AM.get])
          have z1 := hraw2.head.free 1
          have z3 := hraw2.head.free 3
          have z5 := hraw2.head.free 5
          have d1 := hraw2.head.cell (i := 1) rfl
          have d3 := hraw2.head.cell (i := 3) rfl
          have d5 := hraw2.head.cell (i := 5) rfl
          have f1 := ((hraw2.noLoose).put 3 (.bool true) { M with files := F, loose := [], down := true } rfl rfl rfl).put 5 (.bool false) { M with files := F, loose := [], down := true, fails := false } rfl rfl rfl
          have f2 : ({ M with files := F, loose := [], down := true, fails := false } : DiskM) = M.crash keep := by rw [hFe, ← hgg]; rfl
          have hfpd : fp d := h.fpd
          rw [f2] at f1
          have hend := Lib.hid (And.intro f1 hokc)
          clear f1 f2 hFe
          go_wp2_with fail
          go_ret
          exact ⟨rfl, ⟨mb, _, fs2, hend.out.1.fpmono (fun x hx => hx.1), hend.out.2⟩, ((hkx.setCell (fun _ => hfpd) _).setCell (fun _ => hfpd) _).setCell (fun _ => hfpd) _⟩
        · have hrise := hr.rise Try.underlying3
          have hgt : AM.get todo n = some v := (AM.get_some hrise).2 hmem
          have hgi : AM.get (ivals G) n = some v := (AM.get_some (hr.owns.rise Try.underlying3)).2 (hr.sub _ hmem)
          obtain ⟨many, hmany, rfl⟩ : ∃ q : Nat, AM.get G n = some q ∧ v = .int .i64 (q : Int) := by
            unfold ivals at hgi
            rw [AM.get_vmap] at hgi
            cases hq : AM.get G n with
            | none => rw [hq] at hgi; cases hgi
            | some q => rw [hq] at hgi; exact ⟨q, rfl, (Option.some.inj hgi).symm⟩
          have hFn : AM.get F n = AM.get M.files n := by rw [HF.out n, hgt]; rfl
          have hcn := hcg n
          rw [hmany] at hcn
          have hle : many ≤ ((AM.get M.files n).getD []).length := by
            have h1 := hgl n
            have h2 := hok.lo n
            rw [hmany] at h1
            simp only [Option.getD_some] at h1
            omega
          have hlen2 : ((AM.get M.files n).getD []).length ≤ 1048576 := by
            cases hg : AM.get M.files n with
            | none => simp
            | some b => have := DiskM.len_le_total hok hg; have := hok.room; have := hok.cap1; simp; omega
          have hraw4 := hraw2.kept hk4 (fun x hx e => by omega)
          have e0 := hraw4.head.cell (i := 0) rfl
          have hl := hraw4.map.look (t := 121) (e := 80) Try.underlying3 Try.underlying121 (zeroBytes w4) hn
          have hrw := hraw4.rowOf n
          have hapart : ∀ n' v' k, n' ≠ n → AM.get fs2 n' = some v' → v'.ownBlock = some k → ((AM.get fs2 n).getD (.slice none 0 0)).ownBlock ≠ some k := by
            intro n' v' k hne h1 h2 h3
            cases hg : AM.get fs2 n with
            | none => rw [hg] at h3; simp [Value.ownBlock] at h3
            | some v0 => rw [hg] at h3; exact hne (hraw4.apart n' n v' v0 k h1 hg h2 h3)
          have hfpn : ∀ k, ((AM.get fs2 n).getD (.slice none 0 0)).ownBlock = some k → fp k ∧ k < w.heap.size := by
            intro k h3
            cases hg : AM.get fs2 n with
            | none => rw [hg] at h3; simp [Value.ownBlock] at h3
            | some v0 => rw [hg] at h3; exact hraw4.fpf n v0 k hg h3
          have hrw' : Row w4 5 1 ((AM.get fs2 n).getD (.slice none 0 0)) (bcells ((AM.get M.files n).getD [])) := by
            have : (AM.get F n).getD [] = (AM.get M.files n).getD [] := by rw [hFn]
            rw [← this]; exact hrw
          generalize hv0 : (AM.get fs2 n).getD (.slice none 0 0) = v0 at *
          obtain ⟨av, mv, capv, rfl, hmv, hmvl, _⟩ := hrw'.form (by omega)
          rw [bcells_len, Nat.mul_one] at hmv
          obtain ⟨hcut, hcutrow⟩ := hrw'.head (mv - many) (by omega) ((mv : Int) - (many : Int)) (by omega)
          obtain ⟨w5, hst5, hm5, hk5, hs5⟩ := (hraw4.map.drew).store (t := 121) (e := 80) Try.underlying3 Try.underlying121 (by omega) hn (.slice av (mv - many) capv)
          have hob : ∀ x y, (Value.slice av x y).ownBlock = (Value.slice av mv capv).ownBlock := fun _ _ => by cases av <;> rfl
          have hnew := (hraw4.kept (S := fun _ => False) (Kept.refl _ _).drew (fun _ _ => id)).setFile hFr hm5 hk5 (hcutrow.drew) (fun n' v' k h1 h2 h3 => by rw [hob]; exact hapart n' v' k h1 h2 h3) (fun k hk' => hfpn k (by rw [hob] at hk'; exact hk'))
          have hwr : IntKind.i64.wrap ((mv : Int) - (many : Int)) = (mv : Int) - (many : Int) := IntWalk.i64_in _ (by omega)
          have hcapv : (mv : Int) - (many : Int) ≤ (capv : Int) := by
            have : mv ≤ capv := by
              rcases hrw' with ⟨h, _⟩ | ⟨g, n', cap', rest, hv, _, _, h2, _⟩
              · cases h; exact Nat.le_refl _
              · simp only [Value.slice.injEq] at hv; omega
            omega
          have hcnt2 : (AM.set fs2 n (.slice av (mv - many) capv)).length + (AM.del todo n).length ≤ 800000000 := by
            have h1 := AM.length_del_some hrise hgt
            have h2 := AM.length_set_le fs2 n (Value.slice av (mv - many) capv)
            omega
          have hle2 : many ≤ mv := by omega
          have hmv1 : mv ≤ 1048576 := by omega
          have HMV := Lib.hid hmv
          clear hmv
          have HN := Lib.hid hnew
          have hmbl : fp mb ∧ mb < w.heap.size := hraw4.fpm
          have hk5d : Kept (· = mb) w4 w5 := ((Kept.refl _ _).drew).trans hk5
          have hk5x : Kept fp w w5 := (hkx.then_ hk4 (fun y hy he => by omega)).then_ hk5d (fun y hy he => by rw [he]; exact hmbl.1)
          clear hnew
          go_wp2_with fail
          refine wp_region_tail 11 (by kernel_rfl) (by kernel_rfl) ?_
          simp only [List.take_succ_cons, List.take_zero, List.drop_succ_cons, List.drop_zero]
          repeat still_step
          refine wpStill_nil ?_
          go_wp2
          go_roundw
          case rel =>
            refine ⟨AM.del todo n, _, _, (hr'.kept (S := fun x => x = mb) hk5d (fun e => by omega) (fun e => by omega)).1, HN.out, hk5x, AM.rise_set hFr _ _, hcnt2, Lib.hid (fun n' => ?_)⟩
            by_cases e : n' = n
            · subst e
              rw [AM.get_set_same hFr, AM.get_del_same, hcn]
              simp [DiskM.cut, ← HMV.out]
            · rw [AM.get_set_other hFr _ e, AM.get_del_other hrise e]
              exact HF.out n'
          case measure => rw [(hr'.kept (S := fun x => x = mb) hk5d (fun e => by omega) (fun e => by omega)).2]; exact hlt'
end
end Go.Proofs.Ytahiimcdmojngaa
