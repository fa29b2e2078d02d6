/- Timers: Due. -/
import Derived.Test.YtahiimcdmojngaaTim3
import Derived.Lib.AppendZeros
namespace Go.Proofs.Ytahiimcdmojngaa
open Go.RowKit Go.Sort Go.Shelf

section
variable {P : Program} {k e : TypeId} {w : World} {b n r size g : Nat} {T todo : List ((Int × Int) × Value)} {v : Value} {xs : List Value}
theorem Row.blk_of (h : Row w e size v xs) (hg : v.ownBlock = some g) : ∃ c, Blk w g c e := by
  rcases h with ⟨rfl, _⟩ | ⟨g', n', cap, rest, rfl, _, hb, _⟩
  · simp [Value.ownBlock] at hg
  · simp [Value.ownBlock] at hg; subst hg; exact ⟨_, hb⟩
theorem MapP.ne_row (h : MapP P k w b n T) (hr : Row w e size v xs) (hg : v.ownBlock = some g) : g ≠ b := by
  obtain ⟨c, hb⟩ := hr.blk_of hg
  exact fun q => h.ne_blk hb q.symm
theorem RangeP.ne_row (h : RangeP P k w b r n T todo) (hr : Row w e size v xs) (hg : v.ownBlock = some g) : g ≠ r := by
  obtain ⟨c, hb⟩ := hr.blk_of hg
  rintro rfl
  obtain ⟨T0, left, cnt, _, _, _, ⟨es, clock, since, seen, c0, _, _, _, _, h5, _⟩, _⟩ := h
  unfold Blk at hb
  rw [h5] at hb
  cases hb
end

def dueV (now : Int) (p : (Int × Int) × Value) : Bool := match p.2 with
  | .int _ a => decide (a ≤ now)
  | _ => false
theorem due_tvals (T : Tim) (now : Int) : ((tvals T).filter (dueV now)).map (·.1) = (T.filter fun p => decide (p.2 ≤ now)).map (·.1) := by
  unfold tvals
  rw [List.filter_map, List.map_map]
  rfl
theorem PM.perm_del {α : Type} {T : List ((Int × Int) × α)} (h : PM.Nd T) {a : Int × Int} {v : α} (hm : (a, v) ∈ T) : T.Perm ((a, v) :: PM.del T a) := by
  induction T with
  | nil => simp at hm
  | cons y r ih =>
    obtain ⟨h1, h2⟩ := List.pairwise_cons.1 h
    rcases List.mem_cons.1 hm with e | hm
    · subst e
      have hr : PM.del r a = r := by
        unfold PM.del
        rw [List.filter_eq_self]
        intro p hp
        simp only [Bool.not_eq_true', decide_eq_false_iff_not]
        exact fun e => h1 p hp e.symm
      have h0 : PM.del ((a, v) :: r) a = PM.del r a := by simp [PM.del, List.filter_cons]
      rw [h0, hr]
    · have hne : y.1 ≠ a := fun e => h1 _ hm e
      have h0 : PM.del (y :: r) a = y :: PM.del r a := by simp [PM.del, List.filter_cons, hne]
      rw [h0]
      exact ((ih h2 hm).cons y).trans (List.Perm.swap _ _ _)

def delAll (T : Tim) (ks : List (Int × Int)) : Tim := ks.foldl PM.del T
theorem delAll_eq (T : Tim) (ks : List (Int × Int)) : delAll T ks = T.filter fun p => !decide (p.1 ∈ ks) := by
  unfold delAll
  induction ks generalizing T with
  | nil => simp only [List.foldl_nil]; symm; rw [List.filter_eq_self]; intro p _; simp
  | cons a r ih =>
    rw [List.foldl_cons, ih]
    unfold PM.del
    rw [List.filter_filter]
    apply List.filter_congr
    intro p _
    by_cases e : p.1 = a <;> simp [e]
theorem delAll_due {T : Tim} (h : PM.Nd T) {now : Int} {ks : List (Int × Int)} (hk : ks.Perm ((T.filter fun p => decide (p.2 ≤ now)).map (·.1))) : delAll T ks = restOf T now := by
  rw [delAll_eq]
  unfold restOf
  apply List.filter_congr
  intro p hp
  have : p.1 ∈ ks ↔ p.2 ≤ now := by
    rw [hk.mem_iff, List.mem_map]
    constructor
    · rintro ⟨q, hq, e⟩
      obtain ⟨hq, hd⟩ := List.mem_filter.1 hq
      have h1 := (PM.get_some h).2 (show (p.1, p.2) ∈ T from hp)
      have h2 := (PM.get_some h).2 (show (p.1, q.2) ∈ T by rw [← e]; exact hq)
      rw [h1] at h2
      rw [Option.some.inj h2]
      simpa using hd
    · intro hle
      exact ⟨p, List.mem_filter.2 ⟨hp, by simpa using hle⟩, rfl⟩
  by_cases e : p.2 ≤ now
  · have h1 : p.1 ∈ ks := this.2 e
    simp [h1]; omega
  · have h1 : p.1 ∉ ks := fun q => e (this.1 q)
    simp [h1]; omega

theorem info85 : (Try.prog.info? 85).map (fun i => (i.zero, i.size, i.bytes)) = some (some (.agg #[.int .i64 0, .int .i64 0]), 2, 16) := by kernel_rfl

section
variable {t mb : Nat} {T : Tim}
theorem tim_due_no (w : World) (v : Value) (now : Int) (h : NoTim w v) (hl : ∀ d, v = .pointer (some ⟨d, 0, none⟩) → d < w.heap.size) : Calls Try.prog 58 #[v, .int .i64 now] w fun e w' => e = .returned (.slice none 0 0) ∧ Kept (fun _ => False) w w' := by
  have h' : ∀ o, NoTim (w.alloc o) v := by
    intro o
    rcases h with rfl | ⟨d, rfl, hc⟩
    · exact Or.inl rfl
    · refine Or.inr ⟨d, rfl, ?_⟩
      rw [← hc]
      simp only [World.cell?, Below.heap_alloc _ _ _ (hl d rfl)]
  rcases h with rfl | ⟨d, rfl, hc⟩
  all_goals
    go_enter Try.func58, Try.ntmps58
    go_wp2_with (go_at_call 88; refine (tim_none_no _ _ (h' _)).mono ?_; rintro e w' ⟨rfl, rfl⟩)
    go_ret
    exact ⟨rfl, (Kept.refl _ _).alloc _⟩

/-- What Due leaves: the keys told, in a row of the call's own; the others are left. -/
def DuePost (t mb : Nat) (T : Tim) (now : Int) (w : World) (e : Ending) (w' : World) : Prop :=
  ∃ v ks, e = .returned v ∧ DueIs T now ks ∧ Row w' 85 2 v (kcells ks) ∧ (∀ k, v.ownBlock = some k → w.heap.size ≤ k) ∧ IsTim w' t mb (restOf T now) ∧ Kept (· = mb) w w'

/-- The first loop's relation. -/
def DueR (t mb : Nat) (T : Tim) (now : Int) (w : World) (v : Value) (wr : World) : Prop :=
  ∃ (todo : List ((Int × Int) × Value)) (L : List Key), RangeP Try.prog 85 wr mb (w.heap.size + 1) T.length (tvals T) todo ∧ Row wr 85 2 v (kcells (kvals L)) ∧ (∀ k, v.ownBlock = some k → w.heap.size ≤ k) ∧ Blk wr w.heap.size [.pointer (some ⟨t, 0, none⟩)] 81 ∧ Kept (fun _ => False) w wr ∧ L.length + todo.length ≤ T.length ∧
    (kvals L ++ (todo.filter (dueV now)).map (·.1)).Perm ((T.filter fun p => decide (p.2 ≤ now)).map (·.1))

theorem perm_skip {L : List (Int × Int)} {todo : List ((Int × Int) × Value)} {D : List (Int × Int)} {now : Int} {a : Int × Int} {v : Value} (hnd : PM.Nd todo) (hm : (a, v) ∈ todo) (hv : dueV now (a, v) = false) (h : (L ++ (todo.filter (dueV now)).map (·.1)).Perm D) :
    (L ++ ((PM.del todo a).filter (dueV now)).map (·.1)).Perm D := by
  refine List.Perm.trans (List.Perm.append_left _ ?_) h
  have := ((PM.perm_del hnd hm).filter (dueV now)).map (·.1)
  rw [List.filter_cons, hv] at this
  exact this.symm
theorem perm_take {L : List (Int × Int)} {todo : List ((Int × Int) × Value)} {D : List (Int × Int)} {now : Int} {a : Int × Int} {v : Value} (hnd : PM.Nd todo) (hm : (a, v) ∈ todo) (hv : dueV now (a, v) = true) (h : (L ++ (todo.filter (dueV now)).map (·.1)).Perm D) :
    ((L ++ [a]) ++ ((PM.del todo a).filter (dueV now)).map (·.1)).Perm D := by
  refine List.Perm.trans ?_ h
  have := ((PM.perm_del hnd hm).filter (dueV now)).map (·.1)
  rw [List.filter_cons, hv] at this
  rw [List.append_assoc]
  exact List.Perm.append_left _ this.symm
/-- A round that tells none. -/
theorem DueR.skip {now : Int} {w wr w2 : World} {v : Value} {todo : List ((Int × Int) × Value)} {L : List Key} {a : Int × Int} {x : Int} (hR : RangeP Try.prog 85 wr mb (w.heap.size + 1) T.length (tvals T) todo) (hrow : Row wr 85 2 v (kcells (kvals L))) (hfr : ∀ k, v.ownBlock = some k → w.heap.size ≤ k)
    (hbox : Blk wr w.heap.size [.pointer (some ⟨t, 0, none⟩)] 81) (hk : Kept (fun _ => False) w wr) (hlen : L.length + todo.length ≤ T.length) (hperm : (kvals L ++ (todo.filter (dueV now)).map (·.1)).Perm ((T.filter fun p => decide (p.2 ≤ now)).map (·.1)))
    (hm : (a, .int .i64 x) ∈ todo) (hx : ¬ x ≤ now) (hR' : RangeP Try.prog 85 w2 mb (w.heap.size + 1) T.length (tvals T) (PM.del todo a)) (hk2 : Kept (· = w.heap.size + 1) wr w2) (hlt : w2.rangeLeft mb (w.heap.size + 1) < wr.rangeLeft mb (w.heap.size + 1)) (o : Obj) :
    DueR t mb T now w v (w2.alloc o) ∧ (w2.alloc o).rangeLeft mb (w.heap.size + 1) < wr.rangeLeft mb (w.heap.size + 1) := by
  have hal : Kept (fun _ => False) w2 (w2.alloc o) := (Kept.refl _ _).alloc o
  obtain ⟨hR2, hl2⟩ := hR'.kept hal id id
  refine ⟨⟨PM.del todo a, L, hR2, (hrow.kept hk2 (fun k hk' e => hR.ne_row hrow hk' e)).alloc o, hfr, (hbox.kept hk2 (by omega)).alloc o, (hk.then_ hk2 (fun i hi e => by omega)).alloc o, ?_, perm_skip hR.nd hm (by simp [dueV, hx]) hperm⟩, by rw [hl2]; exact hlt⟩
  have := PM.length_del_some hR.nd ((PM.get_some hR.nd).2 hm)
  omega
/-- A round that tells one: the append, and what it leaves. -/
theorem DueR.take {now : Int} {w wr w2 : World} {v : Value} {todo : List ((Int × Int) × Value)} {L : List Key} {a : Int × Int} {x : Int} (hn : T.length < 1000000) (ha : InR a) (hR : RangeP Try.prog 85 wr mb (w.heap.size + 1) T.length (tvals T) todo) (hrow : Row wr 85 2 v (kcells (kvals L))) (hfr : ∀ k, v.ownBlock = some k → w.heap.size ≤ k)
    (hbox : Blk wr w.heap.size [.pointer (some ⟨t, 0, none⟩)] 81) (hk : Kept (fun _ => False) w wr) (hlen : L.length + todo.length ≤ T.length) (hperm : (kvals L ++ (todo.filter (dueV now)).map (·.1)).Perm ((T.filter fun p => decide (p.2 ≤ now)).map (·.1)))
    (hm : (a, .int .i64 x) ∈ todo) (hx : x ≤ now) (hR' : RangeP Try.prog 85 w2 mb (w.heap.size + 1) T.length (tvals T) (PM.del todo a)) (hk2 : Kept (· = w.heap.size + 1) wr w2) (hlt : w2.rangeLeft mb (w.heap.size + 1) < wr.rangeLeft mb (w.heap.size + 1)) :
    ∃ sa n cap w3, (Builtin.append_ #[87, 87] 87 #[v, .slice (some ⟨w2.heap.size + 1, 0, none⟩) 1 1]).run Try.prog ((w2.alloc (.cells #[.int .i64 a.1, .int .i64 a.2] 85)).alloc (.cells #[.int .i64 a.1, .int .i64 a.2] 85)) = .ok (.slice sa n cap) w3 ∧
      DueR t mb T now w (.slice sa n cap) w3 ∧ w3.rangeLeft mb (w.heap.size + 1) < wr.rangeLeft mb (w.heap.size + 1) := by
  obtain ⟨i0, hi, hz0, hz1, hz2⟩ := info_parts info85
  have hlen' := PM.length_del_some hR.nd ((PM.get_some hR.nd).2 hm)
  have hal : Kept (fun _ => False) w2 ((w2.alloc (.cells #[.int .i64 a.1, .int .i64 a.2] 85)).alloc (.cells #[.int .i64 a.1, .int .i64 a.2] 85)) := ((Kept.refl _ _).alloc _).alloc _
  have hrow2 : Row w2 85 2 v (kcells (kvals L)) := hrow.kept hk2 (fun k hk' e => hR.ne_row hrow hk' e)
  have hnew := Blk.new (w2.alloc (.cells #[.int .i64 a.1, .int .i64 a.2] 85)) [.int .i64 a.1, .int .i64 a.2] 85
  simp only [World.size_alloc] at hnew
  have hkl : (kcells (kvals L)).length = L.length * 2 := by rw [kcells_len]; simp [kvals]
  obtain ⟨v', w3, hrun, hrow3, hk3, hf3⟩ := Row.append_cells (P := Try.prog) (t := 87) (hrow2.kept hal (fun _ _ => id)) Try.underlying87 hi hz0 hz1 rfl (by decide) (by rw [hz2]; decide) ⟨w2.heap.size + 1, 0, none⟩ 1 1 [.int .i64 a.1, .int .i64 a.2] rfl
    (fun j u hu => by rw [addr0_add]; exact hnew.cell hu) (fun u hu => by simp at hu; rcases hu with rfl | rfl <;> rfl) (by decide) (by simp; omega) 87
  obtain ⟨sa, n, cap, rfl, _⟩ := hrow3.form (by omega)
  refine ⟨sa, n, cap, w3, hrun, ?_⟩
  obtain ⟨hR2, hl2⟩ := hR'.kept hal id id
  have hrowx := hrow2.kept hal (fun _ _ => id)
  obtain ⟨hR3, hl3⟩ := hR2.kept hk3 (fun e => hR2.owns.ne_row hrowx e rfl) (fun e => hR2.ne_row hrowx e rfl)
  refine ⟨⟨PM.del todo a, L ++ [⟨a, ha⟩], hR3, ?_, fun k hk' => ?_, ?_, ?_, ?_, ?_⟩, by rw [hl3, hl2]; exact hlt⟩
  · have e : kcells (kvals (L ++ [⟨a, ha⟩])) = kcells (kvals L) ++ [.int .i64 a.1, .int .i64 a.2] := by
      unfold kvals
      rw [List.map_append, kcells_append]
      rfl
    rw [e]; exact hrow3
  · rcases hf3 k hk' with q | q
    · exact hfr k q
    · have h1 := hk.size
      have h2 := hk2.size
      have h3 := hal.size
      omega
  · have hb2 := ((hbox.kept hk2 (by omega)).kept hal id)
    exact hb2.kept hk3 (fun e => hrowx.ne_blk e hb2 (by decide) rfl)
  · refine ((hk.then_ hk2 (fun i hi e => by omega)).trans hal).then_ hk3 (fun i hi e => ?_)
    have := hfr i e
    omega
  · rw [List.length_append]
    show L.length + 1 + _ ≤ _
    omega
  · have := perm_take hR.nd hm (by simp [dueV, hx]) hperm
    unfold kvals at *
    rw [List.map_append]
    exact this
/-- What the sort leaves. -/
def SortPost (T : Tim) (v : Value) (L : List Key) (w : World) (e : Ending) (w' : World) : Prop :=
  e = .returned (.tuple #[]) ∧ ∃ ks : List (Int × Int), ks.Perm (kvals L) ∧ ks.Pairwise (kless T) ∧ (∀ p ∈ ks, InR p) ∧ Row w' 85 2 v (kcells ks) ∧ Kept (fun x => v.ownBlock = some x) w w'
theorem sort_any (w : World) (v : Value) (L : List Key) (B : Nat) (hnd : (kvals L).Nodup) (hl : L.length < 1000000) (hrow : Row w 85 2 v (kcells (kvals L))) (hbox : Blk w B [.pointer (some ⟨t, 0, none⟩)] 81) (hT : IsTim w t mb T) :
    Calls Try.prog 89 #[v, .func (.func 90) #[] #[.pointer (some ⟨B, 0, none⟩)]] w (SortPost T v L w) := by
  obtain ⟨a, n, cap, rfl, hn, _, hc⟩ := hrow.form (by omega)
  rw [kcells_len] at hn
  have hkl : (kvals L).length = L.length := by simp [kvals]
  by_cases h0 : L.length = 0
  · have hL : L = [] := List.eq_nil_of_length_eq_zero h0
    subst hL
    have hn0 : n = 0 := by simp [kvals] at hn; omega
    subst hn0
    have h := AnyF.slices_SortFunc_none Try.sortKey a cap (.func (.func 90) #[] #[.pointer (some ⟨B, 0, none⟩)]) w
    change Calls Try.prog 89 _ _ _ at h
    exact h.mono (fun e w' ⟨he, hw⟩ => by subst hw; exact ⟨he, [], List.Perm.refl _, List.Pairwise.nil, fun p hp => by simp at hp, hrow, Kept.refl _ _⟩)
  · obtain ⟨g, rfl, hog, _⟩ := hc (by omega)
    have hrow0 := hrow
    rcases hrow with ⟨q, _⟩ | ⟨g', n', cap', rest, hv, h1, hb, h2, h3, h4⟩
    · cases q
    · simp only [Value.slice.injEq, Option.some.injEq, Addr.mk.injEq, and_true] at hv
      obtain ⟨rfl, rfl, rfl⟩ := hv
      have hnL : n = L.length := by omega
      have eg : ∀ args w, (callFunc 90 args).run Try.prog w = .ok (.enter 90 args) w := enters_of Try.func90 (by kernel_rfl) rfl
      have hgB : g ≠ B := hrow0.ne_blk rfl hbox (by decide)
      have hgt : g ≠ t := hrow0.ne_blk rfl hT.head (by decide)
      have hgm : g ≠ mb := hT.map.ne_row hrow0 rfl
      have hcmp : CmpLays Try.prog 90 #[.pointer (some ⟨B, 0, none⟩)] kcell 2 (kcf T) g 0 L.toArray.size w := by
        intro m os dk _ x y
        have hk := kept_sort w g m dk os
        have hbx := hbox.kept hk (fun e => hgB e.symm)
        exact closure_any _ B t mb T x y (hbx.cell (i := 0) rfl) hbx.lt (hT.kept hk (fun e => hgt e.symm) (fun e => hgm e.symm))
      have h := AnyQ.slices_SortFunc_total Try.sortKey 2 Try.isAgg85 Try.sizeOf85 kcell (fun _ => rfl) (fun x v hv => by simp [kcell] at hv; rcases hv with rfl | rfl <;> rfl) (kcf T) (kcf_swo T) 90 #[.pointer (some ⟨B, 0, none⟩)] g 0 cap L.toArray w eg hcmp (holds_row hb) hb.lt (by simp; omega) (kcf_total T)
      change Calls Try.prog 89 _ _ _ at h
      have es : L.toArray.size = n := by simp; omega
      rw [es] at h
      refine h.mono (fun e w' ⟨he, m, os, hw⟩ => ?_)
      subst hw
      have hpm : (L.mergeSort fun x y => !ltOf (kcf T) y x).Perm L := List.mergeSort_perm _ _
      have hlen : (L.mergeSort fun x y => !ltOf (kcf T) y x).length = L.length := hpm.length_eq
      refine ⟨he, kvals (L.mergeSort fun x y => !ltOf (kcf T) y x), hpm.map _, ?_, fun p hp => ?_, ?_, ?_⟩
      · have hs : (L.mergeSort fun x y => !ltOf (kcf T) y x).Pairwise (fun x y => (!ltOf (kcf T) y x) = true) := List.pairwise_mergeSort (fun x y z h1 h2 => by
            simp only [Bool.not_eq_true'] at *
            exact (kcf_swo T).ntrans _ _ _ h2 h1) (fun x y => by
            cases h1 : ltOf (kcf T) y x
            · simp
            · have := kless_asymm T ((kless_iff T y x).1 h1)
              rw [(ltOf_false T x y).2 this]; simp) L
        have hnd2 : (kvals (L.mergeSort fun x y => !ltOf (kcf T) y x)).Nodup := (List.Perm.nodup_iff (show (kvals _).Perm (kvals L) from hpm.map _)).2 hnd
        unfold kvals at hnd2 ⊢
        rw [List.Nodup, List.pairwise_map] at hnd2
        rw [List.pairwise_map]
        refine (hs.and hnd2).imp (fun {x y} q => ?_)
        obtain ⟨q1, q2⟩ := q
        simp only [Bool.not_eq_true'] at q1
        rw [ltOf_false] at q1
        rcases kless_total T q1 with r | r
        · exact r
        · exact absurd r.symm q2
      · unfold kvals at hp
        obtain ⟨x, _, rfl⟩ := List.mem_map.1 hp
        exact x.2
      · refine Or.inr ⟨g, n, cap, rest, rfl, ?_, blk_sort hb m _ os (by rw [kcells_len, hkl, hlen]), h2, ?_, h4⟩
        · rw [kcells_len]; simp [kvals]; omega
        · rw [kcells_len] at h3 ⊢
          simp [kvals] at h3 ⊢
          omega
      · exact (kept_sort w g m _ os).mono (fun x _ e => by simp [Value.ownBlock, e])

/-- The second loop's relation: the first i of the keys are taken out. -/
def DueQ (t mb : Nat) (T : Tim) (v : Value) (ks : List (Int × Int)) (w : World) (i : Nat) (wr : World) : Prop :=
  IsTim wr t mb (delAll T (ks.take i)) ∧ Row wr 85 2 v (kcells ks) ∧ Blk wr w.heap.size [.pointer (some ⟨t, 0, none⟩)] 81 ∧ Kept (· = mb) w wr
theorem DueQ.del {v : Value} {ks : List (Int × Int)} {w wr : World} {i : Nat} {p : Int × Int} (h : DueQ t mb T v ks w i wr) (hp : ks[i]? = some p) (hin : InR p) (o : Obj) :
    ∃ w2, (Builtin.delete_ #[104, 85] 0 #[.map (some mb), .agg #[.int .i64 p.1, .int .i64 p.2]]).run Try.prog (wr.alloc o).drew = .ok (.tuple #[]) w2 ∧ DueQ t mb T v ks w (i + 1) w2 := by
  obtain ⟨hT, hrow, hbox, hk⟩ := h
  have hT1 := (hT.alloc o).drew
  obtain ⟨w2, hrun, hm2, hk2, hs2⟩ := hT1.map.drop (t := 104) (e := 3) pairKey Try.underlying104 hin 0
  rw [tvals_del] at hm2
  have e : delAll T (ks.take (i + 1)) = PM.del (delAll T (ks.take i)) p := by
    unfold delAll
    rw [List.take_add_one, hp]
    simp
  have hk1 : Kept (fun _ => False) wr (wr.alloc o).drew := ((Kept.refl _ _).alloc o).drew
  refine ⟨w2, hrun, ⟨?_, ?_, ?_⟩, ?_, ?_, ?_⟩
  · exact hT1.head.kept hk2 (fun q => hT.ne q.symm)
  · rw [e]
    have := hm2.tight
    rwa [tvals_len] at this
  · rw [e]
    exact fun q hq => hT.vals q (PM.mem_del.1 hq).1
  · have hr1 := hrow.kept hk1 (fun _ _ => id)
    exact hr1.kept hk2 (fun k hk' q => hT1.map.ne_row hr1 hk' q)
  · have hb1 := hbox.kept hk1 id
    exact hb1.kept hk2 (fun q => hT1.map.ne_blk hb1 q.symm)
  · exact (hk.then_ hk1 (fun _ _ => False.elim)).trans hk2

theorem DueQ.done {v : Value} {ks : List (Int × Int)} {w wr : World} {i : Nat} {now : Int} (h : DueQ t mb T v ks w i wr) (hi : ks.length ≤ i) (hfin : ks.Perm ((T.filter fun p => decide (p.2 ≤ now)).map (·.1))) (hks : ks.Pairwise (kless T)) (hfr : ∀ k, v.ownBlock = some k → w.heap.size ≤ k) (hnd : PM.Nd T) :
    DuePost t mb T now w (.returned v) wr := by
  obtain ⟨hT, hrow, _, hk⟩ := h
  rw [List.take_of_length_le hi, delAll_due hnd hfin] at hT
  exact ⟨v, ks, rfl, ⟨hfin, hks⟩, hrow, hfr, hT, hk⟩
set_option maxRecDepth 100000 in
set_option maxHeartbeats 2000000 in
theorem tim_due (w : World) (now : Int) (hnow : I64 now) (hn : T.length < 1000000) (h : IsTim w t mb T) :
    Calls Try.prog 58 #[.pointer (some ⟨t, 0, none⟩), .int .i64 now] w (DuePost t mb T now w) := by
  have h1 := h.alloc (.cells #[.pointer (some ⟨t, 0, none⟩)] 81)
  have c0 := h1.head.cell (i := 0) rfl
  obtain ⟨w1, T1, hrg, hp1, hR, hk1, hs1⟩ := h1.map.range (t := 104) (e := 3) pairKey Try.underlying104
  simp only [World.size_alloc] at hrg hR hs1
  have hstart : DueR t mb T now w (.slice none 0 0) w1 := by
    refine ⟨T1, [], hR, Row.nil _ _ _, fun k hk => by simp [Value.ownBlock] at hk, (Blk.new w _ _).kept hk1 id, ((Kept.refl _ _).alloc _).trans hk1, ?_, ?_⟩
    · have := hp1.length_eq; rw [tvals_len] at this; simp; omega
    · rw [← due_tvals]; exact (hp1.filter _).map _
  have HS := Lib.hid hstart
  obtain ⟨i0, hi, hz0, hz1, hz2⟩ := info_parts info85
  clear hstart hk1 hp1 hR
  go_enter Try.func58, Try.ntmps58
  go_wp2_with (go_at_call 88; refine (tim_none_some _ _ _ c0).mono ?_; rintro e w' ⟨rfl, rfl⟩)
  go_loopw [5] (fun v wr => ∃ va vn vcap, v = .slice va vn vcap ∧ DueR t mb T now w (.slice va vn vcap) wr) (fun _ wr => wr.rangeLeft mb (w.heap.size + 1))
  case atStart => exact ⟨_, _, _, rfl, HS.out⟩
  case round =>
    obtain ⟨va, vn, vcap, rfl, todo, L, hR, hrow, hfr, hbox, hk, hlen, hperm⟩ := hrel
    rcases hR.next pairKey 0 with ⟨rfl, hrun⟩ | ⟨a, v', w2, hmem, ha, hrun, hR', hlt, hk2, hsz2, hent⟩
    · have hnd : (kvals L).Nodup := by
        rw [List.filter_nil, List.map_nil, List.append_nil] at hperm
        rw [hperm.nodup_iff]
        have := h.nd.filter (fun p => decide (p.2 ≤ now))
        unfold List.Nodup
        rw [List.pairwise_map]
        exact this
      have hsort := sort_any wr (.slice va vn vcap) L w.heap.size hnd (by simp at hlen; omega) hrow hbox (h.kept hk id id)
      have HP := Lib.hid (And.intro hperm (And.intro hfr (And.intro hbox (And.intro hk hrow))))
      clear hperm hR hrow hbox hk HS hnd hfr
      go_wp2_with (go_at_call 89; refine hsort.mono ?_; rintro e w3 ⟨rfl, hsp⟩)
      obtain ⟨ks, hks1, hks2, hks3, hrow3, hk3⟩ := hsp
      obtain ⟨hperm, hfr, hbox, hk, hrow⟩ := HP.out
      clear HP
      rw [List.filter_nil, List.map_nil, List.append_nil] at hperm
      have hQ0 : DueQ t mb T (.slice va vn vcap) ks w 0 w3 := by
        have hkw : Kept (fun _ => False) w w3 := hk.then_ hk3 (fun i hi e => by have := hfr i e; omega)
        refine ⟨?_, hrow3, ?_, hkw.mono (fun _ _ => False.elim)⟩
        · exact h.kept hkw id id
        · exact hbox.kept hk3 (fun e => hrow.ne_blk e hbox (by decide) rfl)
      have hfin : ks.Perm ((T.filter fun p => decide (p.2 ≤ now)).map (·.1)) := hks1.trans hperm
      have hvn : vn = ks.length := by
        obtain ⟨_, n', _, hv, hn', _⟩ := hrow3.form (by omega)
        simp only [Value.slice.injEq] at hv
        rw [kcells_len] at hn'
        omega
      have hkl : ks.length ≤ 1000000 := by
        have h1 := hks1.length_eq
        have h2 : (kvals L).length = L.length := by simp [kvals]
        simp at hlen
        omega
      have HQ := Lib.hid (And.intro hQ0 (And.intro hfin (And.intro hks2 (And.intro hks3 (And.intro hfr hvn)))))
      have hvl : vn ≤ 1000000 := by omega
      clear hQ0 hfin hks1 hks2 hks3 hrow3 hk3 hperm hfr hbox hk hrow hvn hkl hlen
      go_wp2_with fail
      go_loopw [34] (fun y wx => ∃ i : Nat, y = .int .i64 i ∧ i ≤ vn ∧ DueQ t mb T (.slice va vn vcap) ks w i wx) (fun y _ => vn - (intOf y).toNat)
      case atStart => exact ⟨0, rfl, Nat.zero_le _, HQ.out.1⟩
      case round =>
        obtain ⟨i, rfl, hi, hQ⟩ := hrel
        obtain ⟨_, hfin, hks2, hks3, hfr, hvn⟩ := HQ.out
        by_cases hlt : i < vn
        · have hx : decide (i < vn) = true := decide_eq_true hlt
          obtain ⟨p, hp⟩ : ∃ p, ks[i]? = some p := ⟨ks[i]'(by omega), List.getElem?_eq_getElem (by omega)⟩
          have hin : InR p := hks3 p (List.mem_of_getElem? hp)
          obtain ⟨w4, hdel, hQ'⟩ := hQ.del hp hin (.cells #[.int .i64 p.1, .int .i64 p.2] 85)
          obtain ⟨_, _, _, hv, _, _, hcs⟩ := hQ.2.1.form (by omega)
          simp only [Value.slice.injEq] at hv
          obtain ⟨rfl, rfl, rfl⟩ := hv
          obtain ⟨g, rfl, _, hcell⟩ := hcs (by omega)
          obtain ⟨g0, g1⟩ := kcells_get ks i p hp
          have q0 := hcell _ _ g0
          have q1 := hcell _ _ g1
          have b0 := (hQ.2.2.1.alloc (.cells #[.int .i64 p.1, .int .i64 p.2] 85)).cell (i := 0) rfl
          have b1 := (hQ.1.alloc (.cells #[.int .i64 p.1, .int .i64 p.2] 85)).head.cell (i := 0) rfl
          have H4 := Lib.hid hQ'
          clear hQ' hQ hcs hcell g0 g1 hp hfin hks2 hks3 hfr hvn
          go_wp2_with fail
          refine wp_region_tail 5 (by kernel_rfl) (by kernel_rfl) ?_
          simp only [List.take_succ_cons, List.take_zero, List.drop_succ_cons, List.drop_zero]
          iterate 5 still_step
          refine wpStill_nil ?_
          go_wp2
          go_roundw
          case rel => exact ⟨i + 1, by go_num, hlt, H4.out⟩
          case measure => simp [intOf]; omega
        · have hx : decide (i < vn) = false := by simp; omega
          have him : i = vn := by omega
          have hend := hQ.done (now := now) (by omega) hfin hks2 hfr h.nd
          have HE := Lib.hid hend
          clear hend hQ hfin hks2 hks3 hfr hvn him
          go_wp2_with fail
          go_ret
          exact HE.out
    · have hmT := hR.sub _ hmem
      unfold tvals at hmT
      obtain ⟨p, hp, hpe⟩ := List.mem_map.1 hmT
      obtain ⟨rfl, rfl⟩ : p.1 = a ∧ Value.int .i64 p.2 = v' := by simpa using hpe
      have hpv := h.vals p hp
      unfold I64 at hpv hnow
      unfold pv at hrun hent
      clear hpe hmT
      by_cases hx : p.2 ≤ now
      · obtain ⟨sa, n, cap, w3, hap, hD, hl⟩ := DueR.take hn ha hR hrow hfr hbox hk hlen hperm hmem hx hR' hk2 hlt
        have hx1 : decide (p.2 ≤ now) = true := decide_eq_true hx
        have HD := Lib.hid (And.intro hD hl)
        clear hD hl hperm hR hR' hlt hk2 hsz2 hrow hbox hk HS
        go_wp2_with (at_builtin; refine Lib.wpList_append_run _ rfl _ _ 87 87 rfl _ _ rfl rfl _ _ hap ?_)
        go_roundw
        case rel => exact ⟨_, _, _, rfl, HD.out.1⟩
        case measure => exact HD.out.2
      · have hD := DueR.skip hR hrow hfr hbox hk hlen hperm hmem hx hR' hk2 hlt (.cells #[.int .i64 p.1.1, .int .i64 p.1.2] 85)
        have hx1 : decide (p.2 ≤ now) = false := by simpa using hx
        have HD := Lib.hid hD
        clear hD hperm hR hR' hlt hk2 hsz2 hrow hbox hk HS
        go_wp2_with fail
        go_roundw
        case rel => exact ⟨_, _, _, rfl, HD.out.1⟩
        case measure => exact HD.out.2
end
end Go.Proofs.Ytahiimcdmojngaa
