/- Maps whose keys are pairs of ints: a block that reads as a table, in whatever order. Any program. -/
import Derived.Test.YtahiimcdmojngaaMap
import Derived.WideKeyPair
namespace Go.Proofs.Ytahiimcdmojngaa
open Go.RowKit Go.Maps Go.WideMaps

namespace PM
variable {α : Type}
def get (T : List ((Int × Int) × α)) (k : Int × Int) : Option α := (T.find? fun p => decide (p.1 = k)).map (·.2)
def del (T : List ((Int × Int) × α)) (k : Int × Int) : List ((Int × Int) × α) := T.filter fun p => !decide (p.1 = k)
def set (T : List ((Int × Int) × α)) (k : Int × Int) (v : α) : List ((Int × Int) × α) := (k, v) :: del T k
/-- No key stands there twice. -/
def Nd (T : List ((Int × Int) × α)) : Prop := T.Pairwise fun p q => p.1 ≠ q.1
theorem nd_perm {T T' : List ((Int × Int) × α)} (hp : T.Perm T') (h : Nd T) : Nd T' := (hp.pairwise_iff (fun {a b} q e => q e.symm)).1 h
theorem get_some {T : List ((Int × Int) × α)} (h : Nd T) {k : Int × Int} {v : α} : get T k = some v ↔ (k, v) ∈ T := by
  induction T with
  | nil => simp [get]
  | cons y r ih =>
    obtain ⟨h1, h2⟩ := List.pairwise_cons.1 h
    by_cases e : y.1 = k
    · have hx : get (y :: r) k = some y.2 := by simp [get, List.find?_cons, e]
      rw [hx]
      constructor
      · intro hv
        have : y.2 = v := Option.some.inj hv
        subst e; subst this; simp
      · intro hm
        rcases List.mem_cons.1 hm with rfl | hm
        · rfl
        · exact absurd e (h1 _ hm)
    · have hx : get (y :: r) k = get r k := by simp [get, List.find?_cons, e]
      rw [hx, ih h2]
      constructor
      · intro hm; exact List.mem_cons_of_mem _ hm
      · intro hm
        rcases List.mem_cons.1 hm with rfl | hm
        · exact absurd rfl e
        · exact hm
theorem get_perm {T T' : List ((Int × Int) × α)} (h : Nd T) (hp : T.Perm T') (k : Int × Int) : get T k = get T' k := by
  apply Option.ext
  intro v
  rw [get_some h, get_some (nd_perm hp h), hp.mem_iff]
theorem mem_del {T : List ((Int × Int) × α)} {k : Int × Int} {p : (Int × Int) × α} : p ∈ del T k ↔ p ∈ T ∧ p.1 ≠ k := by simp [del]
theorem nd_del {T : List ((Int × Int) × α)} (h : Nd T) (k : Int × Int) : Nd (del T k) := h.filter _
theorem nd_set {T : List ((Int × Int) × α)} (h : Nd T) (k : Int × Int) (v : α) : Nd (set T k v) :=
  List.pairwise_cons.2 ⟨fun _ hp e => (mem_del.1 hp).2 e.symm, nd_del h k⟩
theorem del_perm {T T' : List ((Int × Int) × α)} (h : T.Perm T') (k : Int × Int) : (del T k).Perm (del T' k) := h.filter _
theorem set_perm {T T' : List ((Int × Int) × α)} (h : T.Perm T') (k : Int × Int) (v : α) : (set T k v).Perm (set T' k v) := (del_perm h k).cons _
theorem get_del_same (T : List ((Int × Int) × α)) (k : Int × Int) : get (del T k) k = none := by
  unfold get del
  rw [List.find?_filter]
  simp
theorem get_del_other (T : List ((Int × Int) × α)) {k k' : Int × Int} (h : k' ≠ k) : get (del T k) k' = get T k' := by
  unfold get del
  rw [List.find?_filter]
  congr 2
  funext p
  by_cases e : p.1 = k'
  · simp [e, h]
  · simp [e]
theorem get_set_same (T : List ((Int × Int) × α)) (k : Int × Int) (v : α) : get (set T k v) k = some v := by simp [get, set]
theorem get_set_other (T : List ((Int × Int) × α)) {k k' : Int × Int} (v : α) (h : k' ≠ k) : get (set T k v) k' = get T k' := by
  rw [← get_del_other T h]
  have : ¬ k = k' := fun e => h e.symm
  simp [get, set, List.find?_cons, this]
theorem nd_nil : Nd ([] : List ((Int × Int) × α)) := List.Pairwise.nil
theorem del_none {T : List ((Int × Int) × α)} {k : Int × Int} (h : get T k = none) : del T k = T := by
  unfold get at h
  simp only [Option.map_eq_none_iff, List.find?_eq_none, decide_eq_true_eq] at h
  unfold del
  rw [List.filter_eq_self]
  intro p hp
  simp [h p hp]
theorem length_del_some {T : List ((Int × Int) × α)} (h : Nd T) {k : Int × Int} {v : α} (hg : get T k = some v) : (del T k).length + 1 = T.length := by
  induction T with
  | nil => simp [get] at hg
  | cons y r ih =>
    obtain ⟨h1, h2⟩ := List.pairwise_cons.1 h
    by_cases e : y.1 = k
    · subst e
      have hr : del r y.1 = r := by
        unfold del
        rw [List.filter_eq_self]
        intro p hp
        have := h1 p hp
        simp only [Bool.not_eq_true', decide_eq_false_iff_not]
        exact fun e => this e.symm
      have : del (y :: r) y.1 = r := by
        have h0 : del (y :: r) y.1 = del r y.1 := by simp [del, List.filter_cons]
        rw [h0, hr]
      rw [this]; rfl
    · have hx : get (y :: r) k = get r k := by simp [get, List.find?_cons, e]
      rw [hx] at hg
      have := ih h2 hg
      have h0 : del (y :: r) k = y :: del r k := by simp [del, List.filter_cons, e]
      rw [h0, List.length_cons, List.length_cons, this]
end PM

def pv (p : Int × Int) : Value := .agg #[.int .i64 p.1, .int .i64 p.2]
def pl (p : Int × Int) : Lit := .string (keyBytes [.int .i64 p.1, .int .i64 p.2])
def InR (p : Int × Int) : Prop := (-9223372036854775808 ≤ p.1 ∧ p.1 ≤ 9223372036854775807) ∧ (-9223372036854775808 ≤ p.2 ∧ p.2 ≤ 9223372036854775807)
structure PKey (P : Program) (k : TypeId) : Prop where
  law : Keyed P k
  key : ∀ p, InR p → keyOf P k (pv p) = some (pl p)
theorem lit_i64 {a : Int} (h : -9223372036854775808 ≤ a ∧ a ≤ 9223372036854775807) : (Lit.int .i64 a).wf = true := by
  simp [Lit.wf, IntKind.min, IntKind.max, IntKind.signed, IntKind.bits]; omega
theorem PKey.of {P : Program} {k e : TypeId} (A : ArrKey P k e 2) (he : P.underlying e = some (.int .i64)) (hsz : ∃ m, P.types.size = m + 1) : PKey P k :=
  ⟨Keyed.of_law A.law, fun _ h => keyOf_pair A he hsz (lit_i64 h.1) (lit_i64 h.2)⟩
theorem PKey.inj {P : Program} {k : TypeId} (K : PKey P k) {p q : Int × Int} (hp : InR p) (hq : InR q) (h : pl p = pl q) : p = q := by
  have := K.law.inj (K.key p hp) (by rw [h]; exact K.key q hq)
  simp [pv] at this
  exact Prod.ext this.1 this.2
theorem PKey.same {P : Program} {k : TypeId} (K : PKey P k) {p q : Int × Int} (hp : InR p) (hq : InR q) : (pl p).sameKey (pl q) = decide (p = q) := by
  by_cases e : p = q
  · subst e; simp [pl, Lit.sameKey]
  · have : pl p ≠ pl q := fun h => e (K.inj hp hq h)
    unfold pl at this ⊢
    simp only [ne_eq, Lit.string.injEq] at this
    simp [Lit.sameKey, this, e]
theorem pl_same {p : Int × Int} {l : Lit} (h : (pl p).sameKey l = true) : pl p = l := by
  unfold pl at h ⊢
  cases l <;> simp [Lit.sameKey] at h
  rw [h]

def pD (T : List ((Int × Int) × Value)) : DataW Value := .map (T.map fun p => (pl p.1, .held p.2))
theorem insert_pD (k : Int × Int) (v : Value) (T : List ((Int × Int) × Value)) :
    ∃ T' : List ((Int × Int) × Value), DataW.insert (pl k, .held v) (T.map fun p => (pl p.1, (DataW.held p.2 : DataW Value))) = T'.map (fun p => (pl p.1, DataW.held p.2)) ∧ T'.Perm ((k, v) :: T) := by
  induction T with
  | nil => exact ⟨[(k, v)], rfl, List.Perm.refl _⟩
  | cons y r ih =>
    obtain ⟨T', h1, h2⟩ := ih
    simp only [List.map_cons, DataW.insert]
    split
    · exact ⟨(k, v) :: y :: r, rfl, List.Perm.refl _⟩
    · exact ⟨y :: T', by rw [h1]; rfl, (h2.cons y).trans (List.Perm.swap _ _ _)⟩

/-- Block b of w is a map of at most n entries, those of the table T, in some order. -/
def MapP (P : Program) (k : TypeId) (w : World) (b n : Nat) (T : List ((Int × Int) × Value)) : Prop :=
  ∃ T0, T0.Perm T ∧ (∀ p ∈ T0, InR p.1) ∧ PM.Nd T0 ∧ w.ownsMap P k rawR b n (pD T0)

section
variable {P : Program} {k t e : TypeId} {w w' : World} {b n : Nat} {T : List ((Int × Int) × Value)}
theorem MapP.nd (h : MapP P k w b n T) : PM.Nd T := by obtain ⟨T0, hp, _, hn, _⟩ := h; exact PM.nd_perm hp hn
theorem MapP.inr (h : MapP P k w b n T) : ∀ p ∈ T, InR p.1 := by obtain ⟨T0, hp, hr, _⟩ := h; exact fun p hm => hr p (hp.mem_iff.2 hm)
theorem MapP.perm {T' : List ((Int × Int) × Value)} (h : MapP P k w b n T) (hp : T.Perm T') : MapP P k w b n T' := by
  obtain ⟨T0, h1, h2⟩ := h; exact ⟨T0, h1.trans hp, h2⟩
theorem MapP.lt (h : MapP P k w b n T) : b < w.heap.size := by obtain ⟨T0, _, _, _, h⟩ := h; exact World.ownsMap.lt h
theorem MapP.kept {S : Nat → Prop} (h : MapP P k w b n T) (hk : Kept S w w') (hb : ¬ S b) : MapP P k w' b n T := by
  have hlt := h.lt
  obtain ⟨T0, h1, h2, h3, es, clock, hh, F, hs, hD⟩ := h
  exact ⟨T0, h1, h2, h3, es, clock, (hk.block b hlt hb).trans hh, F, hs, hD⟩
theorem MapP.alloc (h : MapP P k w b n T) (o : Obj) : MapP P k (w.alloc o) b n T := h.kept (S := fun _ => False) ((Kept.refl _ _).alloc o) id
theorem MapP.drew (h : MapP P k w b n T) : MapP P k w.drew b n T := h
theorem MapP.drewN (h : MapP P k w b n T) (j : Nat) : MapP P k (w.drewN j) b n T := h
theorem MapP.mono (h : MapP P k w b n T) {n' : Nat} (hn : n ≤ n') : MapP P k w b n' T := by
  obtain ⟨T0, h1, h2, h3, h4⟩ := h; exact ⟨T0, h1, h2, h3, World.ownsMap.mono h4 hn⟩
theorem MapP.other (h : MapP P k w b n T) {p : Addr} (hp : p.block ≠ b) (v : Value) : MapP P k (w.setCell p v) b n T :=
  h.kept (S := fun x => x = p.block) (Kept.setCell (S := fun x => x = p.block) (Kept.refl _ _) (fun _ => rfl) v) (fun e => hp e.symm)
theorem MapP.made (w : World) (P : Program) (k : TypeId) : MapP P k (w.alloc (.map #[] 0)) w.heap.size 0 [] :=
  ⟨[], List.Perm.refl _, fun _ hp => by simp at hp, PM.nd_nil, World.ownsMap_made w P k rawR⟩
theorem size_pD (T : List ((Int × Int) × Value)) : Maps.size (pD T) = T.length := by simp [pD, Maps.size]
theorem MapP.size_le (h : MapP P k w b n T) : T.length ≤ n := by
  obtain ⟨T0, h1, _, _, h⟩ := h
  have := World.ownsMap.size_le h
  rw [size_pD] at this
  rw [← h1.length_eq]; exact this
theorem MapP.tight (h : MapP P k w b n T) : MapP P k w b T.length T := by
  obtain ⟨T0, h1, h2, h3, es, clock, hh, F, hs, hD⟩ := h
  refine ⟨T0, h1, h2, h3, es, clock, hh, F, ?_, hD⟩
  have := congrArg Maps.size hD
  rw [size_pD] at this
  rw [← h1.length_eq, this]
  simp [Maps.size, length_sorted]
theorem MapP.ne_blk {d : Nat} {c : List Value} {t : TypeId} (h : MapP P k w b n T) (hb : Blk w d c t) : b ≠ d := by
  rintro rfl
  obtain ⟨T0, _, _, _, es, clock, hh, _⟩ := h
  unfold Blk at hb
  rw [hh] at hb
  cases hb

theorem find_pD (K : PKey P k) (T : List ((Int × Int) × Value)) (hr : ∀ p ∈ T, InR p.1) {a : Int × Int} (ha : InR a) :
    (T.map fun p => (pl p.1, (DataW.held p.2 : DataW Value))).find? (fun p => p.1.sameKey (pl a)) = (T.find? fun p => decide (p.1 = a)).map fun p => (pl p.1, DataW.held p.2) := by
  induction T with
  | nil => rfl
  | cons y r ih =>
    simp only [List.map_cons, List.find?_cons]
    rw [K.same (hr y (by simp)) ha]
    by_cases e : y.1 = a
    · simp [e]
    · simp only [e, decide_false]; exact ih (fun p hp => hr p (List.mem_cons_of_mem _ hp))
theorem atKey_pD (K : PKey P k) (T : List ((Int × Int) × Value)) (hr : ∀ p ∈ T, InR p.1) {a : Int × Int} (ha : InR a) (z : DataW Value) : (pD T).atKey (pl a) z = match PM.get T a with
    | some v => .held v
    | none => z := by
  unfold pD DataW.atKey PM.get
  simp only [find_pD K T hr ha]
  cases (T.find? fun p => decide (p.1 = a)) <;> rfl
theorem has_pD (K : PKey P k) (T : List ((Int × Int) × Value)) (hr : ∀ p ∈ T, InR p.1) {a : Int × Int} (ha : InR a) : Maps.has (pD T) (pl a) = (PM.get T a).isSome := by
  show (T.map fun p => (pl p.1, (DataW.held p.2 : DataW Value))).any (fun p => p.1.sameKey (pl a)) = ((T.find? fun p => decide (p.1 = a)).map (·.2)).isSome
  have he : ∀ l : List (Lit × DataW Value), l.any (fun p => p.1.sameKey (pl a)) = (l.find? fun p => p.1.sameKey (pl a)).isSome := by
    intro l
    rw [Bool.eq_iff_iff, List.find?_isSome, List.any_eq_true]
  rw [he, find_pD K T hr ha, Option.isSome_map, Option.isSome_map]
theorem del_pD (K : PKey P k) (T : List ((Int × Int) × Value)) (hr : ∀ p ∈ T, InR p.1) {a : Int × Int} (ha : InR a) : (T.map fun p => (pl p.1, (DataW.held p.2 : DataW Value))).filter (fun p => !p.1.sameKey (pl a)) = (PM.del T a).map fun p => (pl p.1, DataW.held p.2) := by
  unfold PM.del
  rw [List.filter_map]
  congr 1
  apply List.filter_congr
  intro p hp
  show (!(pl p.1).sameKey (pl a)) = _
  rw [K.same (hr p hp) ha]

theorem MapP.look (h : MapP P k w b n T) (K : PKey P k) (ht : P.underlying t = some (.map k e)) {z : Value} (hz : (zeroValue e).run P w = .ok z w) {a : Int × Int} (ha : InR a) :
    (Instr.lookup t (.map (some b)) (pv a) false).run P w = .ok ((PM.get T a).getD z) w := by
  obtain ⟨T0, h1, h2, h3, h⟩ := h
  obtain ⟨v, ps, hrun, hv⟩ := World.ownsMap.lookup h K.law ht hz (zd := .held z) (zp := []) rfl (K.key a ha)
  rw [hrun, ← PM.get_perm h3 h1]
  rw [atKey_pD K T0 h2 ha] at hv
  unfold rawR at hv
  simp only [Option.some.injEq, Prod.mk.injEq] at hv
  cases hg : PM.get T0 a with
  | some x => rw [hg] at hv; simp only [DataW.held.injEq] at hv; rw [hv.1]; rfl
  | none => rw [hg] at hv; simp only [DataW.held.injEq] at hv; rw [hv.1]; rfl
theorem MapP.look_ok (h : MapP P k w b n T) (K : PKey P k) (ht : P.underlying t = some (.map k e)) {z : Value} (hz : (zeroValue e).run P w = .ok z w) {a : Int × Int} (ha : InR a) :
    (Instr.lookup t (.map (some b)) (pv a) true).run P w = .ok (.tuple #[(PM.get T a).getD z, .bool (PM.get T a).isSome]) w := by
  obtain ⟨T0, h1, h2, h3, h⟩ := h
  obtain ⟨v, ps, hrun, hv⟩ := World.ownsMap.look_ok h K.law ht hz (zd := .held z) (zp := []) rfl (K.key a ha)
  rw [hrun, has_pD K T0 h2 ha, ← PM.get_perm h3 h1]
  rw [atKey_pD K T0 h2 ha] at hv
  unfold rawR at hv
  simp only [Option.some.injEq, Prod.mk.injEq] at hv
  cases hg : PM.get T0 a with
  | some x => rw [hg] at hv; simp only [DataW.held.injEq] at hv; rw [hv.1]; rfl
  | none => rw [hg] at hv; simp only [DataW.held.injEq] at hv; rw [hv.1]; rfl
theorem MapP.len (h : MapP P k w b n T) (ht : P.underlying t = some (.map k e)) (ty : TypeId) : (Builtin.len_ #[t] ty #[.map (some b)]).run P w = .ok (.int .i64 T.length) w := by
  obtain ⟨T0, h1, h2, h3, h⟩ := h
  have := World.ownsMap.len h ht ty
  rw [size_pD, h1.length_eq] at this
  exact this
theorem MapP.store (h : MapP P k w b n T) (K : PKey P k) (ht : P.underlying t = some (.map k e)) (hn : n < maxLen) {a : Int × Int} (ha : InR a) (v : Value) :
    ∃ w', (Instr.mapUpdate t (.map (some b)) (pv a) v).run P w = .ok () w' ∧ MapP P k w' b (n + 1) (PM.set T a v) ∧ Kept (· = b) w w' ∧ w'.heap.size = w.heap.size := by
  obtain ⟨T0, h1, h2, h3, h⟩ := h
  obtain ⟨w', hrun, hown, hturn⟩ := World.ownsMap.store h K.law ht hn (K.key a ha) (val := v) (d := .held v) (ps := []) rfl
  have hput : ∃ T', (pD T0).put (pl a) (.held v) = pD T' ∧ T'.Perm (PM.set T0 a v) := by
    obtain ⟨T', e1, e2⟩ := insert_pD a v (PM.del T0 a)
    refine ⟨T', ?_, e2⟩
    unfold pD DataW.put
    simp only [DataW.map.injEq]
    rw [del_pD K T0 h2 ha, e1]
  obtain ⟨T', e1, e2⟩ := hput
  rw [e1] at hown
  refine ⟨w', hrun, ⟨T', e2.trans (PM.set_perm h1 a v), fun p hp => ?_, PM.nd_perm e2.symm (PM.nd_set h3 a v), hown⟩, Kept.of_turned hturn, ?_⟩
  · have := e2.mem_iff.1 hp
    unfold PM.set at this
    rcases List.mem_cons.1 this with rfl | hm
    · exact ha
    · exact h2 p (PM.mem_del.1 hm).1
  · obtain ⟨es, c, es', c', _, rfl⟩ := hturn
    simp [ChangeMaps.setBlock]
theorem MapP.drop (h : MapP P k w b n T) (K : PKey P k) (ht : P.underlying t = some (.map k e)) {a : Int × Int} (ha : InR a) (ty : TypeId) :
    ∃ w', (Builtin.delete_ #[t, k] ty #[.map (some b), pv a]).run P w = .ok (.tuple #[]) w' ∧ MapP P k w' b n (PM.del T a) ∧ Kept (· = b) w w' ∧ w'.heap.size = w.heap.size := by
  obtain ⟨T0, h1, h2, h3, h⟩ := h
  obtain ⟨w', hrun, hown, hturn⟩ := World.ownsMap.drop h K.law ht (K.key a ha) ty
  have hdel : (pD T0).del (pl a) = pD (PM.del T0 a) := by
    unfold pD DataW.del
    simp only [DataW.map.injEq]
    exact del_pD K T0 h2 ha
  rw [hdel] at hown
  refine ⟨w', hrun, ⟨PM.del T0 a, PM.del_perm h1 a, fun p hp => h2 p (PM.mem_del.1 hp).1, PM.nd_del h3 a, hown⟩, Kept.of_turned hturn, ?_⟩
  obtain ⟨es, c, es', c', _, rfl⟩ := hturn
  simp [ChangeMaps.setBlock]

/-- A loop over the map at b, its iterator at r; todo: the entries that are still to come. -/
def RangeP (P : Program) (k : TypeId) (w : World) (b r n : Nat) (T todo : List ((Int × Int) × Value)) : Prop :=
  ∃ T0 left cnt, T0.Perm T ∧ (∀ p ∈ T0, InR p.1) ∧ PM.Nd T0 ∧ w.ranges P k rawR b r n (pD T0) left cnt ∧ todo = T0.filter fun p => left (pl p.1)

section
variable {r : Nat} {todo : List ((Int × Int) × Value)}
theorem RangeP.owns (h : RangeP P k w b r n T todo) : MapP P k w b n T := by
  obtain ⟨T0, left, cnt, h1, h2, h3, hr, _⟩ := h; exact ⟨T0, h1, h2, h3, hr.owns⟩
theorem RangeP.lt (h : RangeP P k w b r n T todo) : r < w.heap.size := by
  obtain ⟨T0, left, cnt, _, _, _, hr, _⟩ := h; exact hr.lt
theorem RangeP.ne (h : RangeP P k w b r n T todo) : r ≠ b := by
  obtain ⟨T0, left, cnt, _, _, _, hr, _⟩ := h; exact hr.ne
theorem RangeP.kept {S : Nat → Prop} (h : RangeP P k w b r n T todo) (hk : Kept S w w') (hb : ¬ S b) (hr : ¬ S r) : RangeP P k w' b r n T todo ∧ w'.rangeLeft b r = w.rangeLeft b r := by
  have l1 := h.owns.lt
  have l2 := h.lt
  have e1 := hk.block b l1 hb
  have e2 := hk.block r l2 hr
  refine ⟨?_, by simp only [World.rangeLeft, e1, e2]⟩
  obtain ⟨T0, left, cnt, q1, q2, q3, ⟨es, clock, since, seen, c0, h1, h2, h3, h4, h5, h6⟩, ht⟩ := h
  exact ⟨T0, left, cnt, q1, q2, q3, ⟨es, clock, since, seen, c0, e1.trans h1, h2, h3, h4, e2.trans h5, h6⟩, ht⟩
theorem RangeP.sub (h : RangeP P k w b r n T todo) : ∀ p ∈ todo, p ∈ T := by
  obtain ⟨T0, left, cnt, q1, _, _, _, rfl⟩ := h
  intro p hp
  exact q1.mem_iff.1 (List.mem_filter.1 hp).1
theorem RangeP.nd (h : RangeP P k w b r n T todo) : PM.Nd todo := by
  obtain ⟨T0, left, cnt, _, _, q3, _, rfl⟩ := h
  exact q3.filter _
theorem MapP.range (h : MapP P k w b n T) (K : PKey P k) (ht : P.underlying t = some (.map k e)) :
    ∃ w' T1, (Instr.range t (.map (some b))).run P w = .ok (.pointer (some ⟨w.heap.size, 0, none⟩)) w' ∧ T1.Perm T ∧ RangeP P k w' b w.heap.size n T T1 ∧ Kept (fun _ => False) w w' ∧ w'.heap.size = w.heap.size + 1 := by
  obtain ⟨T0, h1, h2, h3, h⟩ := h
  obtain ⟨w', hrun, hr, hg, hs⟩ := World.ownsMap.range h K.law ht
  refine ⟨w', T0, hrun, h1, ⟨T0, _, _, h1, h2, h3, hr, ?_⟩, (Kept.of_grown hg).mono (fun _ _ e => by cases e), hs⟩
  symm
  rw [List.filter_eq_self]
  rintro ⟨a, v⟩ hp
  rw [has_pD K T0 h2 (h2 _ hp), (PM.get_some h3).2 hp]
  rfl
theorem RangeP.next (h : RangeP P k w b r n T todo) (K : PKey P k) (ty : TypeId) :
    (todo = [] ∧ (Instr.next (.pointer (some ⟨r, 0, none⟩)) false ty).run P w = .ok (.tuple #[.bool false]) w) ∨
    ∃ a v w', (a, v) ∈ todo ∧ InR a ∧ (Instr.next (.pointer (some ⟨r, 0, none⟩)) false ty).run P w = .ok (.tuple #[.bool true, pv a, v]) w' ∧
      RangeP P k w' b r n T (PM.del todo a) ∧ w'.rangeLeft b r < w.rangeLeft b r ∧ Kept (· = r) w w' ∧ w'.heap.size = w.heap.size ∧ (Instr.entry (.pointer (some ⟨r, 0, none⟩))).run P w' = .ok (.tuple #[pv a, v]) w' := by
  obtain ⟨T0, left, cnt, q1, q2, q3, hr, rfl⟩ := h
  rcases hr.next K.law ty with ⟨_, hl, hrun⟩ | ⟨key, v, kl, y, w', cnt', hkey, hleft, hv, hat, hrun, hr', hlt, hg, hs, hent⟩
  · refine Or.inl ⟨?_, hrun⟩
    rw [List.filter_eq_nil_iff]
    intro p _
    simp [hl]
  · have hy : y = (.held v, []) := by unfold rawR at hv; exact (Option.some.inj hv).symm
    subst hy
    have hfind : ∃ a, (a, v) ∈ T0 ∧ pl a = kl := by
      have := hat .nil
      unfold pD DataW.atKey at this
      simp only at this
      split at this
      · rename_i p hp
        have hm := List.mem_of_find?_eq_some hp
        have hs := List.find?_some hp
        obtain ⟨q, hq, rfl⟩ := List.mem_map.1 hm
        simp only [DataW.held.injEq] at this
        subst this
        exact ⟨q.1, hq, pl_same hs⟩
      · cases this
    obtain ⟨a, hma, rfl⟩ := hfind
    have ha := q2 _ hma
    have hka : key = pv a := K.law.inj hkey (K.key a ha)
    subst hka
    refine Or.inr ⟨a, v, w', ?_, ha, hrun, ⟨T0, _, _, q1, q2, q3, hr', ?_⟩, ?_, (Kept.of_grown hg).mono (fun x _ e => by simpa using e.symm), hs, hent⟩
    · exact List.mem_filter.2 ⟨hma, hleft⟩
    · unfold PM.del
      rw [List.filter_filter]
      apply List.filter_congr
      intro p hp
      rw [K.same (q2 p hp) ha, Bool.and_comm]
    · rw [hr'.left_eq, hr.left_eq]; exact hlt
end
end
end Go.Proofs.Ytahiimcdmojngaa
