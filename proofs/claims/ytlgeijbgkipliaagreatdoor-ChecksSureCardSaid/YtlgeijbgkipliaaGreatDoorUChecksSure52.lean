/- ChkS2 ChkS3 ChkS4 ChkS5 ChkS6 ChkS7 ChkSure -/
import Derived.Test.YtlgeijbgkipliaaGreatDoorUChecksSure49
import Derived.Test.YtlgeijbgkipliaaGreatDoorUChecksSure51
import Derived.Test.YtlgeijbgkipliaaGreatDoorUChecksSure03
set_option linter.unusedVariables false
set_option linter.unusedSimpArgs false
namespace Go.Proofs.YtlgeijbgkipliaaGreatDoor
open Go.RowKit
def Hold15 (w0 W : World) (d c : Nat) (M : DiskM) (C : ChkM) (ps : List PtM) (Os : List Og) : Prop :=
  C.dead = false ∧ ((ps = [] ∧ C.file = -1 ∧ ∃ P, P.length = 38 ∧ Owg w0 W d M (.blk c (chkC d C.file C.many P C.starts false) 74 :: Os)) ∨
    (∃ p, ps.getLast? = some p ∧ 0 ≤ C.file ∧ ChkHold w0 W d c M C.file C.many C.starts p Os))
section
variable {w0 W : World} {d : Nat} {M M' : DiskM} {Os : List Og} {ps : List PtM} {K st : Int} {fl : Bool}
theorem PtM.inj {p q : PtM} (hp : p.Ok) (hq : q.Ok) (h : p.bytes = q.bytes) : p = q := by
  have a1 := PtM.numT hp
  rw [h, PtM.numT hq] at a1
  simp only [Prod.mk.injEq] at a1
  obtain ⟨e1, e2, _⟩ := a1
  have a2 := PtM.hashesT hp
  rw [← e2, PtM.hashesT hq] at a2
  simp only [Prod.mk.injEq] at a2
  obtain ⟨e3, e4, _⟩ := a2
  have a3 := PtM.headT hp
  rw [← e4, PtM.headT hq] at a3
  simp only [Option.some.injEq, Prod.mk.injEq] at a3
  obtain ⟨e5, e6, e7, e8, e9⟩ := a3
  obtain ⟨ps, ph, pz, pr, pi, ⟨⟨pg⟩⟩, pp⟩ := p
  obtain ⟨qs, qh, qz, qr, qi, ⟨⟨qg⟩⟩, qp⟩ := q
  simp only at e1 e3 e5 e6 e7 e8 e9
  subst e1; subst e3; subst e5; subst e6; subst e7; subst e8; subst e9
  rfl
theorem hold15_open {c : Nat} {n : Int} {b : By} (hl : lastF M = some (n, b)) (hw : (wholeF b).1 = ps.map PtM.bytes) (hst : M.starts = st) (hg : GoodP ps) (h : OpenO w0 W d c M M' Os) :
    ∃ p : PtM, ps.getLast? = some p ∧ ChkHold w0 W d c M' n (ps.length : Int) st p Os := by
  unfold OpenO at h
  rw [hl] at h
  obtain ⟨p, u, v, ⟨qs, h1, h2, h3⟩, h4⟩ := h
  simp only at h2 h4
  rw [hw, List.length_map, hst] at h4
  have e : ps.map PtM.bytes = qs.map PtM.bytes := by rw [← hw, h2]
  have e2 : (ps.map PtM.bytes).getLast? = some p.bytes := by rw [e, List.getLast?_map, h3]; rfl
  rw [List.getLast?_map] at e2
  have hm := h1 p (List.mem_of_getLast? h3)
  obtain ⟨x, hx, hxe⟩ := Option.map_eq_some_iff.1 e2
  obtain rfl : x = p := PtM.inj (hg x (List.mem_of_getLast? hx)).1 hm.1 hxe
  have r1 : Row W 57 32 u (hcells x.hs) := h4.has (x := .hrow u x.hs) (by simp)
  have r2 : Row W 57 32 v (hcells x.path) := h4.has (x := .hrow v x.path) (by simp)
  obtain ⟨a1, n1, c1, rfl, hn1, _⟩ := r1.form (by omega)
  obtain ⟨a2, n2, c2, rfl, hn2, _⟩ := r2.form (by omega)
  rw [hcells_len hm.1.h32] at hn1
  rw [hcells_len hm.1.p32, hm.1.p3] at hn2
  obtain rfl : n1 = x.hs.length := by omega
  obtain rfl : n2 = 3 := by omega
  exact ⟨x, hx, a1, c1, a2, c2, h4⟩
end
end Go.Proofs.YtlgeijbgkipliaaGreatDoor

namespace Go.Proofs.YtlgeijbgkipliaaGreatDoor
open Go.RowKit
section
variable {w0 W W' : World} {d c : Nat} {M M' : DiskM} {C : ChkM} {ps : List PtM} {Os Os' : List Og} {K st : Int} {fl : Bool} {p q : PtM} {x y : Og} {a b : Option Addr} {ca cb : Nat}
theorem Hold15.form (h : Hold15 w0 W d c M C ps Os) : ∃ Xs : List Og, (∀ W' M' Os', Owg w0 W' d M' (Xs ++ Os') → Hold15 w0 W' d c M' C ps Os') ∧ Owg w0 W d M (Xs ++ Os) := by
  obtain ⟨hd, ⟨h1, h2, P, hP, h3⟩ | ⟨p, h1, h2, a1, c1, b1, d1, h3⟩⟩ := h
  · exact ⟨[.blk c (chkC d C.file C.many P C.starts false) 74], fun W' M' Os' q => ⟨hd, Or.inl ⟨h1, h2, P, hP, q⟩⟩, h3⟩
  · exact ⟨[.blk c (chkC d C.file C.many (p.cells (.slice a1 p.hs.length c1) (.slice b1 3 d1)) C.starts false) 74, .hrow (.slice a1 p.hs.length c1) p.hs, .hrow (.slice b1 3 d1) p.path], fun W' M' Os' q => ⟨hd, Or.inr ⟨p, h1, h2, a1, c1, b1, d1, q⟩⟩, h3⟩
theorem Hold15.to (h : Hold15 w0 W d c M C ps Os) {W' : World} {M' : DiskM} {Os' : List Og} (hq : ∀ Xs, Owg w0 W d M (Xs ++ Os) → Owg w0 W' d M' (Xs ++ Os')) : Hold15 w0 W' d c M' C ps Os' := by
  obtain ⟨Xs, h1, h2⟩ := h.form
  exact h1 _ _ _ (hq Xs h2)
theorem Hold15.owg (h : Hold15 w0 W d c M C ps Os) : Owg w0 W d M Os := by
  obtain ⟨Xs, _, h2⟩ := h.form
  exact h2.sub (List.sublist_append_right ..)
theorem Hold15.same (h : Hold15 w0 W d c M C ps Os) (hk : Kept (fun _ => False) W W') : Hold15 w0 W' d c M C ps Os := h.to (fun _ q => q.same hk)
theorem Hold15.sub (h : Hold15 w0 W d c M C ps Os) (hs : Os'.Sublist Os) : Hold15 w0 W d c M C ps Os' := h.to (fun _ q => q.sub ((List.Sublist.refl _).append hs))
theorem Hold15.perm (h : Hold15 w0 W d c M C ps Os) (hs : Os.Perm Os') : Hold15 w0 W d c M C ps Os' := h.to (fun _ q => q.perm (hs.append_left _))
theorem Hold15.add (h : Hold15 w0 W d c M C ps Os) (hk : Kept (fun _ => False) W W') (hx : x.holds W' d) (ho : ∀ k, x.own k → W.heap.size ≤ k) : Hold15 w0 W' d c M C ps (x :: Os) :=
  h.to (fun _ q => (q.add hk hx ho).perm List.perm_middle.symm)
theorem Hold15.add2 (h : Hold15 w0 W d c M C ps Os) (hk : Kept (fun _ => False) W W') (hx : x.holds W' d) (hy : y.holds W' d) (ho : ∀ k, x.own k → W.heap.size ≤ k) (ho2 : ∀ k, y.own k → W.heap.size ≤ k) (hxy : ∀ k, x.own k → ¬ y.own k) : Hold15 w0 W' d c M C ps (x :: y :: Os) :=
  h.to (fun Xs q => (q.add2 hk hx hy ho ho2 hxy).perm (by
    have e1 : (x :: y :: (Xs ++ Os)).Perm (x :: (Xs ++ y :: Os)) := List.perm_middle.symm.cons _
    exact e1.trans List.perm_middle.symm))
theorem Hold15.turn {bk : Nat} {cs cs' : List Value} {t : TypeId} (h : Hold15 w0 W d c M C ps (.blk bk cs t :: Os)) (hk : Kept (· = bk) W W') (hb : Blk W' bk cs' t) : Hold15 w0 W' d c M C ps (.blk bk cs' t :: Os) :=
  h.to (fun _ q => ((q.perm List.perm_middle).turn hk hb).perm List.perm_middle.symm)
theorem Hold15.any (h : Hold15 w0 W d c M C ps Os) (hg : GoodP ps) : C.dead = false ∧ ∃ P, P.length = 38 ∧ Owg w0 W d M (.blk c (chkC d C.file C.many P C.starts C.dead) 74 :: Os) := by
  obtain ⟨hd, ⟨h1, h2, P, hP, h3⟩ | ⟨p, h1, h2, a1, c1, b1, d1, h3⟩⟩ := h
  · exact ⟨hd, P, hP, by rw [hd]; exact h3⟩
  · refine ⟨hd, p.cells (.slice a1 p.hs.length c1) (.slice b1 3 d1), p.cells_len (hg p (List.mem_of_getLast? h1)).1 _ _, ?_⟩
    rw [hd]
    exact h3.sub (((List.sublist_cons_self ..).trans (List.sublist_cons_self ..)).cons_cons _)
theorem Up15.nums (h : Up15 M C ps K st fl) (hK : K ≤ 1000) : (-1 ≤ C.file ∧ C.file ≤ 1000000) ∧ (0 ≤ C.many ∧ C.many ≤ 1000) ∧ M.files.length + M.loose.length < 200000000 ∧ C.starts = st ∧ C.dead = false ∧ (ps = [] → C.file = -1) ∧ (ps ≠ [] → 0 ≤ C.file) ∧ (0 ≤ st → 0 ≤ M.starts ∧ M.starts = st) := by
  have hf := h.few
  rcases h.is with ⟨rfl, h1, rfl⟩ | ⟨h0, n, n0, n1, h1, rfl⟩
  · exact ⟨⟨by show (-1 : Int) ≤ -1; omega, by show (-1 : Int) ≤ 1000000; omega⟩, ⟨by show (0 : Int) ≤ 0; omega, by show (0 : Int) ≤ 1000; omega⟩, by rw [h1.files, h1.loose]; exact (by decide : 0 + 0 < 200000000), rfl, rfl, fun _ => rfl, fun q => absurd rfl q, fun q => by rw [h1.starts]; exact ⟨q, rfl⟩⟩
  · refine ⟨⟨by show -1 ≤ n; omega, by show n ≤ _; omega⟩, ⟨by show (0 : Int) ≤ (ps.length : Int); omega, by show (ps.length : Int) ≤ _; omega⟩, by rw [h1.files, h1.loose]; exact (by decide : 1 + 0 < 200000000), rfl, rfl, fun q => absurd q h0, fun _ => n0, fun q => by rw [h1.starts]; exact ⟨q, rfl⟩⟩
def Put15 (w0 : World) (d c : Nat) (ps : List PtM) (K st : Int) (fl : Bool) (p : PtM) (Os : List Og) (e : Ending) (w' : World) : Prop :=
  (e = .returned (.int .i64 0) ∧ ∃ M' C' ps', Up15 M' C' ps' (K + 1) st fl ∧ ps'.getLast? = some p ∧ Hold15 w0 w' d c M' C' ps' Os) ∨
  (e = .returned (.int .i64 61) ∧ ∃ M' ps', Dn15 M' ps' (K + 1) st ∧ (ps' = ps ∨ ps'.getLast? = some p) ∧ Owg w0 w' d M' Os)
theorem put15 (h : Hold15 w0 W d c M C ps Os) (hu : Up15 M C ps K st fl) (h1 : p.Ok) (h2 : p.may = true) (hK0 : 0 ≤ K) (hK : K + 1 ≤ 1000)
    (hv : ∀ w' M', Owg w0 w' d M' Os → View w' 32 (.slice a p.hs.length ca) (hcells p.hs) ∧ View w' 32 (.slice b 3 cb) (hcells p.path)) :
    Calls Tryz.prog 23 #[.pointer (some ⟨c, 0, none⟩), rngV (p.size : Int) (.slice a p.hs.length ca), signedV (p.z : Int) p.root (p.i : Int) p.sig (.slice b 3 cb)] W (Put15 w0 d c ps K st fl p Os) := by
  obtain ⟨hd, P, hP, h3⟩ := h.any hu.good
  obtain ⟨n1, n2, n3, -⟩ := hu.nums (by omega)
  rcases hu.put h1 h2 hK0 hK with ⟨C', M', ps', he, hu', hl⟩ | ⟨C', M', ps', he, -, hdn, hl⟩
  · refine (chk_put (C' := C') (M' := M') (y := 0) h3 hP h1 hv n1 n2 n3 (by rw [h2]; exact he)).mono ?_
    rintro e w' ⟨rfl, q, -⟩
    obtain ⟨a1, c1, b1, d1, h4⟩ := (q rfl).out
    have hne : ps' ≠ [] := by rintro rfl; cases hl
    obtain ⟨-, -, -, -, m1, -, m2, -⟩ := hu'.nums (by omega)
    exact Or.inl ⟨rfl, M', C', ps', hu', hl, m1, Or.inr ⟨p, hl, m2 hne, a1, c1, b1, d1, h4⟩⟩
  · refine (chk_put (C' := C') (M' := M') (y := 61) h3 hP h1 hv n1 n2 n3 (by rw [h2]; exact he)).mono ?_
    rintro e w' ⟨rfl, -, q⟩
    exact Or.inr ⟨rfl, M', ps', hdn, hl, (q (by decide)).out.drop⟩
theorem PtM.same_eq (h : p.same q = true) : p = q := by
  obtain ⟨p1, p2, p3, p4, p5, p6, p7⟩ := p
  obtain ⟨q1, q2, q3, q4, q5, q6, q7⟩ := q
  simp only [PtM.same, Bool.and_eq_true, decide_eq_true_eq] at h
  obtain ⟨⟨e1, rfl⟩, ⟨e3, rfl⟩, e5, rfl, rfl⟩ := h
  obtain rfl : p1 = q1 := by omega
  obtain rfl : p3 = q3 := by omega
  obtain rfl : p5 = q5 := by omega
  rfl
theorem is15 (h : Hold15 w0 W d c M C ps Os) (hg : GoodP ps) (hl : ps.getLast? = some p) (sz sd : Nat) (hsz : sz < 65536) (hsd : sd < 256) :
    Calls Tryz.prog 29 #[.agg (ptC sz sd).toArray, .pointer (some ⟨c, 0, none⟩)] W fun e w' => e = .returned (.bool (p.same (PtM.of sz sd))) ∧ Hold15 w0 w' d c M C ps Os := by
  obtain ⟨hd, ⟨rfl, h2, P, hP, h3⟩ | ⟨p', h1, h2, h3⟩⟩ := h
  · cases hl
  · rw [h1] at hl
    cases hl
    exact (hold_is h3 (hg p (List.mem_of_getLast? h1)).1 h2 sz sd hsz hsd).mono (fun e w' r => ⟨r.1, hd, Or.inr ⟨p, h1, h2, r.2⟩⟩)
def Last15 (w0 : World) (d c : Nat) (M : DiskM) (C : ChkM) (ps : List PtM) (Os : List Og) (e : Ending) (w' : World) : Prop :=
  ∃ (n : Int) (a : Option Addr) (m k : Nat) (Y : List Value), e = .returned (.tuple #[rngV n (.slice a m k), .agg Y.toArray, .bool (!ps.isEmpty)]) ∧ Hid (Y.length = 36 ∧ (∀ y ∈ Y, y.oneCell' = true) ∧ Hold15 w0 w' d c M C ps Os)
theorem last15 (h : Hold15 w0 W d c M C ps Os) (hg : GoodP ps) :
    Calls Tryz.prog 22 #[.pointer (some ⟨c, 0, none⟩)] W (Last15 w0 d c M C ps Os) := by
  have hh := h
  obtain ⟨hd, ⟨rfl, h2, P, hP, h3⟩ | ⟨p, h1, h2, a1, c1, b1, d1, h3⟩⟩ := h
  · refine (chk_last0 (chk_blk h3) (by omega)).mono ?_
    rintro e w' ⟨rfl, hk⟩
    exact ⟨_, _, _, _, signZ, rfl, Lib.hid ⟨signZ_len, signZ_one, hh.same hk⟩⟩
  · have hok := (hg p (List.mem_of_getLast? h1)).1
    have r1 : Row W 57 32 (.slice a1 p.hs.length c1) (hcells p.hs) := h3.has (x := .hrow (.slice a1 p.hs.length c1) p.hs) (by simp)
    have r2 : Row W 57 32 (.slice b1 3 d1) (hcells p.path) := h3.has (x := .hrow (.slice b1 3 d1) p.path) (by simp)
    have e1 : ps.isEmpty = false := by
      cases ps with
      | nil => cases h1
      | cons _ _ => rfl
    refine (chk_last (w := W) (p.size : Int) a1 b1 p.hs.length c1 3 d1 p.hs p.path (p.z : Int) p.root (p.i : Int) p.sig (chk_blk h3) h2 hok.hr r1.view r2.view hok.h32 hok.p32 (by have := hok.hlen; omega) (by have := hok.p3; omega)).mono ?_
    rintro e w' ⟨a, c', b, d', rfl, hq⟩
    exact ⟨_, _, _, _, _, by rw [e1]; rfl, Lib.hid ⟨signedC_len hok.hr, signed_one _ _ _ _ _ rfl, hh.same hq.out.2.2.2⟩⟩
def OpenU15 (w0 : World) (d : Nat) (ps : List PtM) (K st : Int) (fl : Bool) (Os : List Og) (e : Ending) (w' : World) : Prop :=
  ∃ c M' C', e = .returned (.tuple #[.pointer (some ⟨c, 0, none⟩), .int .i64 0]) ∧ Hid (Up15 M' C' ps K st fl ∧ Hold15 w0 w' d c M' C' ps Os)
def OpenD15 (w0 : World) (d : Nat) (ps : List PtM) (K st : Int) (Os : List Og) (e : Ending) (w' : World) : Prop :=
  e = .returned (.tuple #[.pointer none, .int .i64 61]) ∧ Hid (∃ M', Dn15 M' ps K st ∧ Owg w0 w' d M' Os)
theorem opens15 {F : List (Int × By)} (w0 : World) (d : Nat) (Os : List Og) (hu : UpF M F 1048576 st fl) (hc : Cls K F (ps.map PtM.bytes)) (hg : GoodP ps) (hf : ps.length ≤ 3) (hK : K ≤ 1000) :
    (∀ W, Owg w0 W d M Os → Calls Tryz.prog 25 #[.pointer (some ⟨d, 0, none⟩)] W (OpenU15 w0 d ps K st fl Os)) ∨
    (fl = true ∧ ∀ W, Owg w0 W d M Os → Calls Tryz.prog 25 #[.pointer (some ⟨d, 0, none⟩)] W (OpenD15 w0 d ps K st Os)) := by
  obtain ⟨hG, ⟨M', he, hcase⟩ | ⟨M', he, hfl, hdn⟩⟩ := open15 hu hc hg hf hK
  · refine Or.inl fun W h => (chk_open h hu.up hG he).mono ?_
    intro e w' ho
    unfold OpenTo at ho
    rw [if_pos rfl] at ho
    obtain ⟨c, rfl, ho⟩ := ho
    rcases hcase with ⟨rfl, hl, hu'⟩ | ⟨hne, n, b, hl, hw, hu'⟩
    · unfold OpenO at ho
      rw [hl] at ho
      simp only at ho
      rw [hu.starts] at ho
      exact ⟨c, M', _, rfl, Lib.hid ⟨hu', rfl, Or.inl ⟨rfl, rfl, pointZ, pointZ_len, ho⟩⟩⟩
    · obtain ⟨p, hp, hh⟩ := hold15_open hl hw hu.starts hg ho
      obtain ⟨-, -, -, -, -, -, m2, -⟩ := hu'.nums hK
      exact ⟨c, M', _, rfl, Lib.hid ⟨hu', rfl, Or.inr ⟨p, hp, m2 hne, hh⟩⟩⟩
  · refine Or.inr ⟨hfl, fun W h => (chk_open h hu.up hG he).mono ?_⟩
    intro e w' ho
    unfold OpenTo at ho
    rw [if_neg (by decide)] at ho
    exact ⟨ho.1, Lib.hid ⟨M', hdn, ho.2⟩⟩
end
end Go.Proofs.YtlgeijbgkipliaaGreatDoor

namespace Go.Proofs.YtlgeijbgkipliaaGreatDoor
open Go.RowKit
section
variable {w0 w W W' : World} {d c b sb ab xb : Nat} {M M' : DiskM} {C : ChkM} {ps : List PtM} {Os Os' : List Og} {K L st : Int} {fl : Bool} {p q : PtM} {qs : List By} {F : List (Int × By)} {sz sd az ad : Nat} {has maybe : Bool} {XC : List Value} {t : TypeId}
theorem Cls.mono (h : Cls K F qs) (hKL : K ≤ L) : Cls L F qs := by
  cases h with
  | void => exact .void
  | one n qs t h0 h1 h2 => exact .one n _ t h0 (by omega) h2
  | old n qs t h0 h1 h2 h3 => exact .old n _ t h0 (by omega) h2 h3
  | new n os qs h0 h1 h2 h3 => exact .new n os _ h0 (by omega) h2 h3
theorem Up15.mono (h : Up15 M C ps K st fl) (hKL : K ≤ L) : Up15 M C ps L st fl := by
  refine ⟨h.good, h.few, ?_⟩
  rcases h.is with h1 | ⟨h0, n, n0, n1, h1⟩
  · exact Or.inl h1
  · exact Or.inr ⟨h0, n, n0, by omega, h1⟩
theorem Up15.fail (h : Up15 M C ps K st fl) {n k : Int} (n0 : 0 ≤ n ∧ n ≤ 9223372036854775807) (k0 : -9223372036854775808 ≤ k ∧ k ≤ 9223372036854775807) : ∃ M', M.failR n k = (0, M') ∧ Up15 M' C ps K st true := by
  refine ⟨M.fail n k, by unfold DiskM.failR; rw [if_neg (by rw [h.up.1]; simp), if_neg (by omega)], h.good, h.few, ?_⟩
  rcases h.is with ⟨h0, h1, h2⟩ | ⟨h0, m, m0, m1, h1, h2⟩
  · exact Or.inl ⟨h0, h1.fail n0 k0, h2⟩
  · exact Or.inr ⟨h0, m, m0, m1, h1.fail n0 k0, h2⟩
theorem UpF.failr {cap : Int} (h : UpF M F cap st fl) {n k : Int} (n0 : 0 ≤ n ∧ n ≤ 9223372036854775807) (k0 : -9223372036854775808 ≤ k ∧ k ≤ 9223372036854775807) : ∃ M', M.failR n k = (0, M') ∧ UpF M' F cap st true :=
  ⟨M.fail n k, by unfold DiskM.failR; rw [if_neg (by rw [h.up]; simp), if_neg (by omega)], h.fail n0 k0⟩
def Has15 (has : Bool) (ps : List PtM) (sz sd : Nat) : Prop := has = !ps.isEmpty ∧ (ps ≠ [] → ps.getLast? = some (PtM.of sz sd))
def Alt15 (has : Bool) (ps : List PtM) (sz sd : Nat) (maybe : Bool) (az ad : Nat) : Prop := Has15 has ps sz sd ∨ (maybe = true ∧ ps.getLast? = some (PtM.of az ad))
def PtB (sz sd : Nat) : Prop := sz < 65536 ∧ sd < 256
abbrev ptG (b : Nat) (sz sd : Nat) : Og := .blk b (ptC sz sd) 52
def ActQ (w0 w' : World) (d c sb ab : Nat) (X : Og) (K st : Int) (has maybe : Bool) (g : Int) : Prop :=
  ∃ sz sd az ad, PtB sz sd ∧ PtB az ad ∧
    ((g = 0 ∧ ∃ M C ps fl, Up15 M C ps K st fl ∧ Has15 has ps sz sd ∧ Hold15 w0 w' d c M C ps [ptG sb sz sd, ptG ab az ad, X]) ∨
     (∃ M ps, Dn15 M ps K st ∧ Alt15 has ps sz sd maybe az ad ∧ Owg w0 w' d M [ptG sb sz sd, ptG ab az ad, X]))
theorem Has15.put (h : ps.getLast? = some (PtM.of sz sd)) : Has15 true ps sz sd := by
  cases ps with
  | nil => cases h
  | cons _ _ => exact ⟨rfl, fun _ => h⟩
theorem pt_over (hb : Blk w b (ptC sz sd) t) (az ad : Nat) : Kept (· = b) w ((w.setCell ⟨b, 0, none⟩ (.int .u16 (az : Int))).setCell ⟨b, 1, none⟩ (.int .u8 (ad : Int))) ∧ Blk ((w.setCell ⟨b, 0, none⟩ (.int .u16 (az : Int))).setCell ⟨b, 1, none⟩ (.int .u8 (ad : Int))) b (ptC az ad) t := by
  refine ⟨(kept_cell w b 0 _).then_ (kept_cell _ b 1 _) (fun i hi q => q), ?_⟩
  exact (hb.set 0 (.int .u16 (az : Int))).set 1 (.int .u8 (ad : Int))
theorem actQ_put {X : Og} {bz bd : Nat} (hu : Up15 M C ps K st fl) (hl : ps.getLast? = some (PtM.of az ad)) (h : Hold15 w0 W d c M C ps [ptG sb sz sd, ptG ab bz bd, X]) (h1 : PtB az ad) (h2 : PtB bz bd) (maybe : Bool) :
    ActQ w0 ((W.setCell ⟨sb, 0, none⟩ (.int .u16 (az : Int))).setCell ⟨sb, 1, none⟩ (.int .u8 (ad : Int))) d c sb ab X K st true maybe 0 := by
  have hb : Blk W sb (ptC sz sd) 52 := h.owg.has (x := ptG sb sz sd) (by simp)
  obtain ⟨k1, b1⟩ := pt_over hb az ad
  exact ⟨az, ad, _, _, h1, h2, Or.inl ⟨rfl, M, C, ps, fl, hu, Has15.put hl, h.turn k1 b1⟩⟩
theorem actQ_sunk {X : Og} {bz bd : Nat} (hu : Dn15 M ps K st) (hl : Has15 has ps sz sd ∨ ps.getLast? = some (PtM.of az ad)) (h : Owg w0 W d M [ptG sb sz sd, ptG ab bz bd, X]) (h1 : PtB az ad) (h2 : PtB sz sd) (g : Int) (c : Nat) :
    ActQ w0 ((W.setCell ⟨ab, 0, none⟩ (.int .u16 (az : Int))).setCell ⟨ab, 1, none⟩ (.int .u8 (ad : Int))) d c sb ab X K st has true g := by
  have hb : Blk W ab (ptC bz bd) 52 := h.has (x := ptG ab bz bd) (by simp)
  obtain ⟨k1, b1⟩ := pt_over hb az ad
  exact ⟨sz, sd, az, ad, h2, h1, Or.inr ⟨M, ps, hu, hl.imp id (fun e => ⟨rfl, e⟩), h.two.turn k1 b1 |>.two⟩⟩
theorem and7 (x : Int) : ∃ q : Int, bits .and .i64 x 7 = q ∧ wrap64 q = q ∧ (0 ≤ q ∧ q ≤ 9223372036854775807) := ⟨x % 8, i64_mask 3 (by decide) x, IntWalk.wrap64_in _ (by omega), by omega⟩
theorem and3' (x : Int) : ∃ q : Int, bits .and .i64 x 3 = q ∧ wrap64 q = q ∧ (0 ≤ q ∧ q ≤ 9223372036854775807) := ⟨x % 4, i64_mask 2 (by decide) x, IntWalk.wrap64_in _ (by omega), by omega⟩
theorem kind15 {k kk : Int} (hk : 0 ≤ k ∧ k ≤ 255) (h : kk = k % 14) : Int.tmod k 14 = kk ∧ k % 14 = kk ∧ IntKind.u8.wrap kk = kk ∧ kk % 256 = kk := by
  refine ⟨by rw [Int.tmod_eq_emod_of_nonneg hk.1]; exact h.symm, h.symm, IntWalk.u8_in _ (by omega), by omega⟩
theorem Alt15.four (h : Alt15 has ps sz sd maybe az ad) :
    (maybe = true ∧ ∃ p, ps.getLast? = some p ∧ p.same (PtM.of az ad) = true) ∨
    (maybe = true ∧ has = true ∧ ∃ p, ps.getLast? = some p ∧ p.same (PtM.of az ad) = false ∧ p.same (PtM.of sz sd) = true) ∨
    (maybe = false ∧ has = true ∧ ∃ p, ps.getLast? = some p ∧ p.same (PtM.of sz sd) = true) ∨ (ps = [] ∧ has = false) := by
  rcases h with ⟨h1, h2⟩ | ⟨h1, h2⟩
  · cases ps with
    | nil => exact Or.inr (Or.inr (Or.inr ⟨rfl, h1⟩))
    | cons x r =>
      have hl := h2 (by simp)
      have hh : has = true := h1
      cases maybe with
      | false => exact Or.inr (Or.inr (Or.inl ⟨rfl, hh, _, hl, PtM.same_self _⟩))
      | true =>
        cases hs : (PtM.of sz sd).same (PtM.of az ad) with
        | true => exact Or.inl ⟨rfl, _, hl, hs⟩
        | false => exact Or.inr (Or.inl ⟨rfl, hh, _, hl, hs, PtM.same_self _⟩)
  · exact Or.inl ⟨h1, _, h2, PtM.same_self _⟩
theorem store_new15 (w : World) (z X : List Value) (t : TypeId) (hl : X.length = z.length) : (w.alloc (.cells z.toArray t)).there w.heap.size 0 X.toArray.size ∧ Blk ((w.alloc (.cells z.toArray t)).setCells w.heap.size 0 X) w.heap.size X t ∧ Kept (fun _ => False) w ((w.alloc (.cells z.toArray t)).setCells w.heap.size 0 X) := by
  have hb := Blk.new w z t
  have h2 := hb.setCells 0 X (by omega)
  refine ⟨hb.there 0 _ (by rw [List.size_toArray]; omega), ?_, ((Kept.refl _ _).alloc _).then_ (kept_setCells _ w.heap.size 0 X) (fun i hi e => by omega)⟩
  have e : splice z 0 X = X := by
    unfold splice
    rw [List.take_zero, List.nil_append, Nat.zero_add, List.drop_eq_nil_of_le (by omega), List.append_nil]
  rwa [e] at h2
def LoopE (w0 w' : World) (d t sb ab : Nat) (has : Bool) (K st : Int) : Prop :=
  ∃ M C ps st' fl sz sd az ad, PtB sz sd ∧ PtB az ad ∧ (st ≤ st' ∧ st' ≤ st + 20) ∧ Up15 M C ps K st' fl ∧ Has15 has ps sz sd ∧ Hold15 w0 w' d t M C ps [ptG sb sz sd, ptG ab az ad]
def LoopL (w0 wr : World) (d sb ab : Nat) (X : Og) (has maybe : Bool) (K st : Int) (v5 x5 x9 : Value) (n : Nat) : Prop :=
  (n ≤ 3 ∧ x5 = v5 ∧ x9 = .bool has ∧ ∃ M ps sz sd az ad, PtB sz sd ∧ PtB az ad ∧ Dn15 M ps K (st + (n : Int)) ∧ Alt15 has ps sz sd maybe az ad ∧ Owg w0 wr d M [ptG sb sz sd, ptG ab az ad, X]) ∨
  (n ≤ 4 ∧ ∃ t hb, x5 = .pointer (some ⟨t, 0, none⟩) ∧ x9 = .bool hb ∧ LoopE w0 wr d t sb ab hb K st)
end
end Go.Proofs.YtlgeijbgkipliaaGreatDoor

namespace Go.Proofs.YtlgeijbgkipliaaGreatDoor
open Go.RowKit
theorem hold15_fail {w0 W : World} {d c : Nat} {M M' : DiskM} {C : ChkM} {ps : List PtM} {Os : List Og} {n k y : Int} (h : Hold15 w0 W d c M C ps Os) (n0 : -9223372036854775808 ≤ n ∧ n ≤ 9223372036854775807) (k0 : -9223372036854775808 ≤ k ∧ k ≤ 9223372036854775807) (he : M.failR n k = (y, M')) :
    Calls Tryz.prog 31 #[.pointer (some ⟨d, 0, none⟩), .int .i64 n, .int .i64 k] W fun e w' => e = .returned (.int .i64 y) ∧ Hold15 w0 w' d c M' C ps Os := by
  obtain ⟨Xs, h1, h2⟩ := h.form
  exact (h2.fail n k n0 k0 he).mono fun e w' q => ⟨q.1, h1 _ _ _ q.2⟩
set_option maxRecDepth 100000 in
set_option maxHeartbeats 8000000 in
theorem csure_act {w0 w : World} {d c sb ab xb sz sd az ad xz xd : Nat} {M : DiskM} {C : ChkM} {ps : List PtM} {K st k kk Nx Mx : Int} {fl has : Bool} {xs : ByteArray} {XC : List Value} {Q : Exit → Act → World → Prop} {g0 g1 g2 g4 g6 g11 g14 g15 g16 g17 g18 g19 g20 g21 g22 g23 g24 g25 g26 g27 g28 g29 g30 g31 g32 g33 g34 g35 g36 g37 g38 g39 g40 g41 g42 g43 g44 g45 g46 g47 g48 g49 g50 g51 g53 g54 g55 g56 g57 g58 g59 g60 g61 g62 g63 g64 g65 g66 g67 g68 g69 g70 g71 g72 g73 g74 g75 g76 g77 g78 g79 g80 g81 g82 g83 g84 g85 g86 g87 g88 g89 g90 g91 g92 g93 g94 g95 g96 g97 g98 g99 g100 g101 g102 g103 g104 g105 g106 g107 g108 g109 g110 g111 g112 g113 g114 g115 g116 g117 g118 g119 g120 g121 g122 g123 g124 g125 g126 g127 g128 g129 g130 g131 g132 g133 g134 g135 g136 g137 g138 g139 g140 g141 g142 g143 g144 g145 g146 g147 g148 g149 g150 g151 g152 g153 g154 g155 g156 g157 g158 g159 g160 g161 g162 g163 g164 g165 g166 g167 : Value} {code : Code} (hcode : codeBlock 2 (Tryz.f6.body.getD .skip) = some code) (hU : Hold15 w0 w d c M C ps [ptG sb sz sd, ptG ab az ad, .blk xb XC 90]) (hX : XC = [.int .u8 k, .int .u16 (xz : Int), .int .u8 (xd : Int), .int .i64 Nx, .int .i64 Mx, .string xs]) (hT : Up15 M C ps K st fl) (hH : Has15 has ps sz sd) (hsb : PtB sz sd) (hab : PtB az ad) (hxb : PtB xz xd) (hK : 0 ≤ K ∧ K + 1 ≤ 1000) (n0 : -9223372036854775808 ≤ Nx ∧ Nx ≤ 9223372036854775807) (m0 : -9223372036854775808 ≤ Mx ∧ Mx ≤ 9223372036854775807)
    (HP : ∀ c a (k : Nat) v w, Q (.panic c) (Act.put a (some k) v) w → Q (.panic c) a w) (HEND : ∀ (hb mb : Bool) (g : Int) (v14 v15 v53 v54 v55 v56 v57 v58 v59 v60 v61 v62 v63 v64 v65 v66 v67 v68 v69 v70 v71 v72 v73 v74 v75 v76 v77 v78 v79 v80 v81 v82 v83 v84 v85 v86 v87 v88 v89 : Value) (w' : World), Hid (ActQ w0 w' d c sb ab (.blk xb XC 90) (K + 1) st hb mb g) → Q .normal ⟨List.toArray (g0 :: g1 :: g2 :: (.pointer (some ⟨d, 0, none⟩)) :: g4 :: (.pointer (some ⟨c, 0, none⟩)) :: g6 :: (.pointer (some ⟨sb, 0, none⟩)) :: (.pointer (some ⟨ab, 0, none⟩)) :: (.bool hb) :: (.bool mb) :: g11 :: (.pointer (some ⟨xb, 0, none⟩)) :: (.int .i64 g) :: v14 :: v15 :: g16 :: g17 :: g18 :: g19 :: g20 :: g21 :: g22 :: g23 :: g24 :: g25 :: g26 :: g27 :: g28 :: g29 :: g30 :: g31 :: g32 :: g33 :: g34 :: g35 :: g36 :: g37 :: g38 :: g39 :: g40 :: g41 :: g42 :: g43 :: g44 :: g45 :: g46 :: g47 :: g48 :: g49 :: g50 :: g51 :: (.int .u8 kk) :: v53 :: v54 :: v55 :: v56 :: v57 :: v58 :: v59 :: v60 :: v61 :: v62 :: v63 :: v64 :: v65 :: v66 :: v67 :: v68 :: v69 :: v70 :: v71 :: v72 :: v73 :: v74 :: v75 :: v76 :: v77 :: v78 :: v79 :: v80 :: v81 :: v82 :: v83 :: v84 :: v85 :: v86 :: v87 :: v88 :: v89 :: g90 :: g91 :: g92 :: g93 :: g94 :: g95 :: g96 :: g97 :: g98 :: g99 :: g100 :: g101 :: g102 :: g103 :: g104 :: g105 :: g106 :: g107 :: g108 :: g109 :: g110 :: g111 :: g112 :: g113 :: g114 :: g115 :: g116 :: g117 :: g118 :: g119 :: g120 :: g121 :: g122 :: g123 :: g124 :: g125 :: g126 :: g127 :: g128 :: g129 :: g130 :: g131 :: g132 :: g133 :: g134 :: g135 :: g136 :: g137 :: g138 :: g139 :: g140 :: g141 :: g142 :: g143 :: g144 :: g145 :: g146 :: g147 :: g148 :: g149 :: g150 :: g151 :: g152 :: g153 :: g154 :: g155 :: g156 :: g157 :: g158 :: g159 :: g160 :: g161 :: g162 :: g163 :: g164 :: g165 :: g166 :: g167 :: []), []⟩ w') :
    Code.wp Tryz.prog code Q ⟨List.toArray (g0 :: g1 :: g2 :: (.pointer (some ⟨d, 0, none⟩)) :: g4 :: (.pointer (some ⟨c, 0, none⟩)) :: g6 :: (.pointer (some ⟨sb, 0, none⟩)) :: (.pointer (some ⟨ab, 0, none⟩)) :: (.bool has) :: (.bool false) :: g11 :: (.pointer (some ⟨xb, 0, none⟩)) :: (.int .i64 0) :: g14 :: g15 :: g16 :: g17 :: g18 :: g19 :: g20 :: g21 :: g22 :: g23 :: g24 :: g25 :: g26 :: g27 :: g28 :: g29 :: g30 :: g31 :: g32 :: g33 :: g34 :: g35 :: g36 :: g37 :: g38 :: g39 :: g40 :: g41 :: g42 :: g43 :: g44 :: g45 :: g46 :: g47 :: g48 :: g49 :: g50 :: g51 :: (.int .u8 kk) :: g53 :: g54 :: g55 :: g56 :: g57 :: g58 :: g59 :: g60 :: g61 :: g62 :: g63 :: g64 :: g65 :: g66 :: g67 :: g68 :: g69 :: g70 :: g71 :: g72 :: g73 :: g74 :: g75 :: g76 :: g77 :: g78 :: g79 :: g80 :: g81 :: g82 :: g83 :: g84 :: g85 :: g86 :: g87 :: g88 :: g89 :: g90 :: g91 :: g92 :: g93 :: g94 :: g95 :: g96 :: g97 :: g98 :: g99 :: g100 :: g101 :: g102 :: g103 :: g104 :: g105 :: g106 :: g107 :: g108 :: g109 :: g110 :: g111 :: g112 :: g113 :: g114 :: g115 :: g116 :: g117 :: g118 :: g119 :: g120 :: g121 :: g122 :: g123 :: g124 :: g125 :: g126 :: g127 :: g128 :: g129 :: g130 :: g131 :: g132 :: g133 :: g134 :: g135 :: g136 :: g137 :: g138 :: g139 :: g140 :: g141 :: g142 :: g143 :: g144 :: g145 :: g146 :: g147 :: g148 :: g149 :: g150 :: g151 :: g152 :: g153 :: g154 :: g155 :: g156 :: g157 :: g158 :: g159 :: g160 :: g161 :: g162 :: g163 :: g164 :: g165 :: g166 :: g167 :: []), []⟩ w := by
  have HP := Lib.hid HP
  have HEND := Lib.hid HEND
  simp only [Tryz.f6, Option.getD_some, codeSeq, codeBlock, codeCond, Nat.reduceEqDiff, ↓reduceIte, Option.none_or, Option.or_none, Option.some_or, Option.some.injEq] at hcode
  subst hcode
  have hb : Blk w xb XC 90 := hU.owg.has (x := .blk xb XC 90) (by simp)
  have c1 : w.cell? ⟨xb, 1, none⟩ = some (.int .u16 (xz : Int)) := hb.cell (by rw [hX]; rfl)
  have c1b : w.cell? ⟨xb, 2, none⟩ = some (.int .u8 (xd : Int)) := hb.cell (by rw [hX]; rfl)
  have c2 : w.cell? ⟨xb, 3, none⟩ = some (.int .i64 Nx) := hb.cell (by rw [hX]; rfl)
  have c3 : w.cell? ⟨xb, 4, none⟩ = some (.int .i64 Mx) := hb.cell (by rw [hX]; rfl)
  clear hb
  by_cases h5 : kk = 0 ∨ kk = 1 ∨ kk = 2 ∨ kk = 3 ∨ kk = 4
  · rcases h5 with rfl | rfl | rfl | rfl | rfl
    all_goals
      obtain ⟨p, hp⟩ : ∃ p, PtM.of xz xd = p := ⟨_, rfl⟩
      have hok := PtM.of_ok xz xd
      have hmay := PtM.of_may xz xd
      rw [hp] at hok hmay
      have HOF := Lib.hid (pt_of2 w xz xd hxb.1 hxb.2 hU.owg.tab hp)
      have HX := Lib.hid (And.intro hok (And.intro hmay (And.intro hU (And.intro hT (And.intro hH (And.intro hsb (And.intro hab (And.intro hxb (And.intro hp (And.intro hK hX))))))))))
      have hr32 : p.root.length = 32 := hok.hr
      clear hok hmay hU hT hH hsb hab hxb hp hX c2 c3 hK n0 m0
      go_upto_region 22 with first
        | (go_at_call 21; refine HOF.out.mono ?_; rintro e w5 ⟨a5, c5, b5, d5, rfl, H5⟩; have HS := Lib.hid (two_stored w5 [.int .i64 (p.size : Int), .slice a5 p.hs.length c5] (signedC (p.z : Int) p.root (p.i : Int) p.sig (.slice b5 3 d5)) (signedC_len hr32)))
        | ((with_reducible show wpList _ _ _ (⟨none, .store _ (.tmp 15) _, _, _, _, _⟩ :: _) _ _); refine wpList_store_mid rfl 63 _ _ rfl (w5.heap.size + 1) 0 (signedC (p.z : Int) p.root (p.i : Int) p.sig (.slice b5 3 d5)).toArray rfl rfl HS.out.1 (info_signed_of hr32) (all_oneCell_toArray (signed_one _ _ _ _ _ rfl)) ?_)
      generalize hW6 : World.setCells _ _ _ _ = W6
      have H6 := Lib.hid (HS.out.2 W6 hW6)
      have h5 := HX.out.2.2.1.add2 (x := .hrow (.slice a5 p.hs.length c5) p.hs) (y := .hrow (.slice b5 3 d5) p.path) H5.out.2.2.2.2.2 H5.out.1 H5.out.2.2.1 H5.out.2.1 H5.out.2.2.2.1 H5.out.2.2.2.2.1
      have h6 := h5.add2 (x := .blk w5.heap.size [.int .i64 (p.size : Int), .slice a5 p.hs.length c5] 55) (y := .blk (w5.heap.size + 1) (signedC (p.z : Int) p.root (p.i : Int) p.sig (.slice b5 3 d5)) 63) H6.out.2.2 H6.out.1 H6.out.2.1 (fun k q => by have : k = w5.heap.size := q; omega) (fun k q => by have : k = w5.heap.size + 1 := q; omega) (fun k q q2 => by have : k = w5.heap.size := q; have : k = w5.heap.size + 1 := q2; omega)
      clear h5
      generalize w5.heap.size + 1 = p15 at *
      generalize w5.heap.size = p14 at *
      have HPT := Lib.hid (put15 h6 HX.out.2.2.2.1 HX.out.1 HX.out.2.1 HX.out.2.2.2.2.2.2.2.2.2.1.1 HX.out.2.2.2.2.2.2.2.2.2.1.2 (held_views (fun w' M' q => q.drop.drop.sub (((List.nil_sublist _).cons_cons _).cons_cons _))))
      have v0 := H6.out.1.cell (i := 0) rfl
      have v1 := H6.out.1.cell (i := 1) rfl
      have is1 : (Tryz.prog.info? 63).map (·.size) = some (signedC (p.z : Int) p.root (p.i : Int) p.sig (.slice b5 3 d5)).length := by rw [signedC_len hr32]; exact info_signed_
      have HR6 := Lib.hid (And.intro H6.out.2.1.range0 is1)
      clear h6 is1 HS hW6 H5 HOF c1 c1b
      go_upto_region 23 with first
        | ((with_reducible show wpList _ _ _ (⟨some 67, _, _, _, _, _⟩ :: _) _ _); refine wpList_load_mid rfl 63 _ rfl p15 0 rfl _ _ HR6.out.1 Tryz.underlying63 rfl HR6.out.2 ?_)
        | (go_at_call 23; refine HPT.out.mono ?_; intro e w7 hq; rcases hq with ⟨rfl, hq⟩ | ⟨rfl, hq⟩ <;> (have HQ := Lib.hid hq; clear hq))
      · clear HPT v0 v1 HR6 H6
        obtain ⟨M7, C7, ps7, hu7, hl7, h7⟩ := HQ.out
        have h7 := h7.sub ((((List.sublist_cons_self ..).trans (List.sublist_cons_self ..)).trans (List.sublist_cons_self ..)).trans (List.sublist_cons_self ..))
        have hbx : Blk w7 xb XC 90 := h7.owg.has (x := .blk xb XC 90) (by simp)
        have hbs : Blk w7 sb (ptC sz sd) 52 := h7.owg.has (x := ptG sb sz sd) (by simp)
        have c1 : w7.cell? ⟨xb, 1, none⟩ = some (.int .u16 (xz : Int)) := hbx.cell (by rw [HX.out.2.2.2.2.2.2.2.2.2.2]; rfl)
        have c1b : w7.cell? ⟨xb, 2, none⟩ = some (.int .u8 (xd : Int)) := hbx.cell (by rw [HX.out.2.2.2.2.2.2.2.2.2.2]; rfl)
        have r0 := hbs.cell (i := 0) rfl
        have r1 := hbs.cell (i := 1) rfl
        have z0 := hbs.free 0
        have z1 := hbs.free 1
        have HF := Lib.hid (actQ_put hu7 (by rw [hl7, HX.out.2.2.2.2.2.2.2.2.1]) h7 HX.out.2.2.2.2.2.2.2.1 HX.out.2.2.2.2.2.2.1 false)
        clear hbx hbs HQ hu7 hl7 h7
        go_wp2_with fail
        first | exact HF | exact HEND.out _ _ _ _ _ _ _ _ _ _ _ _ _ _ _ _ _ _ _ _ _ _ _ _ _ _ _ _ _ _ _ _ _ _ _ _ _ _ _ _ _ _ _ HF
      · clear HPT v0 v1 HR6 H6
        obtain ⟨M7, ps7, hd7, hl7, h7⟩ := HQ.out
        have h7 := h7.sub ((((List.sublist_cons_self ..).trans (List.sublist_cons_self ..)).trans (List.sublist_cons_self ..)).trans (List.sublist_cons_self ..))
        have hbx : Blk w7 xb XC 90 := h7.has (x := .blk xb XC 90) (by simp)
        have hbs : Blk w7 ab (ptC az ad) 52 := h7.has (x := ptG ab az ad) (by simp)
        have c1 : w7.cell? ⟨xb, 1, none⟩ = some (.int .u16 (xz : Int)) := hbx.cell (by rw [HX.out.2.2.2.2.2.2.2.2.2.2]; rfl)
        have c1b : w7.cell? ⟨xb, 2, none⟩ = some (.int .u8 (xd : Int)) := hbx.cell (by rw [HX.out.2.2.2.2.2.2.2.2.2.2]; rfl)
        have r0 := hbs.cell (i := 0) rfl
        have r1 := hbs.cell (i := 1) rfl
        have z0 := hbs.free 0
        have z1 := hbs.free 1
        have HF := Lib.hid (actQ_sunk (g := 61) hd7 (hl7.imp (fun e => by rw [e]; exact HX.out.2.2.2.2.1) (fun e => by rw [e, HX.out.2.2.2.2.2.2.2.2.1])) h7 HX.out.2.2.2.2.2.2.2.1 HX.out.2.2.2.2.2.1 c)
        clear hbx hbs HQ hd7 hl7 h7
        go_wp2_with fail
        first | exact HF | exact HEND.out _ _ _ _ _ _ _ _ _ _ _ _ _ _ _ _ _ _ _ _ _ _ _ _ _ _ _ _ _ _ _ _ _ _ _ _ _ _ _ _ _ _ _ HF
  · have f0 : (kk == 0) = false := by simp; omega
    have f1 : (kk == 1) = false := by simp; omega
    have f2 : (kk == 2) = false := by simp; omega
    have f3 : (kk == 3) = false := by simp; omega
    have f4 : (kk == 4) = false := by simp; omega
    by_cases h6 : kk = 6
    · subst h6
      obtain ⟨M', he, hT'⟩ := (hT.mono (L := K + 1) (by omega)).crash Nx
      have hcr := hU.owg.crash Nx n0 he
      have HF := Lib.hid (fun w' (h : Owg w0 w' d M' [ptG sb sz sd, ptG ab az ad, .blk xb XC 90]) => (show ActQ w0 w' d c sb ab (.blk xb XC 90) (K + 1) st has false 0 from ⟨sz, sd, az, ad, hsb, hab, Or.inr ⟨M', ps, hT', Or.inl hH, h⟩⟩))
      clear he hT' hT hU hX hK hH hsb hab hxb h5 c1 c1b c3
      go_wp2_with (go_at_call 26; refine hcr.mono ?_; clear hcr; rintro e w2 ⟨rfl, hu2⟩; have HU2 := Lib.hid (HF.out _ hu2); clear hu2)
      first | exact HU2 | exact HEND.out _ _ _ _ _ _ _ _ _ _ _ _ _ _ _ _ _ _ _ _ _ _ _ _ _ _ _ _ _ _ _ _ _ _ _ _ _ _ _ _ _ _ _ HU2
    · have f6 : (kk == 6) = false := by simpa using h6
      by_cases h9 : kk = 9
      · subst h9
        obtain ⟨q, hq, hqw, hq2⟩ := and7 Nx
        obtain ⟨M', he, hT'⟩ := hT.fail (n := q) (k := Mx) hq2 m0
        have hfa : Calls Tryz.prog 31 #[.pointer (some ⟨d, 0, none⟩), .int .i64 q, .int .i64 Mx] w fun e w' => e = .returned (.int .i64 0) ∧ Hold15 w0 w' d c M' C ps [ptG sb sz sd, ptG ab az ad, .blk xb XC 90] := hold15_fail hU (by omega) m0 he
        have HF := Lib.hid (fun w' (h : Hold15 w0 w' d c M' C ps [ptG sb sz sd, ptG ab az ad, .blk xb XC 90]) => (show ActQ w0 w' d c sb ab (.blk xb XC 90) (K + 1) st has false 0 from ⟨sz, sd, az, ad, hsb, hab, Or.inl ⟨rfl, M', C, ps, true, hT'.mono (by omega), hH, h⟩⟩))
        clear he hT' hT hU hX hK hH hsb hab hxb h5 c1 c1b hq2
        go_wp2_with (go_at_call 31; refine hfa.mono ?_; clear hfa; rintro e w2 ⟨rfl, hu2⟩; have HU2 := Lib.hid (HF.out _ hu2); clear hu2)
        first | exact HU2 | exact HEND.out _ _ _ _ _ _ _ _ _ _ _ _ _ _ _ _ _ _ _ _ _ _ _ _ _ _ _ _ _ _ _ _ _ _ _ _ _ _ _ _ _ _ _ HU2
      · have f9 : (kk == 9) = false := by simpa using h9
        have HF := Lib.hid (show ActQ w0 w d c sb ab (.blk xb XC 90) (K + 1) st has false 0 from ⟨sz, sd, az, ad, hsb, hab, Or.inl ⟨rfl, M, C, ps, fl, hT.mono (by omega), hH, hU⟩⟩)
        clear hT hU hX hK hH hsb hab hxb h5 h6 h9 c1 c1b c2 c3
        go_wp2_with fail
        first | exact HF | exact HEND.out _ _ _ _ _ _ _ _ _ _ _ _ _ _ _ _ _ _ _ _ _ _ _ _ _ _ _ _ _ _ _ _ _ _ _ _ _ _ _ _ _ _ _ HF
end Go.Proofs.YtlgeijbgkipliaaGreatDoor

namespace Go.Proofs.YtlgeijbgkipliaaGreatDoor
open Go.RowKit
section
variable {w0 W : World} {d t sb ab sz sd az ad : Nat} {M : DiskM} {C : ChkM} {ps : List PtM} {K st s0 : Int} {fl : Bool} {p : PtM} {X : Og}
theorem loopE_sure (hT : Up15 M C ps K st fl) (hl : ps.getLast? = some p) (hs : p.same (PtM.of sz sd) = true) (h : Hold15 w0 W d t M C ps [ptG sb sz sd, ptG ab az ad, X]) (hsb : PtB sz sd) (hab : PtB az ad) (hst : s0 ≤ st ∧ st ≤ s0 + 20) : LoopE w0 W d t sb ab true K s0 := by
  obtain rfl := PtM.same_eq hs
  exact ⟨M, C, ps, st, fl, sz, sd, az, ad, hsb, hab, hst, hT, Has15.put hl, h.sub (((List.nil_sublist _).cons_cons _).cons_cons _)⟩
theorem loopE_also (hT : Up15 M C ps K st fl) (hl : ps.getLast? = some p) (hs : p.same (PtM.of az ad) = true) (h : Hold15 w0 W d t M C ps [ptG sb sz sd, ptG ab az ad, X]) (hab : PtB az ad) (hsb : PtB sz sd) (hst : s0 ≤ st ∧ st ≤ s0 + 20) :
    LoopE w0 ((W.setCell ⟨sb, 0, none⟩ (.int .u16 (az : Int))).setCell ⟨sb, 1, none⟩ (.int .u8 (ad : Int))) d t sb ab true K s0 := by
  obtain rfl := PtM.same_eq hs
  have hb : Blk W sb (ptC sz sd) 52 := h.owg.has (x := ptG sb sz sd) (by simp)
  obtain ⟨k1, b1⟩ := pt_over hb az ad
  exact ⟨M, C, ps, st, fl, az, ad, az, ad, hab, hab, hst, hT, Has15.put hl, (h.turn k1 b1).sub (((List.nil_sublist _).cons_cons _).cons_cons _)⟩
theorem loopE_void (hT : Up15 M C [] K st fl) (h : Hold15 w0 W d t M C [] [ptG sb sz sd, ptG ab az ad, X]) (hsb : PtB sz sd) (hab : PtB az ad) (hst : s0 ≤ st ∧ st ≤ s0 + 20) : LoopE w0 W d t sb ab false K s0 :=
  ⟨M, C, [], st, fl, sz, sd, az, ad, hsb, hab, hst, hT, ⟨rfl, fun q => absurd rfl q⟩, h.sub (((List.nil_sublist _).cons_cons _).cons_cons _)⟩
end
set_option maxRecDepth 100000 in
set_option maxHeartbeats 8000000 in
theorem csure_tell {w0 w : World} {d c sb ab sz sd az ad : Nat} {M : DiskM} {C : ChkM} {ps : List PtM} {KB st s0 : Int} {fl has maybe : Bool} {X : Og} {Q : Exit → Act → World → Prop} {g0 g1 g2 g4 g5 g6 g11 g12 g13 g14 g15 g16 g18 g19 g20 g21 g22 g23 g24 g25 g26 g27 g28 g29 g30 g31 g32 g33 g34 g35 g36 g37 g38 g39 g40 g41 g42 g43 g44 g45 g46 g47 g48 g49 g50 g51 g52 g53 g54 g55 g56 g57 g58 g59 g60 g61 g62 g63 g64 g65 g66 g67 g68 g69 g70 g71 g72 g73 g74 g75 g76 g77 g78 g79 g80 g81 g82 g83 g84 g85 g86 g87 g88 g89 g90 g91 g92 g93 g94 g95 g96 g97 g98 g99 g100 g101 g102 g103 g104 g105 g106 g107 g108 g109 g110 g111 g112 g113 g114 g115 g116 g117 g118 g119 g120 g121 g122 g123 g124 g125 g126 g127 g128 g129 g130 g131 g132 g133 g134 g135 g136 g137 g138 g139 g140 g141 g142 g143 g144 g145 g146 g147 g148 g149 g150 g151 g152 g153 g154 g155 g156 g157 g158 g159 g160 g161 g162 g163 g164 g165 g166 g167 : Value} {c1 c2 : Code} {K : Act → World → Prop} (hK : ∀ a w, Code.wp Tryz.prog c2 Q a w → K a w) (hcode : codeSeq 44 (Tryz.f6.body.getD .skip) = some (.seq c1 c2)) (hU : Hold15 w0 w d c M C ps [ptG sb sz sd, ptG ab az ad, X]) (hT : Up15 M C ps KB st fl) (hA : Alt15 has ps sz sd maybe az ad) (hsb : PtB sz sd) (hab : PtB az ad) (hst : s0 ≤ st ∧ st ≤ s0 + 20)
    (HP : ∀ c a (k : Nat) v w, Q (.panic c) (Act.put a (some k) v) w → Q (.panic c) a w) (HEND : ∀ (hb : Bool) (v19 v20 v21 v135 v136 v137 v138 v139 v140 v141 v142 v143 v144 v145 v146 v147 v148 v149 v150 v151 v152 v153 v154 v155 v156 v157 v158 v159 v160 v161 v162 v163 : Value) (w' : World), Hid (LoopE w0 w' d c sb ab hb KB s0) → Q .normal ⟨List.toArray (g0 :: g1 :: g2 :: (.pointer (some ⟨d, 0, none⟩)) :: g4 :: (.pointer (some ⟨c, 0, none⟩)) :: g6 :: (.pointer (some ⟨sb, 0, none⟩)) :: (.pointer (some ⟨ab, 0, none⟩)) :: (.bool hb) :: (.bool maybe) :: g11 :: g12 :: g13 :: g14 :: g15 :: g16 :: (.pointer (some ⟨c, 0, none⟩)) :: g18 :: v19 :: v20 :: v21 :: g22 :: g23 :: g24 :: g25 :: g26 :: g27 :: g28 :: g29 :: g30 :: g31 :: g32 :: g33 :: g34 :: g35 :: g36 :: g37 :: g38 :: g39 :: g40 :: g41 :: g42 :: g43 :: g44 :: g45 :: g46 :: g47 :: g48 :: g49 :: g50 :: g51 :: g52 :: g53 :: g54 :: g55 :: g56 :: g57 :: g58 :: g59 :: g60 :: g61 :: g62 :: g63 :: g64 :: g65 :: g66 :: g67 :: g68 :: g69 :: g70 :: g71 :: g72 :: g73 :: g74 :: g75 :: g76 :: g77 :: g78 :: g79 :: g80 :: g81 :: g82 :: g83 :: g84 :: g85 :: g86 :: g87 :: g88 :: g89 :: g90 :: g91 :: g92 :: g93 :: g94 :: g95 :: g96 :: g97 :: g98 :: g99 :: g100 :: g101 :: g102 :: g103 :: g104 :: g105 :: g106 :: g107 :: g108 :: g109 :: g110 :: g111 :: g112 :: g113 :: g114 :: g115 :: g116 :: g117 :: g118 :: g119 :: g120 :: g121 :: g122 :: g123 :: g124 :: g125 :: g126 :: g127 :: g128 :: g129 :: g130 :: g131 :: g132 :: g133 :: g134 :: v135 :: v136 :: v137 :: v138 :: v139 :: v140 :: v141 :: v142 :: v143 :: v144 :: v145 :: v146 :: v147 :: v148 :: v149 :: v150 :: v151 :: v152 :: v153 :: v154 :: v155 :: v156 :: v157 :: v158 :: v159 :: v160 :: v161 :: v162 :: v163 :: g164 :: g165 :: g166 :: g167 :: []), []⟩ w') :
    Code.wp Tryz.prog c1 (Exit.then K Q) ⟨List.toArray (g0 :: g1 :: g2 :: (.pointer (some ⟨d, 0, none⟩)) :: g4 :: g5 :: g6 :: (.pointer (some ⟨sb, 0, none⟩)) :: (.pointer (some ⟨ab, 0, none⟩)) :: (.bool has) :: (.bool maybe) :: g11 :: g12 :: g13 :: g14 :: g15 :: g16 :: (.pointer (some ⟨c, 0, none⟩)) :: g18 :: g19 :: g20 :: g21 :: g22 :: g23 :: g24 :: g25 :: g26 :: g27 :: g28 :: g29 :: g30 :: g31 :: g32 :: g33 :: g34 :: g35 :: g36 :: g37 :: g38 :: g39 :: g40 :: g41 :: g42 :: g43 :: g44 :: g45 :: g46 :: g47 :: g48 :: g49 :: g50 :: g51 :: g52 :: g53 :: g54 :: g55 :: g56 :: g57 :: g58 :: g59 :: g60 :: g61 :: g62 :: g63 :: g64 :: g65 :: g66 :: g67 :: g68 :: g69 :: g70 :: g71 :: g72 :: g73 :: g74 :: g75 :: g76 :: g77 :: g78 :: g79 :: g80 :: g81 :: g82 :: g83 :: g84 :: g85 :: g86 :: g87 :: g88 :: g89 :: g90 :: g91 :: g92 :: g93 :: g94 :: g95 :: g96 :: g97 :: g98 :: g99 :: g100 :: g101 :: g102 :: g103 :: g104 :: g105 :: g106 :: g107 :: g108 :: g109 :: g110 :: g111 :: g112 :: g113 :: g114 :: g115 :: g116 :: g117 :: g118 :: g119 :: g120 :: g121 :: g122 :: g123 :: g124 :: g125 :: g126 :: g127 :: g128 :: g129 :: g130 :: g131 :: g132 :: g133 :: g134 :: g135 :: g136 :: g137 :: g138 :: g139 :: g140 :: g141 :: g142 :: g143 :: g144 :: g145 :: g146 :: g147 :: g148 :: g149 :: g150 :: g151 :: g152 :: g153 :: g154 :: g155 :: g156 :: g157 :: g158 :: g159 :: g160 :: g161 :: g162 :: g163 :: g164 :: g165 :: g166 :: g167 :: []), []⟩ w := by
  have HP := Lib.hid HP
  have HEND := Lib.hid HEND
  simp only [Tryz.f6, Option.getD_some, codeSeq, codeBlock, codeCond, Nat.reduceEqDiff, ↓reduceIte, Option.none_or, Option.or_none, Option.some_or, Option.some.injEq, Code.seq.injEq] at hcode
  obtain ⟨rfl, rfl⟩ := hcode
  rcases hA.four with ⟨rfl, p, hl, hs⟩ | ⟨rfl, rfl, p, hl, hs, hs2⟩ | ⟨rfl, rfl, p, hl, hs2⟩ | ⟨rfl, rfl⟩
  · have e1 : (!ps.isEmpty) = true := by
      cases ps with
      | nil => cases hl
      | cons _ _ => rfl
    have HLA := Lib.hid (last15 hU hT.good)
    unfold Last15 at HLA
    rw [e1] at HLA
    have HX := Lib.hid (And.intro hT (And.intro hl (And.intro hs (And.intro hsb hab))))
    clear e1 hU hT hA hsb hab hl hs
    go_upto_region 45 with first
      | (go_at_call 22; refine HLA.out.mono ?_; rintro e w5 ⟨n5, a5, m5, k5, Y, rfl, H5⟩; have HS := Lib.hid (two_stored w5 [.int .i64 n5, .slice a5 m5 k5] Y H5.out.1); have HY := Lib.hid (show (Tryz.prog.info? 63).map (·.size) = some Y.toArray.size by rw [List.size_toArray, H5.out.1]; exact info_signed_))
      | ((with_reducible show wpList _ _ _ (⟨none, .store _ (.tmp 20) _, _, _, _, _⟩ :: _) _ _); refine wpList_store_mid rfl 63 _ _ rfl (w5.heap.size + 1) 0 Y.toArray rfl rfl HS.out.1 HY.out (all_oneCell_toArray H5.out.2.1) ?_)
    generalize hW6 : World.setCells _ _ _ _ = W6
    have h6 := H5.out.2.2.same (HS.out.2 W6 hW6).2.2
    clear hW6 HS HY H5 HLA
    have hbs : Blk W6 sb (ptC sz sd) 52 := h6.owg.has (x := ptG sb sz sd) (by simp)
    have hba : Blk W6 ab (ptC az ad) 52 := h6.owg.has (x := ptG ab az ad) (by simp)
    have s0 := hbs.cell (i := 0) rfl
    have s1 := hbs.cell (i := 1) rfl
    have a0 := hba.cell (i := 0) rfl
    have a1 := hba.cell (i := 1) rfl
    clear hbs hba
    have HIS := Lib.hid (is15 h6 HX.out.1.good HX.out.2.1 az ad HX.out.2.2.2.2.1 HX.out.2.2.2.2.2)
    rw [HX.out.2.2.1] at HIS
    clear h6
    go_wp2_with (go_at_call 29; refine HIS.out.mono ?_; rintro e w8 ⟨rfl, h8⟩; have hbs : Blk w8 sb (ptC sz sd) 52 := h8.owg.has (x := ptG sb sz sd) (by simp); have hba : Blk w8 ab (ptC az ad) 52 := h8.owg.has (x := ptG ab az ad) (by simp); have r0 := hbs.cell (i := 0) rfl; have r1 := hbs.cell (i := 1) rfl; have z0 := hbs.free 0; have z1 := hbs.free 1; have b0 := hba.cell (i := 0) rfl; have b1 := hba.cell (i := 1) rfl; clear hbs hba; have HF := Lib.hid (loopE_also HX.out.1 HX.out.2.1 HX.out.2.2.1 h8 HX.out.2.2.2.2 HX.out.2.2.2.1 hst); clear h8)
    first | exact HF | exact HEND.out _ _ _ _ _ _ _ _ _ _ _ _ _ _ _ _ _ _ _ _ _ _ _ _ _ _ _ _ _ _ _ _ _ _ HF
  · have e1 : (!ps.isEmpty) = true := by
      cases ps with
      | nil => cases hl
      | cons _ _ => rfl
    have HLA := Lib.hid (last15 hU hT.good)
    unfold Last15 at HLA
    rw [e1] at HLA
    have HX := Lib.hid (And.intro hT (And.intro hl (And.intro hs (And.intro hs2 (And.intro hsb hab)))))
    clear e1 hU hT hA hsb hab hl hs hs2
    go_upto_region 45 with first
      | (go_at_call 22; refine HLA.out.mono ?_; rintro e w5 ⟨n5, a5, m5, k5, Y, rfl, H5⟩; have HS := Lib.hid (two_stored w5 [.int .i64 n5, .slice a5 m5 k5] Y H5.out.1); have HY := Lib.hid (show (Tryz.prog.info? 63).map (·.size) = some Y.toArray.size by rw [List.size_toArray, H5.out.1]; exact info_signed_))
      | ((with_reducible show wpList _ _ _ (⟨none, .store _ (.tmp 20) _, _, _, _, _⟩ :: _) _ _); refine wpList_store_mid rfl 63 _ _ rfl (w5.heap.size + 1) 0 Y.toArray rfl rfl HS.out.1 HY.out (all_oneCell_toArray H5.out.2.1) ?_)
    generalize hW6 : World.setCells _ _ _ _ = W6
    have h6 := H5.out.2.2.same (HS.out.2 W6 hW6).2.2
    clear hW6 HS HY H5 HLA
    have hbs : Blk W6 sb (ptC sz sd) 52 := h6.owg.has (x := ptG sb sz sd) (by simp)
    have hba : Blk W6 ab (ptC az ad) 52 := h6.owg.has (x := ptG ab az ad) (by simp)
    have s0 := hbs.cell (i := 0) rfl
    have s1 := hbs.cell (i := 1) rfl
    have a0 := hba.cell (i := 0) rfl
    have a1 := hba.cell (i := 1) rfl
    clear hbs hba
    have HIS := Lib.hid (is15 h6 HX.out.1.good HX.out.2.1 az ad HX.out.2.2.2.2.2.1 HX.out.2.2.2.2.2.2)
    rw [HX.out.2.2.1] at HIS
    clear h6
    go_upto_region 47 with (go_at_call 29; refine HIS.out.mono ?_; rintro e w8 ⟨rfl, h8⟩; have hbs : Blk w8 sb (ptC sz sd) 52 := h8.owg.has (x := ptG sb sz sd) (by simp); have hba : Blk w8 ab (ptC az ad) 52 := h8.owg.has (x := ptG ab az ad) (by simp); have r0 := hbs.cell (i := 0) rfl; have r1 := hbs.cell (i := 1) rfl; have z0 := hbs.free 0; have z1 := hbs.free 1; have b0 := hba.cell (i := 0) rfl; have b1 := hba.cell (i := 1) rfl; clear hbs hba; have HIT := Lib.hid (is15 h8 HX.out.1.good HX.out.2.1 sz sd HX.out.2.2.2.2.1.1 HX.out.2.2.2.2.1.2); clear h8)
    rw [HX.out.2.2.2.1] at HIT
    clear HIS s0 s1 a0 a1
    go_wp2_with (go_at_call 29; refine HIT.out.mono ?_; rintro e w9 ⟨rfl, h9⟩; have HF := Lib.hid (loopE_sure HX.out.1 HX.out.2.1 HX.out.2.2.2.1 h9 HX.out.2.2.2.2.1 HX.out.2.2.2.2.2 hst); clear h9)
    first | exact HF | exact HEND.out _ _ _ _ _ _ _ _ _ _ _ _ _ _ _ _ _ _ _ _ _ _ _ _ _ _ _ _ _ _ _ _ _ _ HF
  · have e1 : (!ps.isEmpty) = true := by
      cases ps with
      | nil => cases hl
      | cons _ _ => rfl
    have HLA := Lib.hid (last15 hU hT.good)
    unfold Last15 at HLA
    rw [e1] at HLA
    have HX := Lib.hid (And.intro hT (And.intro hl (And.intro hs2 (And.intro hsb hab))))
    clear e1 hU hT hA hsb hab hl hs2
    go_upto_region 45 with first
      | (go_at_call 22; refine HLA.out.mono ?_; rintro e w5 ⟨n5, a5, m5, k5, Y, rfl, H5⟩; have HS := Lib.hid (two_stored w5 [.int .i64 n5, .slice a5 m5 k5] Y H5.out.1); have HY := Lib.hid (show (Tryz.prog.info? 63).map (·.size) = some Y.toArray.size by rw [List.size_toArray, H5.out.1]; exact info_signed_))
      | ((with_reducible show wpList _ _ _ (⟨none, .store _ (.tmp 20) _, _, _, _, _⟩ :: _) _ _); refine wpList_store_mid rfl 63 _ _ rfl (w5.heap.size + 1) 0 Y.toArray rfl rfl HS.out.1 HY.out (all_oneCell_toArray H5.out.2.1) ?_)
    generalize hW6 : World.setCells _ _ _ _ = W6
    have h6 := H5.out.2.2.same (HS.out.2 W6 hW6).2.2
    clear hW6 HS HY H5 HLA
    have hbs : Blk W6 sb (ptC sz sd) 52 := h6.owg.has (x := ptG sb sz sd) (by simp)
    have hba : Blk W6 ab (ptC az ad) 52 := h6.owg.has (x := ptG ab az ad) (by simp)
    have s0 := hbs.cell (i := 0) rfl
    have s1 := hbs.cell (i := 1) rfl
    have a0 := hba.cell (i := 0) rfl
    have a1 := hba.cell (i := 1) rfl
    clear hbs hba
    have HIT := Lib.hid (is15 h6 HX.out.1.good HX.out.2.1 sz sd HX.out.2.2.2.1.1 HX.out.2.2.2.1.2)
    rw [HX.out.2.2.1] at HIT
    clear h6
    go_wp2_with (go_at_call 29; refine HIT.out.mono ?_; rintro e w9 ⟨rfl, h9⟩; have HF := Lib.hid (loopE_sure HX.out.1 HX.out.2.1 HX.out.2.2.1 h9 HX.out.2.2.2.1 HX.out.2.2.2.2 hst); clear h9)
    first | exact HF | exact HEND.out _ _ _ _ _ _ _ _ _ _ _ _ _ _ _ _ _ _ _ _ _ _ _ _ _ _ _ _ _ _ _ _ _ _ HF
  · have HLA := Lib.hid (last15 hU hT.good)
    unfold Last15 at HLA
    have HX := Lib.hid (And.intro hT (And.intro hsb hab))
    clear hU hT hA hsb hab
    rcases maybe
    all_goals
      go_upto_region 45 with first
        | (go_at_call 22; refine HLA.out.mono ?_; rintro e w5 ⟨n5, a5, m5, k5, Y, rfl, H5⟩; have HS := Lib.hid (two_stored w5 [.int .i64 n5, .slice a5 m5 k5] Y H5.out.1); have HY := Lib.hid (show (Tryz.prog.info? 63).map (·.size) = some Y.toArray.size by rw [List.size_toArray, H5.out.1]; exact info_signed_))
        | ((with_reducible show wpList _ _ _ (⟨none, .store _ (.tmp 20) _, _, _, _, _⟩ :: _) _ _); refine wpList_store_mid rfl 63 _ _ rfl (w5.heap.size + 1) 0 Y.toArray rfl rfl HS.out.1 HY.out (all_oneCell_toArray H5.out.2.1) ?_)
      generalize hW6 : World.setCells _ _ _ _ = W6
      have h6 := H5.out.2.2.same (HS.out.2 W6 hW6).2.2
      clear hW6 HS HY H5 HLA
      have HF := Lib.hid (loopE_void HX.out.1 h6 HX.out.2.1 HX.out.2.2 hst)
      clear h6
      go_wp2_with fail
      first | exact HF | exact HEND.out _ _ _ _ _ _ _ _ _ _ _ _ _ _ _ _ _ _ _ _ _ _ _ _ _ _ _ _ _ _ _ _ _ _ HF
end Go.Proofs.YtlgeijbgkipliaaGreatDoor

namespace Go.Proofs.YtlgeijbgkipliaaGreatDoor
open Go.RowKit
set_option maxRecDepth 100000 in
set_option maxHeartbeats 8000000 in
theorem csure_loop {w0 w : World} {d xb sb ab sz sd az ad xz xd : Nat} {M : DiskM} {ps : List PtM} {K st k Nx Mx : Int} {has maybe : Bool} {xs : ByteArray} {XC : List Value} {Q : Exit → Act → World → Prop} {g0 g1 g2 g4 g5 g6 g11 g13 g14 g15 g17 g18 g19 g20 g21 g22 g23 g24 g25 g26 g27 g28 g29 g30 g31 g32 g33 g34 g35 g36 g37 g38 g39 g40 g41 g42 g43 g44 g45 g46 g47 g48 g49 g50 g51 g52 g53 g54 g55 g56 g57 g58 g59 g60 g61 g62 g63 g64 g65 g66 g67 g68 g69 g70 g71 g72 g73 g74 g75 g76 g77 g78 g79 g80 g81 g82 g83 g84 g85 g86 g87 g88 g89 g90 g91 g92 g93 g94 g95 g96 g97 g98 g99 g100 g101 g102 g103 g104 g105 g106 g107 g108 g109 g110 g111 g112 g113 g114 g115 g116 g117 g118 g119 g120 g121 g122 g123 g124 g125 g126 g127 g128 g129 g130 g131 g132 g133 g134 g135 g136 g137 g138 g139 g140 g141 g142 g143 g144 g145 g146 g147 g148 g149 g150 g151 g152 g153 g154 g155 g156 g157 g158 g159 g160 g161 g162 g163 g164 g165 g166 g167 : Value} {code : Code} (hcode : codeBlock 3 (Tryz.f6.body.getD .skip) = some code) (hD : Owg w0 w d M [ptG sb sz sd, ptG ab az ad, .blk xb XC 90]) (hX : XC = [.int .u8 k, .int .u16 (xz : Int), .int .u8 (xd : Int), .int .i64 Nx, .int .i64 Mx, .string xs]) (hT : Dn15 M ps K st) (hA : Alt15 has ps sz sd maybe az ad) (hsb : PtB sz sd) (hab : PtB az ad) (hs : 0 ≤ st ∧ st ≤ 1000000) (n0 : -9223372036854775808 ≤ Nx ∧ Nx ≤ 9223372036854775807) (m0 : -9223372036854775808 ≤ Mx ∧ Mx ≤ 9223372036854775807) (hK : K ≤ 1000)
    (HP : ∀ c a (k : Nat) v w, Q (.panic c) (Act.put a (some k) v) w → Q (.panic c) a w) (HEND : ∀ (t : Nat) (hb : Bool) (v2 v16 v17 v18 v19 v20 v21 v103 v104 v105 v106 v107 v108 v109 v110 v111 v112 v113 v114 v115 v116 v117 v118 v119 v120 v121 v122 v123 v124 v125 v126 v127 v128 v129 v130 v131 v132 v133 v134 v135 v136 v137 v138 v139 v140 v141 v142 v143 v144 v145 v146 v147 v148 v149 v150 v151 v152 v153 v154 v155 v156 v157 v158 v159 v160 v161 v162 v163 : Value) (w' : World), Hid (LoopE w0 w' d t sb ab hb K st) → Q .normal ⟨List.toArray (g0 :: g1 :: v2 :: (.pointer (some ⟨d, 0, none⟩)) :: g4 :: (.pointer (some ⟨t, 0, none⟩)) :: g6 :: (.pointer (some ⟨sb, 0, none⟩)) :: (.pointer (some ⟨ab, 0, none⟩)) :: (.bool hb) :: (.bool maybe) :: g11 :: (.pointer (some ⟨xb, 0, none⟩)) :: g13 :: g14 :: g15 :: v16 :: v17 :: v18 :: v19 :: v20 :: v21 :: g22 :: g23 :: g24 :: g25 :: g26 :: g27 :: g28 :: g29 :: g30 :: g31 :: g32 :: g33 :: g34 :: g35 :: g36 :: g37 :: g38 :: g39 :: g40 :: g41 :: g42 :: g43 :: g44 :: g45 :: g46 :: g47 :: g48 :: g49 :: g50 :: g51 :: g52 :: g53 :: g54 :: g55 :: g56 :: g57 :: g58 :: g59 :: g60 :: g61 :: g62 :: g63 :: g64 :: g65 :: g66 :: g67 :: g68 :: g69 :: g70 :: g71 :: g72 :: g73 :: g74 :: g75 :: g76 :: g77 :: g78 :: g79 :: g80 :: g81 :: g82 :: g83 :: g84 :: g85 :: g86 :: g87 :: g88 :: g89 :: g90 :: g91 :: g92 :: g93 :: g94 :: g95 :: g96 :: g97 :: g98 :: g99 :: g100 :: g101 :: g102 :: v103 :: v104 :: v105 :: v106 :: v107 :: v108 :: v109 :: v110 :: v111 :: v112 :: v113 :: v114 :: v115 :: v116 :: v117 :: v118 :: v119 :: v120 :: v121 :: v122 :: v123 :: v124 :: v125 :: v126 :: v127 :: v128 :: v129 :: v130 :: v131 :: v132 :: v133 :: v134 :: v135 :: v136 :: v137 :: v138 :: v139 :: v140 :: v141 :: v142 :: v143 :: v144 :: v145 :: v146 :: v147 :: v148 :: v149 :: v150 :: v151 :: v152 :: v153 :: v154 :: v155 :: v156 :: v157 :: v158 :: v159 :: v160 :: v161 :: v162 :: v163 :: g164 :: g165 :: g166 :: g167 :: []), []⟩ w') :
    Code.wp Tryz.prog code Q ⟨List.toArray (g0 :: g1 :: g2 :: (.pointer (some ⟨d, 0, none⟩)) :: g4 :: g5 :: g6 :: (.pointer (some ⟨sb, 0, none⟩)) :: (.pointer (some ⟨ab, 0, none⟩)) :: (.bool has) :: (.bool maybe) :: g11 :: (.pointer (some ⟨xb, 0, none⟩)) :: g13 :: g14 :: g15 :: (.int .i64 0) :: g17 :: g18 :: g19 :: g20 :: g21 :: g22 :: g23 :: g24 :: g25 :: g26 :: g27 :: g28 :: g29 :: g30 :: g31 :: g32 :: g33 :: g34 :: g35 :: g36 :: g37 :: g38 :: g39 :: g40 :: g41 :: g42 :: g43 :: g44 :: g45 :: g46 :: g47 :: g48 :: g49 :: g50 :: g51 :: g52 :: g53 :: g54 :: g55 :: g56 :: g57 :: g58 :: g59 :: g60 :: g61 :: g62 :: g63 :: g64 :: g65 :: g66 :: g67 :: g68 :: g69 :: g70 :: g71 :: g72 :: g73 :: g74 :: g75 :: g76 :: g77 :: g78 :: g79 :: g80 :: g81 :: g82 :: g83 :: g84 :: g85 :: g86 :: g87 :: g88 :: g89 :: g90 :: g91 :: g92 :: g93 :: g94 :: g95 :: g96 :: g97 :: g98 :: g99 :: g100 :: g101 :: g102 :: g103 :: g104 :: g105 :: g106 :: g107 :: g108 :: g109 :: g110 :: g111 :: g112 :: g113 :: g114 :: g115 :: g116 :: g117 :: g118 :: g119 :: g120 :: g121 :: g122 :: g123 :: g124 :: g125 :: g126 :: g127 :: g128 :: g129 :: g130 :: g131 :: g132 :: g133 :: g134 :: g135 :: g136 :: g137 :: g138 :: g139 :: g140 :: g141 :: g142 :: g143 :: g144 :: g145 :: g146 :: g147 :: g148 :: g149 :: g150 :: g151 :: g152 :: g153 :: g154 :: g155 :: g156 :: g157 :: g158 :: g159 :: g160 :: g161 :: g162 :: g163 :: g164 :: g165 :: g166 :: g167 :: []), []⟩ w := by
  have HP := Lib.hid HP
  have HEND := Lib.hid HEND
  simp only [Tryz.f6, Option.getD_some, codeSeq, codeBlock, codeCond, Nat.reduceEqDiff, ↓reduceIte, Option.none_or, Option.or_none, Option.some_or, Option.some.injEq] at hcode
  subst hcode
  have HX := Lib.hid (And.intro hX (And.intro hs (And.intro n0 (And.intro m0 hK))))
  have HI := Lib.hid (show LoopL w0 w d sb ab (.blk xb XC 90) has maybe K st g5 g5 (.bool has) 0 from Or.inl ⟨by omega, rfl, rfl, M, ps, sz, sd, az, ad, hsb, hab, by simpa using hT, hA, hD⟩)
  clear hD hX hT hs n0 m0 hK hA hsb hab
  go_wp2_with fail
  go_loopw [5, 9, 16] (fun x5 x9 x16 wr => ∃ n : Nat, x16 = .int .i64 (n : Int) ∧ Hid (LoopL w0 wr d sb ab (.blk xb XC 90) has maybe K st g5 x5 x9 n)) (fun _ _ x16 _ => 20 - (intOf x16).toNat)
  case atStart => exact ⟨0, rfl, HI⟩
  case round =>
    obtain ⟨n, rfl, HR⟩ := hrel
    rcases HR.out with ⟨hn, rfl, rfl, M1, ps1, sz1, sd1, az1, ad1, hsb1, hab1, hT1, hA1, hD1⟩ | ⟨hn, t, hb, rfl, rfl, hE⟩
    · have x1 : decide ((n : Int) < 20) = true := decide_eq_true (by omega)
      have hup := hD1.isup (b := false) (by obtain ⟨F, h1, -⟩ := hT1.is; rw [h1.down]; rfl)
      have hdst : M1.starts = st + (n : Int) := by obtain ⟨F, h1, -⟩ := hT1.is; exact h1.starts
      obtain ⟨M2, F2, he2, hu2, hc2⟩ := hT1.start
      have hst := hD1.start (by rw [hdst]; have := HX.out.2.1; omega) he2
      have hg1 := hT1.good
      have hf1 := hT1.few
      have HA := Lib.hid (And.intro hA1 (And.intro hsb1 hab1))
      have HN := Lib.hid hn
      clear he2 hT1 hD1 HR hA1 hsb1 hab1 hdst
      by_cases h3 : n < 3
      · have x2 : decide ((n : Int) < 3) = true := decide_eq_true (by omega)
        obtain ⟨q, hq, hqw, hq2⟩ := and3' (wrap64 (Nx + (n : Int)))
        obtain ⟨M4, he4, hu4⟩ := hu2.failr (n := q) (k := Mx) hq2 HX.out.2.2.2.1
        have HFA := Lib.hid (And.intro he4 hn)
        have HQ2 := Lib.hid hq2
        rcases opens15 w0 d [ptG sb sz1 sd1, ptG ab az1 ad1, .blk xb XC 90] hu4 hc2 hg1 hf1 HX.out.2.2.2.2 with hop1 | ⟨-, hop1⟩
        · have HOP := Lib.hid hop1
          clear he4 hu4 hu2 hc2 hq2 hg1 hf1 hn hop1
          go_upto_region 44 with (first
            | (go_at_call 32; refine hup.mono ?_; rintro e w' ⟨rfl, rfl⟩)
            | (go_at_call 33; refine hst.mono ?_; clear hst; rintro e w1 ⟨rfl, h1⟩; have c1 : w1.cell? ⟨xb, 3, none⟩ = some (.int .i64 Nx) := Blk.cell (show Blk w1 xb XC 90 from h1.has (x := .blk xb XC 90) (by simp)) (by rw [HX.out.1]; rfl); have c2 : w1.cell? ⟨xb, 4, none⟩ = some (.int .i64 Mx) := Blk.cell (show Blk w1 xb XC 90 from h1.has (x := .blk xb XC 90) (by simp)) (by rw [HX.out.1]; rfl); have hfa := h1.fail q Mx (by have := HQ2.out; omega) HX.out.2.2.2.1 HFA.out.1; clear h1)
            | (go_at_call 31; refine hfa.mono ?_; clear hfa c1 c2; rintro e w2 ⟨rfl, h2⟩; have hop := HOP.out w2 h2; clear h2)
            | (go_at_call 25; refine hop.mono ?_; clear hop; intro e w3 ho; obtain ⟨t, M3, C3, rfl, HO3⟩ := ho))
          clear x2 HOP
          refine csure_tell (by assumption) (by kernel_rfl) HO3.out.2 HO3.out.1 HA.out.1 HA.out.2.1 HA.out.2.2 (s0 := st) (by have := HN.out; omega) (fun _ _ _ _ _ h => HP.out _ _ _ _ _ h) ?_
          intro hb2
          intros
          rename_i w9 HE
          have hn2 := HN.out
          go_wp2_with fail
          go_roundw
          case rel => exact ⟨n + 1, by go_num, Lib.hid (Or.inr ⟨by have := HN.out; omega, _, _, rfl, rfl, HE.out⟩)⟩
          case measure => have := HN.out; simp [intOf]; omega
        · have HOP := Lib.hid hop1
          clear he4 hu4 hu2 hc2 hq2 hg1 hf1 hn hop1
          go_wp2_with (first
            | (go_at_call 32; refine hup.mono ?_; rintro e w' ⟨rfl, rfl⟩)
            | (go_at_call 33; refine hst.mono ?_; clear hst; rintro e w1 ⟨rfl, h1⟩; have c1 : w1.cell? ⟨xb, 3, none⟩ = some (.int .i64 Nx) := Blk.cell (show Blk w1 xb XC 90 from h1.has (x := .blk xb XC 90) (by simp)) (by rw [HX.out.1]; rfl); have c2 : w1.cell? ⟨xb, 4, none⟩ = some (.int .i64 Mx) := Blk.cell (show Blk w1 xb XC 90 from h1.has (x := .blk xb XC 90) (by simp)) (by rw [HX.out.1]; rfl); have hfa := h1.fail q Mx (by have := HQ2.out; omega) HX.out.2.2.2.1 HFA.out.1; clear h1)
            | (go_at_call 31; refine hfa.mono ?_; clear hfa c1 c2; rintro e w2 ⟨rfl, h2⟩; have hop := HOP.out w2 h2; clear h2)
            | (go_at_call 25; refine hop.mono ?_; clear hop; rintro e w3 ⟨rfl, HO3⟩))
          go_roundw
          case rel =>
            obtain ⟨M5, hd5, ho5⟩ := HO3.out
            exact ⟨n + 1, by go_num, Lib.hid (Or.inl ⟨by have := HN.out; omega, rfl, rfl, _, _, _, _, _, _, HA.out.2.1, HA.out.2.2, by rwa [show st + (n : Int) + 1 = st + ((n + 1 : Nat) : Int) by omega] at hd5, HA.out.1, ho5⟩)⟩
          case measure => have := HN.out; simp [intOf]; omega
      · have x2 : decide ((n : Int) < 3) = false := decide_eq_false (by omega)
        rcases opens15 w0 d [ptG sb sz1 sd1, ptG ab az1 ad1, .blk xb XC 90] hu2 hc2 hg1 hf1 HX.out.2.2.2.2 with hop1 | ⟨hf, -⟩
        · have HOP := Lib.hid hop1
          clear hu2 hc2 hg1 hf1 hn h3 hop1
          go_upto_region 44 with (first
            | (go_at_call 32; refine hup.mono ?_; rintro e w' ⟨rfl, rfl⟩)
            | (go_at_call 33; refine hst.mono ?_; clear hst; rintro e w1 ⟨rfl, h1⟩; have hop := HOP.out w1 h1; clear h1)
            | (go_at_call 25; refine hop.mono ?_; clear hop; intro e w3 ho; obtain ⟨t, M3, C3, rfl, HO3⟩ := ho))
          clear x2 HOP
          refine csure_tell (by assumption) (by kernel_rfl) HO3.out.2 HO3.out.1 HA.out.1 HA.out.2.1 HA.out.2.2 (s0 := st) (by have := HN.out; omega) (fun _ _ _ _ _ h => HP.out _ _ _ _ _ h) ?_
          intro hb2
          intros
          rename_i w9 HE
          have hn2 := HN.out
          go_wp2_with fail
          go_roundw
          case rel => exact ⟨n + 1, by go_num, Lib.hid (Or.inr ⟨by have := HN.out; omega, _, _, rfl, rfl, HE.out⟩)⟩
          case measure => have := HN.out; simp [intOf]; omega
        · cases hf
    · have x1 : decide ((n : Int) < 20) = true := decide_eq_true (by omega)
      have hup : Calls Tryz.prog 32 #[.pointer (some ⟨d, 0, none⟩)] wr fun e w2 => e = .returned (.bool true) ∧ wr = w2 := by
        obtain ⟨M5, C5, ps5, st5, fl5, _, _, _, _, -, -, -, hT5, -, hU5⟩ := hE
        exact hU5.owg.isup (by rw [hT5.up.1]; rfl)
      have HF := Lib.hid hE
      clear hE HR
      go_wp2_with (go_at_call 32; refine hup.mono ?_; rintro e w' ⟨rfl, rfl⟩)
      first | exact HF | exact HEND.out _ _ _ _ _ _ _ _ _ _ _ _ _ _ _ _ _ _ _ _ _ _ _ _ _ _ _ _ _ _ _ _ _ _ _ _ _ _ _ _ _ _ _ _ _ _ _ _ _ _ _ _ _ _ _ _ _ _ _ _ _ _ _ _ _ _ _ _ _ _ _ HF
end Go.Proofs.YtlgeijbgkipliaaGreatDoor

namespace Go.Proofs.YtlgeijbgkipliaaGreatDoor
open Go.RowKit
theorem c_act15' : (Tryz.prog.info? 90).map (·.size) = some 6 := by kernel_rfl
theorem act15_one (x : Act15) : ∀ u ∈ x.cells, u.oneCell' = true := by
  intro u hu
  simp only [Act15.cells, List.mem_cons, List.not_mem_nil, or_false] at hu
  rcases hu with rfl | rfl | rfl | rfl | rfl | rfl <;> rfl
abbrev act15Z : List Value := [.int .u8 0, .int .u16 0, .int .u8 0, .int .i64 0, .int .i64 0, .string ⟨#[]⟩]
def SureO15 (w wr : World) (d c sb ab i : Nat) (has : Bool) : Prop :=
  ∃ M C ps st fl sz sd az ad, PtB sz sd ∧ PtB az ad ∧ (0 ≤ st ∧ st ≤ 20 * (i : Int)) ∧ Up15 M C ps (i : Int) st fl ∧ Has15 has ps sz sd ∧ Hold15 w wr d c M C ps [ptG sb sz sd, ptG ab az ad]
theorem sure15_start {w w2 W : World} {d c : Nat} (h : Owg w w2 d (ckD [] 1048576 0) (.blk c (chkZ d 0) 74 :: [])) (hW : (w2.alloc (.cells (ptC 0 0).toArray 52)).alloc (.cells (ptC 0 0).toArray 52) = W) :
    SureO15 w W d c w2.heap.size (w2.heap.size + 1) 0 false := by
  have h2 := (h.new (ptC 0 0) 52).new (ptC 0 0) 52
  rw [World.size_alloc, hW] at h2
  have hu : UpF (ckD [] 1048576 0) [] 1048576 0 false := ⟨h.ok, h.live, rfl, rfl, rfl, rfl, rfl, rfl⟩
  refine ⟨_, ⟨-1, 0, 0, false⟩, [], 0, false, 0, 0, 0, 0, ⟨by decide, by decide⟩, ⟨by decide, by decide⟩, by omega, ⟨fun q hq => (List.not_mem_nil hq).elim, by simp, Or.inl ⟨rfl, hu, rfl⟩⟩, ⟨rfl, fun q => absurd rfl q⟩, rfl, Or.inl ⟨rfl, rfl, pointZ, pointZ_len, h2.perm ?_⟩⟩
  exact (List.Perm.cons _ (List.Perm.swap _ _ _)).trans ((List.Perm.swap _ _ _).trans ((List.Perm.swap _ _ _).cons _))
theorem sure15_up {w W : World} {d c sb ab i sz sd az ad : Nat} {M : DiskM} {C : ChkM} {ps : List PtM} {st : Int} {fl has : Bool} {X : Og} (hT : Up15 M C ps ((i : Int) + 1) st fl) (hH : Has15 has ps sz sd) (h : Hold15 w W d c M C ps [ptG sb sz sd, ptG ab az ad, X]) (h1 : PtB sz sd) (h2 : PtB az ad) (hst : 0 ≤ st ∧ st ≤ 20 * (i : Int)) : SureO15 w W d c sb ab (i + 1) has :=
  ⟨M, C, ps, st, fl, sz, sd, az, ad, h1, h2, by omega, by rwa [show (((i + 1 : Nat)) : Int) = (i : Int) + 1 by omega], hH, h.sub (((List.nil_sublist _).cons_cons _).cons_cons _)⟩
theorem sure15_loop {w W : World} {d t sb ab i : Nat} {has : Bool} {st : Int} (h : LoopE w W d t sb ab has ((i : Int) + 1) st) (hst : 0 ≤ st ∧ st ≤ 20 * (i : Int)) : SureO15 w W d t sb ab (i + 1) has := by
  obtain ⟨M, C, ps, st', fl, sz, sd, az, ad, h1, h2, h3, h4, h5, h6⟩ := h
  exact ⟨M, C, ps, st', fl, sz, sd, az, ad, h1, h2, by omega, by rwa [show (((i + 1 : Nat)) : Int) = (i : Int) + 1 by omega], h5, h6⟩
theorem SureO15.old {w W : World} {d c sb ab i : Nat} {has : Bool} (h : SureO15 w W d c sb ab i has) : Kept (fun _ => False) w W ∧ Tab W := by
  obtain ⟨M, C, ps, st, fl, sz, sd, az, ad, -, -, -, -, -, h6⟩ := h
  exact ⟨h6.owg.old, h6.owg.tab⟩
set_option maxRecDepth 100000 in
set_option maxHeartbeats 16000000 in
theorem csure_walk0 (w : World) (ht : Tab w) (ad : Option Addr) (A : List Act15) (cap : Nat) (hl : A.length ≤ maxLen) (hA : Acts15 w ad A) :
    Calls Tryz.prog 6 #[.slice ad A.length cap] w fun e w' => e = .returned (.bool true) ∧ Kept (fun _ => False) w w' := by
  have HT := Lib.hid ht
  have HAA := Lib.hid hA
  have hl2 : A.length ≤ 9223372036854775807 := hl
  have HG := Lib.hid (great15 w ad A cap 16 (by omega) hl hA)
  clear ht hA hl
  go_enter Tryz.func6, Tryz.ntmps6
  go_upto_if 23 with (go_at_call 30; refine HG.out.mono ?_; rintro e w' ⟨b, rfl, hb, rfl⟩; have HB := Lib.hid hb; clear hb; rcases b)
  rotate_left 1
  · have HST := Lib.hid (checked_any w HT.out)
    go_wp2_with (go_at_call 27; refine HST.out.mono ?_; rintro e w1 ⟨rfl, hk1⟩)
    go_ret
    exact ⟨rfl, hk1⟩
  · go_upto_region 4 with (go_at_call 9; refine (new_ok _ 1048576 (by omega) (by omega)).mono ?_; rintro e w1 hnew; obtain ⟨d, rfl, hA1, k1⟩ := Apart.made _ hnew; have HO1 : Hid (Owg w w1 d (ckD [] 1048576 0) []) := Lib.hid (Owg.made hA1 HT.out k1); clear hnew hA1 k1)
    have HOP := Lib.hid (chk_open0 HO1.out rfl rfl ck_sync)
    go_upto_region 7 with (go_at_call 25; refine HOP.out.mono ?_; rintro e w2 ⟨c, rfl, h2⟩; have HO2 := Lib.hid h2; clear h2)
    clear HOP HO1 HG
    go_upto_region 8 with fail
    generalize hW : World.alloc _ _ = W2
    have HU := Lib.hid (sure15_start HO2.out hW)
    clear hW HO2
    generalize w2.heap.size + 1 = ab at *
    generalize w2.heap.size = sb at *
    go_wp2_with fail
    go_loopw [5, 9, 11] (fun x5 x9 x11 wr => ∃ (i c : Nat) (has : Bool), x5 = .pointer (some ⟨c, 0, none⟩) ∧ x9 = .bool has ∧ x11 = .int .i64 (i : Int) ∧ i ≤ A.length ∧ Hid (SureO15 w wr d c sb ab i has)) (fun _ _ x11 _ => A.length - (intOf x11).toNat)
    case atStart => exact ⟨0, c, false, rfl, rfl, rfl, Nat.zero_le _, HU⟩
    case round =>
      obtain ⟨i, c, has, rfl, rfl, rfl, hi, HO⟩ := hrel
      by_cases hlt : i < A.length
      · obtain ⟨y1, y2⟩ := dec_gt15 hlt
        obtain ⟨x, hx⟩ : ∃ x, A[i]? = some x := ⟨_, List.getElem?_eq_getElem hlt⟩
        have hact := HAA.out i x hx
        have h30 := (HB.out trivial).1
        obtain ⟨M, C, ps, st, fl, sz, sd, az, ad2, hsb, hab, hst, hT, hH, hU⟩ := HO.out
        have hk := hU.owg.old
        obtain ⟨b, off, rfl, hbb, hc⟩ := hact.cells
        obtain ⟨XC, hXC⟩ : ∃ XC, XC = x.cells := ⟨_, rfl⟩
        have hrg : wr.rangeAt b (off + i * 6) XC := by
          rw [hXC]
          exact fun j v hv => hk.cell (hc j v hv) id
        have HRG := Lib.hid (And.intro hrg (show (Tryz.prog.info? 90).map (·.size) = some XC.length by rw [hXC]; exact c_act15'))
        have HXC := Lib.hid (And.intro hXC (show ∀ u ∈ XC, u.oneCell' = true by rw [hXC]; exact act15_one x))
        have HAC := Lib.hid (And.intro hact.sz0 (And.intro hact.sd0 (And.intro hact.n0 (And.intro hact.m0 hact.k0))))
        have HS := Lib.hid (And.intro hT (And.intro hH (And.intro hst (And.intro h30 (And.intro hlt (And.intro hsb (And.intro hab hU)))))))
        clear hx hact h30 hst hT hH hsb hab hU hk hbb hc hXC hrg HO hi
        go_upto_region 13 with (first
          | ((with_reducible show wpList _ _ _ (⟨some 49, _, _, _, _, _⟩ :: _) _ _); refine wpList_load_mid rfl 90 _ rfl b (off + i * 6) rfl XC _ HRG.out.1 Tryz.underlying90 rfl HRG.out.2 ?_)
          | ((with_reducible show wpList _ _ _ (⟨none, .store _ (.tmp 12) _, _, _, _, _⟩ :: _) _ _); refine wpList_store_mid rfl 90 _ _ rfl wr.heap.size 0 XC.toArray rfl rfl ?htc ?hic ?h1c ?_))
        case htc => exact (store_new15 wr act15Z XC 90 (by rw [HXC.out.1]; rfl)).1
        case hic => exact (by rw [List.size_toArray]; exact HRG.out.2)
        case h1c => exact all_oneCell_toArray HXC.out.2
        generalize hw1 : World.setCells _ wr.heap.size 0 _ = w1
        have hw1' : Blk w1 wr.heap.size XC 90 ∧ Kept (fun _ => False) wr w1 := by rw [← hw1]; exact (store_new15 wr act15Z XC 90 (by rw [HXC.out.1]; rfl)).2
        have HU1 := Lib.hid ((HS.out.2.2.2.2.2.2.2.add (x := .blk wr.heap.size XC 90) hw1'.2 hw1'.1 (fun k e => by have : k = wr.heap.size := e; omega)).perm ((List.Perm.swap _ _ _).trans ((List.Perm.swap _ _ _).cons _)))
        have c0 : w1.cell? ⟨wr.heap.size, 0, none⟩ = some (.int .u8 x.k) := hw1'.1.cell (by rw [HXC.out.1]; rfl)
        clear hw1 hw1' HRG
        generalize wr.heap.size = xb at *
        obtain ⟨kk, hkk⟩ : ∃ kk, kk = x.k % 14 := ⟨_, rfl⟩
        obtain ⟨n1, n2, n3, n4⟩ := kind15 HAC.out.2.2.2.2 hkk
        clear hkk
        go_upto_block 2 with fail
        refine csure_act (code := _) (by kernel_rfl) HU1.out HXC.out.1 HS.out.1 HS.out.2.1 HS.out.2.2.2.2.2.1 HS.out.2.2.2.2.2.2.1 ⟨HAC.out.1, HAC.out.2.1⟩ (by have h2 := HS.out.2.2.2.1; have h3 := HS.out.2.2.2.2.1; omega) HAC.out.2.2.1 HAC.out.2.2.2.1 (fun _ _ _ _ _ h => h) ?_
        intro hb mb g
        intros
        rename_i w3 HQ
        clear n1 n2 n3 n4 c0 HU1
        rcases HQ.out with ⟨sz3, sd3, az3, ad3, hsb3, hab3, ⟨rfl, M3, C3, ps3, fl3, hT3, hH3, hU3⟩ | ⟨M3, ps3, hT3, hA3, hU3⟩⟩
        · have hup := hU3.owg.isup (b := true) (by rw [hT3.up.1]; rfl)
          have hlt := HS.out.2.2.2.2.1
          rcases hb
          · have HF := Lib.hid (sure15_up hT3 hH3 hU3 hsb3 hab3 HS.out.2.2.1)
            clear HQ hT3 hH3 hU3 hsb3 hab3
            go_wp2_with (go_at_call 32; refine hup.mono ?_; rintro e w' ⟨rfl, rfl⟩)
            go_roundw
            case rel => exact ⟨i + 1, c, false, rfl, rfl, by go_num, hlt, HF⟩
            case measure => simp [intOf]; omega
          · obtain ⟨p, hp⟩ : ∃ p, ps3.getLast? = some p := ⟨_, hH3.2 (by rintro rfl; cases hH3.1)⟩
            have his := is15 hU3 hT3.good hp sz3 sd3 hsb3.1 hsb3.2
            have hps : p = PtM.of sz3 sd3 := by
              have := hH3.2 (by rintro rfl; cases hp)
              rw [hp] at this
              exact Option.some.inj this
            rw [hps, PtM.same_self] at his
            have HIS := Lib.hid his
            have hbs : Blk w3 sb (ptC sz3 sd3) 52 := hU3.owg.has (x := ptG sb sz3 sd3) (by simp)
            have s0 := hbs.cell (i := 0) rfl
            have s1 := hbs.cell (i := 1) rfl
            have HF := Lib.hid (fun W (h : Hold15 w W d c M3 C3 ps3 [ptG sb sz3 sd3, ptG ab az3 ad3, .blk xb XC 90]) => sure15_up hT3 hH3 h hsb3 hab3 HS.out.2.2.1)
            clear HQ hT3 hH3 hU3 hsb3 hab3 hbs his hps hp
            go_wp2_with (first
              | (go_at_call 32; refine hup.mono ?_; rintro e w' ⟨rfl, rfl⟩)
              | (go_at_call 29; refine HIS.out.mono ?_; rintro e w8 ⟨rfl, h8⟩; have HF8 := Lib.hid (HF.out _ h8); clear h8))
            go_roundw
            case rel => exact ⟨i + 1, c, true, rfl, rfl, by go_num, hlt, HF8⟩
            case measure => simp [intOf]; omega
        · have hup := hU3.isup (b := false) (by obtain ⟨F, h1, -⟩ := hT3.is; rw [h1.down]; rfl)
          have HD3 := Lib.hid (And.intro hU3 (And.intro hT3 (And.intro hA3 (And.intro hsb3 hab3))))
          clear HQ hT3 hA3 hU3 hsb3 hab3
          go_upto_block 3 with (go_at_call 32; refine hup.mono ?_; rintro e w' ⟨rfl, rfl⟩)
          refine csure_loop (code := _) (by kernel_rfl) HD3.out.1 HXC.out.1 HD3.out.2.1 HD3.out.2.2.1 HD3.out.2.2.2.1 HD3.out.2.2.2.2 (by have h1 := HS.out.2.2.1; have h2 := HS.out.2.2.2.1; have h3 := HS.out.2.2.2.2.1; omega) HAC.out.2.2.1 HAC.out.2.2.2.1 (by have h2 := HS.out.2.2.2.1; have h3 := HS.out.2.2.2.2.1; omega) (fun _ _ _ _ _ h => h) ?_
          intro t hb5
          intros
          rename_i w5 HE
          have hup5 : Calls Tryz.prog 32 #[.pointer (some ⟨d, 0, none⟩)] w5 fun e w2 => e = .returned (.bool true) ∧ w5 = w2 := by
            obtain ⟨M5, C5, ps5, st5, fl5, _, _, _, _, -, -, -, hT5, -, hU5⟩ := HE.out
            exact hU5.owg.isup (by rw [hT5.up.1]; rfl)
          have HF := Lib.hid (sure15_loop HE.out HS.out.2.2.1)
          have hlt := HS.out.2.2.2.2.1
          clear HE HD3
          go_wp2_with (go_at_call 32; refine hup5.mono ?_; rintro e w' ⟨rfl, rfl⟩)
          go_roundw
          case rel => exact ⟨i + 1, t, hb5, rfl, rfl, by go_num, hlt, HF⟩
          case measure => simp [intOf]; omega
      · obtain rfl : i = A.length := by omega
        obtain ⟨y1, y2⟩ := dec_le15 hlt
        have hK := HO.out.old
        have HST := Lib.hid (checked_any wr hK.2)
        clear hi hlt
        go_wp2_with (go_at_call 27; refine HST.out.mono ?_; rintro e w1 ⟨rfl, hk1⟩)
        go_ret
        exact ⟨rfl, hK.1.trans hk1⟩
open Go.WideShapes Go.ChangeShapes Go.Joins in
set_option maxRecDepth 100000 in
theorem checksSure_walk (v : Value) (W : World) (ht : Tab W) {base : Nat} {H : Type} {enc : TypeId × Value → H} {dd : DataW H} {pp : List MemPlace} (hv : Value.okWide Tryz.prog W .any base 87 v) (h : DataW.Trod enc Tryz.prog W 0 (fun _ => true) true 87 v dd pp) :
    Calls Tryz.prog 6 #[v] W fun e w' => e = .returned (.bool true) ∧ Below W.heap.size W w' := by
  obtain ⟨a, A, c, rfl, h1, h2⟩ := acts15_of hv h
  exact (csure_walk0 W ht a A c h1 h2).mono (fun e w' ⟨he, hk⟩ => ⟨he, hk.below (fun _ _ => id) (Nat.le_refl _)⟩)
end Go.Proofs.YtlgeijbgkipliaaGreatDoor
