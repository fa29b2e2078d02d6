/- ChkG ChkJ ChkJ2 ChkD -/
import Derived.Test.YtlgeijbgkipliaaGreatDoorUChecksSure47
import Derived.Test.YtlgeijbgkipliaaGreatDoorUChecksSure45
set_option linter.unusedVariables false
set_option linter.unusedSimpArgs false
namespace Go.Proofs.YtlgeijbgkipliaaGreatDoor
open Go.RowKit
def ckD (fs : List (Int × By)) (cap st : Int) : DiskM := ⟨fs, [], cap, false, st, false, 0, 0⟩
section
variable {n cap st : Int} {b f : By}
theorem ck_append {n : Int} {fs gs : List (Int × By)} (hg : AM.get fs n = some b) (hs : AM.set fs n (b ++ f) = gs) (hc : ¬ cap - ((AM.sum List.length fs : Nat) : Int) < (f.length : Int)) : layM (ckD fs cap st) n f = (0, ckD gs cap st) := by
  have h1 : (ckD fs cap st).has n = 0 := by simp [DiskM.has, ckD, hg]
  have h2 : (ckD fs cap st).append n f = (0, { ckD gs cap st with loose := [(n, f.length)] }) := by
    unfold DiskM.append
    rw [if_neg (by rw [h1]; simp), if_neg (show ¬ (ckD fs cap st).cap - ((ckD fs cap st).total : Int) < (f.length : Int) from hc), if_neg (by simp [DiskM.sinks, ckD])]
    have : (ckD fs cap st).appended n f = { ckD gs cap st with loose := [(n, f.length)] } := by
      unfold DiskM.appended ckD
      simp only [hg, Option.getD_some, hs, List.nil_append]
    rw [this]
    rfl
  unfold layM
  rw [h2, if_pos rfl]
  simp [DiskM.sync, DiskM.sinks, DiskM.tick, ckD]
theorem get_one (n : Int) (b : By) : AM.get [(n, b)] n = some b := by simp [AM.get]
theorem set_one (n : Int) (b c : By) : AM.set [(n, b)] n c = [(n, c)] := by simp [AM.set, AM.del, AM.ins]
theorem ck_lay (hc : ((b.length + f.length : Nat) : Int) ≤ cap) : layM (ckD [(n, b)] cap st) n f = (0, ckD [(n, b ++ f)] cap st) :=
  ck_append (get_one n b) (set_one n b _) (by simp [AM.sum]; omega)
theorem ck_fresh0 (hc : (f.length : Int) ≤ cap) : freshM (ckD [] cap st) (-1) f = (0, ckD [(0, f)] cap st) := by
  have h1 : (ckD [] cap st).create (-1 + 1) = (0, ckD [(0, [])] cap st) := by simp [DiskM.create, ckD, AM.get, AM.set, AM.del, AM.ins, DiskM.sinks, DiskM.tick]
  have h2 := ck_lay (n := 0) (b := []) (f := f) (cap := cap) (st := st) (by simpa using hc)
  unfold freshM
  rw [h1, if_pos rfl]
  have h3 : layM (0, ckD [(0, [])] cap st).2 (-1 + 1) f = (0, ckD [(0, f)] cap st) := h2
  rw [h3, if_pos rfl, if_neg (by omega)]
theorem ck_fresh (hn : 0 ≤ n) (hc : ((b.length + f.length : Nat) : Int) ≤ cap) : freshM (ckD [(n, b)] cap st) n f = (0, ckD [(n + 1, f)] cap st) := by
  have h1 : (ckD [(n, b)] cap st).create (n + 1) = (0, ckD [(n, b), (n + 1, [])] cap st) := by
    have e : ¬ n = n + 1 := by omega
    have e2 : ¬ n + 1 < n := by omega
    have e3 : ¬ n + 1 < 0 := by omega
    simp [DiskM.create, ckD, AM.get, AM.set, AM.del, AM.ins, DiskM.sinks, DiskM.tick, e, e2, e3]
  have h2 : layM (ckD [(n, b), (n + 1, [])] cap st) (n + 1) f = (0, ckD [(n, b), (n + 1, f)] cap st) := by
    have e : ¬ n = n + 1 := by omega
    have e2 : ¬ n + 1 < n := by omega
    refine ck_append (b := []) ?_ ?_ ?_
    · simp [AM.get, e]
    · simp [AM.set, AM.del, AM.ins, e, e2]
    · simp [AM.sum]; omega
  have h3 : (ckD [(n, b), (n + 1, f)] cap st).delete n = (0, ckD [(n + 1, f)] cap st) := by
    have e : ¬ n + 1 = n := by omega
    have h1 : (ckD [(n, b), (n + 1, f)] cap st).has n = 0 := by simp [DiskM.has, ckD, AM.get]
    unfold DiskM.delete
    rw [if_neg (by rw [h1]; simp), if_neg (by simp [DiskM.sinks, ckD])]
    simp [DiskM.deleted, ckD, DiskM.tick, AM.del, e, DiskM.dropL]
  unfold freshM
  rw [h1, if_pos rfl]
  have h4 : layM (0, ckD [(n, b), (n + 1, [])] cap st).2 (n + 1) f = (0, ckD [(n, b), (n + 1, f)] cap st) := h2
  rw [h4, if_pos rfl, if_pos hn]
  exact h3
theorem put_first (hc : (f.length : Int) ≤ cap) : putM ⟨-1, 0, st, false⟩ (ckD [] cap st) true f = (0, ⟨0, 1, st, false⟩, ckD [(0, f)] cap st) := by
  have hl : (⟨-1, 0, st, false⟩ : ChkM).lays (ckD [] cap st) f = (0, ckD [(0, f)] cap st) := by
    unfold ChkM.lays
    rw [if_pos (show (⟨-1, 0, st, false⟩ : ChkM).next = true from rfl)]
    exact ck_fresh0 hc
  rw [putM_lays (by simp [offB, ckD]) ?_, hl]
  · rfl
  · have e : ¬ cap < (f.length : Int) := by omega
    simp [ChkM.full, ChkM.next, ckD, DiskM.total, AM.sum, e]
theorem put_more {m : Int} (hn : 0 ≤ n) (hm : m < 3) (hc : ((b.length + f.length : Nat) : Int) ≤ cap) : putM ⟨n, m, st, false⟩ (ckD [(n, b)] cap st) true f = (0, ⟨n, m + 1, st, false⟩, ckD [(n, b ++ f)] cap st) := by
  have hx : (⟨n, m, st, false⟩ : ChkM).next = false := by
    unfold ChkM.next
    rw [decide_eq_false (show ¬ n < 0 by omega), decide_eq_false (show ¬ 3 ≤ m by omega)]
    rfl
  have hl : (⟨n, m, st, false⟩ : ChkM).lays (ckD [(n, b)] cap st) f = (0, ckD [(n, b ++ f)] cap st) := by
    unfold ChkM.lays
    rw [hx, if_neg (by simp)]
    exact ck_lay hc
  rw [putM_lays (by simp [offB, ckD]) ?_, hl]
  · unfold ChkM.behind
    rw [hx]
    rfl
  · have e : ¬ cap - (b.length : Int) < (f.length : Int) := by omega
    unfold ChkM.full
    rw [hx]
    simp [ckD, DiskM.total, AM.sum, e]
theorem put_over (hn : 0 ≤ n) (hn1 : n + 1 < 1000) (hc : ((b.length + f.length : Nat) : Int) ≤ cap) : putM ⟨n, 3, st, false⟩ (ckD [(n, b)] cap st) true f = (0, ⟨n + 1, 1, st, false⟩, ckD [(n + 1, f)] cap st) := by
  have hx : (⟨n, 3, st, false⟩ : ChkM).next = true := by
    unfold ChkM.next
    rw [decide_eq_false (show ¬ n < 0 by omega)]
    rfl
  have hl : (⟨n, 3, st, false⟩ : ChkM).lays (ckD [(n, b)] cap st) f = (0, ckD [(n + 1, f)] cap st) := by
    unfold ChkM.lays
    rw [hx, if_pos rfl]
    exact ck_fresh hn hc
  rw [putM_lays (by simp [offB, ckD]) ?_, hl]
  · unfold ChkM.behind
    rw [hx]
    rfl
  · have e : ¬ cap - (b.length : Int) < (f.length : Int) := by omega
    have e2 : ¬ 1000 ≤ n + 1 := by omega
    unfold ChkM.full
    rw [hx]
    simp [ckD, DiskM.total, AM.sum, e, e2]
end
theorem ck_sync {fs : List (Int × By)} {cap st : Int} : (ckD fs cap st).sync = (0, ckD fs cap st) := by simp [DiskM.sync, DiskM.sinks, DiskM.tick, ckD]
theorem PtM.frame_len {p : PtM} (h : p.Ok) : p.frame.length ≤ 30012 := by unfold PtM.frame; rw [frameF_len]; have := PtM.bytes_len h; omega
end Go.Proofs.YtlgeijbgkipliaaGreatDoor

namespace Go.Proofs.YtlgeijbgkipliaaGreatDoor
open Go.RowKit
set_option maxRecDepth 1000000 in
theorem root51 : ptRoot 5 1 ≠ h3P 9 0 0 := by
  have h : (ptRoot 5 1).head? ≠ some 9 := by decide +kernel
  intro e
  rw [e] at h
  exact h rfl
theorem PtM.same_self (p : PtM) : p.same p = true := by simp [PtM.same]
def PtTo (w : World) (p : PtM) (e : Ending) (w' : World) : Prop :=
  ∃ a c b d, e = .returned (.tuple #[rngV (p.size : Int) (.slice a p.hs.length c), signedV (p.z : Int) p.root (p.i : Int) p.sig (.slice b 3 d)]) ∧
    Hid (Row w' 57 32 (.slice a p.hs.length c) (hcells p.hs) ∧ (∀ k, (Value.slice a p.hs.length c).ownBlock = some k → w.heap.size ≤ k) ∧ Row w' 57 32 (.slice b 3 d) (hcells p.path) ∧ (∀ k, (Value.slice b 3 d).ownBlock = some k → w.heap.size ≤ k) ∧ (∀ k, (Value.slice a p.hs.length c).ownBlock = some k → ¬ (Value.slice b 3 d).ownBlock = some k) ∧ Kept (fun _ => False) w w')
theorem pt_of2 (w : World) (sz sd : Nat) (hsz : sz < 65536) (hsd : sd < 256) (ht : Tab w) {p : PtM} (hp : PtM.of sz sd = p) : Calls Tryz.prog 21 #[.agg (ptC sz sd).toArray] w (PtTo w p) := by
  have hof := pt_of w sz sd hsz hsd ht
  have h32 := ptPath_32 (sd := sd)
  have h3 : (ptPath sd).length = 3 := rfl
  have em : ((sd : Int) % 8) = ((sd % 8 : Nat) : Int) := by omega
  unfold PtOf at hof
  rw [em] at hof
  clear em
  unfold PtM.of at hp
  generalize ptSize sz = zq at *
  generalize ptHs sz sd = hq at *
  generalize ptRoot sz sd = rq at *
  generalize ptSig sz sd = sq at *
  generalize ptPath sd = pq at *
  generalize sd % 8 = iq at *
  subst hp
  refine hof.mono ?_
  rintro e w' ⟨a, c, pb, rfl, H⟩
  have e : ∀ k, (Value.slice (some ⟨pb, 0, none⟩) 3 3).ownBlock = some k → k = pb := fun k q => by simp [Value.ownBlock] at q; exact q.symm
  exact ⟨a, c, _, _, rfl, Lib.hid ⟨H.out.1, fun k q => (H.out.2.1 k q).1, pathRow H.out.2.2.1 h32 h3, fun k q => by rw [e k q]; exact H.out.2.2.2.1, fun k q q2 => (H.out.2.1 k q).2 (e k q2), H.out.2.2.2.2⟩⟩
section
variable {w0 w w' : World} {d : Nat} {M : DiskM} {Os : List Og} {p : PtM}
theorem of_held (h : Owg w0 w d M Os) {u v : Value} (H : Row w' 57 32 u (hcells p.hs) ∧ (∀ k, u.ownBlock = some k → w.heap.size ≤ k) ∧ Row w' 57 32 v (hcells p.path) ∧ (∀ k, v.ownBlock = some k → w.heap.size ≤ k) ∧ (∀ k, u.ownBlock = some k → ¬ v.ownBlock = some k) ∧ Kept (fun _ => False) w w') :
    Owg w0 w' d M (.hrow u p.hs :: .hrow v p.path :: Os) :=
  h.add2 (x := .hrow u p.hs) (y := .hrow v p.path) H.2.2.2.2.2 H.1 H.2.2.1 H.2.1 H.2.2.2.1 H.2.2.2.2.1
theorem held_views {u v : Value} (h : ∀ w' M', Owg w0 w' d M' Os → Owg w0 w' d M' (.hrow u p.hs :: .hrow v p.path :: [])) : ∀ w' M', Owg w0 w' d M' Os → View w' 32 u (hcells p.hs) ∧ View w' 32 v (hcells p.path) := fun w' M' q =>
  ⟨Row.view (show Row w' 57 32 u (hcells p.hs) from (h w' M' q).has (x := .hrow u p.hs) (by simp)), Row.view (show Row w' 57 32 v (hcells p.path) from (h w' M' q).has (x := .hrow v p.path) (by simp))⟩
theorem signedC_splice {z : Int} {root root' : By} {i : Int} {s : ByteArray} {v : Value} (hr : root.length = 32) (hr' : root'.length = 32) : splice (signedC z root i s v) 1 (bytes8 root') = signedC z root' i s v := by
  have h1 : (bytes8 root).length = 32 := by rw [bytes8_len, hr]
  have h2 : (bytes8 root').length = 32 := by rw [bytes8_len, hr']
  unfold splice signedC
  rw [h2, List.cons_append, List.take_succ_cons, List.take_zero, show 1 + 32 = 32 + 1 from rfl, List.drop_succ_cons, List.drop_append_of_le_length (by omega), List.drop_of_length_le (by omega)]
  simp
theorem files_one {a : Option Addr} {n c : Nat} {x : Int} (h : Row w 3 1 (.slice a n c) (icells [x])) : n = 1 ∧ ∃ g, a = some ⟨g, 0, none⟩ ∧ w.cell? ⟨g, 0, none⟩ = some (.int .i64 x) := by
  rcases h with ⟨_, h⟩ | ⟨g, n', c', rest, e, h1, hb, h2, _⟩
  · simp [icells] at h
  · cases e
    have : n = 1 := by simp [icells] at h1; omega
    exact ⟨this, g, rfl, hb.cell rfl⟩
theorem Owg.dfile1 (h : Owg w0 w d M Os) {x : Int} {b : By} (hf : M.files = [(x, b)]) : Calls Tryz.prog 28 #[.pointer (some ⟨d, 0, none⟩)] w fun e w' => ∃ g c, e = .returned (.slice (some ⟨g, 0, none⟩) 1 c) ∧ w'.cell? ⟨g, 0, none⟩ = some (.int .i64 x) ∧ Owg w0 w' d M Os := by
  refine h.dfiles.mono ?_
  rintro e w' ⟨a, n, c, rfl, _, h1⟩
  have hr : Row w' 3 1 (.slice a n c) (icells (M.files.map (·.1))) := by
    have q := h1.has (x := .irow (.slice a n c) (M.files.map (·.1))) (List.mem_cons_self ..)
    exact q
  rw [hf] at hr
  obtain ⟨rfl, g, rfl, hc⟩ := files_one hr
  exact ⟨g, c, rfl, hc, h1.drop⟩
def ChkHold (w0 w : World) (d c : Nat) (M : DiskM) (file many st : Int) (p : PtM) (Os : List Og) : Prop :=
  ∃ a1 c1 b1 d1, Owg w0 w d M (.blk c (chkC d file many (p.cells (.slice a1 p.hs.length c1) (.slice b1 3 d1)) st false) 74 :: .hrow (.slice a1 p.hs.length c1) p.hs :: .hrow (.slice b1 3 d1) p.path :: Os)
end
end Go.Proofs.YtlgeijbgkipliaaGreatDoor

namespace Go.Proofs.YtlgeijbgkipliaaGreatDoor
open Go.RowKit
theorem odd_point {p q : PtM} (hp : PtM.of 5 1 = p) (hq : (⟨p.size, p.hs, p.z, h3P 9 0 0, p.i, p.sig, p.path⟩ : PtM) = q) : p.Ok ∧ p.may = true ∧ q.Ok ∧ q.may = false := by
  have h1 := PtM.of_ok 5 1
  have h2 := PtM.of_may 5 1
  have h3 := root51
  rw [show ptRoot 5 1 = (PtM.of 5 1).root from rfl] at h3
  rw [hp] at h1 h2 h3
  refine ⟨h1, h2, ?_, ?_⟩
  · rw [← hq]
    exact ⟨h1.h32, h1.hlen, h1.p32, h1.p3, h1.hok, h1.hsize, h3P_len _ _ _, h1.hz, h1.hi, h1.hsg⟩
  · have h4 := of_decide_eq_true h2
    rw [← hq]
    exact decide_eq_false (fun e => h3 (h4.2.trans e.2.symm))
theorem zed_facts {Z : List Value} (h : Z = signZ) : Z.length = 36 ∧ (Tryz.prog.info? 63).map (·.size) = some Z.toArray.size ∧ Z.toArray.all (·.oneCell') = true := by
  have hl : Z.length = 36 := by rw [h]; exact signZ_len
  refine ⟨hl, by rw [List.size_toArray, hl]; exact info_signed_, all_oneCell_toArray (fun v hv => ?_)⟩
  rw [h, List.mem_append, List.mem_cons] at hv
  rcases hv with (rfl | hv) | hv
  · rfl
  · rw [zeros, List.mem_replicate] at hv
    rw [hv.2]; rfl
  · simp at hv
    rcases hv with rfl | rfl | rfl <;> rfl
theorem signed_new (w : World) {y : List Value} (hy : y.length = 36) : (w.alloc (.cells signZ.toArray 63)).there w.heap.size 0 y.toArray.size ∧ ∀ W2, (w.alloc (.cells signZ.toArray 63)).setCells w.heap.size 0 y = W2 → Blk W2 w.heap.size y 63 ∧ Kept (fun _ => False) w W2 := by
  have hb := Blk.new w signZ 63
  refine ⟨hb.there 0 _ (by rw [List.size_toArray, hy, signZ_len]; omega), fun W2 e => ?_⟩
  have b2 := hb.setCells 0 y (by rw [hy, signZ_len]; omega)
  rw [splice_whole (by rw [hy, signZ_len])] at b2
  have k2 := kept_setCells (w.alloc (.cells signZ.toArray 63)) w.heap.size 0 y
  rw [e] at b2 k2
  exact ⟨b2, ((Kept.refl (fun _ => False) w).alloc _).then_ k2 (fun i hi q => by omega)⟩
theorem root_set {w0 w W8 : World} {d b : Nat} {M : DiskM} {Os : List Og} {z : Int} {root root' : By} {i : Int} {s : ByteArray} {v : Value} (h : Owg w0 w d M (.blk b (signedC z root i s v) 63 :: Os)) (hr : root.length = 32) (hr' : root'.length = 32) (hW : w.setCells b 1 (bytes8 root') = W8) : Owg w0 W8 d M (.blk b (signedC z root' i s v) 63 :: Os) := by
  have h1 := h.has (x := .blk b (signedC z root i s v) 63) (List.mem_cons_self ..)
  have h2 := Blk.setCells (w := w) h1 1 (bytes8 root') (by rw [signedC_len hr, bytes8_len, hr']; omega)
  rw [signedC_splice hr hr', hW] at h2
  have hk := kept_setCells w b 1 (bytes8 root')
  rw [hW] at hk
  exact h.turn hk h2
theorem put_odd {w0 W : World} {d c : Nat} {p q : PtM} {a b : Option Addr} {ca cb : Nat} {x y z : Og} (hq : (⟨p.size, p.hs, p.z, h3P 9 0 0, p.i, p.sig, p.path⟩ : PtM) = q) (h1 : q.Ok ∧ q.may = false) (h : Owg w0 W d (ckD [] 200000 0) (.blk c (chkZ d 0) 74 :: x :: y :: z :: .hrow (.slice a p.hs.length ca) p.hs :: .hrow (.slice b 3 cb) p.path :: [])) :
    Calls Tryz.prog 23 #[.pointer (some ⟨c, 0, none⟩), rngV (p.size : Int) (.slice a p.hs.length ca), signedV (p.z : Int) (h3P 9 0 0) (p.i : Int) p.sig (.slice b 3 cb)] W fun e w' => e = .returned (.int .i64 2) ∧ Owg w0 w' d (ckD [] 200000 0) (.blk c (chkZ d 0) 74 :: x :: y :: z :: .hrow (.slice a p.hs.length ca) p.hs :: .hrow (.slice b 3 cb) p.path :: []) := by
  have hput := chk_put (C := ⟨-1, 0, 0, false⟩) (C' := ⟨-1, 0, 0, false⟩) (M' := ckD [] 200000 0) (y := 2) (P := pointZ) (p := q) (a := a) (b := b) (ca := ca) (cb := cb) h pointZ_len h1.1 (by
    subst hq
    exact held_views (fun w' M' q => q.drop.drop.drop)) ⟨by decide, by decide⟩ ⟨by decide, by decide⟩ (by show 0 + 0 < _; omega) (by rw [h1.2]; exact putM_arg rfl)
  subst hq
  refine hput.mono ?_
  rintro e w' ⟨rfl, _, h2⟩
  exact ⟨rfl, (h2 (by decide)).out⟩
theorem put_one {w0 W : World} {d c : Nat} {p : PtM} {a b : Option Addr} {ca cb : Nat} {x y z : Og} (hp : p.Ok) (hm : p.may = true) (h : Owg w0 W d (ckD [] 200000 0) (.blk c (chkZ d 0) 74 :: x :: y :: z :: .hrow (.slice a p.hs.length ca) p.hs :: .hrow (.slice b 3 cb) p.path :: [])) :
    Calls Tryz.prog 23 #[.pointer (some ⟨c, 0, none⟩), rngV (p.size : Int) (.slice a p.hs.length ca), signedV (p.z : Int) p.root (p.i : Int) p.sig (.slice b 3 cb)] W fun e w' => e = .returned (.int .i64 0) ∧ ChkHold w0 w' d c (ckD [(0, p.frame)] 200000 0) 0 1 0 p [] := by
  have hl := PtM.frame_len hp
  refine (chk_put (C := ⟨-1, 0, 0, false⟩) (C' := ⟨0, 1, 0, false⟩) (M' := ckD [(0, p.frame)] 200000 0) (y := 0) (P := pointZ) (p := p) (a := a) (b := b) (ca := ca) (cb := cb) h pointZ_len hp (held_views (fun w' M' q => q.drop.drop.drop)) ⟨by decide, by decide⟩ ⟨by decide, by decide⟩ (by show 0 + 0 < _; omega) (by rw [hm]; exact put_first (by omega))).mono ?_
  rintro e w' ⟨rfl, h2, _⟩
  obtain ⟨a1, c1, b1, d1, h3⟩ := (h2 rfl).out
  exact ⟨rfl, a1, c1, b1, d1, h3.sub (((List.nil_sublist _).cons_cons _).cons_cons _ |>.cons_cons _)⟩
theorem hold_files {w0 W : World} {d c : Nat} {file many st : Int} {p : PtM} {x : Int} {b : By} {cap s : Int} (h : ChkHold w0 W d c (ckD [(x, b)] cap s) file many st p []) : Calls Tryz.prog 28 #[.pointer (some ⟨d, 0, none⟩)] W fun e w' => ∃ g c1, e = .returned (.slice (some ⟨g, 0, none⟩) 1 c1) ∧ w'.cell? ⟨g, 0, none⟩ = some (.int .i64 x) ∧ ChkHold w0 w' d c (ckD [(x, b)] cap s) file many st p [] := by
  obtain ⟨a1, c1, b1, d1, h⟩ := h
  refine (h.dfile1 rfl).mono ?_
  rintro e w' ⟨g, c2, rfl, h1, h2⟩
  exact ⟨g, c2, rfl, h1, a1, c1, b1, d1, h2⟩
theorem put_again {w0 W : World} {d c : Nat} {n m cap st : Int} {B : By} {P : List Value} {p : PtM} {a b : Option Addr} {ca cb : Nat} {Os : List Og} (hp : p.Ok) (hm : p.may = true) (h : Owg w0 W d (ckD [(n, B)] cap st) (.blk c (chkC d n m P st false) 74 :: .hrow (.slice a p.hs.length ca) p.hs :: .hrow (.slice b 3 cb) p.path :: Os)) (hP : P.length = 38) (n0 : 0 ≤ n) (n1 : n + 1 < 1000) (m0 : 0 ≤ m) (m1 : m ≤ 3) (hc : ((B.length + p.frame.length : Nat) : Int) ≤ cap) :
    Calls Tryz.prog 23 #[.pointer (some ⟨c, 0, none⟩), rngV (p.size : Int) (.slice a p.hs.length ca), signedV (p.z : Int) p.root (p.i : Int) p.sig (.slice b 3 cb)] W fun e w' => e = .returned (.int .i64 0) ∧ ∃ n' m' B', ((m < 3 ∧ n' = n ∧ m' = m + 1 ∧ B' = B ++ p.frame) ∨ (m = 3 ∧ n' = n + 1 ∧ m' = 1 ∧ B' = p.frame)) ∧ ChkHold w0 w' d c (ckD [(n', B')] cap st) n' m' st p (.hrow (.slice a p.hs.length ca) p.hs :: .hrow (.slice b 3 cb) p.path :: Os) := by
  have hv : ∀ w' M', Owg w0 w' d M' (.hrow (.slice a p.hs.length ca) p.hs :: .hrow (.slice b 3 cb) p.path :: Os) → View w' 32 (.slice a p.hs.length ca) (hcells p.hs) ∧ View w' 32 (.slice b 3 cb) (hcells p.path) := held_views (fun w' M' q => q.sub (((List.nil_sublist _).cons_cons _).cons_cons _))
  by_cases h3 : m < 3
  · refine (chk_put (C := ⟨n, m, st, false⟩) (C' := ⟨n, m + 1, st, false⟩) (M' := ckD [(n, B ++ p.frame)] cap st) (y := 0) (P := P) (p := p) (a := a) (b := b) (ca := ca) (cb := cb) h hP hp hv ⟨by show -1 ≤ n; omega, by show n ≤ _; omega⟩ ⟨m0, by show m ≤ _; omega⟩ (by show 1 + 0 < _; omega) (by rw [hm]; exact put_more n0 h3 hc)).mono ?_
    rintro e w' ⟨rfl, h2, _⟩
    obtain ⟨a1, c1, b1, d1, h4⟩ := (h2 rfl).out
    exact ⟨rfl, n, m + 1, B ++ p.frame, Or.inl ⟨h3, rfl, rfl, rfl⟩, a1, c1, b1, d1, h4⟩
  · obtain rfl : m = 3 := by omega
    refine (chk_put (C := ⟨n, 3, st, false⟩) (C' := ⟨n + 1, 1, st, false⟩) (M' := ckD [(n + 1, p.frame)] cap st) (y := 0) (P := P) (p := p) (a := a) (b := b) (ca := ca) (cb := cb) h hP hp hv ⟨by show -1 ≤ n; omega, by show n ≤ _; omega⟩ ⟨by show (0 : Int) ≤ 3; omega, by show (3 : Int) ≤ _; omega⟩ (by show 1 + 0 < _; omega) (by rw [hm]; exact put_over n0 n1 hc)).mono ?_
    rintro e w' ⟨rfl, h2, _⟩
    obtain ⟨a1, c1, b1, d1, h4⟩ := (h2 rfl).out
    exact ⟨rfl, n + 1, 1, p.frame, Or.inr ⟨rfl, rfl, rfl, rfl⟩, a1, c1, b1, d1, h4⟩
def LoopC (w : World) (d c k : Nat) (W : World) : Prop :=
  ∃ (n m : Int) (B : By) (q : PtM), q.Ok ∧ ChkHold w W d c (ckD [(n, B)] 200000 0) n m 0 q [] ∧ B.length ≤ 30012 * (k + 1) ∧ ((k < 3 ∧ n = 0 ∧ m = (k : Int) + 1) ∨ (k = 3 ∧ n = 1 ∧ m = 1 ∧ q = PtM.of 8 2))
theorem LoopC.put {w W : World} {d c k : Nat} {p : PtM} {a b : Option Addr} {ca cb : Nat} (hk : k < 3) (hp : p.Ok) (hm : p.may = true) (h8 : k = 2 → p = PtM.of 8 2) {n m : Int} {B : By} {P : List Value} (hP : P.length = 38) {x y : Og} (h : Owg w W d (ckD [(n, B)] 200000 0) (.blk c (chkC d n m P 0 false) 74 :: .hrow (.slice a p.hs.length ca) p.hs :: .hrow (.slice b 3 cb) p.path :: x :: y :: [])) (hB : B.length ≤ 30012 * (k + 1)) (hn : n = 0) (hm2 : m = (k : Int) + 1) :
    Calls Tryz.prog 23 #[.pointer (some ⟨c, 0, none⟩), rngV (p.size : Int) (.slice a p.hs.length ca), signedV (p.z : Int) p.root (p.i : Int) p.sig (.slice b 3 cb)] W fun e w' => e = .returned (.int .i64 0) ∧ Hid (LoopC w d c (k + 1) w') := by
  have hl := PtM.frame_len hp
  refine (put_again hp hm h hP (by omega) (by omega) (by omega) (by omega) (by omega)).mono ?_
  rintro e w' ⟨rfl, n', m', B', hc, a1, c1, b1, d1, h2⟩
  refine ⟨rfl, Lib.hid ⟨n', m', B', p, hp, ⟨a1, c1, b1, d1, h2.sub ((((List.nil_sublist _).cons_cons _).cons_cons _).cons_cons _)⟩, ?_, ?_⟩⟩
  · rcases hc with ⟨_, _, _, rfl⟩ | ⟨_, _, _, rfl⟩
    · rw [List.length_append]; omega
    · omega
  · rcases hc with ⟨h3, rfl, rfl, _⟩ | ⟨h3, rfl, rfl, _⟩
    · exact Or.inl ⟨by omega, hn, by omega⟩
    · exact Or.inr ⟨by omega, by omega, rfl, h8 (by omega)⟩
theorem hold_is {w0 W : World} {d c : Nat} {M : DiskM} {file many st : Int} {q : PtM} {Os : List Og} (h : ChkHold w0 W d c M file many st q Os) (hq : q.Ok) (hf : 0 ≤ file) (sz sd : Nat) (hsz : sz < 65536) (hsd : sd < 256) :
    Calls Tryz.prog 29 #[.agg (ptC sz sd).toArray, .pointer (some ⟨c, 0, none⟩)] W fun e w' => e = .returned (.bool (q.same (PtM.of sz sd))) ∧ ChkHold w0 w' d c M file many st q Os := by
  obtain ⟨a1, c1, b1, d1, h⟩ := h
  have hr : Row W 57 32 (.slice a1 q.hs.length c1) (hcells q.hs) := h.has (x := .hrow (.slice a1 q.hs.length c1) q.hs) (by simp)
  have hr2 : Row W 57 32 (.slice b1 3 d1) (hcells q.path) := h.has (x := .hrow (.slice b1 3 d1) q.path) (by simp)
  refine (is_any hq a1 b1 c1 d1 sz sd hsz hsd (chk_blk h) hf hr.view hr2.view h.tab).mono ?_
  rintro e w' ⟨rfl, hk⟩
  exact ⟨rfl, a1, c1, b1, d1, h.same hk⟩
end Go.Proofs.YtlgeijbgkipliaaGreatDoor

namespace Go.Proofs.YtlgeijbgkipliaaGreatDoor
open Go.RowKit
set_option maxRecDepth 100000 in
set_option maxHeartbeats 8000000 in
theorem checked_any (w : World) (ht : Tab w) : Calls Tryz.prog 27 #[] w fun e w' => e = .returned (.bool true) ∧ Kept (fun _ => False) w w' := by
  obtain ⟨p, hp⟩ : ∃ p, PtM.of 5 1 = p := ⟨_, rfl⟩
  obtain ⟨q, hq⟩ : ∃ q, (⟨p.size, p.hs, p.z, h3P 9 0 0, p.i, p.sig, p.path⟩ : PtM) = q := ⟨_, rfl⟩
  have HPQ := Lib.hid (odd_point hp hq)
  have HT := Lib.hid ht
  have HE := Lib.hid (And.intro hp hq)
  clear ht
  go_enter Tryz.func27, Tryz.ntmps27
  go_upto_region 2 with (go_at_call 9; refine (new_ok _ 200000 (by omega) (by omega)).mono ?_; rintro e w1 hnew; obtain ⟨d, rfl, hA1, k1⟩ := Apart.made _ hnew; have HO1 : Hid (Owg w w1 d (ckD [] 200000 0) []) := Lib.hid (Owg.made hA1 HT.out k1); clear hnew hA1 k1)
  have HOP := Lib.hid (chk_open0 HO1.out rfl rfl ck_sync)
  go_upto_region 3 with (go_at_call 25; refine HOP.out.mono ?_; rintro e w2 ⟨c, rfl, h2⟩; have HO2 : Hid (Owg w w2 d (ckD [] 200000 0) (.blk c (chkZ d 0) 74 :: [])) := Lib.hid h2; clear h2)
  have HLA := Lib.hid (chk_last0 (chk_blk HO2.out) (by decide))
  obtain ⟨Z, hZ⟩ : ∃ Z, Z = signZ := ⟨_, rfl⟩
  rw [← hZ] at HLA
  have HZ := Lib.hid (zed_facts hZ)
  clear hZ
  go_upto_region 4 with first
    | (go_at_call 22; refine HLA.out.mono ?_; rintro e w3 ⟨rfl, k3⟩; have HS := Lib.hid (two_stored w3 [.int .i64 0, .slice none 0 0] Z HZ.out.1); have HO3 := Lib.hid (HO2.out.same k3); clear k3)
    | ((with_reducible show wpList _ _ _ (⟨none, .store _ (.tmp 6) _, _, _, _, _⟩ :: _) _ _); refine wpList_store_mid rfl 63 _ _ rfl (w3.heap.size + 1) 0 Z.toArray rfl rfl HS.out.1 HZ.out.2.1 HZ.out.2.2 ?_)
  generalize hW4 : World.setCells _ _ _ _ = W4
  have HO4 := Lib.hid (HO3.out.same (HS.out.2 W4 hW4).2.2)
  clear hW4 HS HO3 HLA HO2 HOP HO1
  have HOF := Lib.hid (pt_of2 W4 5 1 (by decide) (by decide) HO4.out.tab hp)
  have hr32 : p.root.length = 32 := HPQ.out.1.hr
  go_upto_region 7 with first
    | (go_at_call 21; refine HOF.out.mono ?_; rintro e w5 ⟨a5, c5, b5, d5, rfl, H5⟩; have HS := Lib.hid (two_stored w5 [.int .i64 (p.size : Int), .slice a5 p.hs.length c5] (signedC (p.z : Int) p.root (p.i : Int) p.sig (.slice b5 3 d5)) (signedC_len hr32)); have HO5 := Lib.hid (of_held HO4.out H5.out))
    | ((with_reducible show wpList _ _ _ (⟨none, .store _ (.tmp 9) _, _, _, _, _⟩ :: _) _ _); refine wpList_store_mid rfl 63 _ _ rfl (w5.heap.size + 1) 0 (signedC (p.z : Int) p.root (p.i : Int) p.sig (.slice b5 3 d5)).toArray rfl rfl HS.out.1 (info_signed_of hr32) (all_oneCell_toArray (signed_one _ _ _ _ _ rfl)) ?_)
  generalize hW6 : World.setCells _ _ _ _ = W6
  have H6 := Lib.hid (HS.out.2 W6 hW6)
  have h6 := HO5.out.add2 (x := .blk w5.heap.size [.int .i64 (p.size : Int), .slice a5 p.hs.length c5] 55) (y := .blk (w5.heap.size + 1) (signedC (p.z : Int) p.root (p.i : Int) p.sig (.slice b5 3 d5)) 63) H6.out.2.2 H6.out.1 H6.out.2.1 (fun k q => by have : k = w5.heap.size := q; omega) (fun k q => by have : k = w5.heap.size + 1 := q; omega) (fun k q q2 => by have : k = w5.heap.size := q; have : k = w5.heap.size + 1 := q2; omega)
  clear hW6 HS HO5 HOF HO4 H5
  generalize w5.heap.size + 1 = p9 at *
  generalize w5.heap.size = p8 at *
  have HO6 : Hid (Owg w W6 d (ckD [] 200000 0) (.blk c (chkZ d 0) 74 :: .blk p8 [.int .i64 (p.size : Int), .slice a5 p.hs.length c5] 55 :: .blk p9 (signedC (p.z : Int) p.root (p.i : Int) p.sig (.slice b5 3 d5)) 63 :: .hrow (.slice a5 p.hs.length c5) p.hs :: .hrow (.slice b5 3 d5) p.path :: [])) := Lib.hid (h6.perm (List.perm_middle (l₁ := [_, _, _, _])))
  clear h6
  have i9 : (Tryz.prog.info? 63).map (·.size) = some (signedC (p.z : Int) p.root (p.i : Int) p.sig (.slice b5 3 d5)).length := by rw [signedC_len hr32]; exact info_signed_
  have HR9 := Lib.hid (And.intro H6.out.2.1.range0 i9)
  clear i9
  have HN := Lib.hid (signed_new W6 (signedC_len (size := (p.z : Int)) (root := p.root) (i := (p.i : Int)) (s := p.sig) (v := .slice b5 3 d5) hr32))
  go_upto_region 8 with first
    | ((with_reducible show wpList _ _ _ (⟨some 43, _, _, _, _, _⟩ :: _) _ _); refine wpList_load_mid rfl 63 _ rfl p9 0 rfl _ _ HR9.out.1 Tryz.underlying63 rfl HR9.out.2 ?_)
    | ((with_reducible show wpList _ _ _ (⟨none, .store _ (.tmp 10) _, _, _, _, _⟩ :: _) _ _); refine wpList_store_mid rfl 63 _ _ rfl W6.heap.size 0 (signedC (p.z : Int) p.root (p.i : Int) p.sig (.slice b5 3 d5)).toArray rfl rfl HN.out.1 (info_signed_of hr32) (all_oneCell_toArray (signed_one _ _ _ _ _ rfl)) ?_)
  generalize hW7 : World.setCells _ _ _ _ = W7
  have H7 := Lib.hid (HN.out.2 W7 hW7)
  have HO7 := Lib.hid (HO6.out.add (x := .blk W6.heap.size (signedC (p.z : Int) p.root (p.i : Int) p.sig (.slice b5 3 d5)) 63) H7.out.2 H7.out.1 (fun k q => by have : k = W6.heap.size := q; omega))
  have HR7 := Lib.hid (And.intro (H6.out.1.kept H7.out.2 id) (And.intro (H6.out.2.1.kept H7.out.2 id) H7.out.1))
  generalize W6.heap.size = p10 at *
  clear hW7 HN HR9 H6 H7
  simp only [Act.put]
  refine wp_region_lit ?_
  refine wpList_plain rfl (fun K hK => ?_)
  go_simp
  refine hK _ _ ?_
  clear hK K
  refine wpList_plain rfl (fun K hK => ?_)
  go_simp
  refine hK _ _ ?_
  clear hK K
  refine wpList_plain rfl (fun K hK => ?_)
  go_simp
  refine hK _ _ ?_
  clear hK K
  refine wpList_store_mid rfl 57 _ _ rfl p10 1 (bytes8 (h3P 9 0 0)).toArray rfl (by rfl) (HR7.out.2.2.there 1 32 (by rw [signedC_len hr32]; omega)) (by kernel_rfl) (all_oneCell_toArray (fun y hy => u8_oneCell y hy)) ?_
  generalize hW8 : World.setCells _ _ _ _ = W8
  have HO8 := Lib.hid (root_set HO7.out hr32 (h3P_len 9 0 0) hW8).two
  have HP1 := Lib.hid (put_odd hq HPQ.out.2.2 HO8.out)
  have HP2 := Lib.hid (fun w9 (h : Owg w w9 d (ckD [] 200000 0) (.blk c (chkZ d 0) 74 :: .blk p10 (signedC (p.z : Int) (h3P 9 0 0) (p.i : Int) p.sig (.slice b5 3 d5)) 63 :: .blk p8 [.int .i64 (p.size : Int), .slice a5 p.hs.length c5] 55 :: .blk p9 (signedC (p.z : Int) p.root (p.i : Int) p.sig (.slice b5 3 d5)) 63 :: .hrow (.slice a5 p.hs.length c5) p.hs :: .hrow (.slice b5 3 d5) p.path :: [])) => put_one HPQ.out.1 HPQ.out.2.1 h)
  have HVW := Lib.hid (fun w9 (h : Owg w w9 d (ckD [] 200000 0) (.blk c (chkZ d 0) 74 :: .blk p10 (signedC (p.z : Int) (h3P 9 0 0) (p.i : Int) p.sig (.slice b5 3 d5)) 63 :: .blk p8 [.int .i64 (p.size : Int), .slice a5 p.hs.length c5] 55 :: .blk p9 (signedC (p.z : Int) p.root (p.i : Int) p.sig (.slice b5 3 d5)) 63 :: .hrow (.slice a5 p.hs.length c5) p.hs :: .hrow (.slice b5 3 d5) p.path :: [])) => (show (w9.cell? ⟨p8, 0, none⟩ = some (.int .i64 (p.size : Int)) ∧ w9.cell? ⟨p8, 1, none⟩ = some (.slice a5 p.hs.length c5)) ∧ w9.rangeAt p9 0 (signedC (p.z : Int) p.root (p.i : Int) p.sig (.slice b5 3 d5)) ∧ w9.rangeAt p10 0 (signedC (p.z : Int) (h3P 9 0 0) (p.i : Int) p.sig (.slice b5 3 d5)) from
    ⟨⟨Blk.cell (h.has (x := .blk p8 [.int .i64 (p.size : Int), .slice a5 p.hs.length c5] 55) (by simp)) (i := 0) rfl, Blk.cell (h.has (x := .blk p8 [.int .i64 (p.size : Int), .slice a5 p.hs.length c5] 55) (by simp)) (i := 1) rfl⟩, Blk.range0 (h.has (x := .blk p9 (signedC (p.z : Int) p.root (p.i : Int) p.sig (.slice b5 3 d5)) 63) (by simp)), Blk.range0 (h.has (x := .blk p10 (signedC (p.z : Int) (h3P 9 0 0) (p.i : Int) p.sig (.slice b5 3 d5)) 63) (by simp))⟩))
  have v80 := (HVW.out W8 HO8.out).1.1
  have v81 := (HVW.out W8 HO8.out).1.2
  have HR10 := Lib.hid (HVW.out W8 HO8.out).2.2
  have is9 : (Tryz.prog.info? 63).map (·.size) = some (signedC (p.z : Int) p.root (p.i : Int) p.sig (.slice b5 3 d5)).length := by rw [signedC_len hr32]; exact info_signed_
  have is10 : (Tryz.prog.info? 63).map (·.size) = some (signedC (p.z : Int) (h3P 9 0 0) (p.i : Int) p.sig (.slice b5 3 d5)).length := by rw [signedC_len (h3P_len 9 0 0)]; exact info_signed_
  have IS := Lib.hid (And.intro is9 is10)
  clear hW8 HO7 HO6 HR7 is9 is10 hp hq
  go_upto_region 11 with first
    | ((with_reducible show wpList _ _ _ (⟨some 49, _, _, _, _, _⟩ :: _) _ _); refine wpList_load_mid rfl 63 _ rfl p10 0 rfl _ _ HR10.out Tryz.underlying63 rfl IS.out.2 ?_)
    | (go_at_call 23; with_reducible refine HP1.out.mono ?_; rintro e w9 ⟨rfl, h9⟩; have HO9 := Lib.hid h9; have v90 := (HVW.out w9 h9).1.1; have v91 := (HVW.out w9 h9).1.2; have HR9 := Lib.hid (HVW.out w9 h9).2.1; clear h9)
    | ((with_reducible show wpList _ _ _ (⟨some 55, _, _, _, _, _⟩ :: _) _ _); refine wpList_load_wanted (by rfl) 63 _ rfl p9 0 rfl _ _ HR9.out Tryz.underlying63 rfl IS.out.1 ?_)
    | (go_at_call 23; refine (HP2.out w9 HO9.out).mono ?_; rintro e w10 ⟨rfl, h10⟩; have HO10 := Lib.hid h10; clear h10)
    | (go_at_call 28; refine (hold_files HO10.out).mono ?_; rintro e w11 ⟨g1, c11, rfl, hg1, h11⟩; have HO11 := Lib.hid h11; clear h11)
    | (go_at_call 28; refine (hold_files HO11.out).mono ?_; rintro e w12 ⟨g2, c12, rfl, hg2, h12⟩; have HO12 := Lib.hid h12; clear h12)
  have HJ := Lib.hid (show LoopC w d c 0 w12 from ⟨0, 1, p.frame, p, HPQ.out.1, HO12.out, by have := PtM.frame_len HPQ.out.1; omega, Or.inl ⟨by omega, rfl, rfl⟩⟩)
  clear HO12 HO11 HO10 HO9 HO8 HP1 HP2 HVW HR10 HR9 IS hg1 hg2 v80 v81 v90 v91
  go_wp2_with fail
  go_loopw [11] (fun x wr => ∃ k : Nat, k ≤ 3 ∧ x = .int .i64 (k : Int) ∧ Hid (LoopC w d c k wr)) (fun x _ => 3 - (intOf x).toNat)
  case atStart => exact ⟨0, by omega, rfl, HJ⟩
  case round =>
    obtain ⟨k, hk, rfl, HR⟩ := hrel
    by_cases hlt : k < 3
    · have y1 : decide ((k : Int) < 3) = true := decide_eq_true (by omega)
      obtain ⟨n, m, B, q1, HQ, ⟨a1, c1, b1, d1, HO⟩, hB, hc⟩ := HR.out
      obtain ⟨hn, hm⟩ : n = 0 ∧ m = (k : Int) + 1 := by omega
      have hP1 := q1.cells_len HQ (.slice a1 q1.hs.length c1) (.slice b1 3 d1)
      generalize q1.cells (.slice a1 q1.hs.length c1) (.slice b1 3 d1) = P1 at *
      obtain ⟨p1, hp1⟩ : ∃ p1, PtM.of (6 + k) 2 = p1 := ⟨_, rfl⟩
      have hok := PtM.of_ok (6 + k) 2
      have hmay := PtM.of_may (6 + k) 2
      rw [hp1] at hok hmay
      have h8 : k = 2 → p1 = PtM.of 8 2 := fun e => by rw [← hp1, e]
      have HOF := Lib.hid (pt_of2 wr (6 + k) 2 (by omega) (by decide) HO.tab hp1)
      have HX := Lib.hid (And.intro hok (And.intro hmay (And.intro h8 (And.intro hP1 (And.intro HO (And.intro hB (And.intro hn hm)))))))
      have hr1 : p1.root.length = 32 := hok.hr
      have hw6 : IntKind.u16.wrap (6 + (k : Int)) = ((6 + k : Nat) : Int) := by
        simp only [IntKind.wrap, IntKind.bits, IntKind.signed]
        simp
        omega
      clear hp1 hok hmay h8 hP1 HO hB hn hm HQ hc HR
      go_upto_region 15 with first
        | (go_at_call 21; refine HOF.out.mono ?_; rintro e w5 ⟨a6, c6, b6, d6, rfl, H5⟩; have HS := Lib.hid (two_stored w5 [.int .i64 (p1.size : Int), .slice a6 p1.hs.length c6] (signedC (p1.z : Int) p1.root (p1.i : Int) p1.sig (.slice b6 3 d6)) (signedC_len hr1)))
        | ((with_reducible show wpList _ _ _ (⟨none, .store _ (.tmp 13) _, _, _, _, _⟩ :: _) _ _); refine wpList_store_mid rfl 63 _ _ rfl (w5.heap.size + 1) 0 (signedC (p1.z : Int) p1.root (p1.i : Int) p1.sig (.slice b6 3 d6)).toArray rfl rfl HS.out.1 (info_signed_of hr1) (all_oneCell_toArray (signed_one _ _ _ _ _ rfl)) ?_)
      generalize hW6 : World.setCells _ _ _ _ = W6
      have H6 := Lib.hid (HS.out.2 W6 hW6)
      have h6 := ((of_held HX.out.2.2.2.2.1 H5.out).same H6.out.2.2).perm (List.perm_middle (l₁ := [_, _]))
      have HPT := Lib.hid (LoopC.put hlt HX.out.1 HX.out.2.1 HX.out.2.2.1 HX.out.2.2.2.1 h6 HX.out.2.2.2.2.2.1 HX.out.2.2.2.2.2.2.1 HX.out.2.2.2.2.2.2.2)
      have v0 := H6.out.1.cell (i := 0) rfl
      have v1 := H6.out.1.cell (i := 1) rfl
      have is1 : (Tryz.prog.info? 63).map (·.size) = some (signedC (p1.z : Int) p1.root (p1.i : Int) p1.sig (.slice b6 3 d6)).length := by rw [signedC_len hr1]; exact info_signed_
      have HR6 := Lib.hid (And.intro H6.out.2.1.range0 is1)
      clear h6 HX H6 HS H5 HOF hW6 is1 hw6
      go_wp2_with first
        | ((with_reducible show wpList _ _ _ (⟨some 86, _, _, _, _, _⟩ :: _) _ _); refine wpList_load_mid rfl 63 _ rfl (w5.heap.size + 1) 0 rfl _ _ HR6.out.1 Tryz.underlying63 rfl HR6.out.2 ?_)
        | (go_at_call 23; refine HPT.out.mono ?_; rintro e w7 ⟨rfl, HL7⟩)
      go_roundw
      case rel => exact ⟨k + 1, by omega, by go_num, HL7⟩
      case measure => simp [intOf]; omega
    · obtain rfl : k = 3 := by omega
      have y1 : decide (((3 : Nat) : Int) < 3) = false := by decide
      obtain ⟨n, m, B, q1, HQ, HH, hB, hc⟩ := HR.out
      obtain ⟨hn, hm, hq8⟩ : n = 1 ∧ m = 1 ∧ q1 = PtM.of 8 2 := by
        rcases hc with ⟨h, _⟩ | ⟨_, h⟩
        · omega
        · exact h
      subst hn hm
      have HHO := Lib.hid HH
      have HQ8 := Lib.hid (And.intro HQ hq8)
      clear hc hB HH HR hq8 HQ
      go_wp2_with first
        | (go_at_call 28; refine (hold_files HHO.out).mono ?_; rintro e w13 ⟨g3, c13, rfl, hg3, h13⟩; have HO13 := Lib.hid h13; clear h13)
        | (go_at_call 28; refine (hold_files HO13.out).mono ?_; rintro e w14 ⟨g4, c14, rfl, hg4, h14⟩; have HO14 := Lib.hid h14; clear h14)
        | (go_at_call 29; refine (hold_is HO14.out HQ8.out.1 (by decide) 8 2 (by decide) (by decide)).mono ?_; rintro e w15 ⟨rfl, k15⟩)
      go_ret
      obtain ⟨a9, c9, b9, d9, h9⟩ := k15
      exact ⟨by rw [HQ8.out.2, PtM.same_self]; rfl, h9.old⟩
end Go.Proofs.YtlgeijbgkipliaaGreatDoor
