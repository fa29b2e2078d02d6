/- RK7 RK8 RK9 -/
import Derived.Test.YtdmedbhbefdnkaaGreatDoorUKeyringOpen34
import Derived.Test.YtdmedbhbefdnkaaGreatDoorUKeyringOpen10
import Derived.Test.YtdmedbhbefdnkaaGreatDoorUKeyringOpen46
import Derived.Test.YtdmedbhbefdnkaaGreatDoorUKeyringOpen48
import Derived.Test.YtdmedbhbefdnkaaGreatDoorUKeyringOpen41
import Derived.Test.YtdmedbhbefdnkaaGreatDoorUKeyringOpen45
import Derived.Test.YtdmedbhbefdnkaaGreatDoorUKeyringOpen47
import Derived.Test.YtdmedbhbefdnkaaGreatDoorUKeyringOpen13
import Derived.Test.YtdmedbhbefdnkaaGreatDoorUKeyringOpen38
import Derived.Test.YtdmedbhbefdnkaaGreatDoorUKeyringOpen28
set_option linter.unusedVariables false
set_option linter.unusedSimpArgs false
namespace Go.Proofs.YtdmedbhbefdnkaaGreatDoor
open Go.RowKit
theorem Blk.cellsT {w : World} {b : Nat} {c : List Value} {t : TypeId} (h : Blk w b c t) : CellsT w b t := ⟨_, _, h⟩
section
variable {w W W' : World} {r q : Nat} {M M2 : DiskM} {x y : Value} {c : List Value}
theorem RefAt.cellsT (h : RefAt w r M x y) {k : Nat} (hk : refOwn r x y k) : ∃ t, CellsT w k t ∧ (t = 82 ∨ t = 87 ∨ t = 3) := by
  obtain ⟨R, h1, h2⟩ := h
  rcases hk with rfl | hk | hk
  · exact ⟨_, h1.blk.cellsT, Or.inl rfl⟩
  · exact ⟨_, h1.files.cellsT hk, Or.inr (Or.inl rfl)⟩
  · exact ⟨_, h1.loose.cellsT hk, Or.inr (Or.inr rfl)⟩
theorem RefAt.other (h : RefAt w r M x y) {k : Nat} {t : TypeId} (ht : CellsT w k t) (h1 : t ≠ 82) (h2 : t ≠ 87) (h3 : t ≠ 3) : ¬ refOwn r x y k := by
  intro hk
  obtain ⟨t', h4, h5⟩ := h.cellsT hk
  obtain rfl := h4.same ht
  rcases h5 with h5 | h5 | h5
  · exact h1 h5
  · exact h2 h5
  · exact h3 h5
abbrev rringC (r : Nat) (seed : ByteArray) (ks vs : Value) (st : Int) (dead : Bool) : List Value := [.pointer (some ⟨r, 0, none⟩), .string seed, ks, vs, .int .i64 st, .bool dead]
structure IsRRing (w : World) (q r : Nat) (R : RingM) (ks vs : Value) : Prop where
  blk : Blk w q (rringC r R.seed ks vs R.starts R.dead) 97
  keys : Row w 30 32 ks (hcells (leavesF R.seed.data.toList))
  signed : Row w 32 33 vs (hdC R.signed)
  oks : ∀ x ∈ R.signed, HdOk x
  few : R.signed.length ≤ 8
  short : R.seed.size ≤ 1000
def rrOwn (q : Nat) (ks vs : Value) (k : Nat) : Prop := k = q ∨ ks.ownBlock = some k ∨ vs.ownBlock = some k
theorem IsRRing.kept {S : Nat → Prop} {R : RingM} {ks vs : Value} (h : IsRRing w q r R ks vs) (hk : Kept S w W) (hS : ∀ k, rrOwn q ks vs k → ¬ S k) : IsRRing W q r R ks vs :=
  ⟨h.blk.kept hk (hS q (Or.inl rfl)), h.keys.kept hk (fun k e => hS k (Or.inr (Or.inl e))), h.signed.kept hk (fun k e => hS k (Or.inr (Or.inr e))), h.oks, h.few, h.short⟩
theorem IsRRing.lt {R : RingM} {ks vs : Value} (h : IsRRing w q r R ks vs) {k : Nat} (hk : rrOwn q ks vs k) : k < w.heap.size := by
  rcases hk with rfl | hk | hk
  · exact h.blk.lt
  · exact h.keys.lt hk
  · exact h.signed.lt hk
def RROpenTo (w : World) (r : Nat) (x y : Value) (st : Int) (seed : ByteArray) (z : Int × List Hd × DiskM) (e : Ending) (w' : World) : Prop :=
  (z.1 ≠ 0 ∧ e = .returned (.tuple #[.pointer none, .int .i64 z.1]) ∧ RefGo w r x y z.2.2 w') ∨
  (z.1 = 0 ∧ ∃ q ks vs, e = .returned (.tuple #[.pointer (some ⟨q, 0, none⟩), .int .i64 0]) ∧ IsRRing w' q r ⟨seed, z.2.1, st, false⟩ ks vs ∧ (∀ k, rrOwn q ks vs k → w.heap.size ≤ k) ∧ RefGo w r x y z.2.2 w')
structure RGo (w W : World) (r q : Nat) (x y : Value) (M : DiskM) (c : List Value) : Prop where
  go : RefGo w r x y M W
  blk : Blk W q c 97
  ge : w.heap.size ≤ q
  rl : r < w.heap.size
theorem RGo.kept (h : RGo w W r q x y M c) : Kept (· = r) w W := by obtain ⟨_, _, _, h2, _⟩ := h.go; exact h2
theorem RGo.same (h : RGo w W r q x y M c) (hk : Kept (fun _ => False) W W') : RGo w W' r q x y M c := by
  obtain ⟨x1, y1, h1, h2, h3, h4⟩ := h.go
  exact ⟨⟨x1, y1, h1.keep hk (fun _ _ => id), h2.trans (hk.mono (fun _ _ => False.elim)), h3, h4⟩, h.blk.kept hk id, h.ge, h.rl⟩
theorem RGo.does (h : RGo w W r q x y M c) : ∃ x1 y1, RefAt W r M x1 y1 ∧ ∀ M2 W', RefGo W r x1 y1 M2 W' → RGo w W' r q x y M2 c ∧ Kept (· = r) W W' := by
  obtain ⟨x1, y1, h1, h2, h3, h4⟩ := h.go
  refine ⟨x1, y1, h1, fun M2 W' hq => ?_⟩
  have hk : Kept (· = r) W W' := by obtain ⟨_, _, _, g2, _⟩ := hq; exact g2
  have h5 := h.ge
  have h6 := h.rl
  exact ⟨⟨RefGo.thru h2 h3 h4 hq, h.blk.kept hk (by omega), h.ge, h.rl⟩, hk⟩
theorem RGo.set (h : RGo w W r q x y M c) (i : Nat) (v : Value) : RGo w (W.setCell ⟨q, i, none⟩ v) r q x y M (c.set i v) ∧ Kept (· = q) W (W.setCell ⟨q, i, none⟩ v) := by
  obtain ⟨x1, y1, h1, h2, h3, h4⟩ := h.go
  have hk := kept_cell W q i v
  have h5 := h.ge
  have hn : ∀ k, refOwn r x1 y1 k → k ≠ q := fun k ho e => by subst e; exact h1.other h.blk.cellsT (by decide) (by decide) (by decide) ho
  refine ⟨⟨⟨x1, y1, h1.keep hk hn, h2.then_ hk (fun k hk e => by have : k = q := e; omega), h3, h4⟩, h.blk.set i v, h.ge, h.rl⟩, hk⟩
theorem RGo.start (h : RefAt w r M x y) (seed : ByteArray) (st : Int) : RGo w (w.alloc (.cells #[.pointer (some ⟨r, 0, none⟩), .string seed, .slice none 0 0, .slice none 0 0, .int .i64 st, .bool false] 97)) r w.heap.size x y M (rringC r seed (.slice none 0 0) (.slice none 0 0) st false) := by
  have hk : Kept (fun _ => False) w (w.alloc (.cells #[.pointer (some ⟨r, 0, none⟩), .string seed, .slice none 0 0, .slice none 0 0, .int .i64 st, .bool false] 97)) := (Kept.refl _ _).alloc _
  exact ⟨⟨x, y, h.keep hk (fun _ _ => id), hk.mono (fun _ _ => False.elim), fun _ => Or.inl, fun _ => Or.inl⟩, Blk.new w _ _, Nat.le_refl _, h.lt (Or.inl rfl)⟩
end
section
variable {w : World} {r : Nat} {M : DiskM} {x y : Value}
theorem openR_up (hd : M.down = false) : M.openR = M.mend := by unfold DiskM.openR; rw [if_neg (by rw [hd]; simp)]
set_option maxRecDepth 100000 in
set_option maxHeartbeats 8000000 in
theorem rropen_up (h : RefAt w r M x y) (hd : M.down = false) (hc : M.files.length + M.loose.length < 300000000) (seed : ByteArray) (hseed : seed.size ≤ 1000) :
    Calls Tryz.prog 15 #[.pointer (some ⟨r, 0, none⟩), .string seed] w (RROpenTo w r x y M.starts seed M.openR) := by
  have hris := (let ⟨R, _, h2⟩ := h; h2.ok.rise : AM.Rise M.files)
  have hlenb : ∀ b, AM.get M.files 990 = some b → b.length ≤ 1048576 := fun b hg => by
    obtain ⟨R, _, hrel⟩ := h
    have q1 := DiskM.len_le_total hrel.ok hg
    have q2 := hrel.ok.room
    have q3 := hrel.ok.cap1
    omega
  have HS0 := Lib.hid (RGo.start h seed M.starts)
  have hst : ∃ a c, x = .slice a M.files.length c := by obtain ⟨a, c, e, _⟩ := h.cells; exact ⟨a, c, e⟩
  have c3 : w.cell? ⟨r, 3, none⟩ = some (.bool false) := by obtain ⟨_, _, _, _, c3, _⟩ := h.cells; rw [c3, hd]
  have c4 : w.cell? ⟨r, 4, none⟩ = some (.int .i64 M.starts) := by obtain ⟨_, _, _, _, _, c4, _⟩ := h.cells; exact c4
  have HAT := Lib.hid h
  have HLB := Lib.hid hlenb
  have HD := Lib.hid (openR_up hd)
  clear h hd hlenb hst
  go_enter Tryz.func15, Tryz.ntmps15
  go_upto_region 5 with fail
  generalize hW0 : World.alloc _ _ = W0
  obtain ⟨q, hq⟩ : ∃ q, w.heap.size = q := ⟨_, rfl⟩
  have HG0 : Hid (RGo w W0 r q x y M (rringC r seed (.slice none 0 0) (.slice none 0 0) M.starts false)) := by rw [← hW0, ← hq]; exact HS0
  have HK0 : Hid (Kept (fun _ => False) w W0) := by rw [← hW0]; exact Lib.hid ((Kept.refl _ _).alloc _)
  simp only [hq]
  clear HS0 hW0 hq c3 c4
  have HAT0 := Lib.hid (HAT.out.keep HK0.out (fun _ _ => id))
  have HF := Lib.hid (find_at HAT0.out 990)
  rcases find_get hris 990 with ⟨g1, g2⟩ | ⟨i, b, g1, g2, g3⟩
  · rw [g2] at HF
    obtain ⟨e1, M1, hcr⟩ : ∃ e1 M1, M.create 990 = (e1, M1) := ⟨_, _, rfl⟩
    have HEQ0 := Lib.hid (show M.openR = if e1 ≠ 0 then (e1, [], M1) else (M1.sync.1, [], M1.sync.2) by rw [HD.out]; unfold DiskM.mend; rw [g1]; simp only [hcr])
    obtain ⟨x1, y1, hat1, hdo1⟩ := HG0.out.does
    have HCR := Lib.hid (create_at hat1 990 (by omega) hc hcr)
    have HDO1 := Lib.hid hdo1
    clear hris g1 g2 hcr hat1 hdo1 hc HD HLB HAT0 HAT
    go_upto_region 16 with (first
      | (go_at_call 42; refine HF.out.mono ?_; rintro e' w1 ⟨rfl, rfl⟩)
      | (go_at_call 11; refine HCR.out.mono ?_; rintro e' w2 ⟨rfl, hg2⟩; obtain ⟨hG2, hk2⟩ := HDO1.out _ _ hg2; have HG := Lib.hid hG2; have HK2 := Lib.hid hk2; clear hg2 hG2 hk2))
    clear HF HCR HDO1 HG0
    by_cases h01 : e1 = 0
    · subst h01
      have HEQ : Hid (M.openR = (M1.sync.1, [], M1.sync.2)) := Lib.hid (by rw [HEQ0.out, if_neg (by simp)])
      have HV := Lib.hid (show Row w2 32 33 (.slice none 0 0) (hdC []) ∧ (∀ k, (Value.slice none 0 0).ownBlock = some k → w.heap.size ≤ k) ∧ (∀ x ∈ ([] : List Hd), HdOk x) ∧ ([] : List Hd).length ≤ 8 from ⟨Row.nil _ _ _, fun k q => by simp [Value.ownBlock] at q, (fun _ h => nomatch h), by simp⟩)
      clear HEQ0
      obtain ⟨x2, y2, hat2, hdo2⟩ := HG.out.does
      obtain ⟨e2, M2, hsy⟩ : ∃ e2 M2, M1.sync = (e2, M2) := ⟨_, _, rfl⟩
      have HSY := Lib.hid (sync_at hat2 hsy)
      have HDO2 := Lib.hid hdo2
      have HEQ2 := Lib.hid (show M.openR = (e2, [], M2) by rw [HEQ.out, hsy])
      clear hat2 hdo2 hsy HEQ
      by_cases h02 : e2 = 0
      · subst h02
        go_upto_region 20 with (go_at_call 46; refine HSY.out.mono ?_; rintro e' w8 ⟨rfl, hg8⟩; obtain ⟨hG8, hk8⟩ := HDO2.out _ _ hg8; have H8 := Lib.hid (And.intro hG8 hk8); clear hg8 hG8 hk8)
        have HLV := Lib.hid (fun W => rleaves_any W seed hseed)
        have hcf := fun (W : World) (hk : Kept (fun _ => False) w8 W) => And.intro ((H8.out.1.blk.kept hk id).cell (i := 2) rfl) ((H8.out.1.blk.kept hk id).free 2)
        have HCF := Lib.hid hcf
        clear hcf HSY HDO2
        go_upto_region 21 with (go_at_call 47; refine (HLV.out _).mono ?_; rintro e' w9 ⟨ks, rfl, hn9⟩; obtain ⟨ka, kn, kc, rfl, -⟩ := hn9.row.form (by omega); obtain ⟨c29, f29⟩ := HCF.out _ hn9.kept; have H9 := Lib.hid hn9; clear hn9)
        generalize hW10 : World.setCell _ _ _ = W10
        have HEND := Lib.hid (show RROpenTo w r x y M.starts seed M.openR (.returned (.tuple #[.pointer (some ⟨q, 0, none⟩), .int .i64 0])) W10 from by
          rw [← hW10]
          have hs := (H8.out.1.same H9.out.kept).set 2 (.slice ka kn kc)
          have hkq := hs.2
          have hwq := HG.out.ge
          have hz8 := H8.out.2.size
          have hzW : w.heap.size ≤ w2.heap.size := HG.out.kept.size
          have hvr := ((HV.out.1.kept H8.out.2 (fun k e => by have := HV.out.2.1 k e; have := HG.out.rl; omega)).kept H9.out.kept (fun _ _ => id))
          have hb9 := H8.out.1.blk.kept H9.out.kept id
          rw [HEQ2.out]
          refine Or.inr ⟨rfl, q, _, (.slice none 0 0), rfl, ⟨hs.1.blk, H9.out.row.kept hkq (fun k e e2 => H9.out.row.ne_blk e hb9 (by decide) e2), hvr.kept hkq (fun k e e2 => hvr.ne_blk e hb9 (by decide) e2), HV.out.2.2.1, HV.out.2.2.2, hseed⟩, ?_, hs.1.go⟩
          rintro k (rfl | e | e)
          · exact hwq
          · have := H9.out.own k e; omega
          · exact HV.out.2.1 k e)
        clear hW10 H8 H9 HV HG HEQ2 HCF HLV c29 f29
        go_wp2_with fail
        go_ret2
        exact HEND.out
      · have H02 := Lib.hid h02
        have u1 : (e2 == 0) = false := beq_eq_false_iff_ne.2 h02
        have u2 : (e2 != 0) = true := by rw [bne, u1]; rfl
        clear h02
        go_wp2_with (go_at_call 46; refine HSY.out.mono ?_; rintro e' w8 ⟨rfl, hg8⟩; obtain ⟨hG8, hk8⟩ := HDO2.out _ _ hg8; have H8 := Lib.hid (And.intro hG8 hk8); clear hg8 hG8 hk8)
        go_ret2
        rw [HEQ2.out]
        exact Or.inl ⟨H02.out, rfl, H8.out.1.go⟩
    · have H01 := Lib.hid h01
      have HEQ : Hid (M.openR = (e1, [], M1)) := Lib.hid (by rw [HEQ0.out, if_pos h01])
      clear HEQ0
      clear h01
      have u1 : ((e1 : Int) == 0) = false := beq_eq_false_iff_ne.2 H01.out
      have u2 : ((e1 : Int) != 0) = true := by rw [bne, u1]; rfl
      go_wp2_with fail
      go_ret2
      rw [HEQ.out]
      exact Or.inl ⟨H01.out, rfl, HG.out.go⟩
  · have hbl := HLB.out b g1
    rw [g2] at HF
    have y0 : decide ((i : Int) < 0) = false := decide_eq_false (by omega)
    have hcell : W0.cell? ⟨r, 1, none⟩ = some x ∧ ∃ a c g, x = .slice a M.files.length c ∧ a = some ⟨g, 0, none⟩ ∧ W0.cell? ⟨g, i * 2 + 1, none⟩ = some (.string (strB b)) := by
      obtain ⟨a, c, e, k1, -, -, -, -, k6⟩ := HAT0.out.cells
      obtain ⟨g, ea, -, k7⟩ := k6 i _ g3
      exact ⟨k1, a, c, g, e, ea, k7⟩
    obtain ⟨cx, a, c, g, rfl, rfl, ct⟩ := hcell
    have hil : i < M.files.length := (List.getElem?_eq_some_iff.1 g3).1
    have hwl := wholeF_len b
    have hwle := wholeF_le b
    have hwh := fun W => rwhole_any W b (by omega)
    obtain ⟨ps, rest, hps⟩ : ∃ ps rest, wholeF b = (ps, rest) := ⟨_, _, rfl⟩
    have HEQ0 := Lib.hid (show M.openR = match readH ps with
      | none => (63, [], M)
      | some l => if rest.length = 0 then (M.sync.1, l, M.sync.2)
        else if (M.truncate 990 ((b.length - rest.length : Nat) : Int)).1 ≠ 0 then ((M.truncate 990 ((b.length - rest.length : Nat) : Int)).1, [], (M.truncate 990 ((b.length - rest.length : Nat) : Int)).2)
        else ((M.truncate 990 ((b.length - rest.length : Nat) : Int)).2.sync.1, l, (M.truncate 990 ((b.length - rest.length : Nat) : Int)).2.sync.2) from by
      rw [HD.out]
      unfold DiskM.mend
      rw [g1]
      simp only [hps]
      cases readH ps <;> rfl)
    rw [hps] at hwl hwle hwh
    simp only at hwl hwle hwh
    have HSA := Lib.hid (fun W v (hrow : Row W 9 1 v (strV ps)) => rsays_any W v ps hrow hwle (by omega))
    have HWH := Lib.hid hwh
    obtain ⟨bs, hbs⟩ : ∃ bs, strB b = bs := ⟨_, rfl⟩
    have hbz : bs.size = b.length := by rw [← hbs]; exact strB_size b
    rw [hbs] at ct HWH
    obtain ⟨en, hen⟩ : ∃ en : Nat, b.length - rest.length = en := ⟨_, rfl⟩
    rw [hen] at HWH HEQ0
    have HN := Lib.hid (show bs.size = b.length ∧ rest.length ≤ b.length ∧ b.length - rest.length = en from ⟨hbz, by omega, hen⟩)
    have HIL := Lib.hid hil
    clear hris g1 g2 g3 hwl hwle hwh hps hbs hbz hen HD HLB HAT HAT0
    go_upto_region 11 with (first
      | (go_at_call 42; refine HF.out.mono ?_; rintro e' w1 ⟨rfl, rfl⟩)
      | (go_at_call 43; refine (HWH.out _).mono ?_; rintro e' w1 ⟨sa, sn, sc, rfl, hn1⟩; have H1 := Lib.hid hn1; clear hn1)
      | (go_at_call 44; refine (HSA.out _ _ H1.out.1).mono ?_; rintro e' w2 ⟨vs, rfl, hv1, hv2, hv3⟩; have H2 := Lib.hid (And.intro hv1 (And.intro hv2 hv3)); clear hv1 hv2 hv3))
    clear HF HWH HSA cx ct y0 hil
    have HG2 := Lib.hid ((HG0.out.same H1.out.2.2).same H2.out.2.2)
    have hz1 : w.heap.size ≤ w1.heap.size := by have := HG0.out.kept.size; have := H1.out.2.2.size; omega
    cases hr : readH ps with
    | none =>
      rw [show (none : Option (List Hd)).isSome = false from rfl]
      have HEQ : Hid (M.openR = (63, [], M)) := Lib.hid (by have := HEQ0.out; rw [hr] at this; exact this)
      clear hr HEQ0 H1 H2 hz1 HN HIL
      go_wp2_with fail
      go_ret2
      rw [HEQ.out]
      exact Or.inl ⟨(by decide : (63 : Int) ≠ 0), rfl, HG2.out.go⟩
    | some l =>
      rw [show (some l : Option (List Hd)).isSome = true from rfl]
      have hok := readH_ok hr
      obtain ⟨va, vn, vc, rfl, -⟩ := (H2.out.1 l hr).form (by omega)
      have HEQ1 := Lib.hid (show M.openR = if rest.length = 0 then (M.sync.1, l, M.sync.2)
        else if (M.truncate 990 (en : Int)).1 ≠ 0 then ((M.truncate 990 (en : Int)).1, [], (M.truncate 990 (en : Int)).2)
        else ((M.truncate 990 (en : Int)).2.sync.1, l, (M.truncate 990 (en : Int)).2.sync.2) from by have := HEQ0.out; rw [hr] at this; exact this)
      have HV2 := Lib.hid (show Row w2 32 33 (.slice va vn vc) (hdC l) ∧ (∀ k, (Value.slice va vn vc).ownBlock = some k → w.heap.size ≤ k) ∧ (∀ x ∈ l, HdOk x) ∧ l.length ≤ 8 from ⟨H2.out.1 l hr, fun k e => Nat.le_trans hz1 (H2.out.2.1 k e), hok.1, hok.2⟩)
      have c33 := HG2.out.blk.cell (i := 3) rfl
      have f33 := HG2.out.blk.free 3
      clear hr HEQ0 H1 H2 hok HG0 HK0 hz1
      go_upto_region 14 with fail
      generalize hW3 : World.setCell _ _ _ = W3
      have hs3 := HG2.out.set 3 (.slice va vn vc)
      rw [hW3] at hs3
      have HG3 := Lib.hid hs3.1
      have HV3 := Lib.hid (show Row W3 32 33 (.slice va vn vc) (hdC l) ∧ (∀ k, (Value.slice va vn vc).ownBlock = some k → w.heap.size ≤ k) ∧ (∀ x ∈ l, HdOk x) ∧ l.length ≤ 8 from ⟨HV2.out.1.kept hs3.2 (fun k e e2 => HV2.out.1.ne_blk e HG2.out.blk (by decide) e2), HV2.out.2⟩)
      clear hW3 hs3 HV2 HG2 c33 f33
      by_cases h0 : rest.length = 0
      · have y1 : decide ((en : Int) < (bs.size : Int)) = false := decide_eq_false (by have := HN.out; omega)
        have y2 : decide (en < bs.size) = false := decide_eq_false (by have := HN.out; omega)
        have HEQ : Hid (M.openR = (M.sync.1, l, M.sync.2)) := Lib.hid (by rw [HEQ1.out, if_pos h0])
        have HG := HG3
        have HV := HV3
        clear HG3 HV3 HEQ1 h0 HN HIL
        go_upto_region 16 with fail
        clear y1 y2
        obtain ⟨x2, y2, hat2, hdo2⟩ := HG.out.does
        obtain ⟨e2, M2, hsy⟩ : ∃ e2 M2, M.sync = (e2, M2) := ⟨_, _, rfl⟩
        have HSY := Lib.hid (sync_at hat2 hsy)
        have HDO2 := Lib.hid hdo2
        have HEQ2 := Lib.hid (show M.openR = (e2, l, M2) by rw [HEQ.out, hsy])
        clear hat2 hdo2 hsy HEQ
        by_cases h02 : e2 = 0
        · subst h02
          go_upto_region 20 with (go_at_call 46; refine HSY.out.mono ?_; rintro e' w8 ⟨rfl, hg8⟩; obtain ⟨hG8, hk8⟩ := HDO2.out _ _ hg8; have H8 := Lib.hid (And.intro hG8 hk8); clear hg8 hG8 hk8)
          have HLV := Lib.hid (fun W => rleaves_any W seed hseed)
          have hcf := fun (W : World) (hk : Kept (fun _ => False) w8 W) => And.intro ((H8.out.1.blk.kept hk id).cell (i := 2) rfl) ((H8.out.1.blk.kept hk id).free 2)
          have HCF := Lib.hid hcf
          clear hcf HSY HDO2
          go_upto_region 21 with (go_at_call 47; refine (HLV.out _).mono ?_; rintro e' w9 ⟨ks, rfl, hn9⟩; obtain ⟨ka, kn, kc, rfl, -⟩ := hn9.row.form (by omega); obtain ⟨c29, f29⟩ := HCF.out _ hn9.kept; have H9 := Lib.hid hn9; clear hn9)
          generalize hW10 : World.setCell _ _ _ = W10
          have HEND := Lib.hid (show RROpenTo w r (.slice (some ⟨g, 0, none⟩) M.files.length c) y M.starts seed M.openR (.returned (.tuple #[.pointer (some ⟨q, 0, none⟩), .int .i64 0])) W10 from by
            rw [← hW10]
            have hs := (H8.out.1.same H9.out.kept).set 2 (.slice ka kn kc)
            have hkq := hs.2
            have hwq := HG.out.ge
            have hz8 := H8.out.2.size
            have hzW : w.heap.size ≤ W3.heap.size := HG.out.kept.size
            have hvr := ((HV.out.1.kept H8.out.2 (fun k e => by have := HV.out.2.1 k e; have := HG.out.rl; omega)).kept H9.out.kept (fun _ _ => id))
            have hb9 := H8.out.1.blk.kept H9.out.kept id
            rw [HEQ2.out]
            refine Or.inr ⟨rfl, q, _, (.slice va vn vc), rfl, ⟨hs.1.blk, H9.out.row.kept hkq (fun k e e2 => H9.out.row.ne_blk e hb9 (by decide) e2), hvr.kept hkq (fun k e e2 => hvr.ne_blk e hb9 (by decide) e2), HV.out.2.2.1, HV.out.2.2.2, hseed⟩, ?_, hs.1.go⟩
            rintro k (rfl | e | e)
            · exact hwq
            · have := H9.out.own k e; omega
            · exact HV.out.2.1 k e)
          clear hW10 H8 H9 HV HG HEQ2 HCF HLV c29 f29
          go_wp2_with fail
          go_ret2
          exact HEND.out
        · have H02 := Lib.hid h02
          have u1 : (e2 == 0) = false := beq_eq_false_iff_ne.2 h02
          have u2 : (e2 != 0) = true := by rw [bne, u1]; rfl
          clear h02
          go_wp2_with (go_at_call 46; refine HSY.out.mono ?_; rintro e' w8 ⟨rfl, hg8⟩; obtain ⟨hG8, hk8⟩ := HDO2.out _ _ hg8; have H8 := Lib.hid (And.intro hG8 hk8); clear hg8 hG8 hk8)
          go_ret2
          rw [HEQ2.out]
          exact Or.inl ⟨H02.out, rfl, H8.out.1.go⟩
      · have y1 : decide ((en : Int) < (bs.size : Int)) = true := decide_eq_true (by have := HN.out; omega)
        have y2 : decide (en < bs.size) = true := decide_eq_true (by have := HN.out; omega)
        obtain ⟨x1, y1', hat1, hdo1⟩ := HG3.out.does
        obtain ⟨e1, M1, htr⟩ : ∃ e1 M1, M.truncate 990 (en : Int) = (e1, M1) := ⟨_, _, rfl⟩
        have HEQ2 := Lib.hid (show M.openR = if e1 ≠ 0 then (e1, [], M1) else (M1.sync.1, l, M1.sync.2) by rw [HEQ1.out, if_neg h0, htr])
        have HTR := Lib.hid (truncate_at hat1 990 (en : Int) (by have := HN.out; omega) htr)
        have HDO1 := Lib.hid hdo1
        clear HEQ1 h0 hat1 hdo1 htr
        go_upto_region 16 with (go_at_call 45; refine HTR.out.mono ?_; rintro e' w4 ⟨rfl, hg4⟩; obtain ⟨hG4, hk4⟩ := HDO1.out _ _ hg4; have HG := Lib.hid hG4; have HV := Lib.hid (show Row w4 32 33 (.slice va vn vc) (hdC l) ∧ (∀ k, (Value.slice va vn vc).ownBlock = some k → w.heap.size ≤ k) ∧ (∀ x ∈ l, HdOk x) ∧ l.length ≤ 8 from ⟨HV3.out.1.kept hk4 (fun k e e2 => by have := HV3.out.2.1 k e; have := HG3.out.rl; omega), HV3.out.2⟩); clear hg4 hG4 hk4)
        clear HTR HDO1 HG3 HV3 y1 y2 HN HIL
        by_cases h01 : e1 = 0
        · subst h01
          have HEQ : Hid (M.openR = (M1.sync.1, l, M1.sync.2)) := Lib.hid (by rw [HEQ2.out, if_neg (by simp)])
          clear HEQ2
          obtain ⟨x2, y2, hat2, hdo2⟩ := HG.out.does
          obtain ⟨e2, M2, hsy⟩ : ∃ e2 M2, M1.sync = (e2, M2) := ⟨_, _, rfl⟩
          have HSY := Lib.hid (sync_at hat2 hsy)
          have HDO2 := Lib.hid hdo2
          have HEQ2 := Lib.hid (show M.openR = (e2, l, M2) by rw [HEQ.out, hsy])
          clear hat2 hdo2 hsy HEQ
          by_cases h02 : e2 = 0
          · subst h02
            go_upto_region 20 with (go_at_call 46; refine HSY.out.mono ?_; rintro e' w8 ⟨rfl, hg8⟩; obtain ⟨hG8, hk8⟩ := HDO2.out _ _ hg8; have H8 := Lib.hid (And.intro hG8 hk8); clear hg8 hG8 hk8)
            have HLV := Lib.hid (fun W => rleaves_any W seed hseed)
            have hcf := fun (W : World) (hk : Kept (fun _ => False) w8 W) => And.intro ((H8.out.1.blk.kept hk id).cell (i := 2) rfl) ((H8.out.1.blk.kept hk id).free 2)
            have HCF := Lib.hid hcf
            clear hcf HSY HDO2
            go_upto_region 21 with (go_at_call 47; refine (HLV.out _).mono ?_; rintro e' w9 ⟨ks, rfl, hn9⟩; obtain ⟨ka, kn, kc, rfl, -⟩ := hn9.row.form (by omega); obtain ⟨c29, f29⟩ := HCF.out _ hn9.kept; have H9 := Lib.hid hn9; clear hn9)
            generalize hW10 : World.setCell _ _ _ = W10
            have HEND := Lib.hid (show RROpenTo w r (.slice (some ⟨g, 0, none⟩) M.files.length c) y M.starts seed M.openR (.returned (.tuple #[.pointer (some ⟨q, 0, none⟩), .int .i64 0])) W10 from by
              rw [← hW10]
              have hs := (H8.out.1.same H9.out.kept).set 2 (.slice ka kn kc)
              have hkq := hs.2
              have hwq := HG.out.ge
              have hz8 := H8.out.2.size
              have hzW : w.heap.size ≤ w4.heap.size := HG.out.kept.size
              have hvr := ((HV.out.1.kept H8.out.2 (fun k e => by have := HV.out.2.1 k e; have := HG.out.rl; omega)).kept H9.out.kept (fun _ _ => id))
              have hb9 := H8.out.1.blk.kept H9.out.kept id
              rw [HEQ2.out]
              refine Or.inr ⟨rfl, q, _, (.slice va vn vc), rfl, ⟨hs.1.blk, H9.out.row.kept hkq (fun k e e2 => H9.out.row.ne_blk e hb9 (by decide) e2), hvr.kept hkq (fun k e e2 => hvr.ne_blk e hb9 (by decide) e2), HV.out.2.2.1, HV.out.2.2.2, hseed⟩, ?_, hs.1.go⟩
              rintro k (rfl | e | e)
              · exact hwq
              · have := H9.out.own k e; omega
              · exact HV.out.2.1 k e)
            clear hW10 H8 H9 HV HG HEQ2 HCF HLV c29 f29
            go_wp2_with fail
            go_ret2
            exact HEND.out
          · have H02 := Lib.hid h02
            have u1 : (e2 == 0) = false := beq_eq_false_iff_ne.2 h02
            have u2 : (e2 != 0) = true := by rw [bne, u1]; rfl
            clear h02
            go_wp2_with (go_at_call 46; refine HSY.out.mono ?_; rintro e' w8 ⟨rfl, hg8⟩; obtain ⟨hG8, hk8⟩ := HDO2.out _ _ hg8; have H8 := Lib.hid (And.intro hG8 hk8); clear hg8 hG8 hk8)
            go_ret2
            rw [HEQ2.out]
            exact Or.inl ⟨H02.out, rfl, H8.out.1.go⟩
        · have H01 := Lib.hid h01
          have HEQ : Hid (M.openR = (e1, [], M1)) := Lib.hid (by rw [HEQ2.out, if_pos h01])
          clear HEQ2
          clear h01
          have u1 : ((e1 : Int) == 0) = false := beq_eq_false_iff_ne.2 H01.out
          have u2 : ((e1 : Int) != 0) = true := by rw [bne, u1]; rfl
          go_wp2_with fail
          go_ret2
          rw [HEQ.out]
          exact Or.inl ⟨H01.out, rfl, HG.out.go⟩
end
end Go.Proofs.YtdmedbhbefdnkaaGreatDoor

namespace Go.Proofs.YtdmedbhbefdnkaaGreatDoor
open Go.RowKit
def alOps5 : Array Oper := #[
  ⟨some 22, .move (.tmp 0), 41, "law.go:80", #[], none⟩,
  ⟨some 23, .call { callee := .value (.func 20), args := #[.tmp 22], argTypes := #[41] }, 3, "law.go:80", #[⟨0, .data⟩], none⟩,
  ⟨some 24, .move (.tmp 7), 3, "law.go:80", #[], none⟩,
  ⟨some 25, .binOp .eql 3 (.tmp 23) (.tmp 24) 3, 4, "law.go:80", #[⟨1, .data⟩, ⟨2, .data⟩], none⟩,
  ⟨some 26, .move (.tmp 25), 4, "law.go:80", #[⟨3, .data⟩, ⟨1, .chain⟩], none⟩,
  ⟨some 27, .move (.tmp 6), 4, "law.go:80", #[⟨4, .guard⟩], some (4, true)⟩,
  ⟨some 28, .move (.tmp 7), 3, "law.go:80", #[⟨4, .guard⟩], some (4, true)⟩,
  ⟨some 29, .binOp .gtr 3 (.tmp 28) (.const (.int .i64 0)) 3, 4, "law.go:80", #[⟨6, .data⟩, ⟨4, .guard⟩], some (4, true)⟩,
  ⟨some 30, .binOp .eql 4 (.tmp 27) (.tmp 29) 4, 4, "law.go:80", #[⟨5, .data⟩, ⟨7, .data⟩, ⟨4, .guard⟩], some (4, true)⟩,
  ⟨some 31, .pick (.tmp 26) (.tmp 30) (.const (.bool false)), 4, "law.go:80", #[⟨4, .data⟩, ⟨8, .data⟩], none⟩,
  ⟨some 32, .move (.tmp 31), 4, "law.go:80", #[⟨9, .data⟩, ⟨4, .chain⟩], none⟩,
  ⟨some 33, .move (.tmp 6), 4, "law.go:80", #[⟨10, .guard⟩], some (10, true)⟩,
  ⟨some 34, .unOp .not 4 (.tmp 33), 4, "law.go:80", #[⟨11, .data⟩, ⟨10, .guard⟩], some (10, true)⟩,
  ⟨some 35, .move (.tmp 34), 4, "law.go:80", #[⟨12, .data⟩, ⟨10, .chain⟩, ⟨10, .guard⟩], some (10, true)⟩,
  ⟨some 36, .load 32 (.tmp 5), 32, "law.go:80", #[⟨13, .guard⟩], some (13, false)⟩,
  ⟨some 37, .move (.tmp 1), 44, "law.go:80", #[⟨13, .guard⟩], some (13, false)⟩,
  ⟨some 38, .nilCheck (.tmp 37), 0, "law.go:80", #[⟨15, .data⟩, ⟨13, .guard⟩], some (13, false)⟩,
  ⟨some 39, .fieldAddr 97 (.tmp 38) 3, 0, "law.go:80", #[⟨16, .data⟩, ⟨13, .guard⟩], some (13, false)⟩,
  ⟨some 40, .load 22 (.tmp 39), 22, "law.go:80", #[⟨17, .data⟩, ⟨13, .guard⟩], some (13, false)⟩,
  ⟨some 41, .move (.tmp 7), 3, "law.go:80", #[⟨13, .guard⟩], some (13, false)⟩,
  ⟨some 42, .binOp .sub 3 (.tmp 41) (.const (.int .i64 1)) 3, 3, "law.go:80", #[⟨19, .data⟩, ⟨13, .guard⟩], some (13, false)⟩,
  ⟨some 43, .indexAddr 22 (.tmp 40) (.tmp 42), 0, "law.go:80", #[⟨18, .data⟩, ⟨20, .data⟩, ⟨13, .guard⟩], some (13, false)⟩,
  ⟨some 44, .load 32 (.tmp 43), 32, "law.go:80", #[⟨21, .data⟩, ⟨13, .guard⟩], some (13, false)⟩,
  ⟨some 45, .binOp .eql 32 (.tmp 36) (.tmp 44) 32, 4, "law.go:80", #[⟨14, .data⟩, ⟨22, .data⟩, ⟨13, .guard⟩], some (13, false)⟩,
  ⟨some 46, .pick (.tmp 35) (.const (.bool true)) (.tmp 45), 4, "law.go:80", #[⟨13, .data⟩, ⟨23, .data⟩, ⟨10, .guard⟩], some (10, true)⟩,
  ⟨some 47, .pick (.tmp 32) (.tmp 46) (.const (.bool false)), 4, "law.go:80", #[⟨10, .data⟩, ⟨24, .data⟩], none⟩,
  ⟨some 48, .move (.tmp 47), 4, "law.go:80", #[⟨25, .data⟩, ⟨13, .chain⟩], none⟩,
  ⟨some 49, .move (.tmp 0), 41, "law.go:80", #[⟨26, .guard⟩], some (26, true)⟩,
  ⟨some 50, .call { callee := .value (.func 24), args := #[.tmp 49], argTypes := #[41] }, 30, "law.go:80", #[⟨27, .data⟩, ⟨26, .chain⟩, ⟨26, .guard⟩], some (26, true)⟩,
  ⟨some 51, .move (.tmp 1), 44, "law.go:80", #[⟨26, .guard⟩], some (26, true)⟩,
  ⟨some 52, .call { callee := .value (.func 49), args := #[.tmp 51], argTypes := #[44] }, 30, "law.go:80", #[⟨29, .data⟩, ⟨28, .chain⟩, ⟨26, .guard⟩], some (26, true)⟩,
  ⟨some 53, .binOp .eql 30 (.tmp 50) (.tmp 52) 30, 4, "law.go:80", #[⟨28, .data⟩, ⟨30, .data⟩, ⟨26, .guard⟩], some (26, true)⟩,
  ⟨some 54, .pick (.tmp 48) (.tmp 53) (.const (.bool false)), 4, "law.go:80", #[⟨26, .data⟩, ⟨31, .data⟩], none⟩,
  ⟨some 4, .assign (.tmp 54), 4, "law.go:80", #[⟨32, .data⟩, ⟨30, .chain⟩, ⟨0, .phase⟩, ⟨1, .phase⟩, ⟨2, .phase⟩, ⟨3, .phase⟩, ⟨4, .phase⟩, ⟨5, .phase⟩, ⟨6, .phase⟩, ⟨7, .phase⟩, ⟨8, .phase⟩, ⟨9, .phase⟩, ⟨10, .phase⟩, ⟨11, .phase⟩, ⟨12, .phase⟩, ⟨13, .phase⟩, ⟨14, .phase⟩, ⟨15, .phase⟩, ⟨16, .phase⟩, ⟨17, .phase⟩, ⟨18, .phase⟩, ⟨19, .phase⟩, ⟨20, .phase⟩, ⟨21, .phase⟩, ⟨22, .phase⟩, ⟨23, .phase⟩, ⟨24, .phase⟩, ⟨25, .phase⟩, ⟨26, .phase⟩, ⟨27, .phase⟩, ⟨28, .phase⟩, ⟨29, .phase⟩, ⟨30, .phase⟩, ⟨31, .phase⟩, ⟨32, .phase⟩], none⟩]
section
variable {w w1 W : World} {r q d kb : Nat} {R : RingM} {ks vs : Value} {S : Nat → Prop} {M : DiskM}
set_option maxRecDepth 100000 in
set_option maxHeartbeats 1000000 in
theorem rring_key (h : IsRRing w q r R ks vs) (ht : Tab w) :
    Calls Tryz.prog 49 #[.pointer (some ⟨q, 0, none⟩)] w fun e w' => e = .returned (hashV (rootF (leavesF R.seed.data.toList))) ∧ Kept (fun _ => False) w w' := by
  have ka : Kept (fun _ => False) w (w.alloc (.cells (zeros 32).toArray 30)) := (Kept.refl _ _).alloc _
  have h' := h.kept ka (fun _ _ => id)
  have c1 := h'.blk.cell (i := 2) rfl
  have c1b := c1
  simp only [zeros, List.replicate] at c1b
  have hb := Blk.new w (zeros 32) 30
  have l32 := leaves_32 R.seed.data.toList
  have hroot := (rroot9_any _ _ _ h'.keys.view l32 (by rw [leavesF_len]; omega) (ht.same ka)).mono (R' := fun e w2 => e = .returned (hashV (rootF (leavesF R.seed.data.toList))) ∧ Hid (Blk w2 w.heap.size (zeros 32) 30 ∧ Kept (fun _ => False) w w2)) (fun e w2 q => ⟨q.1, Lib.hid ⟨hb.kept q.2 id, ka.trans q.2⟩⟩)
  have hl := rootF_len l32
  generalize rootF (leavesF R.seed.data.toList) = H at *
  have HR := Lib.hid hroot
  have HL := Lib.hid hl
  have HI := Lib.hid (show (Tryz.prog.info? 30).map (·.size) = some (bytes8 H).length by rw [bytes8_len, hl]; exact info_h32)
  clear hroot hl hb ka h h' l32
  go_enter Tryz.func49, Tryz.ntmps49
  go_wp2_with (first | (go_at_call 89; refine HR.out.mono ?_; rintro e w2 ⟨rfl, HB⟩) | ((with_reducible show wpList _ _ _ (⟨none, .store _ (.tmp 2) _, _, _, _, _⟩ :: _) _ _); refine wpList_store_mid rfl 30 _ _ rfl w.heap.size 0 (bytes8 H).toArray rfl rfl ?hth ?hi ?h1 ?_))
  case hth => exact (hash_stored HB.out.1 (zeros_len 32) HL.out).1
  case hi => first | exact info_hash HL.out | simpa using info_hash HL.out
  case h1 => first | exact all_oneCell_toArray (fun y hy => u8_oneCell y hy) | exact fun y hy => u8_oneCell y hy
  have hst := hash_stored HB.out.1 (zeros_len 32) HL.out
  refine bodyPost_ret (hst.2.result rfl rfl Tryz.underlying30 rfl HI.out) rfl ⟨rfl, ?_⟩
  exact HB.out.2.then_ (kept_setCells _ _ _ _) (fun i hi e => by omega)
structure AlS (W : World) (hb : Nat) (C : List Value) (q : Nat) (vs : Value) (gl m : Nat) (has : Prop) (W' : World) : Prop where
  rg : W'.rangeAt hb 0 C
  cv : W'.cell? ⟨q, 3, none⟩ = some vs
  cl : has → W'.rangeAt gl (m * 33) C
  kept : Kept (fun _ => False) W W'
theorem AlS.next {hb gl m : Nat} {C : List Value} {has : Prop} {W1 W2 : World} (h : AlS W hb C q vs gl m has W1) (hk : Kept (fun _ => False) W1 W2) : AlS W hb C q vs gl m has W2 :=
  ⟨fun k u hu => hk.cell (h.rg k u hu) id, hk.cell h.cv id, fun q k u hu => hk.cell (h.cl q k u hu) id, h.kept.trans hk⟩
set_option maxRecDepth 100000 in
set_option maxHeartbeats 4000000 in
theorem al_r1 {hb gl m vc : Nat} {va : Option Addr} {C : List Value} {KY : By} {Q : Exit → Act → World → Prop} {u2 u3 u4 u8 u9 u10 u11 u12 u13 u14 u15 u16 u17 u18 u19 u20 u21 u22 u23 u24 u25 u26 u27 u28 u29 u30 u31 u32 u33 u34 u35 u36 u37 u38 u39 u40 u41 u42 u43 u44 u45 u46 u47 u48 u49 u50 u51 u52 u53 u54 : Value} (hS : AlS w hb C q (.slice va 0 vc) 0 0 False W) (hKy : KY.length = 32) (hus : ∀ w1, Kept (fun _ => False) w w1 → Calls Tryz.prog 20 #[.pointer (some ⟨kb, 0, none⟩)] w1 fun e w' => e = .returned (.int .i64 (0)) ∧ w1 = w') (hky : ∀ w1, Kept (fun _ => False) w w1 → Calls Tryz.prog 24 #[.pointer (some ⟨kb, 0, none⟩)] w1 fun e w' => e = .returned (hashV KY) ∧ Kept (fun _ => False) w1 w') (hqy : ∀ w1, Kept (fun _ => False) w w1 → Calls Tryz.prog 49 #[.pointer (some ⟨q, 0, none⟩)] w1 fun e w' => e = .returned (hashV KY) ∧ Kept (fun _ => False) w1 w')
    (HP : ∀ c a (k : Nat) v w, Q (.panic c) (Act.put a (some k) v) w → Q (.panic c) a w) (HQ : ∀ (v22 v23 v24 v25 v26 v27 v28 v29 v30 v31 v32 v33 v34 v35 v36 v37 v38 v39 v40 v41 v42 v43 v44 v45 v46 v47 v48 v49 v50 v51 v52 v53 v54 : Value) (w' : World), Kept (fun _ => False) w w' → Q .normal ⟨List.toArray ((.pointer (some ⟨kb, 0, none⟩)) :: (.pointer (some ⟨q, 0, none⟩)) :: u2 :: u3 :: (.bool true) :: (.pointer (some ⟨hb, 0, none⟩)) :: (.bool false) :: (.int .i64 0) :: u8 :: u9 :: u10 :: u11 :: u12 :: u13 :: u14 :: u15 :: u16 :: u17 :: u18 :: u19 :: u20 :: u21 :: v22 :: v23 :: v24 :: v25 :: v26 :: v27 :: v28 :: v29 :: v30 :: v31 :: v32 :: v33 :: v34 :: v35 :: v36 :: v37 :: v38 :: v39 :: v40 :: v41 :: v42 :: v43 :: v44 :: v45 :: v46 :: v47 :: v48 :: v49 :: v50 :: v51 :: v52 :: v53 :: v54 :: []), []⟩ w') :
    Code.wp Tryz.prog (Code.region 5 alOps5 true) Q ⟨List.toArray ((.pointer (some ⟨kb, 0, none⟩)) :: (.pointer (some ⟨q, 0, none⟩)) :: u2 :: u3 :: u4 :: (.pointer (some ⟨hb, 0, none⟩)) :: (.bool false) :: (.int .i64 0) :: u8 :: u9 :: u10 :: u11 :: u12 :: u13 :: u14 :: u15 :: u16 :: u17 :: u18 :: u19 :: u20 :: u21 :: u22 :: u23 :: u24 :: u25 :: u26 :: u27 :: u28 :: u29 :: u30 :: u31 :: u32 :: u33 :: u34 :: u35 :: u36 :: u37 :: u38 :: u39 :: u40 :: u41 :: u42 :: u43 :: u44 :: u45 :: u46 :: u47 :: u48 :: u49 :: u50 :: u51 :: u52 :: u53 :: u54 :: []), []⟩ W := by
  have HQ := Lib.hid HQ
  have HUS := Lib.hid hus
  have HKY := Lib.hid hky
  have HQY := Lib.hid hqy
  have heqk := fun w' => eql_hash w' KY KY hKy hKy
  rw [decide_eq_true (rfl : KY = KY)] at heqk
  unfold alOps5
  clear hus hky hqy
  refine wp_region_held_drew (S := AlS w hb C q (.slice va 0 vc) 0 0 False) (by kernel_rfl) (hS.next (Kept.refl _ _).drew) (fun hS0 => ?_)
  clear hS
  generalize World.drew W = W0 at *
  refine tk 0 rfl (fun _ _ _ h => HP _ _ _ _ _ h) hS0 ?_
  refine tk 2 rfl (fun _ _ _ h => HP _ _ _ _ _ h) hS0 ?_
  refine rd1 1 (fun K hK => ?_)
  go_simp
  refine (HUS.out _ hS0.kept).mono ?_
  rintro e' w5 ⟨rfl, rfl⟩
  refine hK.out _ _ (hS0) (fun hS1 => ?_)
  clear hK K
  try simp only [lyA, lyB, lyC, lyD]
  refine tk 3 rfl (fun _ _ _ h => HP _ _ _ _ _ h) hS1 ?_
  refine tk 4 rfl (fun _ _ _ h => HP _ _ _ _ _ h) hS1 ?_
  refine tk 5 rfl (fun _ _ _ h => HP _ _ _ _ _ h) hS1 ?_
  refine tk 6 rfl (fun _ _ _ h => HP _ _ _ _ _ h) hS1 ?_
  refine tk 7 rfl (fun _ _ _ h => HP _ _ _ _ _ h) hS1 ?_
  refine tk 8 rfl (fun _ _ _ h => HP _ _ _ _ _ h) hS1 ?_
  refine tk 9 rfl (fun _ _ _ h => HP _ _ _ _ _ h) hS1 ?_
  refine tk 10 rfl (fun _ _ _ h => HP _ _ _ _ _ h) hS1 ?_
  refine tk 11 rfl (fun _ _ _ h => HP _ _ _ _ _ h) hS1 ?_
  refine tk 12 rfl (fun _ _ _ h => HP _ _ _ _ _ h) hS1 ?_
  refine tk 13 rfl (fun _ _ _ h => HP _ _ _ _ _ h) hS1 ?_
  refine tk0 14 rfl (fun _ _ _ h => HP _ _ _ _ _ h) hS1 ?_
  refine tk0 15 rfl (fun _ _ _ h => HP _ _ _ _ _ h) hS1 ?_
  refine tk0 16 rfl (fun _ _ _ h => HP _ _ _ _ _ h) hS1 ?_
  refine tk0 17 rfl (fun _ _ _ h => HP _ _ _ _ _ h) hS1 ?_
  refine tk0 18 rfl (fun _ _ _ h => HP _ _ _ _ _ h) hS1 ?_
  refine tk0 19 rfl (fun _ _ _ h => HP _ _ _ _ _ h) hS1 ?_
  refine tk0 20 rfl (fun _ _ _ h => HP _ _ _ _ _ h) hS1 ?_
  refine tk0 21 rfl (fun _ _ _ h => HP _ _ _ _ _ h) hS1 ?_
  refine tk0 22 rfl (fun _ _ _ h => HP _ _ _ _ _ h) hS1 ?_
  refine tk0 23 rfl (fun _ _ _ h => HP _ _ _ _ _ h) hS1 ?_
  refine tk 24 rfl (fun _ _ _ h => HP _ _ _ _ _ h) hS1 ?_
  refine tk 25 rfl (fun _ _ _ h => HP _ _ _ _ _ h) hS1 ?_
  refine tk 26 rfl (fun _ _ _ h => HP _ _ _ _ _ h) hS1 ?_
  refine tk 27 rfl (fun _ _ _ h => HP _ _ _ _ _ h) hS1 ?_
  refine tk 29 rfl (fun _ _ _ h => HP _ _ _ _ _ h) hS1 ?_
  refine rd1 28 (fun K hK => ?_)
  go_simp
  refine (HKY.out _ hS1.kept).mono ?_
  rintro e' w6 ⟨rfl, hk6⟩
  refine hK.out _ _ (hS1.next hk6) (fun hS2 => ?_)
  clear hK K
  try simp only [lyA, lyB, lyC, lyD]
  refine rd1 30 (fun K hK => ?_)
  go_simp
  refine (HQY.out _ hS2.kept).mono ?_
  rintro e' w7 ⟨rfl, hk7⟩
  refine hK.out _ _ (hS2.next hk7) (fun hS3 => ?_)
  clear hK K
  try simp only [lyA, lyB, lyC, lyD]
  refine tk 31 rfl (fun _ _ _ h => HP _ _ _ _ _ h) hS3 ?_
  refine tk 32 rfl (fun _ _ _ h => HP _ _ _ _ _ h) hS3 ?_
  refine tk 33 rfl (fun _ _ _ h => HP _ _ _ _ _ h) hS3 ?_
  refine wpAnyH_done (by kernel_rfl) ?_ _
  exact HQ.out _ _ _ _ _ _ _ _ _ _ _ _ _ _ _ _ _ _ _ _ _ _ _ _ _ _ _ _ _ _ _ _ _ _ hS3.kept
set_option maxRecDepth 100000 in
set_option maxHeartbeats 4000000 in
theorem al_r2 {hb gl m vc : Nat} {va : Option Addr} {C : List Value} {KY : By} {Q : Exit → Act → World → Prop} {u2 u3 u4 u8 u9 u10 u11 u12 u13 u14 u15 u16 u17 u18 u19 u20 u21 u22 u23 u24 u25 u26 u27 u28 u29 u30 u31 u32 u33 u34 u35 u36 u37 u38 u39 u40 u41 u42 u43 u44 u45 u46 u47 u48 u49 u50 u51 u52 u53 u54 : Value} (hS : AlS w hb C q (.slice (some ⟨gl, 0, none⟩) (m + 1) vc) gl m True W) (hKy : KY.length = 32) (hus : ∀ w1, Kept (fun _ => False) w w1 → Calls Tryz.prog 20 #[.pointer (some ⟨kb, 0, none⟩)] w1 fun e w' => e = .returned (.int .i64 (((m + 1 : Nat) : Int))) ∧ w1 = w') (hky : ∀ w1, Kept (fun _ => False) w w1 → Calls Tryz.prog 24 #[.pointer (some ⟨kb, 0, none⟩)] w1 fun e w' => e = .returned (hashV KY) ∧ Kept (fun _ => False) w1 w') (hqy : ∀ w1, Kept (fun _ => False) w w1 → Calls Tryz.prog 49 #[.pointer (some ⟨q, 0, none⟩)] w1 fun e w' => e = .returned (hashV KY) ∧ Kept (fun _ => False) w1 w') (hic : (Tryz.prog.info? 32).map (·.size) = some C.length) (hm : m < 8) (heqh : ∀ w', (binOp .eql 32 (.agg C.toArray) (.agg C.toArray)).run Tryz.prog w' = .ok (.bool true) w')
    (HP : ∀ c a (k : Nat) v w, Q (.panic c) (Act.put a (some k) v) w → Q (.panic c) a w) (HQ : ∀ (v22 v23 v24 v25 v26 v27 v28 v29 v30 v31 v32 v33 v34 v35 v36 v37 v38 v39 v40 v41 v42 v43 v44 v45 v46 v47 v48 v49 v50 v51 v52 v53 v54 : Value) (w' : World), Kept (fun _ => False) w w' → Q .normal ⟨List.toArray ((.pointer (some ⟨kb, 0, none⟩)) :: (.pointer (some ⟨q, 0, none⟩)) :: u2 :: u3 :: (.bool true) :: (.pointer (some ⟨hb, 0, none⟩)) :: (.bool true) :: (.int .i64 (((m + 1) : Nat) : Int)) :: u8 :: u9 :: u10 :: u11 :: u12 :: u13 :: u14 :: u15 :: u16 :: u17 :: u18 :: u19 :: u20 :: u21 :: v22 :: v23 :: v24 :: v25 :: v26 :: v27 :: v28 :: v29 :: v30 :: v31 :: v32 :: v33 :: v34 :: v35 :: v36 :: v37 :: v38 :: v39 :: v40 :: v41 :: v42 :: v43 :: v44 :: v45 :: v46 :: v47 :: v48 :: v49 :: v50 :: v51 :: v52 :: v53 :: v54 :: []), []⟩ w') :
    Code.wp Tryz.prog (Code.region 5 alOps5 true) Q ⟨List.toArray ((.pointer (some ⟨kb, 0, none⟩)) :: (.pointer (some ⟨q, 0, none⟩)) :: u2 :: u3 :: u4 :: (.pointer (some ⟨hb, 0, none⟩)) :: (.bool true) :: (.int .i64 (((m + 1) : Nat) : Int)) :: u8 :: u9 :: u10 :: u11 :: u12 :: u13 :: u14 :: u15 :: u16 :: u17 :: u18 :: u19 :: u20 :: u21 :: u22 :: u23 :: u24 :: u25 :: u26 :: u27 :: u28 :: u29 :: u30 :: u31 :: u32 :: u33 :: u34 :: u35 :: u36 :: u37 :: u38 :: u39 :: u40 :: u41 :: u42 :: u43 :: u44 :: u45 :: u46 :: u47 :: u48 :: u49 :: u50 :: u51 :: u52 :: u53 :: u54 :: []), []⟩ W := by
  have HQ := Lib.hid HQ
  have HUS := Lib.hid hus
  have HKY := Lib.hid hky
  have HQY := Lib.hid hqy
  have heqk := fun w' => eql_hash w' KY KY hKy hKy
  rw [decide_eq_true (rfl : KY = KY)] at heqk
  unfold alOps5
  clear hus hky hqy
  have HIC := Lib.hid hic
  have q1 : IntKind.i64.wrap (((m + 1 : Nat) : Int) - 1) = (m : Int) := by rw [show ((m + 1 : Nat) : Int) - 1 = (m : Int) by omega]; exact IntWalk.i64_in _ (by omega)
  have q1' : IntKind.i64.wrap ((m : Int) + 1 - 1) = (m : Int) := by rw [show (m : Int) + 1 - 1 = (m : Int) by omega]; exact IntWalk.i64_in _ (by omega)
  have q1b : IntKind.i64.wrap (m : Int) = (m : Int) := IntWalk.i64_in _ (by omega)
  have q2 : m < m + 1 := Nat.lt_succ_self m
  have q2b : (m : Int) < (m : Int) + 1 := by omega
  have q3 : decide ((0 : Int) < ((m + 1 : Nat) : Int)) = true := decide_eq_true (by omega)
  have q3' : decide ((0 : Int) < (m : Int) + 1) = true := decide_eq_true (by omega)
  have z0 : (((m + 1 : Nat) : Int) == ((m + 1 : Nat) : Int)) = true := by simp
  refine wp_region_held_drew (S := AlS w hb C q (.slice (some ⟨gl, 0, none⟩) (m + 1) vc) gl m True) (by kernel_rfl) (hS.next (Kept.refl _ _).drew) (fun hS0 => ?_)
  clear hS
  generalize World.drew W = W0 at *
  refine tk 0 rfl (fun _ _ _ h => HP _ _ _ _ _ h) hS0 ?_
  refine tk 2 rfl (fun _ _ _ h => HP _ _ _ _ _ h) hS0 ?_
  refine rd1 1 (fun K hK => ?_)
  go_simp
  refine (HUS.out _ hS0.kept).mono ?_
  rintro e' w5 ⟨rfl, rfl⟩
  refine hK.out _ _ (hS0) (fun hS1 => ?_)
  clear hK K
  try simp only [lyA, lyB, lyC, lyD]
  refine tk 3 rfl (fun _ _ _ h => HP _ _ _ _ _ h) hS1 ?_
  refine tk 4 rfl (fun _ _ _ h => HP _ _ _ _ _ h) hS1 ?_
  refine tk 5 rfl (fun _ _ _ h => HP _ _ _ _ _ h) hS1 ?_
  refine tk 6 rfl (fun _ _ _ h => HP _ _ _ _ _ h) hS1 ?_
  refine tk 7 rfl (fun _ _ _ h => HP _ _ _ _ _ h) hS1 ?_
  refine tk 8 rfl (fun _ _ _ h => HP _ _ _ _ _ h) hS1 ?_
  refine tk 9 rfl (fun _ _ _ h => HP _ _ _ _ _ h) hS1 ?_
  refine tk 10 rfl (fun _ _ _ h => HP _ _ _ _ _ h) hS1 ?_
  refine tk 11 rfl (fun _ _ _ h => HP _ _ _ _ _ h) hS1 ?_
  refine tk 12 rfl (fun _ _ _ h => HP _ _ _ _ _ h) hS1 ?_
  refine tk 13 rfl (fun _ _ _ h => HP _ _ _ _ _ h) hS1 ?_
  refine tky 14 rfl (fun _ _ _ h => HP _ _ _ _ _ h) (yieldsIf_load_mid (by rfl) _ _ rfl hb 0 rfl C _ (fun w h => h.rg) Tryz.underlying32 rfl HIC.out) hS1 ?_
  refine tk 15 rfl (fun _ _ _ h => HP _ _ _ _ _ h) hS1 ?_
  refine tk 16 rfl (fun _ _ _ h => HP _ _ _ _ _ h) hS1 ?_
  refine tk 17 rfl (fun _ _ _ h => HP _ _ _ _ _ h) hS1 ?_
  refine tk 18 rfl (fun _ _ _ h => HP _ _ _ _ _ h) hS1 ?_ (hy := by (refine Or.inl ⟨by rfl, fun w hSw => ?_⟩; obtain ⟨s1, s2, s3, s4⟩ := hSw; go_simp; (try with_reducible rfl)))
  refine tk 19 rfl (fun _ _ _ h => HP _ _ _ _ _ h) hS1 ?_
  refine tk 20 rfl (fun _ _ _ h => HP _ _ _ _ _ h) hS1 ?_
  refine tk 21 rfl (fun _ _ _ h => HP _ _ _ _ _ h) hS1 ?_
  refine tky 22 rfl (fun _ _ _ h => HP _ _ _ _ _ h) (yieldsIf_load_mid (by rfl) _ _ rfl gl (m * 33) rfl C _ (fun w h => h.cl trivial) Tryz.underlying32 rfl HIC.out) hS1 ?_
  refine tk 23 rfl (fun _ _ _ h => HP _ _ _ _ _ h) hS1 ?_
  refine tk 24 rfl (fun _ _ _ h => HP _ _ _ _ _ h) hS1 ?_
  refine tk 25 rfl (fun _ _ _ h => HP _ _ _ _ _ h) hS1 ?_
  refine tk 26 rfl (fun _ _ _ h => HP _ _ _ _ _ h) hS1 ?_
  refine tk 27 rfl (fun _ _ _ h => HP _ _ _ _ _ h) hS1 ?_
  refine tk 29 rfl (fun _ _ _ h => HP _ _ _ _ _ h) hS1 ?_
  refine rd1 28 (fun K hK => ?_)
  go_simp
  refine (HKY.out _ hS1.kept).mono ?_
  rintro e' w6 ⟨rfl, hk6⟩
  refine hK.out _ _ (hS1.next hk6) (fun hS2 => ?_)
  clear hK K
  try simp only [lyA, lyB, lyC, lyD]
  refine rd1 30 (fun K hK => ?_)
  go_simp
  refine (HQY.out _ hS2.kept).mono ?_
  rintro e' w7 ⟨rfl, hk7⟩
  refine hK.out _ _ (hS2.next hk7) (fun hS3 => ?_)
  clear hK K
  try simp only [lyA, lyB, lyC, lyD]
  refine tk 31 rfl (fun _ _ _ h => HP _ _ _ _ _ h) hS3 ?_
  refine tk 32 rfl (fun _ _ _ h => HP _ _ _ _ _ h) hS3 ?_
  refine tk 33 rfl (fun _ _ _ h => HP _ _ _ _ _ h) hS3 ?_
  refine wpAnyH_done (by kernel_rfl) ?_ _
  exact HQ.out _ _ _ _ _ _ _ _ _ _ _ _ _ _ _ _ _ _ _ _ _ _ _ _ _ _ _ _ _ _ _ _ _ _ hS3.kept
set_option maxRecDepth 100000 in
set_option maxHeartbeats 8000000 in
theorem alike_any {R2 : RingM} (h : IsRing w kb d R S) (hq : IsRRing w q r R2 ks vs) (hR : R2.signed = R.signed) (hsd : R2.seed = R.seed) (ht : Tab w) :
    Calls Tryz.prog 16 #[.pointer (some ⟨kb, 0, none⟩), .pointer (some ⟨q, 0, none⟩)] w fun e w' => e = .returned (.bool true) ∧ Kept (fun _ => False) w w' := by
  obtain ⟨va, vn, vc, rfl, hm, -, hcl⟩ := hq.signed.form (by omega)
  have h32 : ∀ x ∈ R2.signed, x.2.length = 32 := fun x hx => (hq.oks x hx).2.2
  rw [hdC_len h32] at hm
  have hvn : R.signed.length = vn := by rw [← hR]; omega
  have hvl : vn ≤ 8 := by have := hq.few; omega
  have cv := hq.blk.cell (i := 3) rfl
  have HUS := Lib.hid (fun (W : World) (hk : Kept (fun _ => False) w W) => ring_used (h.same hk))
  have HKY := Lib.hid (fun (W : World) (hk : Kept (fun _ => False) w W) => ring_key (h.same hk) (ht.same hk))
  have HQY := Lib.hid (fun (W : World) (hk : Kept (fun _ => False) w W) => rring_key (hq.kept hk (fun _ _ => id)) (ht.same hk))
  rw [hsd] at HQY
  rw [hvn] at HUS
  have hK32 : (rootF (leavesF R.seed.data.toList)).length = 32 := rootF_len (leaves_32 _)
  generalize rootF (leavesF R.seed.data.toList) = KY at *
  have heqk := fun w' => eql_hash w' KY KY hK32 hK32
  rw [decide_eq_true (rfl : KY = KY)] at heqk
  have z0 : ((vn : Int) == (vn : Int)) = true := by simp
  rcases Nat.eq_zero_or_pos vn with hv0 | hv0
  · subst hv0
    have h0 : R.signed = [] := List.eq_nil_of_length_eq_zero hvn
    obtain ⟨C, hC⟩ : ∃ C, headC 0 zeroRoot = C := ⟨_, rfl⟩
    have HC := Lib.hid (show headC 0 zeroRoot = C ∧ C.length = 33 from ⟨hC, by rw [← hC]; exact head0_len⟩)
    clear hcl hm hvn hvl hq hR hsd h32
    have HLS := Lib.hid (show Calls Tryz.prog 48 #[.pointer (some ⟨kb, 0, none⟩)] w fun e w' => e = .returned (.tuple #[.agg C.toArray, .bool false]) ∧ Kept (fun _ => False) w w' from by rw [← hC]; exact ring_last0 h h0)
    have lC : C.length = 33 := HC.out.2
    have HIC := Lib.hid (show (Tryz.prog.info? 32).map (·.size) = some C.length by rw [lC]; exact info_head)
    have HZ := Lib.hid (show w.heap.size ≤ w.heap.size from Nat.le_refl _)
    clear lC HZ hC h0 h
    go_enter Tryz.func16, Tryz.ntmps16
    go_upto_region 5 with (first
      | (go_at_call 48; refine HLS.out.mono ?_; rintro e' w3 ⟨rfl, hk3⟩; have HK3 := Lib.hid hk3; have cv3 := hk3.cell cv id; clear hk3)
      | ((with_reducible show wpList _ _ _ (⟨none, .store _ (.tmp 5) _, _, _, _, _⟩ :: _) _ _); refine wpList_store_mid rfl 32 _ _ rfl w3.heap.size 0 C.toArray rfl rfl ?hthA ?hiA ?h1A ?hkA; (case' hkA => generalize hw4 : World.setCells _ w3.heap.size 0 _ = w4; have h4 := (show Blk w4 w3.heap.size C 32 ∧ Kept (fun _ => False) w w4 from (by rw [← hw4]; exact ⟨(hd_fresh w3 HC.out.2).1, HK3.out.trans (hd_fresh w3 HC.out.2).2.1⟩)); have cv4 := h4.2.cell cv id; have H4 := Lib.hid h4; clear hw4 h4)))
    case hthA => exact (hd_fresh w3 HC.out.2).2.2
    case hiA => rw [List.size_toArray]; exact HIC.out
    case h1A => exact all_oneCell_toArray (fun y hy => by rw [← HC.out.1] at hy; exact head_oneCell y hy)
    generalize w3.heap.size = hb at *
    have hS : AlS w hb C q (.slice va 0 vc) 0 0 False w4 := ⟨H4.out.1.range0, cv4, False.elim, H4.out.2⟩
    have HKX := Lib.hid hK32
    refine al_r1 (gl := 0) (m := 0) hS HKX.out HUS.out HKY.out HQY.out (fun _ _ _ _ _ h => h) ?_
    intro _ _ _ _ _ _ _ _ _ _ _ _ _ _ _ _ _ _ _ _ _ _ _ _ _ _ _ _ _ _ _ _ _ w9 hk9
    clear hS cv4 cv3 cv HUS HKY HQY
    go_wp2_with fail
    go_ret
    exact ⟨rfl, hk9⟩
  · obtain ⟨m, rfl⟩ : ∃ m, vn = m + 1 := ⟨vn - 1, by omega⟩
    obtain ⟨a, ha⟩ : ∃ a, R.signed[m]? = some a := ⟨_, List.getElem?_eq_getElem (by omega)⟩
    obtain ⟨gl, rfl, -, hc⟩ := hcl (by omega)
    have ha32 : a.2.length = 32 := h32 a (by rw [hR]; exact List.mem_of_getElem? ha)
    obtain ⟨C, hC⟩ : ∃ C, headC (a.1 : Int) a.2 = C := ⟨_, rfl⟩
    have HC := Lib.hid (show headC (a.1 : Int) a.2 = C ∧ C.length = 33 from ⟨hC, by rw [← hC]; exact headC_len ha32⟩)
    have hgl : w.rangeAt gl (m * 33) C := by
      rw [← hC]
      intro j u hu
      have e := hdC_at h32 m (by rw [hR]; exact ha)
      rw [← e] at hu
      have hj : j < 33 := by have := (List.getElem?_eq_some_iff.1 hu).1; rw [List.length_take] at this; omega
      rw [List.getElem?_take, if_pos hj, List.getElem?_drop] at hu
      exact hc _ _ hu
    have heqh := fun w' => eql_head w' (a.1 : Int) (a.1 : Int) a.2 a.2 ha32 ha32
    rw [decide_eq_true (⟨rfl, rfl⟩ : (a.1 : Int) = (a.1 : Int) ∧ a.2 = a.2)] at heqh
    rw [show headV (a.1 : Int) a.2 = .agg C.toArray from by rw [← hC]] at heqh
    have q1 : IntKind.i64.wrap (((m + 1 : Nat) : Int) - 1) = (m : Int) := by rw [show ((m + 1 : Nat) : Int) - 1 = (m : Int) by omega]; exact IntWalk.i64_in _ (by omega)
    have q1' : IntKind.i64.wrap ((m : Int) + 1 - 1) = (m : Int) := by rw [show (m : Int) + 1 - 1 = (m : Int) by omega]; exact IntWalk.i64_in _ (by omega)
    have q2 : m < m + 1 := Nat.lt_succ_self m
    have q3 : decide ((0 : Int) < ((m + 1 : Nat) : Int)) = true := decide_eq_true (by omega)
    have q3' : decide ((0 : Int) < (m : Int) + 1) = true := decide_eq_true (by omega)
    have HLS := Lib.hid (show Calls Tryz.prog 48 #[.pointer (some ⟨kb, 0, none⟩)] w fun e w' => e = .returned (.tuple #[.agg C.toArray, .bool true]) ∧ Kept (fun _ => False) w w' from by rw [← hC]; exact ring_last h m a ha hvn)
    have lC : C.length = 33 := HC.out.2
    have HIC := Lib.hid (show (Tryz.prog.info? 32).map (·.size) = some C.length by rw [lC]; exact info_head)
    have HZ := Lib.hid (show w.heap.size ≤ w.heap.size from Nat.le_refl _)
    clear lC HZ hC ha h hcl hm hvn hq hR hsd h32 ha32 hc hv0
    go_enter Tryz.func16, Tryz.ntmps16
    go_upto_region 5 with (first
      | (go_at_call 48; refine HLS.out.mono ?_; rintro e' w3 ⟨rfl, hk3⟩; have HK3 := Lib.hid hk3; have cv3 := hk3.cell cv id; clear hk3)
      | ((with_reducible show wpList _ _ _ (⟨none, .store _ (.tmp 5) _, _, _, _, _⟩ :: _) _ _); refine wpList_store_mid rfl 32 _ _ rfl w3.heap.size 0 C.toArray rfl rfl ?hthB ?hiB ?h1B ?hkB; (case' hkB => generalize hw4 : World.setCells _ w3.heap.size 0 _ = w4; have h4 := (show Blk w4 w3.heap.size C 32 ∧ Kept (fun _ => False) w w4 from (by rw [← hw4]; exact ⟨(hd_fresh w3 HC.out.2).1, HK3.out.trans (hd_fresh w3 HC.out.2).2.1⟩)); have cv4 := h4.2.cell cv id; have H4 := Lib.hid h4; clear hw4 h4)))
    case hthB => exact (hd_fresh w3 HC.out.2).2.2
    case hiB => rw [List.size_toArray]; exact HIC.out
    case h1B => exact all_oneCell_toArray (fun y hy => by rw [← HC.out.1] at hy; exact head_oneCell y hy)
    generalize w3.heap.size = hb at *
    have hS : AlS w hb C q (.slice (some ⟨gl, 0, none⟩) (m + 1) vc) gl m True w4 := ⟨H4.out.1.range0, cv4, fun _ k u hu => H4.out.2.cell (hgl k u hu) id, H4.out.2⟩
    have HKX := Lib.hid hK32
    refine al_r2 (va := none) hS HKX.out HUS.out HKY.out HQY.out HIC.out (by omega) heqh (fun _ _ _ _ _ h => h) ?_
    intro _ _ _ _ _ _ _ _ _ _ _ _ _ _ _ _ _ _ _ _ _ _ _ _ _ _ _ _ _ _ _ _ _ w9 hk9
    clear hS cv4 cv3 cv HUS HKY HQY
    go_wp2_with fail
    go_ret
    exact ⟨rfl, hk9⟩
end
end Go.Proofs.YtdmedbhbefdnkaaGreatDoor

namespace Go.Proofs.YtdmedbhbefdnkaaGreatDoor
open Go.RowKit
def Og.ring (k : Nat) (R : RingM) (S : Nat → Prop) : Og := ⟨S, fun w d => IsRing w k d R S ∧ ∀ b, S b → b < w.heap.size, fun h hk hZ => ⟨h.1.kept hk hZ, fun b q => Nat.lt_of_lt_of_le (h.2 b q) hk.size⟩, fun h hk => h.2 _ hk⟩
def Og.rring (r : Nat) (x y : Value) (M : DiskM) (q : Nat) (ks vs : Value) (R : RingM) : Og := ⟨fun k => refOwn r x y k ∨ rrOwn q ks vs k, fun w _ => RefAt w r M x y ∧ IsRRing w q r R ks vs, fun h hk hZ => ⟨h.1.keep hk (fun k q => hZ k (Or.inl q)), h.2.kept hk (fun k q => hZ k (Or.inr q))⟩, fun h hk => hk.elim h.1.lt h.2.lt⟩
section
variable {w0 w w' : World} {d r q kb : Nat} {M M' N : DiskM} {Os : List Og} {x y ks vs : Value} {R : RingM} {S : Nat → Prop}
theorem Owg.keeps {B : Nat → Prop} (h : FrG w0 w d M B Os) : Keeps B := ⟨h.old _ (tab_lt h.tab0).1, h.old _ (tab_lt h.tab0).2⟩
theorem Owg.kopen (h : Owg w0 w d M Os) (seed : ByteArray) (hs : seed.size ≤ 1000) (hc : M.files.length + M.loose.length < 300000000) {z : Int × List Hd × DiskM} (hz : M.openR = z) :
    Calls Tryz.prog 14 #[.pointer (some ⟨d, 0, none⟩), .string seed] w fun e w' =>
      (z.1 ≠ 0 ∧ e = .returned (.tuple #[.pointer none, .int .i64 z.1]) ∧ Owg w0 w' d z.2.2 Os) ∨
      (z.1 = 0 ∧ ∃ k S, e = .returned (.tuple #[.pointer (some ⟨k, 0, none⟩), .int .i64 0]) ∧ Owg w0 w' d z.2.2 (Og.ring k ⟨seed, z.2.1, z.2.2.starts, false⟩ S :: Os)) := by
  subst hz
  obtain ⟨B, h⟩ := h
  refine (open_any h.ap seed hs hc (Owg.keeps h) h.tab).mono fun e w' q => ?_
  rcases q with ⟨h0, rfl, ha, hk⟩ | ⟨h0, k, S, rfl, hr, hS, ha, hk⟩
  · exact Or.inl ⟨h0, rfl, B, h.to hk ha⟩
  · exact Or.inr ⟨h0, k, S, rfl, _, h.come (x := Og.ring k ⟨seed, M.openR.2.1, M.openR.2.2.starts, false⟩ S) hk ha ⟨hr, fun b q => ha.lt (Or.inr q)⟩ hS⟩
theorem Owg.rropen {st : Int} {seed : ByteArray} {z : Int × List Hd × DiskM} {e : Ending} (h : Owg w0 w d N (Og.ref r M x y :: Os)) (hq : RROpenTo w r x y st seed z e w') :
    (z.1 ≠ 0 ∧ e = .returned (.tuple #[.pointer none, .int .i64 z.1]) ∧ ∃ x' y', Owg w0 w' d N (Og.ref r z.2.2 x' y' :: Os)) ∨
    (z.1 = 0 ∧ ∃ q ks vs x' y', e = .returned (.tuple #[.pointer (some ⟨q, 0, none⟩), .int .i64 0]) ∧ Owg w0 w' d N (Og.rring r x' y' z.2.2 q ks vs ⟨seed, z.2.1, st, false⟩ :: Os)) := by
  rcases hq with ⟨h0, rfl, hg⟩ | ⟨h0, q, ks, vs, rfl, h1, h2, x', y', g1, g2, g3, g4⟩
  · exact Or.inl ⟨h0, rfl, h.refd hg⟩
  · refine Or.inr ⟨h0, q, ks, vs, x', y', rfl, ?_⟩
    obtain ⟨B, h⟩ := h
    have hB := fun k (q : refOwn r x y k) => ((h.obs _ (List.mem_cons_self ..)).2 k q).1
    have hS : (Og.rring r x' y' z.2.2 q ks vs ⟨seed, z.2.1, st, false⟩).holds w' d := ⟨g1, h1⟩
    have ho : ∀ k, (refOwn r x' y' k ∨ rrOwn q ks vs k) → refOwn r x y k ∨ w.heap.size ≤ k := by
      rintro k ((q | q | q) | q)
      · exact Or.inl (Or.inl q)
      · exact (g3 k q).imp (fun q => Or.inr (Or.inl q)) id
      · exact (g4 k q).imp (fun q => Or.inr (Or.inr q)) id
      · exact Or.inr (h2 k q)
    refine ⟨_, h.swap (x := Og.rring r x' y' z.2.2 q ks vs ⟨seed, z.2.1, st, false⟩) (g2.mono (fun k _ e => Or.inr (Or.inl e))) (h.ap.grow g2 (fun k _ e => hB k (Or.inl e)) (fun k q => ?_)) hS ho⟩
    rcases q with q | q
    · exact Or.inl q
    · rcases ho k q with q2 | q2
      · exact Or.inl (hB k q2)
      · exact Or.inr ⟨q2, Og.lt hS q⟩
theorem Owg.sameK (h : Owg w0 w d M Os) (hr : RefAt w r M x y) (hm : M.down = false) :
    Calls Tryz.prog 17 #[.pointer (some ⟨d, 0, none⟩), .pointer (some ⟨r, 0, none⟩)] w fun e w' => e = .returned (.bool true) ∧ Owg w0 w' d M Os := by
  have h0 := h
  obtain ⟨B, h⟩ := h
  exact (same_any h.ap hr hm).mono fun e w' q => ⟨q.1, h0.same q.2⟩
end
section
variable {M : DiskM}
theorem Calm.mend (h : Calm M) : Calm M.openR.2.2 := by
  have hs := h.sync
  unfold DiskM.openR
  rw [if_neg (by rw [h.up]; simp)]
  unfold DiskM.mend
  cases AM.get M.files 990 with
  | none =>
    simp only
    split
    · exact (h.create 990).1
    · rw [(h.create 990).1.sync]; exact (h.create 990).1.synced
  | some b =>
    simp only
    cases readH (wholeF b).1 with
    | none => exact h
    | some l =>
      simp only
      split
      · rw [hs]; exact h.synced
      · split
        · exact (h.truncate 990 _).1
        · rw [(h.truncate 990 _).1.sync]; exact (h.truncate 990 _).1.synced
end
set_option maxRecDepth 100000 in
theorem alike_nil (w : World) : Calls Tryz.prog 16 #[.pointer none, .pointer none] w fun e w' => e = .returned (.bool true) ∧ w = w' := by
  go_enter Tryz.func16, Tryz.ntmps16
  go_wp2_with fail
  go_ret
  exact ⟨rfl, rfl⟩
end Go.Proofs.YtdmedbhbefdnkaaGreatDoor
