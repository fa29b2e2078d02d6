/- Contracts of package trees: Root's inner function. Hashes that are appended to hashes. -/
import Derived.Lib.AppendZeros
import Derived.Test.YtlgeijbgkipliaaGreatDoorUChecksFew26
import Derived.Test.YtlgeijbgkipliaaGreatDoorUChecksFew20
import Derived.Test.YtlgeijbgkipliaaGreatDoorUChecksFew21
set_option linter.unusedVariables false
set_option linter.unusedSimpArgs false
namespace Go.Proofs.YtlgeijbgkipliaaGreatDoor
open Go.RowKit

/-- The cells of hashes. -/
abbrev hcells (L : List By) : List Value := bytes8 L.flatten
theorem flatten_len {L : List By} (h : ∀ x ∈ L, x.length = 32) : L.flatten.length = L.length * 32 := by
  induction L with
  | nil => rfl
  | cons a L ih =>
    rw [List.flatten_cons, List.length_append, ih (fun x hx => h x (by simp [hx])), h a (by simp), List.length_cons]
    omega
theorem hcells_len {L : List By} (h : ∀ x ∈ L, x.length = 32) : (hcells L).length = L.length * 32 := by rw [bytes8_len, flatten_len h]
theorem flatten_at {L : List By} (h : ∀ x ∈ L, x.length = 32) (i : Nat) (a : By) (hi : L[i]? = some a) : (L.flatten.drop (i * 32)).take 32 = a := by
  induction L generalizing i with
  | nil => simp at hi
  | cons b L ih =>
    have hb := h b (by simp)
    rw [List.flatten_cons]
    cases i with
    | zero =>
      simp at hi
      subst hi
      rw [Nat.zero_mul, List.drop_zero, List.take_append_of_le_length (by omega), List.take_of_length_le (by omega)]
    | succ i =>
      rw [show (i + 1) * 32 = b.length + i * 32 by omega, ← List.drop_drop, List.drop_left]
      exact ih (fun x hx => h x (by simp [hx])) i (by simpa using hi)
theorem hcells_at {L : List By} (h : ∀ x ∈ L, x.length = 32) (i : Nat) (a : By) (hi : L[i]? = some a) : ((hcells L).drop (i * 32)).take 32 = bytes8 a := by
  have e1 : (hcells L).drop (i * 32) = bytes8 (L.flatten.drop (i * 32)) := by simp [hcells, bytes8, List.map_drop]
  rw [e1]
  have e2 : (bytes8 (L.flatten.drop (i * 32))).take 32 = bytes8 ((L.flatten.drop (i * 32)).take 32) := by simp [bytes8, List.map_take]
  rw [e2, flatten_at h i a hi]
theorem View.range {w : World} {size : Nat} {v : Value} {xs : List Value} {g off n cap : Nat} (h : View w size v xs) (hv : v = .slice (some ⟨g, off, none⟩) n cap) (hn : 0 < n) : w.rangeAt g off xs := by
  obtain ⟨a, n', cap', rfl, h1, h2, h3, h4, h5⟩ := h
  cases hv
  obtain ⟨g', off', he, hg, hc⟩ := h5 hn
  cases he
  exact hc
theorem rangeAt_mid {w : World} {g off : Nat} {xs : List Value} (h : w.rangeAt g off xs) (i k : Nat) : w.rangeAt g (off + i) ((xs.drop i).take k) := by
  intro j u hu
  have hj := (List.getElem?_eq_some_iff.1 hu).1
  rw [List.length_take] at hj
  rw [List.getElem?_take_of_lt (by omega), List.getElem?_drop] at hu
  rw [Nat.add_assoc]
  exact h _ u hu

/-- What Root's inner function stands on. -/
structure Leaves (w : World) (lb rb g off n cap : Nat) (L : List By) : Prop where
  slice : Blk w lb [.slice (some ⟨g, off, none⟩) n cap] 53
  self : Blk w rb [.func (.func 158) #[] #[.pointer (some ⟨lb, 0, none⟩), .pointer (some ⟨rb, 0, none⟩)]] 221
  g_lt : g < w.heap.size
  cells : w.rangeAt g off (hcells L)
  len : n = L.length
  fits : n ≤ cap
  room : cap ≤ maxLen
  all : ∀ x ∈ L, x.length = 32
  few : L.length ≤ 1000000
  tab : Tab w
theorem Leaves.kept {w w' : World} {lb rb g off n cap : Nat} {L : List By} {S : Nat → Prop} (h : Leaves w lb rb g off n cap L) (hk : Kept S w w') (hS : ∀ b, b < w.heap.size → ¬ S b) : Leaves w' lb rb g off n cap L :=
  ⟨h.slice.kept hk (hS _ h.slice.lt), h.self.kept hk (hS _ h.self.lt), Nat.lt_of_lt_of_le h.g_lt hk.size, rangeAt_kept h.cells hk h.g_lt (hS _ h.g_lt), h.len, h.fits, h.room, h.all, h.few,
    ⟨fun i v hv => hk.cell (h.tab.first i v hv) (hS _ (World.block_lt_of_cell? w _ (h.tab.first i v hv))), fun i v hv => hk.cell (h.tab.rounds i v hv) (hS _ (World.block_lt_of_cell? w _ (h.tab.rounds i v hv)))⟩⟩
theorem treeF_sub {L : List By} {a b : Nat} (hab : a + 2 ≤ b) (hb : b ≤ L.length) : treeF ((L.drop a).take (b - a)) = nodeF (treeF ((L.drop a).take (splitN (b - a)))) (treeF ((L.drop (a + splitN (b - a))).take (b - (a + splitN (b - a))))) := by
  have hl : ((L.drop a).take (b - a)).length = b - a := by simp; omega
  have hk := splitN_in (n := b - a) (by omega)
  rw [treeF_two (by omega), hl]
  congr 1
  · rw [List.take_take, Nat.min_eq_left (by omega)]
  · rw [List.drop_take, List.drop_drop]
    congr 2
    omega
theorem treeF_sub1 {L : List By} {a : Nat} {x : By} (hx : L[a]? = some x) : treeF ((L.drop a).take 1) = x := by
  obtain ⟨ha, he⟩ := List.getElem?_eq_some_iff.1 hx
  rw [List.drop_eq_getElem_cons ha, List.take_succ_cons, List.take_zero, treeF_one, he]
abbrev rootFn (lb rb : Nat) : Value := .func (.func 158) #[] #[.pointer (some ⟨lb, 0, none⟩), .pointer (some ⟨rb, 0, none⟩)]
/-- What holds all the way through the inner function's last statement. -/
abbrev RootS (w w' : World) (rb lb : Nat) : Prop := w'.cell? ⟨rb, 0, none⟩ = some (rootFn lb rb) ∧ w'.there w.heap.size 0 32 ∧ (∃ C : List Value, C.length = 32 ∧ Blk w' w.heap.size C 57) ∧ Kept (· = w.heap.size) w w'
theorem rootS_begin {w : World} {rb lb : Nat} (h : Blk w rb [rootFn lb rb] 221) : RootS w (w.alloc (.cells (zeros 32).toArray 57)).drew rb lb := by
  have hb := Blk.new w (zeros 32) 57
  exact ⟨((h.alloc _).drew).cell (i := 0) rfl, (hb.drew).there 0 32 (by rw [zeros_len]; omega), ⟨_, zeros_len 32, hb.drew⟩, ((Kept.refl _ _).alloc _).drew⟩
theorem rootS_next {w w1 w2 : World} {rb lb : Nat} (h : RootS w w1 rb lb) (k : Kept (fun _ => False) w1 w2) : RootS w w2 rb lb := by
  obtain ⟨h1, _, ⟨C, hC, hb⟩, hk⟩ := h
  have hb2 := hb.kept k id
  exact ⟨k.cell h1 id, hb2.there 0 32 (by omega), ⟨C, hC, hb2⟩, hk.then_ k (fun _ _ => False.elim)⟩
theorem rootS_store {w w1 : World} {rb lb : Nat} {H : List Value} (h : RootS w w1 rb lb) (hr : rb < w.heap.size) (hH : H.length = 32) : RootS w (w1.setCells w.heap.size 0 H) rb lb := by
  obtain ⟨h1, _, ⟨C, hC, hb⟩, hk⟩ := h
  have k := kept_setCells w1 w.heap.size 0 H
  have hb2 := hb.setCells 0 H (by omega)
  have hl : (splice C 0 H).length = 32 := by rw [splice_len (by omega), hC]
  exact ⟨k.cell h1 (by show ¬ rb = w.heap.size; omega), hb2.there 0 32 (by omega), ⟨_, hl, hb2⟩, hk.then_ k (fun _ _ e => e)⟩
theorem rootS_leaves {w w1 : World} {lb rb g off n cap : Nat} {L : List By} (hL : Leaves w lb rb g off n cap L) (h : RootS w w1 rb lb) : Leaves w1 lb rb g off n cap L := hL.kept h.2.2.2 (fun b hb e => by omega)
set_option maxRecDepth 100000 in
theorem rootIn_any (m : Nat) : ∀ (w : World) (lb rb g off n cap : Nat) (L : List By) (a b : Nat), Leaves w lb rb g off n cap L → b - a ≤ m → a < b → b ≤ L.length →
    Calls Tryz.prog 158 #[.int .i64 (a : Int), .int .i64 (b : Int), .pointer (some ⟨lb, 0, none⟩), .pointer (some ⟨rb, 0, none⟩)] w fun e w' => e = .returned (hashV (treeF ((L.drop a).take (b - a)))) ∧ Kept (fun _ => False) w w' := by
  induction m with
  | zero => intro w lb rb g off n cap L a b _ h1 h2; omega
  | succ m ih =>
    intro w lb rb g off n cap L a b h hm hab hb
    have hfew := h.few
    have hsp := fun w' => split_any w' (b - a) (by omega)
    have a1 : wrap64 ((b : Int) - (a : Int)) = ((b - a : Nat) : Int) := by rw [IntWalk.wrap64_in _ (by omega)]; omega
    have hr := Blk.new w (zeros 32) 57
    by_cases hone : b - a < 2
    · obtain ⟨x, hx⟩ : ∃ x, L[a]? = some x := ⟨_, List.getElem?_eq_getElem (by omega)⟩
      have hx32 := h.all x (List.mem_of_getElem? hx)
      rw [show b - a = 1 by omega, treeF_sub1 hx]
      have hrg := rangeAt_mid h.cells (a * 32) 32
      rw [hcells_at h.all a x hx] at hrg
      have hs0 := splitN_small hone
      rw [hs0] at hsp
      have HSP := Lib.hid hsp
      have i0 : (a : Int) < (n : Int) := by have := h.len; omega
      have i1 : (0 : Int) ≤ (a : Int) := by omega
      have HF := Lib.hid (show ∀ w1, w1 = w.alloc (.cells (zeros 32).toArray 57) → w1.cell? ⟨lb, 0, none⟩ = some (.slice (some ⟨g, off, none⟩) n cap) ∧ Hid (w1.rangeAt g (off + a * 32) (bytes8 x) ∧ Blk w1 w.heap.size (zeros 32) 57 ∧ Kept (fun _ => False) w w1) from by
        rintro w1 rfl
        exact ⟨(h.slice.alloc _).cell (i := 0) rfl, Lib.hid ⟨rangeAt_kept hrg ((Kept.refl (fun _ => False) w).alloc _) h.g_lt id, hr, (Kept.refl _ _).alloc _⟩⟩)
      have HI := Lib.hid (show (Tryz.prog.info? 57).map (·.size) = some (bytes8 x).length by rw [bytes8_len, hx32]; exact info_h32)
      clear hsp hs0 hr hm ih h hx hrg hone hfew hab hb
      have HX := Lib.hid hx32
      clear hx32
      go_enter Tryz.func158, Tryz.ntmps158
      go_wp2_with (first | (go_at_call 159; refine (HSP.out _).mono ?_; rintro e w' ⟨rfl, rfl⟩; generalize hw1 : World.alloc w _ = w1; obtain ⟨c0, HG⟩ := HF.out w1 hw1.symm; clear hw1) | (refine wpList_load_mid rfl 57 _ rfl g (off + a * 32) rfl (bytes8 x) _ HG.out.1 Tryz.underlying57 rfl HI.out ?_) | (refine wpList_store_mid rfl 57 _ _ rfl w.heap.size 0 (bytes8 x).toArray rfl rfl ?hth ?hi ?h1 ?_))
      case hth => exact (hash_stored HG.out.2.1 (zeros_len 32) HX.out).1
      case hi => exact info_hash HX.out
      case h1 => exact all_oneCell_toArray (fun y hy => u8_oneCell y hy)
      have hst := hash_stored HG.out.2.1 (zeros_len 32) HX.out
      refine bodyPost_ret (hst.2.result rfl rfl Tryz.underlying57 rfl HI.out) rfl ⟨rfl, ?_⟩
      exact HG.out.2.2.then_ (kept_setCells _ _ _ _) (fun i hi e => by omega)
    · have hk := splitN_in (n := b - a) (by omega)
      rw [treeF_sub (by omega) hb]
      have x1 : ((splitN (b - a) : Int) == 0) = false := by simp; omega
      generalize splitN (b - a) = K at *
      have h1 : ∀ w', Leaves w' lb rb g off n cap L → Calls Tryz.prog 158 #[.int .i64 (a : Int), .int .i64 ((a + K : Nat) : Int), .pointer (some ⟨lb, 0, none⟩), .pointer (some ⟨rb, 0, none⟩)] w' fun e w'' => e = .returned (hashV (treeF ((L.drop a).take K))) ∧ Kept (fun _ => False) w' w'' := by
        intro w' hw'
        have := ih w' lb rb g off n cap L a (a + K) hw' (by omega) (by omega) (by omega)
        rwa [Nat.add_sub_cancel_left] at this
      have h2 : ∀ w', Leaves w' lb rb g off n cap L → Calls Tryz.prog 158 #[.int .i64 ((a + K : Nat) : Int), .int .i64 (b : Int), .pointer (some ⟨lb, 0, none⟩), .pointer (some ⟨rb, 0, none⟩)] w' fun e w'' => e = .returned (hashV (treeF ((L.drop (a + K)).take (b - (a + K))))) ∧ Kept (fun _ => False) w' w'' :=
        fun w' hw' => ih w' lb rb g off n cap L (a + K) b hw' (by omega) (by omega) (by omega)
      have l1 : (treeF ((L.drop a).take K)).length = 32 := treeF_len (by simp; omega) (fun x hx => h.all x (List.mem_of_mem_drop (List.mem_of_mem_take hx)))
      have l2 : (treeF ((L.drop (a + K)).take (b - (a + K)))).length = 32 := treeF_len (by simp; omega) (fun x hx => h.all x (List.mem_of_mem_drop (List.mem_of_mem_take hx)))
      generalize treeF ((L.drop a).take K) = A at *
      generalize treeF ((L.drop (a + K)).take (b - (a + K))) = B at *
      have hnd := fun w' ht => node_any w' A B l1 l2 ht
      have hlN := nodeF_len A B
      generalize nodeF A B = N at *
      have a2 := Lib.hid (show IntKind.i64.wrap ((a : Int) + (K : Int)) = ((a + K : Nat) : Int) by rw [IntWalk.i64_in _ (by clear a1; omega)]; omega)
      generalize a + K = E at h1 h2 a2
      have HSP := Lib.hid hsp
      have H1 := Lib.hid h1
      have H2 := Lib.hid h2
      have HN := Lib.hid hnd
      have HL := Lib.hid h
      have HF := Lib.hid (show ∀ w1, w1 = w.alloc (.cells (zeros 32).toArray 57) → RootS w w1.drew rb lb from by
        rintro w1 rfl
        exact rootS_begin h.self)
      have iN : (Tryz.prog.info? 57).map (·.size) = some (bytes8 N).length := by rw [bytes8_len, hlN]; exact info_h32
      have lN : (bytes8 N).length = 32 := by rw [bytes8_len, hlN]
      have oN : ∀ v ∈ bytes8 N, v.oneCell' = true := u8_oneCell
      clear hsp h1 h2 hnd ih h hr l1 l2 hlN hm hfew hone hk hab hb
      have a3 := a2.out
      go_enter Tryz.func158, Tryz.ntmps158
      go_wp2_with (first | (go_at_call 159; refine (HSP.out _).mono ?_; rintro e w' ⟨rfl, rfl⟩; generalize hw1 : World.alloc w _ = w1; have hs0 := HF.out w1 hw1.symm; clear hw1))
      go_region_held3 (fun w' => w'.cell? ⟨rb, 0, none⟩ = some (.func (.func 158) #[] #[.pointer (some ⟨lb, 0, none⟩), .pointer (some ⟨rb, 0, none⟩)]) ∧ w'.there w.heap.size 0 32 ∧ (∃ C : List Value, C.length = 32 ∧ Blk w' w.heap.size C 57) ∧ Kept (· = w.heap.size) w w') (first | exact hs0 | exact rootS_next (by assumption) (by assumption) | exact rootS_store (by assumption) HL.out.self.lt lN) (first | (go_at_call 158; with_reducible refine (H1.out _ (rootS_leaves HL.out (by assumption))).mono ?_; rintro e w3 ⟨rfl, hk3⟩) | (go_at_call 158; with_reducible refine (H2.out _ (rootS_leaves HL.out (by assumption))).mono ?_; rintro e w3 ⟨rfl, hk3⟩) | (go_at_call 143; with_reducible refine (HN.out _ (rootS_leaves HL.out (by assumption)).tab).mono ?_; rintro e w3 ⟨rfl, hk3⟩))
      rename_i wa ka wb kb hh
      obtain ⟨_, _, ⟨C, hC, hbC⟩, hkC⟩ := rootS_next (rootS_next (rootS_next hs0 ka) kb) hk3
      have hlN : N.length = 32 := by rwa [bytes8_len] at lN
      have hst := hash_stored hbC hC hlN
      go_wp2_with fail
      refine bodyPost_ret (hst.2.result rfl rfl Tryz.underlying57 rfl iN) rfl ⟨rfl, ?_⟩
      have := hh.2.2.2
      exact ⟨this.os, this.tape, this.output, this.size, fun i hi _ => this.block i hi (by show ¬ i = w.heap.size; omega)⟩
end Go.Proofs.YtlgeijbgkipliaaGreatDoor

namespace Go.Proofs.YtlgeijbgkipliaaGreatDoor
open Go.RowKit

theorem hcells_append (L M : List By) : hcells (L ++ M) = hcells L ++ hcells M := by simp [hcells, bytes8]
theorem hcells_one (a : By) : hcells [a] = bytes8 a := by simp [hcells]
theorem info_hash3 : (Tryz.prog.info? 57).map (fun i => (i.zero, i.size, i.bytes)) = some (some (.agg (zeros 32).toArray), 32, 32) := by kernel_rfl
theorem elem_hashes : Tryz.prog.underlying 53 = some (.slice (Tryz.prog.elem 53)) := by kernel_rfl
theorem size_hashes (w : World) : (sizeOf (Tryz.prog.elem 53)).run Tryz.prog w = .ok 32 w := by kernel_rfl
/-- 'append(l, h)', l a row of hashes, h one hash. -/
theorem append_hash1 {w2 : World} {x : Value} {ps : List By} (hrow : Row w2 57 32 x (hcells ps)) (hps : ∀ y ∈ ps, y.length = 32) (p : By) (hp : p.length = 32) (hl : ps.length ≤ 1000000) :
    ∃ v' w', (Builtin.append_ #[53, 53] 53 #[x, .slice (some ⟨w2.heap.size, 0, none⟩) 1 1]).run Tryz.prog (w2.alloc (.cells (bytes8 p).toArray 57)) = .ok v' w' ∧
      Row w' 57 32 v' (hcells (ps ++ [p])) ∧ Kept (fun k => x.ownBlock = some k) w2 w' ∧ ∀ k, v'.ownBlock = some k → x.ownBlock = some k ∨ w2.heap.size ≤ k := by
  obtain ⟨i0, hi, hz0, hz1, hz2⟩ := info_parts info_hash3
  have hb := Blk.new w2 (bytes8 p) 57
  obtain ⟨v', w', hr, hrow2, hk, ho⟩ := (hrow.alloc (.cells (bytes8 p).toArray 57)).append_cells (P := Tryz.prog) (t := 53) Tryz.underlying53 hi hz0 hz1 (by show (zeros 32).toArray.size = 32; rw [List.size_toArray, zeros_len]) (by omega) (by omega) ⟨w2.heap.size, 0, none⟩ 1 1 (bytes8 p) (by rw [bytes8_len, hp]) (fun j u hu => by rw [addr0_add]; exact hb.cell hu) u8_oneCell (by omega) (by rw [hcells_len hps, bytes8_len, hp]; omega) 53
  refine ⟨v', w', hr, ?_, ((Kept.refl _ _).alloc _).trans hk, fun k hk => ?_⟩
  · rw [hcells_append, hcells_one]; exact hrow2
  · rcases ho k hk with h | h
    · exact Or.inl h
    · right; rw [World.size_alloc] at h; omega
theorem foldl_zip (l : List Value) : ∀ (c : List Value) (k : Nat), k + l.length ≤ c.length → (l.zipIdx k).foldl (fun (cs : Array Value) (x : Value × Nat) => cs.setIfInBounds x.snd x.fst) c.toArray = (splice c k l).toArray := by
  induction l with
  | nil => intro c k _; rw [splice_nil]; rfl
  | cons a l ih =>
    intro c k h
    simp only [List.length_cons] at h
    rw [List.zipIdx_cons, List.foldl_cons]
    have e : c.toArray.setIfInBounds k a = (c.set k a).toArray := by simp
    show List.foldl _ (c.toArray.setIfInBounds k a) _ = _
    rw [e, ih (c.set k a) (k + 1) (by simp; omega), splice_cons _ _ _ _ (by omega)]
theorem fold_hash {R : By} (h : R.length = 32) : (bytes8 R).zipIdx.foldl (fun (cs : Array Value) (x : Value × Nat) => cs.setIfInBounds x.snd x.fst) (zeros 32).toArray = (bytes8 R).toArray := by
  rw [foldl_zip (bytes8 R) (zeros 32) 0 (by rw [bytes8_len, zeros_len]; omega), splice_whole (by rw [bytes8_len, zeros_len, h])]
end Go.Proofs.YtlgeijbgkipliaaGreatDoor
