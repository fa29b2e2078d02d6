/- Trees3 Frames2 Frames3 FrameP RingM -/
import Derived.BigQuiet
import Derived.Lib.AppendZeros
import Derived.Test.YtpmdlkogccojmaaGreatDoorUStationSure14
import Derived.Test.YtpmdlkogccojmaaGreatDoorUStationSure15
import Derived.Test.YtpmdlkogccojmaaGreatDoorUStationSure11
import Derived.Test.YtpmdlkogccojmaaGreatDoorUStationSure13
set_option linter.unusedVariables false
set_option linter.unusedSimpArgs false
set_option maxRecDepth 100000
set_option maxHeartbeats 16000000
namespace Go.Proofs.YtpmdlkogccojmaaGreatDoor
open Go.RowKit
abbrev hcells (L : List By) : List Value:=bytes8 L.flatten
theorem flatten_len {L : List By} (h : ∀ x ∈ L, x.length = 32) : L.flatten.length = L.length * 32:=by
 induction L with
 | nil=>rfl
 | cons a L ih =>
  rw [List.flatten_cons, List.length_append, ih (fun x hx=>h x (by simp [hx])), h a (by simp), List.length_cons]
  omega
theorem hcells_len {L : List By} (h : ∀ x ∈ L, x.length = 32) : (hcells L).length = L.length * 32:=by rw [bytes8_len, flatten_len h]
theorem flatten_at {L : List By} (h : ∀ x ∈ L, x.length = 32) (i : Nat) (a : By) (hi : L[i]? = some a) : (L.flatten.drop (i * 32)).take 32 = a:=by
 induction L generalizing i with
 | nil=>simp at hi
 | cons b L ih =>
  have hb:=h b (by simp)
  rw [List.flatten_cons]
  cases i with
  | zero =>
   simp at hi
   subst hi
   rw [Nat.zero_mul, List.drop_zero, List.take_append_of_le_length (by omega), List.take_of_length_le (by omega)]
  | succ i =>
   rw [show (i + 1) * 32 = b.length + i * 32 by omega, ← List.drop_drop, List.drop_left]
   exact ih (fun x hx=>h x (by simp [hx])) i (by simpa using hi)
theorem hcells_at {L : List By} (h : ∀ x ∈ L, x.length = 32) (i : Nat) (a : By) (hi : L[i]? = some a) : ((hcells L).drop (i * 32)).take 32 = bytes8 a:=by
 have e1 : (hcells L).drop (i * 32) = bytes8 (L.flatten.drop (i * 32)):=by simp [hcells, bytes8, List.map_drop]
 rw [e1]
 have e2 : (bytes8 (L.flatten.drop (i * 32))).take 32 = bytes8 ((L.flatten.drop (i * 32)).take 32):=by simp [bytes8, List.map_take]
 rw [e2, flatten_at h i a hi]
theorem View.range {w : World} {size : Nat} {v : Value} {xs : List Value} {g off n cap : Nat} (h : View w size v xs) (hv : v = .slice (some ⟨g, off, none⟩) n cap) (hn : 0 < n) : w.rangeAt g off xs:=by
 obtain ⟨a, n', cap', rfl, h1, h2, h3, h4, h5⟩:=h
 cases hv
 obtain ⟨g', off', he, hg, hc⟩:=h5 hn
 cases he
 exact hc
theorem rangeAt_mid {w : World} {g off : Nat} {xs : List Value} (h : w.rangeAt g off xs) (i k : Nat) : w.rangeAt g (off + i) ((xs.drop i).take k):=by
 intro j u hu
 have hj:=(List.getElem?_eq_some_iff.1 hu).1
 rw [List.length_take] at hj
 rw [List.getElem?_take_of_lt (by omega), List.getElem?_drop] at hu
 rw [Nat.add_assoc]
 exact h _ u hu
structure Leaves (w : World) (lb rb g off n cap : Nat) (L : List By) : Prop where
 slice : Blk w lb [.slice (some ⟨g, off, none⟩) n cap] 47
 self : Blk w rb [.func (.func 60) #[] #[.pointer (some ⟨lb, 0, none⟩), .pointer (some ⟨rb, 0, none⟩)]] 119
 g_lt : g < w.heap.size
 cells : w.rangeAt g off (hcells L)
 len : n = L.length
 fits : n ≤ cap
 room : cap ≤ maxLen
 all : ∀ x ∈ L, x.length = 32
 few : L.length ≤ 1000000
 tab : Tab w
theorem Leaves.kept {w w' : World} {lb rb g off n cap : Nat} {L : List By} {S : Nat → Prop} (h : Leaves w lb rb g off n cap L) (hk : Kept S w w') (hS : ∀ b, b < w.heap.size → ¬ S b) : Leaves w' lb rb g off n cap L :=
 ⟨h.slice.kept hk (hS _ h.slice.lt), h.self.kept hk (hS _ h.self.lt), Nat.lt_of_lt_of_le h.g_lt hk.size, rangeAt_kept h.cells hk h.g_lt (hS _ h.g_lt), h.len, h.fits, h.room, h.all, h.few,
  ⟨fun i v hv=>hk.cell (h.tab.first i v hv) (hS _ (World.block_lt_of_cell? w _ (h.tab.first i v hv))), fun i v hv=>hk.cell (h.tab.rounds i v hv) (hS _ (World.block_lt_of_cell? w _ (h.tab.rounds i v hv)))⟩⟩
theorem treeF_sub {L : List By} {a b : Nat} (hab : a + 2 ≤ b) (hb : b ≤ L.length) : treeF ((L.drop a).take (b - a)) = nodeF (treeF ((L.drop a).take (splitN (b - a)))) (treeF ((L.drop (a + splitN (b - a))).take (b - (a + splitN (b - a))))):=by
 have hl : ((L.drop a).take (b - a)).length = b - a:=by simp; omega
 have hk:=splitN_in (n:=b - a) (by omega)
 rw [treeF_two (by omega), hl]
 congr 1
 ·rw [List.take_take, Nat.min_eq_left (by omega)]
 ·rw [List.drop_take, List.drop_drop]
  congr 2
  omega
theorem treeF_sub1 {L : List By} {a : Nat} {x : By} (hx : L[a]? = some x) : treeF ((L.drop a).take 1) = x:=by
 obtain ⟨ha, he⟩:=List.getElem?_eq_some_iff.1 hx
 rw [List.drop_eq_getElem_cons ha, List.take_succ_cons, List.take_zero, treeF_one, he]
abbrev rootFn (lb rb : Nat) : Value:=.func (.func 60) #[] #[.pointer (some ⟨lb, 0, none⟩), .pointer (some ⟨rb, 0, none⟩)]
abbrev RootS (w w' : World) (rb lb : Nat) : Prop:=w'.cell? ⟨rb, 0, none⟩ = some (rootFn lb rb)∧w'.there w.heap.size 0 32∧(∃ C : List Value, C.length = 32∧Blk w' w.heap.size C 24)∧Kept (· = w.heap.size) w w'
theorem rootS_begin {w : World} {rb lb : Nat} (h : Blk w rb [rootFn lb rb] 119) : RootS w (w.alloc (.cells (zeros 32).toArray 24)).drew rb lb:=by
 have hb:=Blk.new w (zeros 32) 24
 exact ⟨((h.alloc _).drew).cell (i:=0) rfl, (hb.drew).there 0 32 (by rw [zeros_len]; omega), ⟨_, zeros_len 32, hb.drew⟩, ((Kept.refl _ _).alloc _).drew⟩
theorem rootS_next {w w1 w2 : World} {rb lb : Nat} (h : RootS w w1 rb lb) (k : Kept (fun _=>False) w1 w2) : RootS w w2 rb lb:=by
 obtain ⟨h1, _, ⟨C, hC, hb⟩, hk⟩:=h
 have hb2:=hb.kept k id
 exact ⟨k.cell h1 id, hb2.there 0 32 (by omega), ⟨C, hC, hb2⟩, hk.then_ k (fun _ _=>False.elim)⟩
theorem rootS_store {w w1 : World} {rb lb : Nat} {H : List Value} (h : RootS w w1 rb lb) (hr : rb < w.heap.size) (hH : H.length = 32) : RootS w (w1.setCells w.heap.size 0 H) rb lb:=by
 obtain ⟨h1, _, ⟨C, hC, hb⟩, hk⟩:=h
 have k:=kept_setCells w1 w.heap.size 0 H
 have hb2:=hb.setCells 0 H (by omega)
 have hl : (splice C 0 H).length = 32:=by rw [splice_len (by omega), hC]
 exact ⟨k.cell h1 (by show ¬ rb = w.heap.size; omega), hb2.there 0 32 (by omega), ⟨_, hl, hb2⟩, hk.then_ k (fun _ _ e=>e)⟩
theorem rootS_leaves {w w1 : World} {lb rb g off n cap : Nat} {L : List By} (hL : Leaves w lb rb g off n cap L) (h : RootS w w1 rb lb) : Leaves w1 lb rb g off n cap L:=hL.kept h.2.2.2 (fun b hb e=>by omega)
theorem rootIn_any (m : Nat) : ∀ (w : World) (lb rb g off n cap : Nat) (L : List By) (a b : Nat), Leaves w lb rb g off n cap L → b - a ≤ m → a < b → b ≤ L.length →
  Calls Tryz.prog 60 #[.int .i64 (a : Int), .int .i64 (b : Int), .pointer (some ⟨lb, 0, none⟩), .pointer (some ⟨rb, 0, none⟩)] w fun e w'=>e = .returned (hashV (treeF ((L.drop a).take (b - a))))∧Kept (fun _=>False) w w':=by
 induction m with
 | zero=>intro w lb rb g off n cap L a b _ h1 h2; omega
 | succ m ih =>
  intro w lb rb g off n cap L a b h hm hab hb
  have hfew:=h.few
  have hsp:=fun w'=>split_any w' (b - a) (by omega)
  have a1 : wrap64 ((b : Int) - (a : Int)) = ((b - a : Nat) : Int):=by rw [IntWalk.wrap64_in _ (by omega)]; omega
  have hr:=Blk.new w (zeros 32) 24
  by_cases hone : b - a < 2
  ·obtain ⟨x, hx⟩ : ∃ x, L[a]? = some x:=⟨_, List.getElem?_eq_getElem (by omega)⟩
   have hx32:=h.all x (List.mem_of_getElem? hx)
   rw [show b - a = 1 by omega, treeF_sub1 hx]
   have hrg:=rangeAt_mid h.cells (a * 32) 32
   rw [hcells_at h.all a x hx] at hrg
   have hs0:=splitN_small hone
   rw [hs0] at hsp
   have HSP:=Lib.hid hsp
   have i0 : (a : Int) < (n : Int):=by have:=h.len; omega
   have i1 : (0 : Int) ≤ (a : Int):=by omega
   have HF:=Lib.hid (show ∀ w1, w1 = w.alloc (.cells (zeros 32).toArray 24) → w1.cell? ⟨lb, 0, none⟩ = some (.slice (some ⟨g, off, none⟩) n cap)∧Hid (w1.rangeAt g (off + a * 32) (bytes8 x)∧Blk w1 w.heap.size (zeros 32) 24∧Kept (fun _=>False) w w1) from by
    rintro w1 rfl
    exact ⟨(h.slice.alloc _).cell (i:=0) rfl, Lib.hid ⟨rangeAt_kept hrg ((Kept.refl (fun _=>False) w).alloc _) h.g_lt id, hr, (Kept.refl _ _).alloc _⟩⟩)
   have HI:=Lib.hid (show (Tryz.prog.info? 24).map (·.size) = some (bytes8 x).length by rw [bytes8_len, hx32]; exact info_h32)
   clear hsp hs0 hr hm ih h hx hrg hone hfew hab hb
   have HX:=Lib.hid hx32
   clear hx32
   go_enter Tryz.func60, Tryz.ntmps60
   go_wp2_with (first | (go_at_call 61; refine (HSP.out _).mono ?_; rintro e w' ⟨rfl, rfl⟩; generalize hw1 : World.alloc w _ = w1; obtain ⟨c0, HG⟩:=HF.out w1 hw1.symm; clear hw1) | (refine wpList_load_mid rfl 24 _ rfl g (off + a * 32) rfl (bytes8 x) _ HG.out.1 Tryz.underlying24 rfl HI.out ?_) | (refine wpList_store_mid rfl 24 _ _ rfl w.heap.size 0 (bytes8 x).toArray rfl rfl ?hth ?hi ?h1 ?_))
   case hth=>exact (hash_stored HG.out.2.1 (zeros_len 32) HX.out).1
   case hi=>exact info_hash HX.out
   case h1=>exact all_oneCell_toArray (fun y hy=>u8_oneCell y hy)
   have hst:=hash_stored HG.out.2.1 (zeros_len 32) HX.out
   refine bodyPost_ret (hst.2.result rfl rfl Tryz.underlying24 rfl HI.out) rfl ⟨rfl, ?_⟩
   exact HG.out.2.2.then_ (kept_setCells _ _ _ _) (fun i hi e=>by omega)
  ·have hk:=splitN_in (n:=b - a) (by omega)
   rw [treeF_sub (by omega) hb]
   have x1 : ((splitN (b - a) : Int) == 0) = false:=by simp; omega
   generalize splitN (b - a) = K at *
   have h1 : ∀ w', Leaves w' lb rb g off n cap L → Calls Tryz.prog 60 #[.int .i64 (a : Int), .int .i64 ((a + K : Nat) : Int), .pointer (some ⟨lb, 0, none⟩), .pointer (some ⟨rb, 0, none⟩)] w' fun e w''=>e = .returned (hashV (treeF ((L.drop a).take K)))∧Kept (fun _=>False) w' w'':=by
    intro w' hw'
    have:=ih w' lb rb g off n cap L a (a + K) hw' (by omega) (by omega) (by omega)
    rwa [Nat.add_sub_cancel_left] at this
   have h2 : ∀ w', Leaves w' lb rb g off n cap L → Calls Tryz.prog 60 #[.int .i64 ((a + K : Nat) : Int), .int .i64 (b : Int), .pointer (some ⟨lb, 0, none⟩), .pointer (some ⟨rb, 0, none⟩)] w' fun e w''=>e = .returned (hashV (treeF ((L.drop (a + K)).take (b - (a + K)))))∧Kept (fun _=>False) w' w'' :=
    fun w' hw'=>ih w' lb rb g off n cap L (a + K) b hw' (by omega) (by omega) (by omega)
   have l1 : (treeF ((L.drop a).take K)).length = 32:=treeF_len (by simp; omega) (fun x hx=>h.all x (List.mem_of_mem_drop (List.mem_of_mem_take hx)))
   have l2 : (treeF ((L.drop (a + K)).take (b - (a + K)))).length = 32:=treeF_len (by simp; omega) (fun x hx=>h.all x (List.mem_of_mem_drop (List.mem_of_mem_take hx)))
   generalize treeF ((L.drop a).take K) = A at *
   generalize treeF ((L.drop (a + K)).take (b - (a + K))) = B at *
   have hnd:=fun w' ht=>node_any w' A B l1 l2 ht
   have hlN:=nodeF_len A B
   generalize nodeF A B = N at *
   have a2:=Lib.hid (show IntKind.i64.wrap ((a : Int) + (K : Int)) = ((a + K : Nat) : Int) by rw [IntWalk.i64_in _ (by clear a1; omega)]; omega)
   generalize a + K = E at h1 h2 a2
   have HSP:=Lib.hid hsp
   have H1:=Lib.hid h1
   have H2:=Lib.hid h2
   have HN:=Lib.hid hnd
   have HL:=Lib.hid h
   have HF:=Lib.hid (show ∀ w1, w1 = w.alloc (.cells (zeros 32).toArray 24) → RootS w w1.drew rb lb from by
    rintro w1 rfl
    exact rootS_begin h.self)
   have iN : (Tryz.prog.info? 24).map (·.size) = some (bytes8 N).length:=by rw [bytes8_len, hlN]; exact info_h32
   have lN : (bytes8 N).length = 32:=by rw [bytes8_len, hlN]
   have oN : ∀ v ∈ bytes8 N, v.oneCell' = true:=u8_oneCell
   clear hsp h1 h2 hnd ih h hr l1 l2 hlN hm hfew hone hk hab hb
   have a3:=a2.out
   go_enter Tryz.func60, Tryz.ntmps60
   go_wp2_with (first | (go_at_call 61; refine (HSP.out _).mono ?_; rintro e w' ⟨rfl, rfl⟩; generalize hw1 : World.alloc w _ = w1; have hs0:=HF.out w1 hw1.symm; clear hw1))
   go_region_held3 (fun w'=>w'.cell? ⟨rb, 0, none⟩ = some (.func (.func 60) #[] #[.pointer (some ⟨lb, 0, none⟩), .pointer (some ⟨rb, 0, none⟩)])∧w'.there w.heap.size 0 32∧(∃ C : List Value, C.length = 32∧Blk w' w.heap.size C 24)∧Kept (· = w.heap.size) w w') (first | exact hs0 | exact rootS_next (by assumption) (by assumption) | exact rootS_store (by assumption) HL.out.self.lt lN) (first | (go_at_call 60; with_reducible refine (H1.out _ (rootS_leaves HL.out (by assumption))).mono ?_; rintro e w3 ⟨rfl, hk3⟩) | (go_at_call 60; with_reducible refine (H2.out _ (rootS_leaves HL.out (by assumption))).mono ?_; rintro e w3 ⟨rfl, hk3⟩) | (go_at_call 62; with_reducible refine (HN.out _ (rootS_leaves HL.out (by assumption)).tab).mono ?_; rintro e w3 ⟨rfl, hk3⟩))
   rename_i wa ka wb kb hh
   obtain ⟨_, _, ⟨C, hC, hbC⟩, hkC⟩:=rootS_next (rootS_next (rootS_next hs0 ka) kb) hk3
   have hlN : N.length = 32:=by rwa [bytes8_len] at lN
   have hst:=hash_stored hbC hC hlN
   go_wp2_with fail
   refine bodyPost_ret (hst.2.result rfl rfl Tryz.underlying24 rfl iN) rfl ⟨rfl, ?_⟩
   have:=hh.2.2.2
   exact ⟨this.os, this.tape, this.output, this.size, fun i hi _=>this.block i hi (by show ¬ i = w.heap.size; omega)⟩
def cutF (l : List UInt8) : Option (List UInt8 × List UInt8) :=
 if l.length < 12 then none
 else if 65536 < ofBe (l.take 4) ∨ l.length < ofBe (l.take 4) + 12 then none
 else if markF ((l.drop 12).take (ofBe (l.take 4))) = l.take 12 then some ((l.drop 12).take (ofBe (l.take 4)), l.drop (12 + ofBe (l.take 4)))
 else none
def CutIs (w' : World) (v v1 v2 : Value) (ok : Bool) : Option (List UInt8 × List UInt8) → Prop
 | some x=>ok = true∧View w' 1 v1 (bytes8 x.1)∧View w' 1 v2 (bytes8 x.2)∧v2.ownBlock = v.ownBlock
 | none=>ok = false
def CutPost (w : World) (v : Value) (l : List UInt8) (e : Ending) (w' : World) : Prop:=∃ v1 v2 ok, e = .returned (.tuple #[v1, v2, .bool ok])∧CutIs w' v v1 v2 ok (cutF l)∧Kept (fun _=>False) w w'
theorem bytes8_take (l : List UInt8) (n : Nat) : (bytes8 l).take n = bytes8 (l.take n):=by simp [bytes8, List.map_take]
theorem bytes8_drop (l : List UInt8) (n : Nat) : (bytes8 l).drop n = bytes8 (l.drop n):=by simp [bytes8, List.map_drop]
theorem elem_bytes : Tryz.prog.underlying 100 = some (.slice (Tryz.prog.elem 100)):=by kernel_rfl
theorem size_elem (w : World) : (sizeOf (Tryz.prog.elem 100)).run Tryz.prog w = .ok 1 w:=by kernel_rfl
theorem cut_end {N n E : Nat} (hE : E = 12 + N) (hbad : ¬ (65536 < N ∨ n < N + 12)) : E ≤ n:=by omega
theorem cut_wrap {N n E : Nat} (hE : E = 12 + N) (hbad : ¬ (65536 < N ∨ n < N + 12)) : wrap64 (12 + (N : Int)) = (E : Int):=by rw [IntWalk.wrap64_in _ (by omega)]; omega
theorem cut_any (w : World) (v : Value) (l : List UInt8) (hv : View w 1 v (bytes8 l)) (ht : Tab w) :
  Calls Tryz.prog 107 #[v] w (CutPost w v l):=by
 have hml : maxLen = 9223372036854775807:=rfl
 have hv0:=hv
 obtain ⟨a, n, cap, rfl, h1, h2, h3, h4, h5⟩:=hv
 rw [bytes8_len, Nat.mul_one] at h1
 by_cases hn : n < 12
 ·have y1 : decide ((n : Int) < 12) = true:=by simp; omega
  have hc : cutF l = none:=by unfold cutF; rw [if_pos (by omega)]
  have HC:=Lib.hid hc
  clear hc
  go_enter Tryz.func107, Tryz.ntmps107
  go_wp2
  go_ret3
  exact ⟨_, _, false, rfl, by rw [HC.out]; rfl, Kept.refl _ _⟩
 ·have y1 : decide ((n : Int) < 12) = false:=by simp; omega
  obtain ⟨g, off, rfl, _, _⟩:=h5 (by omega)
  have hr4 : ∀ w0, (Instr.slice 100 (.slice (some ⟨g, off, none⟩) n cap) none (some (.int .i64 4)) none).run Tryz.prog w0 = .ok (.slice (some ⟨g, off, none⟩) 4 cap) w0:=fun w0=>hv0.run_head elem_bytes size_elem 4 (by omega) w0
  have hs4:=(hv0.head 4 (by omega))
  rw [Nat.mul_one, bytes8_take] at hs4
  have hs4:=hs4.text
  have hg4:=fun w'=>get_any w' ⟨(l.take 4).toArray⟩ (by show (l.take 4).toArray.size ≤ 4; rw [List.size_toArray, List.length_take]; omega)
  have hN : ofBe (⟨(l.take 4).toArray⟩ : ByteArray).data.toList = ofBe (l.take 4):=rfl
  rw [hN] at hg4
  obtain ⟨N, hN'⟩ : ∃ N, N = ofBe (l.take 4):=⟨_, rfl⟩
  rw [← hN'] at hg4
  have HG:=Lib.hid hg4
  have HN:=Lib.hid hN'
  clear hg4 hN hN'
  have H1:=Lib.hid h1
  have hnm : n ≤ 9223372036854775807:=by omega
  have A1:=Lib.hid (show wrap64 ((n : Int) - 12) = (n : Int) - 12 from IntWalk.wrap64_in _ (by omega))
  by_cases hbad : 65536 < N ∨ n < N + 12
  ·have hc : cutF l = none:=by unfold cutF; rw [if_neg (by omega), if_pos (by rw [← HN.out, ← h1]; exact hbad)]
   have HC:=Lib.hid hc
   clear hc h1 h3 h4 h5 hv0 hml
   by_cases hbig : 65536 < N
   ·have y2 : decide ((65536 : Int) < (N : Int)) = true:=by simp; omega
    clear hbad
    have a1:=A1.out
    go_enter Tryz.func107, Tryz.ntmps107
    go_wp2_with (go_at_call 140; refine (HG.out _).mono ?_; rintro e w' ⟨rfl, rfl⟩)
    go_ret3
    exact ⟨_, _, false, rfl, by rw [HC.out]; rfl, Kept.refl _ _⟩
   ·have y2 : decide ((65536 : Int) < (N : Int)) = false:=by simp; omega
    have y3 : decide ((n : Int) - 12 < (N : Int)) = true:=by simp; omega
    have a2 : IntKind.i64.wrap (N : Int) = (N : Int):=IntWalk.i64_in _ (by omega)
    clear hbad
    have a1:=A1.out
    go_enter Tryz.func107, Tryz.ntmps107
    go_wp2_with (go_at_call 140; refine (HG.out _).mono ?_; rintro e w' ⟨rfl, rfl⟩)
    go_ret3
    exact ⟨_, _, false, rfl, by rw [HC.out]; rfl, Kept.refl _ _⟩
  ·have y2 : decide ((65536 : Int) < (N : Int)) = false:=by simp; omega
   have y3 : decide ((n : Int) - 12 < (N : Int)) = false:=by simp; omega
   have a2 : IntKind.i64.wrap (N : Int) = (N : Int):=IntWalk.i64_in _ (by omega)
   obtain ⟨E, hE⟩ : ∃ E : Nat, E = 12 + N:=⟨_, rfl⟩
   have A3:=Lib.hid (show wrap64 (12 + (N : Int)) = (E : Int) from cut_wrap hE hbad)
   have e12 : 12 ≤ E:=by rw [hE]; exact Nat.le_add_right _ _
   have eEn : E ≤ n:=cut_end hE hbad
   obtain ⟨v1, hr1, hv1⟩:=hv0.mid3 elem_bytes size_elem 12 E e12 eEn
   obtain ⟨v2, hr2, hv2, ho2⟩ : ∃ v2, (∀ w0, (Instr.slice 100 (.slice (some ⟨g, off, none⟩) n cap) (some (.int .i64 (E : Int))) none none).run Tryz.prog w0 = .ok v2 w0)∧View w 1 v2 ((bytes8 l).drop (E * 1))∧v2.ownBlock = some g :=
    ⟨_, fun w0=>hv0.run_tail elem_bytes size_elem E eEn w0, hv0.tail E eEn, by split <;> simp [Value.ownBlock, addr_mid]⟩
   rw [Nat.mul_one, Nat.mul_one, bytes8_drop, bytes8_take, show E - 12 = N by omega] at hv1
   rw [Nat.mul_one, bytes8_drop] at hv2
   have hr1 : ∀ w0, (Instr.slice 100 (.slice (some ⟨g, off, none⟩) n cap) (some (.int .i64 12)) (some (.int .i64 (E : Int))) (some (.int .i64 (E : Int)))).run Tryz.prog w0 = .ok v1 w0:=hr1
   have hr12 : ∀ w0, (Instr.slice 100 (.slice (some ⟨g, off, none⟩) n cap) none (some (.int .i64 12)) none).run Tryz.prog w0 = .ok (.slice (some ⟨g, off, none⟩) 12 cap) w0:=fun w0=>hv0.run_head elem_bytes size_elem 12 (by omega) w0
   have hv12:=hv0.head 12 (by omega)
   rw [Nat.mul_one, bytes8_take] at hv12
   have HV:=Lib.hid (And.intro hv1 (And.intro hv2 (And.intro hv12 ho2)))
   have hcut : cutF l = if markF ((l.drop 12).take N) = l.take 12 then some ((l.drop 12).take N, l.drop E) else none:=by
    unfold cutF; rw [if_neg (by omega), if_neg (by rw [← HN.out, ← h1]; exact hbad), ← HN.out, hE]
   have HC:=Lib.hid hcut
   have hpl : ((l.drop 12).take N).length ≤ 65536:=by rw [List.length_take]; omega
   generalize (l.drop 12).take N = p at *
   generalize hq : l.take 12 = q at *
   have hm : ∀ w', Tab w' → Calls Tryz.prog 63 #[.string ⟨p.toArray⟩] w' fun e w''=>e = .returned (.string ⟨(markF p).toArray⟩)∧Kept (fun _=>False) w' w'':=fun w' ht' =>
    mark_any w' ⟨p.toArray⟩ (by show p.toArray.size ≤ 900000; rw [List.size_toArray]; omega) ht'
   have HM:=Lib.hid hm
   have c1 : ∀ m, (convert 100 9 v1).run Tryz.prog (w.drewN m) = .ok (.string ⟨p.toArray⟩) (w.drewN m):=fun m=>(hv1.same ((Kept.refl _ _).drewN m) (by omega)).text
   have c2 : ∀ m, (convert 100 9 (.slice (some ⟨g, off, none⟩) 12 cap)).run Tryz.prog (w.drewN m) = .ok (.string ⟨q.toArray⟩) (w.drewN m):=fun m=>(hv12.same ((Kept.refl _ _).drewN m) (by omega)).text
   have a1:=A1.out
   have a3:=A3.out
   have HR:=Lib.hid hr12
   clear h1 h3 hml hm hcut hq hv1 hv2 hv12 hpl hbad hE hv0 h4 h5
   go_enter Tryz.func107, Tryz.ntmps107
   go_wp2_with (go_at_call 140; refine (HG.out _).mono ?_; rintro e w' ⟨rfl, rfl⟩)
   go_quiet (fail)
   go_wp2_with fail
   clear hr1 hr2 hr4 hr12 a1 a2 a3 y1 y2 y3 c1 c2
   have c1 : ∀ w', Kept (fun _=>False) w w' → (convert 100 9 v1).run Tryz.prog w' = .ok (.string ⟨p.toArray⟩) w':=fun w' h=>(HV.out.1.same h (by omega)).text
   have c2 : ∀ w', Kept (fun _=>False) w w' → (convert 100 9 (.slice (some ⟨g, off, none⟩) 12 cap)).run Tryz.prog w' = .ok (.string ⟨q.toArray⟩) w':=fun w' h=>(HV.out.2.2.1.same h (by omega)).text
   have hr12 : ∀ w0, (Instr.slice 100 (.slice (some ⟨g, off, none⟩) n cap) none (some (.int .i64 12)) none).run Tryz.prog w0 = .ok (.slice (some ⟨g, off, none⟩) 12 cap) w0:=HR.out
   go_region_held3 (fun w'=>Kept (fun _=>False) w w') (first | exact ((Kept.refl _ _).drewN _).drew | exact (Kept.refl _ _).drewN _ | exact ((Kept.refl _ _).drewN _).trans hk3) (first | (go_at_call 63; with_reducible refine (HM.out _ (ht.same ((Kept.refl _ _).drewN _))).mono ?_; rintro e w3 ⟨rfl, hk3⟩))
   all_goals
    go_wp2_with fail
    go_ret3
    refine ⟨v1, v2, markF p == q, rfl, ?_, ((Kept.refl _ _).drewN _).trans hk3⟩
    have hk4 : Kept (fun _=>False) w w3:=((Kept.refl _ _).drewN _).trans hk3
    rw [HC.out]
    by_cases hp : markF p = q
    ·rw [if_pos hp]
     exact ⟨by simpa using hp, HV.out.1.same hk4 (by omega), HV.out.2.1.same hk4 (by omega), HV.out.2.2.2⟩
    ·rw [if_neg hp]
     simpa [CutIs] using hp
theorem cutF_len {l : List UInt8} {x : List UInt8 × List UInt8} (h : cutF l = some x) : x.2.length + 12 ≤ l.length∧x.1.length ≤ 65536:=by
 unfold cutF at h
 split at h
 ·cases h
 ·split at h
  ·cases h
  ·split at h
   ·cases h; simp; omega
   ·cases h
def wholeF (l : List UInt8) : List (List UInt8) × List UInt8:=match h : cutF l with
 | none=>([], l)
 | some x=>(x.1::(wholeF x.2).1, (wholeF x.2).2)
termination_by l.length
decreasing_by all_goals (have:=(cutF_len h).1; omega)
theorem wholeF_none {l : List UInt8} (h : cutF l = none) : wholeF l = ([], l):=by
 unfold wholeF
 split
 ·rfl
 ·rename_i q; rw [h] at q; cases q
theorem wholeF_some {l : List UInt8} {x : List UInt8 × List UInt8} (h : cutF l = some x) : wholeF l = (x.1::(wholeF x.2).1, (wholeF x.2).2):=by
 conv=>lhs; unfold wholeF
 split
 ·rename_i q; rw [h] at q; cases q
 ·rename_i y q; rw [h] at q; cases q; rfl
theorem wholeF_len (l : List UInt8) : (wholeF l).2.length + 12 * (wholeF l).1.length ≤ l.length:=by
 match h : cutF l with
 | none=>rw [wholeF_none h]; simp
 | some x =>
  have h1:=(cutF_len h).1
  have h2:=wholeF_len x.2
  rw [wholeF_some h]
  simp
  omega
termination_by l.length
decreasing_by omega
def strV (ps : List (List UInt8)) : List Value:=ps.map fun p=>.string ⟨p.toArray⟩
theorem strV_len (ps : List (List UInt8)) : (strV ps).length = ps.length:=by simp [strV]
def U8Blk (w : World) (v : Value) : Prop:=∀ g, v.ownBlock = some g → ∃ c f, w.heap[g]? = some (.cells c 5 f)
theorem U8Blk.kept {S : Nat → Prop} {w w' : World} {v : Value} (h : U8Blk w v) (hk : Kept S w w') (hS : ∀ g, v.ownBlock = some g → ¬ S g) : U8Blk w' v:=by
 intro g hg
 obtain ⟨c, f, hc⟩:=h g hg
 exact ⟨c, f, by rw [hk.block g (Array.getElem?_eq_some_iff.1 hc).1 (hS g hg)]; exact hc⟩
theorem U8Blk.ne {w : World} {v x : Value} {xs : List Value} {size : Nat} (h : U8Blk w v) (hr : Row w 9 size x xs) (g : Nat) (hv : v.ownBlock = some g) (hx : x.ownBlock = some g) : False:=by
 obtain ⟨c, f, hc⟩:=h g hv
 rcases hr with ⟨rfl, _⟩ | ⟨g', n, cap, rest, rfl, _, hb, _⟩
 ·simp [Value.ownBlock] at hx
 ·simp [Value.ownBlock] at hx
  subst hx
  unfold Blk at hb
  rw [hb] at hc
  simp at hc
theorem bytes_view (w : World) (s : ByteArray) (hs : s.size ≤ 1000000000) : ∃ v w1, (convert 9 100 (.string s)).run Tryz.prog w = .ok v w1∧View w1 1 v (bytes8 s.data.toList)∧U8Blk w1 v∧Kept (fun _=>False) w w1∧∃ a n c, v = .slice a n c∧n = s.size:=by
 refine ⟨_, _, run_bytes_of_string w 9 100 5 s Tryz.underlying9 Tryz.underlying100 Tryz.underlying5, ?_, ?_, ((Kept.refl _ _).drew).alloc _, _, _, _, rfl, rfl⟩
 ·have h2:=grownCap_ge w s.size 0 5
  have h3:=grownCap_le_maxLen w s.size 0 5 (by unfold maxLen; omega)
  generalize grownCap w s.size 0 5 = C at *
  have hnew:=heap_alloc_new w.drew (.cells (bytesRow s C) 5 ((bytesRow s C).size, (bytesRow s C).size + 1))
  refine ⟨_, s.size, C, rfl, by rw [bytes8_len]; simp, h2, h3, fun _=>⟨_, 0, rfl⟩, fun _=>⟨_, 0, rfl, ?_, fun j u hu=>?_⟩⟩
  ·rw [World.size_alloc]; exact Nat.lt_succ_self _
  ·have hj:=(List.getElem?_eq_some_iff.1 hu).1
   rw [bytes8_len] at hj
   have hjd : j < s.data.size:=by simpa using hj
   have he : (bytesRow s C)[j]? = some u:=by
    rw [bytesRow_at s C j hjd, ← hu, bytes8_at _ j hj]
    simp
   rw [Nat.zero_add]
   have hnew' : (w.drew.alloc (.cells (bytesRow s C) 5 ((bytesRow s C).size, (bytesRow s C).size + 1))).heap[w.heap.size]? = some (.cells (bytesRow s C) 5 ((bytesRow s C).size, (bytesRow s C).size + 1)):=hnew
   simp only [World.cell?, hnew']
   exact he
 ·intro g hg
  simp [Value.ownBlock] at hg
  subst hg
  exact ⟨_, _, heap_alloc_new w.drew _⟩
theorem info_str : (Tryz.prog.info? 9).map (fun i=>(i.zero, i.size, i.bytes)) = some (some (.string ⟨#[]⟩), 1, 16):=by kernel_rfl
theorem append_str1 {w2 : World} {x : Value} {ps : List (List UInt8)} (hrow : Row w2 9 1 x (strV ps)) (p : List UInt8) (hl : ps.length ≤ 100000000) :
  ∃ v' w', (Builtin.append_ #[54, 54] 54 #[x, .slice (some ⟨w2.heap.size, 0, none⟩) 1 1]).run Tryz.prog (w2.alloc (.cells #[.string ⟨p.toArray⟩] 9)) = .ok v' w' ∧
   Row w' 9 1 v' (strV (ps ++ [p]))∧Kept (fun k=>x.ownBlock = some k) w2 w'∧∀ k, v'.ownBlock = some k → x.ownBlock = some k ∨ w2.heap.size ≤ k:=by
 obtain ⟨i0, hi, hz0, hz1, hz2⟩:=info_parts info_str
 have hb:=Blk.new w2 [.string ⟨p.toArray⟩] 9
 obtain ⟨v', w', hr, hrow2, hk, ho⟩:=(hrow.alloc (.cells #[.string ⟨p.toArray⟩] 9)).append_cells (P:=Tryz.prog) (t:=54) Tryz.underlying54 hi hz0 hz1 rfl (by omega) (by omega) ⟨w2.heap.size, 0, none⟩ 1 1 [.string ⟨p.toArray⟩] rfl (fun j u hu=>by rw [addr0_add]; exact hb.cell hu) (fun u hu=>by simp at hu; subst hu; rfl) (by omega) (by rw [strV_len]; simp; omega) 54
 refine ⟨v', w', hr, ?_, ((Kept.refl _ _).alloc _).trans hk, fun k hk=>?_⟩
 ·rw [show strV (ps ++ [p]) = strV ps ++ [.string ⟨p.toArray⟩] by simp [strV]]; exact hrow2
 ·rcases ho k hk with h | h
  ·exact Or.inl h
  ·right; rw [World.size_alloc] at h; omega
def sliceLen : Value → Nat
 | .slice _ n _=>n
 | _=>0
def WholePost (w : World) (l : List UInt8) (e : Ending) (w' : World) : Prop :=
 ∃ v, e = .returned (.tuple #[v, .int .i64 ((l.length - (wholeF l).2.length : Nat) : Int)])∧Row w' 9 1 v (strV (wholeF l).1)∧(∀ k, v.ownBlock = some k → w.heap.size ≤ k)∧Kept (fun _=>False) w w'
theorem whole_any (w : World) (s : ByteArray) (hs : s.size ≤ 2000000) (ht : Tab w) :
  Calls Tryz.prog 71 #[.string s] w (WholePost w s.data.toList):=by
 obtain ⟨v0, w1, hr0, hv0, hu0, hk0, a0, n0, c0, rfl, rfl⟩:=bytes_view w s (by omega)
 have hln:=bstr_len s
 go_enter Tryz.func71, Tryz.ntmps71
 go_wp2_with fail
 generalize s.data.toList = full at *
 go_loopw [2, 4] (fun x y wr=>∃ (ps : List (List UInt8)) (l : List UInt8), Row wr 9 1 x (strV ps)∧View wr 1 y (bytes8 l)∧U8Blk wr y∧l.length + 12 * ps.length ≤ s.size∧Hid (wholeF full = (ps ++ (wholeF l).1, (wholeF l).2))∧(∀ k, x.ownBlock = some k → w.heap.size ≤ k)∧Kept (fun _=>False) w wr) (fun _ y _=>sliceLen y)
 case atStart=>exact ⟨[], full, Row.nil _ _ _, hv0, hu0, by simp [hln], Lib.hid (by simp), fun k hk=>by simp [Value.ownBlock] at hk, hk0⟩
 case round =>
  obtain ⟨ps, l, hrow, hview, hub, hlen, HW, hown, hk⟩:=hrel
  have hcut:=cut_any wr _ l hview (ht.same hk)
  obtain ⟨a, n, c, rfl, hn, hv2, hv3, hv4, hv5⟩:=hview
  rw [bytes8_len, Nat.mul_one] at hn
  match hc : cutF l with
  | none =>
   have a1 : wrap64 ((s.size : Int) - (n : Int)) = ((full.length - l.length : Nat) : Int):=by rw [IntWalk.wrap64_in _ (by omega)]; omega
   have HW : wholeF full = (ps ++ (wholeF l).1, (wholeF l).2):=HW
   rw [wholeF_none hc, List.append_nil] at HW
   have HC:=Lib.hid hc
   have HL:=Lib.hid hlen
   have HE:=Lib.hid HW
   clear hc hlen HW hn hln
   go_wp2_with (go_at_call 107; refine hcut.mono ?_; rintro e w2 ⟨v1, v2, ok, rfl, hci, hk2⟩; rw [HC.out] at hci; obtain rfl : ok = false:=hci)
   go_ret2
   refine ⟨_, by rw [HE.out]; show _ = Ending.returned (.tuple #[_, .int .i64 ((full.length - l.length : Nat) : Int)]); rw [← a1]; rfl, ?_, hown, hk.trans hk2⟩
   rw [HE.out]
   exact hrow.kept hk2 (fun _ _=>id)
  | some x =>
   have hcl:=(cutF_len hc).1
   have HW : wholeF full = (ps ++ (wholeF l).1, (wholeF l).2):=HW
   rw [wholeF_some hc] at HW
   have HC:=Lib.hid hc
   have HE:=Lib.hid HW
   clear hc HW
   have hp1 : ps.length ≤ 100000000:=by omega
   have hcut2 : Calls Tryz.prog 107 #[.slice a n c] wr fun e w2=>∃ v1 v2 v' w', e = .returned (.tuple #[v1, v2, .bool true])∧(convert 100 9 v1).run Tryz.prog w2 = .ok (.string ⟨x.1.toArray⟩) w2 ∧
     (Builtin.append_ #[54, 54] 54 #[u2, .slice (some ⟨w2.heap.size, 0, none⟩) 1 1]).run Tryz.prog (w2.alloc (.cells #[.string ⟨x.1.toArray⟩] 9)) = .ok v' w' ∧
     Hid (View w' 1 v2 (bytes8 x.2)∧U8Blk w' v2∧Row w' 9 1 v' (strV (ps ++ [x.1]))∧(∀ k, v'.ownBlock = some k → w.heap.size ≤ k)∧Kept (fun _=>False) w w'):=by
    refine hcut.mono ?_
    rintro e w2 ⟨v1, v2, ok, rfl, hci, hk2⟩
    rw [HC.out] at hci
    obtain ⟨rfl, hq1, hq2, ho2⟩:=hci
    have hrow2:=hrow.kept hk2 (fun _ _=>id)
    obtain ⟨v', w', hr1, hrow3, hk3, ho3⟩:=append_str1 hrow2 x.1 hp1
    have hub2 : U8Blk w2 v2:=by
     have:=hub.kept hk2 (fun _ _=>id)
     intro g hg
     rw [ho2] at hg
     exact this g hg
    have hown2 : ∀ k, v'.ownBlock = some k → w.heap.size ≤ k:=by
     intro k hk'
     rcases ho3 k hk' with h | h
     ·exact hown k h
     ·have:=hk.size; have:=hk2.size; omega
    refine ⟨v1, v2, v', w', rfl, hq1.text, hr1, Lib.hid ⟨hq2.kept hk3 (fun g c t f hg hv hx=>hub2.ne hrow2 g hv hx) (by omega), hub2.kept hk3 (fun g hv hx=>hub2.ne hrow2 g hv hx), hrow3, hown2, (hk.trans hk2).then_ hk3 (fun i hi hx=>?_)⟩⟩
    have:=hown i hx
    omega
   have HX:=Lib.hid (And.intro hcl (And.intro hlen (And.intro hn hln)))
   clear hcut hrow hub hown hv2 hv3 hv4 hv5 hn hln hlen hcl hp1 hr0 hv0 hu0 hk0
   go_wp2_with (first | (go_at_call 107; refine hcut2.mono ?_; rintro e w2 ⟨v1, v2, v', w', rfl, hpt, hr1, HF⟩) | (at_builtin; refine Lib.wpList_append_run _ rfl _ _ 54 54 rfl _ _ rfl rfl _ _ hr1 ?_))
   obtain ⟨hcl, hlen, hn, hln⟩:=HX.out
   obtain ⟨g1, g2, g3, g4, g5⟩:=HF.out
   refine ⟨⟨ps ++ [x.1], x.2, g3, g1, g2, by simp; omega, Lib.hid (by rw [HE.out]; simp), g4, g5⟩, ?_⟩
   obtain ⟨a', n', c', rfl, hn', _⟩:=g1
   rw [bytes8_len, Nat.mul_one] at hn'
   show n' < n
   omega
theorem ofBe_cons (x : UInt8) (l : List UInt8) : ofBe (x::l) = x.toNat * 256 ^ l.length + ofBe l:=by
 have key : ∀ (l : List UInt8) (a : Nat), l.foldl (fun a b=>a * 256 + b.toNat) a = a * 256 ^ l.length + l.foldl (fun a b=>a * 256 + b.toNat) 0:=by
  intro l
  induction l with
  | nil=>intro a; simp
  | cons y r ih =>
   intro a
   rw [List.foldl_cons, List.foldl_cons, ih (a * 256 + y.toNat), ih (0 * 256 + y.toNat), List.length_cons, Nat.pow_succ, Nat.add_mul, Nat.zero_mul, Nat.zero_add, Nat.mul_assoc, Nat.mul_comm 256 (256 ^ r.length), Nat.add_assoc]
 unfold ofBe
 rw [List.foldl_cons, key l (0 * 256 + x.toNat)]
 simp
theorem ofBe_be (k n : Nat) : ofBe (be k n) = n % 256 ^ k:=by
 induction k with
 | zero=>simp [be, ofBe, Nat.mod_one]
 | succ k ih =>
  rw [be_succ, ofBe_cons, be_len, ih, Nat.pow_succ, Nat.mod_mul]
  have : (UInt8.ofNat (n / 256 ^ k)).toNat = n / 256 ^ k % 256:=by simp
  rw [this, Nat.mul_comm (256 ^ k), Nat.add_comm]
theorem frameF_take4 (p : By) : (frameF p).take 4 = be 4 p.length:=by
 unfold frameF markF
 rw [List.append_assoc, List.take_append_of_le_length (by rw [be_len]; omega), List.take_of_length_le (by rw [be_len]; omega)]
theorem ofBe_len (p : By) (hp : p.length ≤ 65536) : ofBe (be 4 p.length) = p.length:=by
 rw [ofBe_be, Nat.mod_eq_of_lt (by omega)]
theorem cutF_frame (p rest : By) (hp : p.length ≤ 65536) : cutF (frameF p ++ rest) = some (p, rest):=by
 have hl:=frameF_len p
 have hm:=markF_len p
 have h4 : (frameF p ++ rest).take 4 = be 4 p.length:=by rw [List.take_append_of_le_length (by omega), frameF_take4]
 have h12 : (frameF p ++ rest).take 12 = markF p:=by
  unfold frameF
  rw [List.append_assoc, List.take_append_of_le_length (by omega), List.take_of_length_le (by omega)]
 have hd : (frameF p ++ rest).drop 12 = p ++ rest:=by
  unfold frameF
  rw [List.append_assoc, List.drop_append_of_le_length (by omega), List.drop_eq_nil_of_le (by omega), List.nil_append]
 have hp2 : ((frameF p ++ rest).drop 12).take p.length = p:=by rw [hd, List.take_append_of_le_length (by omega), List.take_of_length_le (by omega)]
 have hr : (frameF p ++ rest).drop (12 + p.length) = rest:=by
  rw [← List.drop_drop, hd, List.drop_append_of_le_length (by omega), List.drop_eq_nil_of_le (by omega), List.nil_append]
 unfold cutF
 rw [h4, ofBe_len p hp, if_neg (by rw [List.length_append]; omega), if_neg (by rw [List.length_append]; omega), hp2, h12, if_pos rfl, hr]
theorem cutF_part (p : By) (hp : p.length ≤ 65536) (j : Nat) (hj : j < (frameF p).length) : cutF ((frameF p).take j) = none:=by
 have hl:=frameF_len p
 unfold cutF
 by_cases h12 : j < 12
 ·rw [if_pos (by rw [List.length_take]; omega)]
 ·have h4 : ((frameF p).take j).take 4 = be 4 p.length:=by rw [List.take_take, Nat.min_eq_left (by omega), frameF_take4]
  rw [if_neg (by rw [List.length_take]; omega), h4, ofBe_len p hp, if_pos (by rw [List.length_take]; omega)]
def framesF (ps : List By) : By:=ps.flatMap frameF
theorem framesF_snoc (ps : List By) (p : By) : framesF (ps ++ [p]) = framesF ps ++ frameF p:=by simp [framesF]
theorem wholeF_frames (ps : List By) (hp : ∀ p ∈ ps, p.length ≤ 65536) (t : By) (ht : cutF t = none) : wholeF (framesF ps ++ t) = (ps, t):=by
 induction ps with
 | nil=>simpa [framesF] using wholeF_none ht
 | cons p r ih =>
  have e : framesF (p::r) ++ t = frameF p ++ (framesF r ++ t):=by simp [framesF]
  rw [e, wholeF_some (cutF_frame p _ (hp p (by simp))), ih (fun q hq=>hp q (by simp [hq]))]
theorem cutF_nil : cutF [] = none:=by unfold cutF; rw [if_pos (by simp)]
theorem extract_data (s : ByteArray) (k : Nat) : (s.extract k s.size).data.toList = s.data.toList.drop k:=by
 rw [ByteArray.data_extract, Array.toList_extract, List.extract_eq_take_drop]
 refine List.take_of_length_le ?_
 rw [List.length_drop]
 simp
theorem readGo_cons (c : UInt8) (l : By) (n : Nat) (h1 : ¬ ((n = 0∧c.toNat = 128) ∨ 144115188075855872 ≤ n)) :
  readGo (c::l) n = if c.toNat < 128 then some (n * 128 + c.toNat % 128, 1) else (readGo l (n * 128 + c.toNat % 128)).map fun x=>(x.1, x.2 + 1):=by
 conv=>lhs; unfold readGo
 rw [if_neg h1]
theorem byte_nat (c : Nat) (h : c < 256) : (UInt8.ofNat c).toNat = c:=by simp; omega
theorem readGo_more (k : Nat) : ∀ (m : Nat) (acc rest : By), m ≤ k → U64n m → 0 < m → (moreL m acc).length = (moreL m []).length + acc.length∧readGo (moreL m acc ++ rest) 0 = (readGo (acc ++ rest) m).map fun x=>(x.1, x.2 + (moreL m []).length):=by
 induction k with
 | zero=>intro m acc rest h _ h0; omega
 | succ k ih =>
  intro m acc rest hk hm h0
  unfold U64n at hm
  have hc:=byte_nat (m % 128 + 128) (by omega)
  have e1:=moreL_pos h0 acc
  have e2:=moreL_pos h0 []
  rcases Nat.eq_zero_or_pos (m / 128) with hz | hz
  ·have hm128 : m % 128 = m:=by omega
   rw [hz, moreL_zero] at e1 e2
   rw [e1, e2]
   refine ⟨by simp; omega, ?_⟩
   rw [List.cons_append, readGo_cons _ _ _ (by rw [hc]; omega), hc, if_neg (by omega), show 0 * 128 + (m % 128 + 128) % 128 = m by omega]
   rfl
  ·have hm2 : U64n (m / 128):=by unfold U64n; omega
   obtain ⟨l1, r1⟩:=ih (m / 128) (UInt8.ofNat (m % 128 + 128)::acc) rest (by omega) hm2 hz
   obtain ⟨l2, _⟩:=ih (m / 128) [UInt8.ofNat (m % 128 + 128)] [] (by omega) hm2 hz
   rw [e1, e2, l1, l2, r1]
   refine ⟨by simp; omega, ?_⟩
   rw [List.cons_append, readGo_cons _ _ _ (by rw [hc]; omega), hc, if_neg (by omega), show m / 128 * 128 + (m % 128 + 128) % 128 = m by omega]
   cases readGo (acc ++ rest) m with
   | none=>rfl
   | some x=>simp only [Option.map_some, List.length_cons, List.length_nil]; congr 2; omega
theorem readGo_num (n : Nat) (hn : U64n n) (rest : By) : readGo (numL n ++ rest) 0 = some (n, (numL n).length):=by
 unfold U64n at hn
 have hc:=byte_nat (n % 128) (by omega)
 unfold numL
 rcases Nat.eq_zero_or_pos (n / 128) with hz | hz
 ·rw [hz, moreL_zero, List.cons_append, readGo_cons _ _ _ (by rw [hc]; omega), hc, if_pos (by omega)]
  congr 2
  omega
 ·have hm2 : U64n (n / 128):=by unfold U64n; omega
  obtain ⟨l1, r1⟩:=readGo_more (n / 128) (n / 128) [UInt8.ofNat (n % 128)] rest (Nat.le_refl _) hm2 hz
  rw [r1, l1, List.cons_append, readGo_cons _ _ _ (by rw [hc]; omega), hc, if_pos (by omega)]
  simp only [Option.map_some, List.length_cons, List.length_nil, List.nil_append]
  congr 2
  ·omega
  ·omega
theorem readGo_le (l : By) (n : Nat) {x : Nat × Nat} (h : readGo l n = some x) : 1 ≤ x.2∧x.2 ≤ l.length:=by
 induction l generalizing n x with
 | nil=>unfold readGo at h; cases h
 | cons c l ih =>
  unfold readGo at h
  split at h
  ·cases h
  ·split at h
   ·cases h; simp
   ·cases hg : readGo l (n * 128 + c.toNat % 128) with
    | none=>rw [hg] at h; cases h
    | some y=>rw [hg] at h; cases h; have:=ih _ hg; simp; omega
abbrev Hd:=Nat × By
def recordF (h : Hd) : By:=numL h.1 ++ h.2
def HdOk (h : Hd) : Prop:=1 ≤ h.1∧h.1 ≤ 4096∧h.2.length = 32
def recOf (s : By) : Option Hd:=match readGo s 0 with
 | some x=>if x.1 ≤ 4096∧(s.drop x.2).length = 32 then some (x.1, s.drop x.2) else none
 | none=>none
theorem recOf_record {h : Hd} (hh : HdOk h) : recOf (recordF h) = some h:=by
 obtain ⟨_, h2, h3⟩:=hh
 unfold recOf recordF
 rw [readGo_num h.1 (U64n.small (by omega)) h.2]
 have : (numL h.1 ++ h.2).drop (numL h.1).length = h.2:=by rw [List.drop_append_of_le_length (Nat.le_refl _), List.drop_eq_nil_of_le (Nat.le_refl _), List.nil_append]
 simp only [this]
 rw [if_pos ⟨h2, h3⟩]
theorem recordF_len {h : Hd} (hh : HdOk h) : (recordF h).length ≤ 132:=by
 obtain ⟨_, h2, h3⟩:=hh
 unfold recordF
 have:=numL_len (U64n.small (n:=h.1) (by omega))
 rw [List.length_append]; omega
def readG (last : Nat) : List By → Option (List Hd)
 | []=>some []
 | p::ps=>match recOf p with
  | none=>none
  | some h=>if h.1 ≤ last then none else (readG h.1 ps).map (h::·)
def readH (ps : List By) : Option (List Hd):=match readG 0 ps with
 | none=>none
 | some l=>if l.length ≤ 8 then some l else none
def Rises (last : Nat) : List Hd → Prop
 | []=>True
 | h::l=>HdOk h∧last < h.1∧Rises h.1 l
theorem Rises.ok {last : Nat} {l : List Hd} (h : Rises last l) : ∀ x ∈ l, HdOk x:=by
 induction l generalizing last with
 | nil=>intro x hx; cases hx
 | cons a r ih =>
  obtain ⟨h1, _, h3⟩:=h
  intro x hx
  rcases List.mem_cons.1 hx with rfl | hx
  ·exact h1
  ·exact ih h3 x hx
theorem Rises.snoc {last : Nat} {l : List Hd} (h : Rises last l) {x : Hd} (hx : HdOk x) (h0 : last < x.1) (hl : ∀ y, l.getLast? = some y → y.1 < x.1) : Rises last (l ++ [x]):=by
 induction l generalizing last with
 | nil=>exact ⟨hx, h0, trivial⟩
 | cons a r ih =>
  obtain ⟨h1, h2, h3⟩:=h
  refine ⟨h1, h2, ih h3 ?_ ?_⟩
  ·cases r with
   | nil=>exact hl a (by simp)
   | cons b r' =>
    obtain ⟨y, hy⟩ : ∃ y, (b::r').getLast? = some y:=⟨_, List.getLast?_eq_some_getLast (by simp)⟩
    have h4:=hl y (by rw [List.getLast?_cons_cons]; exact hy)
    have h5 : a.1 ≤ y.1:=by
     clear h4 ih hl
     have key : ∀ (r : List Hd) (last : Nat), Rises last r → ∀ y, r.getLast? = some y → last ≤ y.1:=by
      intro r
      induction r with
      | nil=>intro last _ y hy; simp at hy
      | cons c r ih =>
       intro last hr y hy
       obtain ⟨_, q2, q3⟩:=hr
       cases r with
       | nil=>simp at hy; subst hy; omega
       | cons d r=>rw [List.getLast?_cons_cons] at hy; have:=ih _ q3 y hy; omega
     exact key _ _ h3 y hy
    omega
  ·intro y hy
   cases r with
   | nil=>simp at hy
   | cons b r'=>exact hl y (by rw [List.getLast?_cons_cons]; exact hy)
theorem readG_records {last : Nat} {l : List Hd} (h : Rises last l) : readG last (l.map recordF) = some l:=by
 induction l generalizing last with
 | nil=>rfl
 | cons a r ih =>
  obtain ⟨h1, h2, h3⟩:=h
  rw [List.map_cons]
  unfold readG
  rw [recOf_record h1]
  simp only
  rw [if_neg (by omega), ih h3]
  rfl
theorem readH_records {l : List Hd} (h : Rises 0 l) (h8 : l.length ≤ 8) : readH (l.map recordF) = some l:=by
 unfold readH
 rw [readG_records h]
 simp only
 rw [if_pos h8]
theorem recOf_ok {s : By} {h : Hd} (hr : recOf s = some h) : h.1 ≤ 4096∧h.2.length = 32:=by
 unfold recOf at hr
 split at hr
 ·split at hr
  ·rename_i q; cases hr; exact q
  ·cases hr
 ·cases hr
theorem readG_rises {last : Nat} {ps : List By} {l : List Hd} (h : readG last ps = some l) : Rises last l:=by
 induction ps generalizing last l with
 | nil=>unfold readG at h; cases h; trivial
 | cons p ps ih =>
  unfold readG at h
  split at h
  ·cases h
  ·rename_i x hx
   split at h
   ·cases h
   ·cases hg : readG x.1 ps with
    | none=>rw [hg] at h; cases h
    | some r =>
     rw [hg] at h
     cases h
     have:=recOf_ok hx
     exact ⟨⟨by omega, this.1, this.2⟩, by omega, ih hg⟩
def ringFile (l : List Hd) : By:=framesF (l.map recordF)
theorem ringFile_snoc (l : List Hd) (h : Hd) : ringFile (l ++ [h]) = ringFile l ++ frameF (recordF h):=by
 unfold ringFile; rw [List.map_append, List.map_cons, List.map_nil, framesF_snoc]
theorem whole_ring {l : List Hd} (h : ∀ x ∈ l, HdOk x) {t : By} (ht : cutF t = none) : wholeF (ringFile l ++ t) = (l.map recordF, t):=by
 refine wholeF_frames _ (fun p hp=>?_) t ht
 obtain ⟨x, hx, rfl⟩:=List.mem_map.1 hp
 have:=recordF_len (h x hx)
 omega
end Go.Proofs.YtpmdlkogccojmaaGreatDoor
