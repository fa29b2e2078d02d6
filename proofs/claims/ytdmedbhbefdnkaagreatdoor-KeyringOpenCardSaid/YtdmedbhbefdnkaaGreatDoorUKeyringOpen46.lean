/- RK2 RK3 RK5 RK6 -/
import Derived.Test.YtdmedbhbefdnkaaGreatDoorUKeyringOpen31
import Derived.Test.YtdmedbhbefdnkaaGreatDoorUKeyringOpen36
import Derived.Test.YtdmedbhbefdnkaaGreatDoorUKeyringOpen42
import Derived.Test.YtdmedbhbefdnkaaGreatDoorUKeyringOpen43
import Derived.Test.YtdmedbhbefdnkaaGreatDoorUKeyringOpen45
import Derived.Test.YtdmedbhbefdnkaaGreatDoorUKeyringOpen41
import Derived.Test.YtdmedbhbefdnkaaGreatDoorUKeyringOpen03
set_option linter.unusedVariables false
set_option linter.unusedSimpArgs false
namespace Go.Proofs.YtdmedbhbefdnkaaGreatDoor
open Go.RowKit
set_option maxRecDepth 100000 in
theorem rtext_any (w : World) (s : ByteArray) (hs : Short s.size) :
    Calls Tryz.prog 135 #[.string s] w fun e w' => e = .returned (.string (⟨(numL s.size).toArray⟩ ++ s)) ∧ Kept (fun _ => False) w w' := by
  have hN := rnum_any w s.size hs.u64
  have x1 := wrap_u64 hs.u64
  have x2 := hs.sum (numL_len hs.u64)
  go_enter Tryz.func135, Tryz.ntmps135
  go_wp2_with (go_at_call 27; refine hN.mono ?_; rintro e w1 ⟨rfl, hk1⟩)
  go_ret
  exact ⟨rfl, hk1⟩
theorem rsum_ready {w w1 : World} (s : ByteArray) (l : By) (hl : s.data.toList = l) (hs : s.size ≤ 1000000) (hk : Kept (fun _ => False) (w.alloc (.cells (zeros 32).toArray 30)) w1) :
    Calls Tryz.prog 26 #[.string s] w1 fun e w2 => e = .returned (.agg (bytes8 (shaF l)).toArray) ∧ Hid (Blk w2 w.heap.size (zeros 32) 30 ∧ Kept (fun _ => False) w w2) := by
  subst hl
  have k1 : Kept (fun _ => False) w w1 := ((Kept.refl _ _).alloc _).trans hk
  refine (rsum_any w1 s hs).mono ?_
  rintro e w2 ⟨rfl, hk2⟩
  exact ⟨rfl, Lib.hid ⟨((Blk.new w (zeros 32) 30).kept hk id).kept hk2 id, k1.trans hk2⟩⟩
set_option maxRecDepth 100000 in
set_option maxHeartbeats 1000000 in
theorem rsecret_any (w : World) (seed : ByteArray) (index i bit : Nat) (hs : seed.size ≤ 1000) (h1 : index < 2147483648) (h2 : i < 256) (h3 : bit < 2) :
    Calls Tryz.prog 115 #[.string seed, .int .i64 (index : Int), .int .i64 (i : Int), .int .i64 (bit : Int)] w fun e w' => e = .returned (hashV (secretF seed.data.toList index i bit)) ∧ Kept (fun _ => False) w w' := by
  have hnl := numL_len (n := seed.size) (U64n.small (by omega))
  obtain ⟨T, hT⟩ : ∃ T : ByteArray, T = ⟨(numL seed.size).toArray⟩ ++ seed := ⟨_, rfl⟩
  have hTd : T.data.toList = numL seed.size ++ seed.data.toList := by rw [hT, bstr_append]
  have hTs : T.size ≤ 1100 := by rw [← bstr_len, hTd, List.length_append, bstr_len]; omega
  have HT := Lib.hid (fun w' => rtext_any w' seed (by unfold Short; omega))
  have HP4 := Lib.hid (show ∀ w', Calls Tryz.prog 25 #[.int .u64 (index : Int), .int .i64 4] w' _ from fun w' => rput_any w' index (by omega) 4 (by omega))
  have hp2 := fun w' => rput_any w' (2 * i + bit) (by omega) 2 (by omega)
  rw [show ((2 * i + bit : Nat) : Int) = 2 * (i : Int) + (bit : Int) by omega] at hp2
  have HP2 := Lib.hid (show ∀ w', Calls Tryz.prog 25 #[.int .u64 (2 * (i : Int) + (bit : Int)), .int .i64 2] w' _ from hp2)
  clear hp2
  have hb4 : (⟨(be 4 index).toArray⟩ : ByteArray).size = 4 := by show (be 4 index).toArray.size = 4; rw [List.size_toArray, be_len]
  have hb2 : (⟨(be 2 (2 * i + bit)).toArray⟩ : ByteArray).size = 2 := by show (be 2 (2 * i + bit)).toArray.size = 2; rw [List.size_toArray, be_len]
  rw [← hT] at HT
  have hsec : secretF seed.data.toList index i bit = shaF (2 :: (numL seed.size ++ seed.data.toList ++ be 4 index ++ be 2 (2 * i + bit))) := by unfold secretF; rw [bstr_len]
  have hbytes : (⟨#[2]⟩ ++ T ++ ⟨(be 4 index).toArray⟩ ++ ⟨(be 2 (2 * i + bit)).toArray⟩ : ByteArray).data.toList = 2 :: (numL seed.size ++ seed.data.toList ++ be 4 index ++ be 2 (2 * i + bit)) := by
    simp only [ByteArray.data_append, Array.toList_append, hTd]
    simp
  have hsz : (⟨#[2]⟩ ++ T ++ ⟨(be 4 index).toArray⟩ ++ ⟨(be 2 (2 * i + bit)).toArray⟩ : ByteArray).size ≤ 1000000 := by
    rw [ByteArray.size_append, ByteArray.size_append, ByteArray.size_append, hb4, hb2]
    show 1 + T.size + 4 + 2 ≤ 1000000
    omega
  have HC := Lib.hid (fun w1 (hk : Kept (fun _ => False) (w.alloc (.cells (zeros 32).toArray 30)) w1) => rsum_ready (w := w) (w1 := w1) (⟨#[2]⟩ ++ T ++ ⟨(be 4 index).toArray⟩ ++ ⟨(be 2 (2 * i + bit)).toArray⟩) _ hbytes hsz hk)
  rw [← hsec] at HC
  have hl := secretF_len seed.data.toList index i bit
  generalize secretF seed.data.toList index i bit = R at *
  generalize be 4 index = B4 at *
  generalize be 2 (2 * i + bit) = B2 at *
  have x1 : (⟨#[2]⟩ : ByteArray).size + T.size ≤ 1101 := by show 1 + T.size ≤ 1101; omega
  have x2 : (⟨#[2]⟩ ++ T : ByteArray).size + (⟨B4.toArray⟩ : ByteArray).size ≤ 1105 := by rw [ByteArray.size_append]; omega
  have x3 : (⟨#[2]⟩ ++ T ++ ⟨B4.toArray⟩ : ByteArray).size + (⟨B2.toArray⟩ : ByteArray).size ≤ 1107 := by rw [ByteArray.size_append, ByteArray.size_append]; omega
  have HI := Lib.hid (show (Tryz.prog.info? 30).map (·.size) = some (bytes8 R).length by rw [bytes8_len, hl]; exact info_h32)
  have HR := Lib.hid hl
  have y1 : decide ((index : Int) < 0) = false := decide_eq_false (by omega)
  have y2 : decide ((2147483647 : Int) < (index : Int)) = false := decide_eq_false (by omega)
  have y3 : decide ((i : Int) < 0) = false := decide_eq_false (by omega)
  have y4 : decide ((255 : Int) < (i : Int)) = false := decide_eq_false (by omega)
  have u1 := wrap_u64 (n := index) (U64n.small (by omega))
  have u2 : IntKind.u64.wrap (2 * (i : Int) + (bit : Int)) = 2 * (i : Int) + (bit : Int) := by have := wrap_u64 (n := 2 * i + bit) (U64n.small (by omega)); simpa using this
  have j1 : (i : Int) < 256 := by omega
  have j2 : (bit : Int) < 2 := by omega
  have j3 : (0 : Int) ≤ (i : Int) := by omega
  have j4 : (0 : Int) ≤ (bit : Int) := by omega
  have hb01 : bit = 0 ∨ bit = 1 := by omega
  clear hl hsec hbytes hsz hT hTd hnl h1 h2 h3
  rcases hb01 with h01 | h01
  · have z1 : ((bit : Int) != 0) = false := by rw [h01]; rfl
    clear h01
    go_enter Tryz.func115, Tryz.ntmps115
    go_wp2_with (first | (go_at_call 135; refine (HT.out _).mono ?_; rintro e w1 ⟨rfl, hk1⟩) | (go_at_call 25; with_reducible refine (HP4.out _).mono ?_; rintro e w2 ⟨rfl, hk2⟩) | (go_at_call 25; with_reducible refine (HP2.out _).mono ?_; rintro e w3 ⟨rfl, hk3⟩) | (go_at_call 26; refine (HC.out _ ((hk1.trans hk2).trans hk3)).mono ?_; rintro e w5 ⟨rfl, HB⟩) | (refine wpList_store_mid rfl 30 _ _ rfl w.heap.size 0 (bytes8 R).toArray rfl rfl ?htha ?hia ?h1a ?_))
    case htha => exact (hash_stored HB.out.1 (zeros_len 32) HR.out).1
    case hia => exact info_hash HR.out
    case h1a => exact all_oneCell_toArray (fun y hy => u8_oneCell y hy)
    have hst := hash_stored HB.out.1 (zeros_len 32) HR.out
    refine bodyPost_ret (hst.2.result rfl rfl Tryz.underlying30 rfl HI.out) rfl ⟨rfl, ?_⟩
    exact HB.out.2.then_ (kept_setCells _ _ _ _) (fun i hi e => by omega)
  · have z1 : ((bit : Int) != 0) = true := by rw [h01]; rfl
    have z2 : ((bit : Int) != 1) = false := by rw [h01]; rfl
    clear h01
    go_enter Tryz.func115, Tryz.ntmps115
    go_wp2_with (first | (go_at_call 135; refine (HT.out _).mono ?_; rintro e w1 ⟨rfl, hk1⟩) | (go_at_call 25; with_reducible refine (HP4.out _).mono ?_; rintro e w2 ⟨rfl, hk2⟩) | (go_at_call 25; with_reducible refine (HP2.out _).mono ?_; rintro e w3 ⟨rfl, hk3⟩) | (go_at_call 26; refine (HC.out _ ((hk1.trans hk2).trans hk3)).mono ?_; rintro e w5 ⟨rfl, HB⟩) | (refine wpList_store_mid rfl 30 _ _ rfl w.heap.size 0 (bytes8 R).toArray rfl rfl ?hthb ?hib ?h1b ?_))
    case hthb => exact (hash_stored HB.out.1 (zeros_len 32) HR.out).1
    case hib => exact info_hash HR.out
    case h1b => exact all_oneCell_toArray (fun y hy => u8_oneCell y hy)
    have hst := hash_stored HB.out.1 (zeros_len 32) HR.out
    refine bodyPost_ret (hst.2.result rfl rfl Tryz.underlying30 rfl HI.out) rfl ⟨rfl, ?_⟩
    exact HB.out.2.then_ (kept_setCells _ _ _ _) (fun i hi e => by omega)
theorem hash_text {W : World} {b : Nat} {l : By} (h : Blk W b (bytes8 l) 30) (hl : l.length = 32) : (convert 72 9 (.slice (some ⟨b, 0, none⟩) 32 32)).run Tryz.prog W = .ok (.string ⟨l.toArray⟩) W :=
  run_string_of (w := W) (g := b) (off := 0) (n := 32) (cap := 32) l hl.symm (fun j u hu => by rw [Nat.zero_add]; exact h.cell hu)
theorem rshown_any (w : World) (S : By) (hS : S.length = 32) :
    Calls Tryz.prog 26 #[.string (⟨#[3]⟩ ++ ⟨S.toArray⟩)] w fun e w' => e = .returned (hashV (shownF S)) ∧ Kept (fun _ => False) w w' := by
  have he : (⟨#[3]⟩ ++ ⟨S.toArray⟩ : ByteArray) = ⟨(3 :: S).toArray⟩ := bstr_eq (by simp [ByteArray.data_append])
  rw [he]
  exact rsum_any w ⟨(3 :: S).toArray⟩ (by show (3 :: S).toArray.size ≤ 1000000; simp; omega)
structure NewH (w : World) (v : Value) (L : List By) (W : World) : Prop where
  row : Row W 30 32 v (hcells L)
  own : ∀ k, v.ownBlock = some k → w.heap.size ≤ k
  kept : Kept (fun _ => False) w W
theorem NewH.start (w : World) : NewH w (.slice none 0 0) [] w := ⟨Row.nil _ _ _, fun k q => by simp [Value.ownBlock] at q, Kept.refl _ _⟩
theorem NewH.same {w W W' : World} {v : Value} {L : List By} (h : NewH w v L W) (hk : Kept (fun _ => False) W W') : NewH w v L W' := ⟨h.row.kept hk (fun _ _ => id), h.own, h.kept.trans hk⟩
theorem NewH.app {w W : World} {v : Value} {L : List By} (h : NewH w v L W) (h32 : ∀ y ∈ L, y.length = 32) (hl : L.length ≤ 1000000) (p : By) (hp : p.length = 32) :
    ∃ v' w', (Builtin.append_ #[59, 59] 59 #[v, .slice (some ⟨W.heap.size, 0, none⟩) 1 1]).run Tryz.prog (W.alloc (.cells (bytes8 p).toArray 30)) = .ok v' w' ∧ Hid (NewH w v' (L ++ [p]) w') := by
  obtain ⟨v', w', hr, hrow, hk, ho⟩ := append_hash1 h.row h32 p hp hl
  refine ⟨v', w', hr, Lib.hid ⟨hrow, fun k q => ?_, h.kept.then_ hk (fun i hi e => by have := h.own i e; omega)⟩⟩
  rcases ho k q with q | q
  · exact h.own k q
  · have := h.kept.size; omega
theorem take_mem32 {L : List By} (h : ∀ x ∈ L, x.length = 32) (k : Nat) : ∀ x ∈ L.take k, x.length = 32 := fun x hx => h x (List.mem_of_mem_take hx)
set_option maxRecDepth 100000 in
set_option maxHeartbeats 4000000 in
theorem rpublic_any (w : World) (seed : ByteArray) (index : Nat) (hs : seed.size ≤ 1000) (h1 : index < 2147483648) :
    Calls Tryz.prog 88 #[.string seed, .int .i64 (index : Int)] w fun e w' => ∃ v, e = .returned v ∧ NewH w v (publicF seed.data.toList index) w' := by
  have y1 : decide ((index : Int) < 0) = false := decide_eq_false (by omega)
  have y2 : decide ((2147483647 : Int) < (index : Int)) = false := decide_eq_false (by omega)
  have h32 := public_32 seed.data.toList index
  have hL := publicF_len seed.data.toList index
  have HAT := Lib.hid (publicF_at seed.data.toList index)
  have HSE := Lib.hid (fun w' i b (h2 : i < 256) (h3 : b < 2) => rsecret_any w' seed index i b hs h1 h2 h3)
  generalize publicF seed.data.toList index = P at *
  have HP := Lib.hid (And.intro h32 hL)
  clear h32 hL
  go_enter Tryz.func88, Tryz.ntmps88
  go_wp2_with fail
  clear y1 y2
  go_loopw [5, 6] (fun x y wr => ∃ i : Nat, y = .int .i64 (i : Int) ∧ i ≤ 256 ∧ Hid (NewH w x (P.take (2 * i)) wr)) (fun _ y _ => 256 - (intOf y).toNat)
  case atStart => exact ⟨0, rfl, by omega, Lib.hid (NewH.start w)⟩
  case round =>
    obtain ⟨i, rfl, hi, HR⟩ := hrel
    by_cases hlt : i < 256
    · have z1 : decide ((i : Int) < 256) = true := decide_eq_true (by omega)
      have z2 : decide (i < 256) = true := decide_eq_true hlt
      have HLT := Lib.hid hlt
      go_wp2_with fail
      clear z1 z2
      go_loopw [5, 7] (fun x y wr => ∃ b : Nat, y = .int .i64 (b : Int) ∧ b ≤ 2 ∧ Hid (NewH w x (P.take (2 * i + b)) wr)) (fun _ y _ => 2 - (intOf y).toNat)
      case atStart => exact ⟨0, rfl, by omega, HR⟩
      case round =>
        obtain ⟨b, rfl, hb, HB⟩ := hrel
        by_cases hb2 : b < 2
        · have z1 : decide ((b : Int) < 2) = true := decide_eq_true (by omega)
          have z2 : decide (b < 2) = true := decide_eq_true hb2
          have hat := HAT.out (2 * i + b) (by omega)
          rw [show (2 * i + b) / 2 = i by omega, show (2 * i + b) % 2 = b by omega] at hat
          have hsec := fun w' => HSE.out w' i b hlt hb2
          have hS := secretF_len seed.data.toList index i b
          generalize secretF seed.data.toList index i b = S at *
          have hR := shownF_len S
          have HSUM := Lib.hid (fun w' => rshown_any w' S hS)
          generalize shownF S = R at *
          have HSEC := Lib.hid hsec
          have HTX := Lib.hid (fun (W : World) (g : Nat) (h : Blk W g (bytes8 S) 30) => hash_text h hS)
          have HNEXT := Lib.hid (show P.take (2 * i + (b + 1)) = P.take (2 * i + b) ++ [R] from by rw [show 2 * i + (b + 1) = (2 * i + b) + 1 by omega, List.take_add_one, hat]; rfl)
          have HAPP := Lib.hid (fun (W : World) (hk : Kept (fun _ => False) _ W) => (HB.out.same hk).app (take_mem32 HP.out.1 _) (by rw [List.length_take]; omega) R hR)
          have HF := Lib.hid (fun (W2 : World) => store_fresh W2 S hS)
          have hfr0 := fold_hash hR
          simp only [zeros, List.replicate] at hfr0
          have HFR := Lib.hid hfr0
          have HI := Lib.hid (show (Tryz.prog.info? 30).map (·.size) = some (bytes8 S).length by rw [bytes8_len, hS]; exact info_h32)
          have x1 : (⟨#[3]⟩ : ByteArray).size + (⟨S.toArray⟩ : ByteArray).size ≤ 33 := by show 1 + S.toArray.size ≤ 33; simp; omega
          have lR : (bytes8 R).length = 32 := by rw [bytes8_len, hR]
          have HB2 := Lib.hid hb2
          have HBQ := Lib.hid (And.intro hS hR)
          clear hat hsec hS hR hb hb2 hlt hi hfr0
          go_wp2_with (first
            | (go_at_call 115; refine (HSEC.out _).mono ?_; rintro e w1 ⟨rfl, hk1⟩)
            | ((with_reducible show wpList _ _ _ (⟨none, .store _ (.tmp 8) _, _, _, _, _⟩ :: _) _ _); refine wpList_store_mid rfl 30 _ _ rfl w1.heap.size 0 (bytes8 S).toArray rfl rfl ?hth ?hi ?h1 ?hk; (case' hk => generalize hw3 : World.setCells _ w1.heap.size 0 _ = w3; have B3 := Lib.hid (show Blk w3 w1.heap.size (bytes8 S) 30 ∧ Kept (fun _ => False) w1 w3 from (by rw [← hw3]; exact ⟨(HF.out w1).1, (HF.out w1).2.1⟩)); clear hw3; have hst := HTX.out _ _ B3.out.1))
            | (go_at_call 26; refine (HSUM.out _).mono ?_; rintro e w4 ⟨rfl, hk4⟩; obtain ⟨v5, w5, hr5, H5⟩ := HAPP.out w4 ((hk1.trans B3.out.2).trans hk4); have hfr := HFR.out)
            | (at_builtin; refine Lib.wpList_append_run _ rfl _ _ 59 59 rfl _ _ rfl rfl _ _ hr5 ?_))
          case hth => exact (HF.out w1).2.2
          case hi => first | exact HI.out | simpa using HI.out
          case h1 => exact all_oneCell_toArray (fun y hy => u8_oneCell y hy)
          have hb2 := HB2.out
          have e1 : wrap64 ((b : Int) + 1) = ((b + 1 : Nat) : Int) := IntWalk.wrap64_in _ (by omega)
          rw [e1]
          exact ⟨⟨b + 1, rfl, hb2, Lib.hid (by rw [HNEXT.out]; exact H5.out)⟩, by simp only [intOf]; omega⟩
        · obtain rfl : b = 2 := by omega
          have HB3 := Lib.hid (show NewH w _ (P.take (2 * (i + 1))) _ from HB.out)
          clear hb hb2 HB HR
          go_wp2_with fail
          go_roundw
          case rel => exact ⟨i + 1, by go_num, HLT.out, HB3⟩
          case measure => have := HLT.out; simp [intOf]; omega
    · obtain rfl : i = 256 := by omega
      have HE := Lib.hid (show NewH w _ P _ from by have := HR.out; rwa [List.take_of_length_le (by rw [HP.out.2]; omega)] at this)
      clear HR hlt hi
      go_wp2_with fail
      go_ret
      exact ⟨_, rfl, HE.out⟩
end Go.Proofs.YtdmedbhbefdnkaaGreatDoor

namespace Go.Proofs.YtdmedbhbefdnkaaGreatDoor
open Go.RowKit
theorem append_bytes {W : World} {v : Value} {l : By} (h : Row W 5 1 v (bytes8 l)) (g off : Nat) {p : By} (hp : p.length = 32) (hr : W.rangeAt g off (bytes8 p)) (hl : l.length ≤ 10000000) :
    ∃ v' w', (Builtin.append_ #[72, 72] 72 #[v, .slice (some ⟨g, off, none⟩) 32 32]).run Tryz.prog W = .ok v' w' ∧ Row w' 5 1 v' (bytes8 (l ++ p)) ∧ Kept (fun k => v.ownBlock = some k) W w' ∧ ∀ k, v'.ownBlock = some k → v.ownBlock = some k ∨ W.heap.size ≤ k := by
  obtain ⟨i0, hi, hz, hsz, hby⟩ := info_parts info_u8
  obtain ⟨v', w', hrun, hrow, hk, ho⟩ := h.append_cells (P := Tryz.prog) (t := 72) Tryz.underlying72 hi hz hsz rfl (by omega) (by rw [hby]; decide) ⟨g, off, none⟩ 32 32 (bytes8 p) (by rw [bytes8_len, hp])
    (fun j u hu => by rw [Addr.add_mid]; exact hr j u hu) u8_oneCell (by omega) (by rw [bytes8_len, bytes8_len, hp]; omega) 72
  refine ⟨v', w', hrun, ?_, hk, ho⟩
  have e : bytes8 (l ++ p) = bytes8 l ++ bytes8 p := by simp [bytes8]
  rw [e]
  exact hrow
structure LeafB (w : World) (v : Value) (l : By) (W : World) : Prop where
  row : Row W 5 1 v (bytes8 l)
  own : ∀ k, v.ownBlock = some k → w.heap.size + 1 ≤ k
  res : Blk W w.heap.size (zeros 32) 30
  kept : Kept (fun _ => False) w W
theorem LeafB.start (w : World) : LeafB w (.slice (some ⟨w.heap.size + 1, 0, none⟩) 1 1) [4] ((w.alloc (.cells (zeros 32).toArray 30)).alloc (.cells #[.int .u8 4] 5)) := by
  have hb := Blk.new (w.alloc (.cells (zeros 32).toArray 30)) [.int .u8 4] 5
  rw [World.size_alloc] at hb
  exact ⟨Or.inr ⟨w.heap.size + 1, 1, 1, [], rfl, rfl, by rw [List.append_nil]; exact hb, Nat.le_refl _, Nat.le_refl _, by unfold maxLen; omega⟩, fun k q => by simp [Value.ownBlock] at q; omega, (Blk.new w (zeros 32) 30).alloc _, ((Kept.refl _ _).alloc _).alloc _⟩
theorem LeafB.app {w W : World} {v : Value} {l : By} (h : LeafB w v l W) (g off : Nat) {p : By} (hp : p.length = 32) (hr : W.rangeAt g off (bytes8 p)) (hl : l.length ≤ 10000000) :
    ∃ v' w', (Builtin.append_ #[72, 72] 72 #[v, .slice (some ⟨g, off, none⟩) 32 32]).run Tryz.prog W = .ok v' w' ∧ Hid (LeafB w v' (l ++ p) w') := by
  obtain ⟨v', w', hrun, hrow, hk, ho⟩ := append_bytes h.row g off hp hr hl
  refine ⟨v', w', hrun, Lib.hid ⟨hrow, fun k q => ?_, h.res.kept hk (fun e => by have := h.own _ e; omega), h.kept.then_ hk (fun i hi e => by have := h.own i e; omega)⟩⟩
  rcases ho k q with q | q
  · exact h.own k q
  · have := h.res.lt; omega
theorem LeafB.text {w W : World} {v : Value} {l : By} (h : LeafB w v l W) : (convert 72 9 v).run Tryz.prog W = .ok (.string ⟨l.toArray⟩) W := by
  obtain ⟨a, n, cap, rfl, hn, _⟩ := h.row.form (by omega)
  have e : n = l.length := by rw [bytes8_len] at hn; omega
  subst e
  exact h.row.view.text
set_option maxRecDepth 100000 in
set_option maxHeartbeats 2000000 in
theorem rleaf_any (w : World) (v : Value) (L : List By) (hv : View w 32 v (hcells L)) (h32 : ∀ x ∈ L, x.length = 32) (hL : L.length = 512) :
    Calls Tryz.prog 87 #[v] w fun e w' => e = .returned (hashV (leafF L)) ∧ Kept (fun _ => False) w w' := by
  obtain ⟨a, n, cap, rfl, q1, q2, q3, q4, q5⟩ := id hv
  rw [hcells_len h32] at q1
  obtain rfl : n = 512 := by omega
  obtain ⟨g, off, rfl, hg, hrg⟩ := q5 (by omega)
  have HRG := Lib.hid (fun (W : World) (hk : Kept (fun _ => False) w W) (k : Nat) (h : By) (hh : L[k]? = some h) => show W.rangeAt g (off + k * 32) (bytes8 h) from by
    have := rangeAt_mid (rangeAt_kept hrg hk hg id) (k * 32) 32
    rwa [hcells_at h32 k h hh] at this)
  have HL := Lib.hid (And.intro h32 hL)
  have HST := Lib.hid (LeafB.start w)
  have hleaf := shaF_len (4 :: L.flatten)
  have HLF := Lib.hid (show leafF L = shaF (4 :: L.flatten) from rfl)
  generalize leafF L = R at *
  have hR : R.length = 32 := by rw [HLF.out]; exact hleaf
  have HR := Lib.hid hR
  have HI := Lib.hid (show (Tryz.prog.info? 30).map (·.size) = some (bytes8 R).length by rw [bytes8_len, hR]; exact info_h32)
  clear q1 q2 q3 q4 q5 hv hrg hleaf hR h32 hL hg
  go_enter Tryz.func87, Tryz.ntmps87
  go_wp2_with fail
  go_loopw [3, 4] (fun x y wr => ∃ k : Nat, y = .int .i64 (k : Int) ∧ k ≤ 512 ∧ Hid (LeafB w x (4 :: (L.take k).flatten) wr)) (fun _ y _ => 512 - (intOf y).toNat)
  case atStart => exact ⟨0, rfl, by omega, HST⟩
  case round =>
    obtain ⟨k, rfl, hk, HB⟩ := hrel
    by_cases hlt : k < 512
    · have z1 : decide ((k : Int) < 512) = true := decide_eq_true (by omega)
      have z2 : decide (k < 512) = true := decide_eq_true hlt
      obtain ⟨h, hh⟩ : ∃ h, L[k]? = some h := ⟨_, List.getElem?_eq_getElem (by have := HL.out.2; omega)⟩
      have hh32 := HL.out.1 h (List.mem_of_getElem? hh)
      have hflat : 4 :: (L.take (k + 1)).flatten = (4 :: (L.take k).flatten) ++ h := by
        rw [List.take_add_one, hh]; simp
      have hfl : ((L.take k).flatten).length = k * 32 := by rw [flatten_len (fun x hx => HL.out.1 x (List.mem_of_mem_take hx)), List.length_take]; have := HL.out.2; omega
      obtain ⟨v2, w2, hrun, H2⟩ := HB.out.app g (off + k * 32) hh32 (HRG.out _ HB.out.kept k h hh) (by rw [List.length_cons, hfl]; omega)
      rw [← hflat] at H2
      have HLT := Lib.hid hlt
      have i0 : (k : Int) < 512 := by omega
      have i1 : (0 : Int) ≤ (k : Int) := by omega
      clear hh hh32 hflat hfl hlt HB hk
      go_wp2_with (at_builtin; refine Lib.wpList_append_run _ rfl _ _ 72 72 rfl _ _ rfl rfl _ _ hrun ?_)
      go_roundw
      case rel => exact ⟨k + 1, by go_num, HLT.out, H2⟩
      case measure => have := HLT.out; simp [intOf]; omega
    · have z1 : decide ((k : Int) < 512) = false := decide_eq_false (by omega)
      have z2 : decide (k < 512) = false := decide_eq_false hlt
      obtain rfl : k = 512 := by omega
      have hB := HB.out
      rw [List.take_of_length_le (by have := HL.out.2; omega)] at hB
      have hfl : (4 :: L.flatten).length = 16385 := by rw [List.length_cons, flatten_len HL.out.1]; have := HL.out.2; omega
      have htx := hB.text
      have HSU := Lib.hid ((rsum_any wr ⟨(4 :: L.flatten).toArray⟩ (by show (4 :: L.flatten).toArray.size ≤ 1000000; rw [List.size_toArray, hfl]; omega)).mono (R' := fun e w2 => e = .returned (.agg (bytes8 R).toArray) ∧ Hid (Blk w2 w.heap.size (zeros 32) 30 ∧ Kept (fun _ => False) w w2)) (fun e w2 q => ⟨by rw [q.1, HLF.out], Lib.hid ⟨hB.res.kept q.2 id, hB.kept.trans q.2⟩⟩))
      clear hB hfl HB hlt hk
      generalize 4 :: L.flatten = F at *
      go_wp2_with (first | (go_at_call 26; refine HSU.out.mono ?_; rintro e w1 ⟨rfl, H1⟩) | ((with_reducible show wpList _ _ _ (⟨none, .store _ (.tmp 2) _, _, _, _, _⟩ :: _) _ _); refine wpList_store_mid rfl 30 _ _ rfl w.heap.size 0 (bytes8 R).toArray rfl rfl ?hth ?hi ?h1 ?_))
      case hth => exact (hash_stored H1.out.1 (zeros_len 32) HR.out).1
      case hi => first | exact info_hash HR.out | simpa using info_hash HR.out
      case h1 => first | exact all_oneCell_toArray (fun y hy => u8_oneCell y hy) | exact fun y hy => u8_oneCell y hy
      have hst := hash_stored H1.out.1 (zeros_len 32) HR.out
      refine bodyPost_ret (hst.2.result rfl rfl Tryz.underlying30 rfl HI.out) rfl ⟨rfl, ?_⟩
      exact H1.out.2.then_ (kept_setCells _ _ _ _) (fun i hi e => by omega)
set_option maxRecDepth 100000 in
set_option maxHeartbeats 2000000 in
theorem rleaves_any (w : World) (seed : ByteArray) (hs : seed.size ≤ 1000) :
    Calls Tryz.prog 47 #[.string seed] w fun e w' => ∃ v, e = .returned v ∧ NewH w v (leavesF seed.data.toList) w' := by
  have h32 := leaves_32 seed.data.toList
  have hL := leavesF_len seed.data.toList
  have HAT := Lib.hid (leavesF_at seed.data.toList)
  have HPU := Lib.hid (fun w' k (h : k < 8) => rpublic_any w' seed k hs (by omega))
  have HLE := Lib.hid (fun (w0 w' : World) v k (hr : NewH w0 v (publicF seed.data.toList k) w') => rleaf_any w' v _ hr.row.view (public_32 _ _) (publicF_len _ _))
  generalize leavesF seed.data.toList = L at *
  have HL := Lib.hid (And.intro h32 hL)
  clear h32 hL
  go_enter Tryz.func47, Tryz.ntmps47
  go_wp2_with fail
  go_loopw [3, 4] (fun x y wr => ∃ k : Nat, y = .int .i64 (k : Int) ∧ k ≤ 8 ∧ Hid (NewH w x (L.take k) wr)) (fun _ y _ => 8 - (intOf y).toNat)
  case atStart => exact ⟨0, rfl, by omega, Lib.hid (NewH.start w)⟩
  case round =>
    obtain ⟨k, rfl, hk, HB⟩ := hrel
    by_cases hlt : k < 8
    · have z1 : decide ((k : Int) < 8) = true := decide_eq_true (by omega)
      have z2 : decide (k < 8) = true := decide_eq_true hlt
      have hat := HAT.out k hlt
      have hpu := fun w' => HPU.out w' k hlt
      have hle := fun (w0 w' : World) v hr => HLE.out w0 w' v k hr
      have hR : (leafF (publicF seed.data.toList k)).length = 32 := HL.out.1 _ (List.mem_of_getElem? hat)
      generalize leafF (publicF seed.data.toList k) = R at *
      have HP1 := Lib.hid hpu
      have HL1 := Lib.hid hle
      have HNEXT := Lib.hid (show L.take (k + 1) = L.take k ++ [R] from by rw [List.take_add_one, hat]; rfl)
      have HAPP := Lib.hid (fun (W : World) (hk : Kept (fun _ => False) wr W) => (HB.out.same hk).app (take_mem32 HL.out.1 _) (by rw [List.length_take]; omega) R hR)
      have hfr0 := fold_hash hR
      simp only [zeros, List.replicate] at hfr0
      have HFR := Lib.hid hfr0
      have lR : (bytes8 R).length = 32 := by rw [bytes8_len, hR]
      have HLT := Lib.hid hlt
      clear hat hpu hle hR hfr0 hlt hk
      go_wp2_with (first
        | (go_at_call 88; refine (HP1.out _).mono ?_; rintro e w1 ⟨v1, rfl, H1⟩; have HK1 := Lib.hid H1.kept; have H1 := Lib.hid H1)
        | (go_at_call 87; refine (HL1.out _ _ _ H1.out).mono ?_; rintro e w2 ⟨rfl, hk2⟩; obtain ⟨v5, w5, hr5, H5⟩ := HAPP.out w2 (HK1.out.trans hk2); have hfr := HFR.out)
        | (at_builtin; refine Lib.wpList_append_run _ rfl _ _ 59 59 rfl _ _ rfl rfl _ _ hr5 ?_))
      have hlt := HLT.out
      have e1 : wrap64 ((k : Int) + 1) = ((k + 1 : Nat) : Int) := IntWalk.wrap64_in _ (by omega)
      rw [e1]
      exact ⟨⟨k + 1, rfl, hlt, Lib.hid (by rw [HNEXT.out]; exact H5.out)⟩, by simp only [intOf]; omega⟩
    · have z1 : decide ((k : Int) < 8) = false := decide_eq_false (by omega)
      have z2 : decide (k < 8) = false := decide_eq_false hlt
      obtain rfl : k = 8 := by omega
      have HE := Lib.hid (show NewH w _ L _ from by have := HB.out; rwa [List.take_of_length_le (by have := HL.out.2; omega)] at this)
      clear HB hlt hk
      go_wp2_with fail
      go_ret
      exact ⟨_, rfl, HE.out⟩
end Go.Proofs.YtdmedbhbefdnkaaGreatDoor

namespace Go.Proofs.YtdmedbhbefdnkaaGreatDoor
open Go.RowKit
def saysOps8 : Array Oper := #[
  ⟨some 39, .fieldAddr 32 (.tmp 12) 0, 0, "ref.go:35", #[], none⟩,
  ⟨some 40, .load 3 (.tmp 39), 3, "ref.go:35", #[⟨0, .data⟩], none⟩,
  ⟨some 41, .binOp .lss 3 (.tmp 40) (.const (.int .i64 1)) 3, 4, "ref.go:35", #[⟨1, .data⟩], none⟩,
  ⟨some 42, .move (.tmp 41), 4, "ref.go:35", #[⟨2, .data⟩], none⟩,
  ⟨some 43, .fieldAddr 32 (.tmp 12) 0, 0, "ref.go:35", #[⟨3, .guard⟩], some (3, false)⟩,
  ⟨some 44, .load 3 (.tmp 43), 3, "ref.go:35", #[⟨4, .data⟩, ⟨3, .guard⟩], some (3, false)⟩,
  ⟨some 45, .binOp .gtr 3 (.tmp 44) (.const (.int .i64 4096)) 3, 4, "ref.go:35", #[⟨5, .data⟩, ⟨3, .guard⟩], some (3, false)⟩,
  ⟨some 46, .pick (.tmp 42) (.const (.bool true)) (.tmp 45), 4, "ref.go:35", #[⟨3, .data⟩, ⟨6, .data⟩], none⟩,
  ⟨some 47, .move (.tmp 46), 4, "ref.go:35", #[⟨7, .data⟩, ⟨3, .chain⟩], none⟩,
  ⟨some 48, .load 32 (.tmp 12), 32, "ref.go:35", #[⟨8, .guard⟩], some (8, false)⟩,
  ⟨some 49, .call { callee := .value (.func 7), args := #[.tmp 48], argTypes := #[32] }, 9, "ref.go:35", #[⟨9, .data⟩, ⟨8, .chain⟩, ⟨8, .guard⟩], some (8, false)⟩,
  ⟨some 50, .move (.tmp 0), 99, "ref.go:35", #[⟨8, .guard⟩], some (8, false)⟩,
  ⟨some 51, .move (.tmp 5), 3, "ref.go:35", #[⟨8, .guard⟩], some (8, false)⟩,
  ⟨some 52, .indexAddr 99 (.tmp 50) (.tmp 51), 0, "ref.go:35", #[⟨11, .data⟩, ⟨12, .data⟩, ⟨8, .guard⟩], some (8, false)⟩,
  ⟨some 53, .load 9 (.tmp 52), 9, "ref.go:35", #[⟨13, .data⟩, ⟨8, .guard⟩], some (8, false)⟩,
  ⟨some 54, .binOp .neq 9 (.tmp 49) (.tmp 53) 9, 4, "ref.go:35", #[⟨10, .data⟩, ⟨14, .data⟩, ⟨8, .guard⟩], some (8, false)⟩,
  ⟨some 55, .pick (.tmp 47) (.const (.bool true)) (.tmp 54), 4, "ref.go:35", #[⟨8, .data⟩, ⟨15, .data⟩], none⟩,
  ⟨some 56, .move (.tmp 55), 4, "ref.go:35", #[⟨16, .data⟩, ⟨10, .chain⟩], none⟩,
  ⟨some 57, .move (.tmp 5), 3, "ref.go:35", #[⟨17, .guard⟩], some (17, false)⟩,
  ⟨some 58, .binOp .gtr 3 (.tmp 57) (.const (.int .i64 7)) 3, 4, "ref.go:35", #[⟨18, .data⟩, ⟨17, .guard⟩], some (17, false)⟩,
  ⟨some 59, .pick (.tmp 56) (.const (.bool true)) (.tmp 58), 4, "ref.go:35", #[⟨17, .data⟩, ⟨19, .data⟩], none⟩,
  ⟨some 60, .move (.tmp 59), 4, "ref.go:35", #[⟨20, .data⟩, ⟨17, .chain⟩], none⟩,
  ⟨some 61, .move (.tmp 5), 3, "ref.go:35", #[⟨21, .guard⟩], some (21, false)⟩,
  ⟨some 62, .binOp .gtr 3 (.tmp 61) (.const (.int .i64 0)) 3, 4, "ref.go:35", #[⟨22, .data⟩, ⟨21, .guard⟩], some (21, false)⟩,
  ⟨some 63, .move (.tmp 62), 4, "ref.go:35", #[⟨23, .data⟩, ⟨21, .chain⟩, ⟨21, .guard⟩], some (21, false)⟩,
  ⟨some 64, .move (.tmp 4), 22, "ref.go:35", #[⟨24, .guard⟩], some (24, true)⟩,
  ⟨some 65, .move (.tmp 5), 3, "ref.go:35", #[⟨24, .guard⟩], some (24, true)⟩,
  ⟨some 66, .binOp .sub 3 (.tmp 65) (.const (.int .i64 1)) 3, 3, "ref.go:35", #[⟨26, .data⟩, ⟨24, .guard⟩], some (24, true)⟩,
  ⟨some 67, .indexAddr 22 (.tmp 64) (.tmp 66), 0, "ref.go:35", #[⟨25, .data⟩, ⟨27, .data⟩, ⟨24, .guard⟩], some (24, true)⟩,
  ⟨some 68, .fieldAddr 32 (.tmp 67) 0, 0, "ref.go:35", #[⟨28, .data⟩, ⟨24, .guard⟩], some (24, true)⟩,
  ⟨some 69, .load 3 (.tmp 68), 3, "ref.go:35", #[⟨29, .data⟩, ⟨24, .guard⟩], some (24, true)⟩,
  ⟨some 70, .fieldAddr 32 (.tmp 12) 0, 0, "ref.go:35", #[⟨24, .guard⟩], some (24, true)⟩,
  ⟨some 71, .load 3 (.tmp 70), 3, "ref.go:35", #[⟨31, .data⟩, ⟨24, .guard⟩], some (24, true)⟩,
  ⟨some 72, .binOp .geq 3 (.tmp 69) (.tmp 71) 3, 4, "ref.go:35", #[⟨30, .data⟩, ⟨32, .data⟩, ⟨24, .guard⟩], some (24, true)⟩,
  ⟨some 73, .pick (.tmp 63) (.tmp 72) (.const (.bool false)), 4, "ref.go:35", #[⟨24, .data⟩, ⟨33, .data⟩, ⟨21, .guard⟩], some (21, false)⟩,
  ⟨some 74, .pick (.tmp 60) (.const (.bool true)) (.tmp 73), 4, "ref.go:35", #[⟨21, .data⟩, ⟨34, .data⟩], none⟩]
structure SaysS (W : World) (hb : Nat) (C : List Value) (z : Int) (g i : Nat) (p : By) (gl j : Nat) (y : Int) (has : Prop) (W' : World) : Prop where
  c0 : W'.cell? ⟨hb, 0, none⟩ = some (.int .i64 z)
  rg : W'.rangeAt hb 0 C
  cp : W'.cell? ⟨g, i, none⟩ = some (.string (strB p))
  cl : has → W'.cell? ⟨gl, j * 33, none⟩ = some (.int .i64 y)
  kept : Kept (fun _ => False) W W'
theorem SaysS.next {W W1 W2 : World} {hb : Nat} {C : List Value} {z : Int} {g i : Nat} {p : By} {gl j : Nat} {y : Int} {has : Prop} (h : SaysS W hb C z g i p gl j y has W1) (hk : Kept (fun _ => False) W1 W2) : SaysS W hb C z g i p gl j y has W2 :=
  ⟨hk.cell h.c0 id, fun k u hu => hk.cell (h.rg k u hu) id, hk.cell h.cp id, fun q => hk.cell (h.cl q) id, h.kept.trans hk⟩
set_option maxRecDepth 100000 in
set_option maxHeartbeats 4000000 in
theorem says_r1 {W : World} {hb g i pn pc gl j lc : Nat} {z y : Int} {C : List Value} {p N : By} {Q : Exit → Act → World → Prop} {u1 u2 u3 u4 u6 u7 u8 u9 u10 u11 u13 u14 u15 u16 u17 u18 u19 u20 u21 u22 u23 u24 u25 u26 u27 u28 u29 u30 u31 u32 u33 u34 u35 u36 u37 u38 u39 u40 u41 u42 u43 u44 u45 u46 u47 u48 u49 u50 u51 u52 u53 u54 u55 u56 u57 u58 u59 u60 u61 u62 u63 u64 u65 u66 u67 u68 u69 u70 u71 u72 u73 u74 u75 u76 u77 u78 u79 : Value} (hS : SaysS W hb C z g i p gl j y False W) (hlt : i < pn) (z1 : decide (z < 1) = true)
    (HP : ∀ c a (k : Nat) v w, Q (.panic c) (Act.put a (some k) v) w → Q (.panic c) a w) (HQ : ∀ (v39 v40 v41 v42 v43 v44 v45 v46 v47 v48 v49 v50 v51 v52 v53 v54 v55 v56 v57 v58 v59 v60 v61 v62 v63 v64 v65 v66 v67 v68 v69 v70 v71 v72 v73 : Value) (w' : World), Kept (fun _ => False) W w' → Q .normal ⟨List.toArray ((.slice (some ⟨g, 0, none⟩) pn pc) :: u1 :: u2 :: u3 :: u4 :: (.int .i64 (i : Int)) :: u6 :: u7 :: u8 :: u9 :: u10 :: u11 :: (.pointer (some ⟨hb, 0, none⟩)) :: u13 :: u14 :: u15 :: u16 :: u17 :: u18 :: u19 :: u20 :: u21 :: u22 :: u23 :: u24 :: u25 :: u26 :: u27 :: u28 :: u29 :: u30 :: u31 :: u32 :: u33 :: u34 :: u35 :: u36 :: u37 :: u38 :: v39 :: v40 :: v41 :: v42 :: v43 :: v44 :: v45 :: v46 :: v47 :: v48 :: v49 :: v50 :: v51 :: v52 :: v53 :: v54 :: v55 :: v56 :: v57 :: v58 :: v59 :: v60 :: v61 :: v62 :: v63 :: v64 :: v65 :: v66 :: v67 :: v68 :: v69 :: v70 :: v71 :: v72 :: v73 :: (.bool true) :: u75 :: u76 :: u77 :: u78 :: u79 :: []), []⟩ w') :
    Code.wp Tryz.prog (Code.region 8 saysOps8 true) Q ⟨List.toArray ((.slice (some ⟨g, 0, none⟩) pn pc) :: u1 :: u2 :: u3 :: u4 :: (.int .i64 (i : Int)) :: u6 :: u7 :: u8 :: u9 :: u10 :: u11 :: (.pointer (some ⟨hb, 0, none⟩)) :: u13 :: u14 :: u15 :: u16 :: u17 :: u18 :: u19 :: u20 :: u21 :: u22 :: u23 :: u24 :: u25 :: u26 :: u27 :: u28 :: u29 :: u30 :: u31 :: u32 :: u33 :: u34 :: u35 :: u36 :: u37 :: u38 :: u39 :: u40 :: u41 :: u42 :: u43 :: u44 :: u45 :: u46 :: u47 :: u48 :: u49 :: u50 :: u51 :: u52 :: u53 :: u54 :: u55 :: u56 :: u57 :: u58 :: u59 :: u60 :: u61 :: u62 :: u63 :: u64 :: u65 :: u66 :: u67 :: u68 :: u69 :: u70 :: u71 :: u72 :: u73 :: u74 :: u75 :: u76 :: u77 :: u78 :: u79 :: []), []⟩ W := by
  have HQ := Lib.hid HQ
  unfold saysOps8
  refine wp_region_held_drew (S := SaysS W hb C z g i p gl j y False) (by kernel_rfl) (hS.next (Kept.refl _ _).drew) (fun hS0 => ?_)
  clear hS
  generalize World.drew W = W0 at *
  refine tk 0 rfl (fun _ _ _ h => HP _ _ _ _ _ h) hS0 ?_
  refine tk 1 rfl (fun _ _ _ h => HP _ _ _ _ _ h) hS0 ?_ (hy := by (refine Or.inl ⟨by rfl, fun w hSw => ?_⟩; obtain ⟨s1, s2, s3, s4, s5⟩ := hSw; go_simp; (try with_reducible rfl)))
  refine tk 2 rfl (fun _ _ _ h => HP _ _ _ _ _ h) hS0 ?_
  refine tk 3 rfl (fun _ _ _ h => HP _ _ _ _ _ h) hS0 ?_
  refine tk0 4 rfl (fun _ _ _ h => HP _ _ _ _ _ h) hS0 ?_
  refine tk0 5 rfl (fun _ _ _ h => HP _ _ _ _ _ h) hS0 ?_
  refine tk0 6 rfl (fun _ _ _ h => HP _ _ _ _ _ h) hS0 ?_
  refine tk 7 rfl (fun _ _ _ h => HP _ _ _ _ _ h) hS0 ?_
  refine tk 8 rfl (fun _ _ _ h => HP _ _ _ _ _ h) hS0 ?_
  refine tk0 9 rfl (fun _ _ _ h => HP _ _ _ _ _ h) hS0 ?_
  refine tk0 10 rfl (fun _ _ _ h => HP _ _ _ _ _ h) hS0 ?_
  refine tk0 11 rfl (fun _ _ _ h => HP _ _ _ _ _ h) hS0 ?_
  refine tk0 12 rfl (fun _ _ _ h => HP _ _ _ _ _ h) hS0 ?_
  refine tk0 13 rfl (fun _ _ _ h => HP _ _ _ _ _ h) hS0 ?_
  refine tk0 14 rfl (fun _ _ _ h => HP _ _ _ _ _ h) hS0 ?_
  refine tk0 15 rfl (fun _ _ _ h => HP _ _ _ _ _ h) hS0 ?_
  refine tk 16 rfl (fun _ _ _ h => HP _ _ _ _ _ h) hS0 ?_
  refine tk 17 rfl (fun _ _ _ h => HP _ _ _ _ _ h) hS0 ?_
  refine tk0 18 rfl (fun _ _ _ h => HP _ _ _ _ _ h) hS0 ?_
  refine tk0 19 rfl (fun _ _ _ h => HP _ _ _ _ _ h) hS0 ?_
  refine tk 20 rfl (fun _ _ _ h => HP _ _ _ _ _ h) hS0 ?_
  refine tk 21 rfl (fun _ _ _ h => HP _ _ _ _ _ h) hS0 ?_
  refine tk0 22 rfl (fun _ _ _ h => HP _ _ _ _ _ h) hS0 ?_
  refine tk0 23 rfl (fun _ _ _ h => HP _ _ _ _ _ h) hS0 ?_
  refine tk0 24 rfl (fun _ _ _ h => HP _ _ _ _ _ h) hS0 ?_
  refine tk0 25 rfl (fun _ _ _ h => HP _ _ _ _ _ h) hS0 ?_
  refine tk0 26 rfl (fun _ _ _ h => HP _ _ _ _ _ h) hS0 ?_
  refine tk0 27 rfl (fun _ _ _ h => HP _ _ _ _ _ h) hS0 ?_
  refine tk0 28 rfl (fun _ _ _ h => HP _ _ _ _ _ h) hS0 ?_
  refine tk0 29 rfl (fun _ _ _ h => HP _ _ _ _ _ h) hS0 ?_
  refine tk0 30 rfl (fun _ _ _ h => HP _ _ _ _ _ h) hS0 ?_
  refine tk0 31 rfl (fun _ _ _ h => HP _ _ _ _ _ h) hS0 ?_
  refine tk0 32 rfl (fun _ _ _ h => HP _ _ _ _ _ h) hS0 ?_
  refine tk0 33 rfl (fun _ _ _ h => HP _ _ _ _ _ h) hS0 ?_
  refine tk0 34 rfl (fun _ _ _ h => HP _ _ _ _ _ h) hS0 ?_
  refine tk 35 rfl (fun _ _ _ h => HP _ _ _ _ _ h) hS0 ?_
  refine wpAnyH_done (by kernel_rfl) ?_ _
  exact HQ.out _ _ _ _ _ _ _ _ _ _ _ _ _ _ _ _ _ _ _ _ _ _ _ _ _ _ _ _ _ _ _ _ _ _ _ _ hS0.kept
set_option maxRecDepth 100000 in
set_option maxHeartbeats 4000000 in
theorem says_r2 {W : World} {hb g i pn pc gl j lc : Nat} {z y : Int} {C : List Value} {p N : By} {Q : Exit → Act → World → Prop} {u1 u2 u3 u4 u6 u7 u8 u9 u10 u11 u13 u14 u15 u16 u17 u18 u19 u20 u21 u22 u23 u24 u25 u26 u27 u28 u29 u30 u31 u32 u33 u34 u35 u36 u37 u38 u39 u40 u41 u42 u43 u44 u45 u46 u47 u48 u49 u50 u51 u52 u53 u54 u55 u56 u57 u58 u59 u60 u61 u62 u63 u64 u65 u66 u67 u68 u69 u70 u71 u72 u73 u74 u75 u76 u77 u78 u79 : Value} (hS : SaysS W hb C z g i p gl j y False W) (hlt : i < pn) (z1 : decide (z < 1) = false) (z2 : decide (4096 < z) = true)
    (HP : ∀ c a (k : Nat) v w, Q (.panic c) (Act.put a (some k) v) w → Q (.panic c) a w) (HQ : ∀ (v39 v40 v41 v42 v43 v44 v45 v46 v47 v48 v49 v50 v51 v52 v53 v54 v55 v56 v57 v58 v59 v60 v61 v62 v63 v64 v65 v66 v67 v68 v69 v70 v71 v72 v73 : Value) (w' : World), Kept (fun _ => False) W w' → Q .normal ⟨List.toArray ((.slice (some ⟨g, 0, none⟩) pn pc) :: u1 :: u2 :: u3 :: u4 :: (.int .i64 (i : Int)) :: u6 :: u7 :: u8 :: u9 :: u10 :: u11 :: (.pointer (some ⟨hb, 0, none⟩)) :: u13 :: u14 :: u15 :: u16 :: u17 :: u18 :: u19 :: u20 :: u21 :: u22 :: u23 :: u24 :: u25 :: u26 :: u27 :: u28 :: u29 :: u30 :: u31 :: u32 :: u33 :: u34 :: u35 :: u36 :: u37 :: u38 :: v39 :: v40 :: v41 :: v42 :: v43 :: v44 :: v45 :: v46 :: v47 :: v48 :: v49 :: v50 :: v51 :: v52 :: v53 :: v54 :: v55 :: v56 :: v57 :: v58 :: v59 :: v60 :: v61 :: v62 :: v63 :: v64 :: v65 :: v66 :: v67 :: v68 :: v69 :: v70 :: v71 :: v72 :: v73 :: (.bool true) :: u75 :: u76 :: u77 :: u78 :: u79 :: []), []⟩ w') :
    Code.wp Tryz.prog (Code.region 8 saysOps8 true) Q ⟨List.toArray ((.slice (some ⟨g, 0, none⟩) pn pc) :: u1 :: u2 :: u3 :: u4 :: (.int .i64 (i : Int)) :: u6 :: u7 :: u8 :: u9 :: u10 :: u11 :: (.pointer (some ⟨hb, 0, none⟩)) :: u13 :: u14 :: u15 :: u16 :: u17 :: u18 :: u19 :: u20 :: u21 :: u22 :: u23 :: u24 :: u25 :: u26 :: u27 :: u28 :: u29 :: u30 :: u31 :: u32 :: u33 :: u34 :: u35 :: u36 :: u37 :: u38 :: u39 :: u40 :: u41 :: u42 :: u43 :: u44 :: u45 :: u46 :: u47 :: u48 :: u49 :: u50 :: u51 :: u52 :: u53 :: u54 :: u55 :: u56 :: u57 :: u58 :: u59 :: u60 :: u61 :: u62 :: u63 :: u64 :: u65 :: u66 :: u67 :: u68 :: u69 :: u70 :: u71 :: u72 :: u73 :: u74 :: u75 :: u76 :: u77 :: u78 :: u79 :: []), []⟩ W := by
  have HQ := Lib.hid HQ
  unfold saysOps8
  refine wp_region_held_drew (S := SaysS W hb C z g i p gl j y False) (by kernel_rfl) (hS.next (Kept.refl _ _).drew) (fun hS0 => ?_)
  clear hS
  generalize World.drew W = W0 at *
  refine tk 0 rfl (fun _ _ _ h => HP _ _ _ _ _ h) hS0 ?_
  refine tk 1 rfl (fun _ _ _ h => HP _ _ _ _ _ h) hS0 ?_ (hy := by (refine Or.inl ⟨by rfl, fun w hSw => ?_⟩; obtain ⟨s1, s2, s3, s4, s5⟩ := hSw; go_simp; (try with_reducible rfl)))
  refine tk 2 rfl (fun _ _ _ h => HP _ _ _ _ _ h) hS0 ?_
  refine tk 3 rfl (fun _ _ _ h => HP _ _ _ _ _ h) hS0 ?_
  refine tk 4 rfl (fun _ _ _ h => HP _ _ _ _ _ h) hS0 ?_
  refine tk 5 rfl (fun _ _ _ h => HP _ _ _ _ _ h) hS0 ?_ (hy := by (refine Or.inl ⟨by rfl, fun w hSw => ?_⟩; obtain ⟨s1, s2, s3, s4, s5⟩ := hSw; go_simp; (try with_reducible rfl)))
  refine tk 6 rfl (fun _ _ _ h => HP _ _ _ _ _ h) hS0 ?_
  refine tk 7 rfl (fun _ _ _ h => HP _ _ _ _ _ h) hS0 ?_
  refine tk 8 rfl (fun _ _ _ h => HP _ _ _ _ _ h) hS0 ?_
  refine tk0 9 rfl (fun _ _ _ h => HP _ _ _ _ _ h) hS0 ?_
  refine tk0 10 rfl (fun _ _ _ h => HP _ _ _ _ _ h) hS0 ?_
  refine tk0 11 rfl (fun _ _ _ h => HP _ _ _ _ _ h) hS0 ?_
  refine tk0 12 rfl (fun _ _ _ h => HP _ _ _ _ _ h) hS0 ?_
  refine tk0 13 rfl (fun _ _ _ h => HP _ _ _ _ _ h) hS0 ?_
  refine tk0 14 rfl (fun _ _ _ h => HP _ _ _ _ _ h) hS0 ?_
  refine tk0 15 rfl (fun _ _ _ h => HP _ _ _ _ _ h) hS0 ?_
  refine tk 16 rfl (fun _ _ _ h => HP _ _ _ _ _ h) hS0 ?_
  refine tk 17 rfl (fun _ _ _ h => HP _ _ _ _ _ h) hS0 ?_
  refine tk0 18 rfl (fun _ _ _ h => HP _ _ _ _ _ h) hS0 ?_
  refine tk0 19 rfl (fun _ _ _ h => HP _ _ _ _ _ h) hS0 ?_
  refine tk 20 rfl (fun _ _ _ h => HP _ _ _ _ _ h) hS0 ?_
  refine tk 21 rfl (fun _ _ _ h => HP _ _ _ _ _ h) hS0 ?_
  refine tk0 22 rfl (fun _ _ _ h => HP _ _ _ _ _ h) hS0 ?_
  refine tk0 23 rfl (fun _ _ _ h => HP _ _ _ _ _ h) hS0 ?_
  refine tk0 24 rfl (fun _ _ _ h => HP _ _ _ _ _ h) hS0 ?_
  refine tk0 25 rfl (fun _ _ _ h => HP _ _ _ _ _ h) hS0 ?_
  refine tk0 26 rfl (fun _ _ _ h => HP _ _ _ _ _ h) hS0 ?_
  refine tk0 27 rfl (fun _ _ _ h => HP _ _ _ _ _ h) hS0 ?_
  refine tk0 28 rfl (fun _ _ _ h => HP _ _ _ _ _ h) hS0 ?_
  refine tk0 29 rfl (fun _ _ _ h => HP _ _ _ _ _ h) hS0 ?_
  refine tk0 30 rfl (fun _ _ _ h => HP _ _ _ _ _ h) hS0 ?_
  refine tk0 31 rfl (fun _ _ _ h => HP _ _ _ _ _ h) hS0 ?_
  refine tk0 32 rfl (fun _ _ _ h => HP _ _ _ _ _ h) hS0 ?_
  refine tk0 33 rfl (fun _ _ _ h => HP _ _ _ _ _ h) hS0 ?_
  refine tk0 34 rfl (fun _ _ _ h => HP _ _ _ _ _ h) hS0 ?_
  refine tk 35 rfl (fun _ _ _ h => HP _ _ _ _ _ h) hS0 ?_
  refine wpAnyH_done (by kernel_rfl) ?_ _
  exact HQ.out _ _ _ _ _ _ _ _ _ _ _ _ _ _ _ _ _ _ _ _ _ _ _ _ _ _ _ _ _ _ _ _ _ _ _ _ hS0.kept
set_option maxRecDepth 100000 in
set_option maxHeartbeats 4000000 in
theorem says_r3 {W : World} {hb g i pn pc gl j lc : Nat} {z y : Int} {C : List Value} {p N : By} {Q : Exit → Act → World → Prop} {u1 u2 u3 u4 u6 u7 u8 u9 u10 u11 u13 u14 u15 u16 u17 u18 u19 u20 u21 u22 u23 u24 u25 u26 u27 u28 u29 u30 u31 u32 u33 u34 u35 u36 u37 u38 u39 u40 u41 u42 u43 u44 u45 u46 u47 u48 u49 u50 u51 u52 u53 u54 u55 u56 u57 u58 u59 u60 u61 u62 u63 u64 u65 u66 u67 u68 u69 u70 u71 u72 u73 u74 u75 u76 u77 u78 u79 : Value} (hS : SaysS W hb C z g i p gl j y False W) (hlt : i < pn) (z1 : decide (z < 1) = false) (z2 : decide (4096 < z) = false) (zr : (N == p) = false) (hi : (Tryz.prog.info? 32).map (·.size) = some C.length) (hrec : ∀ w', Calls Tryz.prog 7 #[.agg C.toArray] w' fun e w2 => e = .returned (.string (strB N)) ∧ Kept (fun _ => False) w' w2)
    (HP : ∀ c a (k : Nat) v w, Q (.panic c) (Act.put a (some k) v) w → Q (.panic c) a w) (HQ : ∀ (v39 v40 v41 v42 v43 v44 v45 v46 v47 v48 v49 v50 v51 v52 v53 v54 v55 v56 v57 v58 v59 v60 v61 v62 v63 v64 v65 v66 v67 v68 v69 v70 v71 v72 v73 : Value) (w' : World), Kept (fun _ => False) W w' → Q .normal ⟨List.toArray ((.slice (some ⟨g, 0, none⟩) pn pc) :: u1 :: u2 :: u3 :: u4 :: (.int .i64 (i : Int)) :: u6 :: u7 :: u8 :: u9 :: u10 :: u11 :: (.pointer (some ⟨hb, 0, none⟩)) :: u13 :: u14 :: u15 :: u16 :: u17 :: u18 :: u19 :: u20 :: u21 :: u22 :: u23 :: u24 :: u25 :: u26 :: u27 :: u28 :: u29 :: u30 :: u31 :: u32 :: u33 :: u34 :: u35 :: u36 :: u37 :: u38 :: v39 :: v40 :: v41 :: v42 :: v43 :: v44 :: v45 :: v46 :: v47 :: v48 :: v49 :: v50 :: v51 :: v52 :: v53 :: v54 :: v55 :: v56 :: v57 :: v58 :: v59 :: v60 :: v61 :: v62 :: v63 :: v64 :: v65 :: v66 :: v67 :: v68 :: v69 :: v70 :: v71 :: v72 :: v73 :: (.bool true) :: u75 :: u76 :: u77 :: u78 :: u79 :: []), []⟩ w') :
    Code.wp Tryz.prog (Code.region 8 saysOps8 true) Q ⟨List.toArray ((.slice (some ⟨g, 0, none⟩) pn pc) :: u1 :: u2 :: u3 :: u4 :: (.int .i64 (i : Int)) :: u6 :: u7 :: u8 :: u9 :: u10 :: u11 :: (.pointer (some ⟨hb, 0, none⟩)) :: u13 :: u14 :: u15 :: u16 :: u17 :: u18 :: u19 :: u20 :: u21 :: u22 :: u23 :: u24 :: u25 :: u26 :: u27 :: u28 :: u29 :: u30 :: u31 :: u32 :: u33 :: u34 :: u35 :: u36 :: u37 :: u38 :: u39 :: u40 :: u41 :: u42 :: u43 :: u44 :: u45 :: u46 :: u47 :: u48 :: u49 :: u50 :: u51 :: u52 :: u53 :: u54 :: u55 :: u56 :: u57 :: u58 :: u59 :: u60 :: u61 :: u62 :: u63 :: u64 :: u65 :: u66 :: u67 :: u68 :: u69 :: u70 :: u71 :: u72 :: u73 :: u74 :: u75 :: u76 :: u77 :: u78 :: u79 :: []), []⟩ W := by
  have HQ := Lib.hid HQ
  unfold saysOps8
  refine wp_region_held_drew (S := SaysS W hb C z g i p gl j y False) (by kernel_rfl) (hS.next (Kept.refl _ _).drew) (fun hS0 => ?_)
  clear hS
  generalize World.drew W = W0 at *
  refine tk 0 rfl (fun _ _ _ h => HP _ _ _ _ _ h) hS0 ?_
  refine tk 1 rfl (fun _ _ _ h => HP _ _ _ _ _ h) hS0 ?_ (hy := by (refine Or.inl ⟨by rfl, fun w hSw => ?_⟩; obtain ⟨s1, s2, s3, s4, s5⟩ := hSw; go_simp; (try with_reducible rfl)))
  refine tk 2 rfl (fun _ _ _ h => HP _ _ _ _ _ h) hS0 ?_
  refine tk 3 rfl (fun _ _ _ h => HP _ _ _ _ _ h) hS0 ?_
  refine tk 4 rfl (fun _ _ _ h => HP _ _ _ _ _ h) hS0 ?_
  refine tk 5 rfl (fun _ _ _ h => HP _ _ _ _ _ h) hS0 ?_ (hy := by (refine Or.inl ⟨by rfl, fun w hSw => ?_⟩; obtain ⟨s1, s2, s3, s4, s5⟩ := hSw; go_simp; (try with_reducible rfl)))
  refine tk 6 rfl (fun _ _ _ h => HP _ _ _ _ _ h) hS0 ?_
  refine tk 7 rfl (fun _ _ _ h => HP _ _ _ _ _ h) hS0 ?_
  refine tk 8 rfl (fun _ _ _ h => HP _ _ _ _ _ h) hS0 ?_
  refine tky 9 rfl (fun _ _ _ h => HP _ _ _ _ _ h) (yieldsIf_load_mid (by rfl) _ _ rfl hb 0 rfl C _ (fun w h => h.rg) Tryz.underlying32 rfl hi) hS0 ?_
  refine tk 11 rfl (fun _ _ _ h => HP _ _ _ _ _ h) hS0 ?_
  refine tk 12 rfl (fun _ _ _ h => HP _ _ _ _ _ h) hS0 ?_
  refine tk 13 rfl (fun _ _ _ h => HP _ _ _ _ _ h) hS0 ?_
  refine tk 14 rfl (fun _ _ _ h => HP _ _ _ _ _ h) hS0 ?_ (hy := by (refine Or.inl ⟨by rfl, fun w hSw => ?_⟩; obtain ⟨s1, s2, s3, s4, s5⟩ := hSw; go_simp; (try with_reducible rfl)))
  refine rd1 10 (fun K hK => ?_)
  go_simp
  refine (hrec _).mono ?_
  rintro e w3 ⟨rfl, hk3⟩
  refine hK.out _ _ (hS0.next hk3) (fun hS1 => ?_)
  clear hK K
  try simp only [lyA, lyB, lyC, lyD]
  refine tk 15 rfl (fun _ _ _ h => HP _ _ _ _ _ h) hS1 ?_
  refine tk 16 rfl (fun _ _ _ h => HP _ _ _ _ _ h) hS1 ?_
  refine tk 17 rfl (fun _ _ _ h => HP _ _ _ _ _ h) hS1 ?_
  refine tk0 18 rfl (fun _ _ _ h => HP _ _ _ _ _ h) hS1 ?_
  refine tk0 19 rfl (fun _ _ _ h => HP _ _ _ _ _ h) hS1 ?_
  refine tk 20 rfl (fun _ _ _ h => HP _ _ _ _ _ h) hS1 ?_
  refine tk 21 rfl (fun _ _ _ h => HP _ _ _ _ _ h) hS1 ?_
  refine tk0 22 rfl (fun _ _ _ h => HP _ _ _ _ _ h) hS1 ?_
  refine tk0 23 rfl (fun _ _ _ h => HP _ _ _ _ _ h) hS1 ?_
  refine tk0 24 rfl (fun _ _ _ h => HP _ _ _ _ _ h) hS1 ?_
  refine tk0 25 rfl (fun _ _ _ h => HP _ _ _ _ _ h) hS1 ?_
  refine tk0 26 rfl (fun _ _ _ h => HP _ _ _ _ _ h) hS1 ?_
  refine tk0 27 rfl (fun _ _ _ h => HP _ _ _ _ _ h) hS1 ?_
  refine tk0 28 rfl (fun _ _ _ h => HP _ _ _ _ _ h) hS1 ?_
  refine tk0 29 rfl (fun _ _ _ h => HP _ _ _ _ _ h) hS1 ?_
  refine tk0 30 rfl (fun _ _ _ h => HP _ _ _ _ _ h) hS1 ?_
  refine tk0 31 rfl (fun _ _ _ h => HP _ _ _ _ _ h) hS1 ?_
  refine tk0 32 rfl (fun _ _ _ h => HP _ _ _ _ _ h) hS1 ?_
  refine tk0 33 rfl (fun _ _ _ h => HP _ _ _ _ _ h) hS1 ?_
  refine tk0 34 rfl (fun _ _ _ h => HP _ _ _ _ _ h) hS1 ?_
  refine tk 35 rfl (fun _ _ _ h => HP _ _ _ _ _ h) hS1 ?_
  refine wpAnyH_done (by kernel_rfl) ?_ _
  exact HQ.out _ _ _ _ _ _ _ _ _ _ _ _ _ _ _ _ _ _ _ _ _ _ _ _ _ _ _ _ _ _ _ _ _ _ _ _ hS1.kept
set_option maxRecDepth 100000 in
set_option maxHeartbeats 4000000 in
theorem says_r4 {W : World} {hb g i pn pc gl j lc : Nat} {z y : Int} {C : List Value} {p N : By} {Q : Exit → Act → World → Prop} {u1 u2 u3 u4 u6 u7 u8 u9 u10 u11 u13 u14 u15 u16 u17 u18 u19 u20 u21 u22 u23 u24 u25 u26 u27 u28 u29 u30 u31 u32 u33 u34 u35 u36 u37 u38 u39 u40 u41 u42 u43 u44 u45 u46 u47 u48 u49 u50 u51 u52 u53 u54 u55 u56 u57 u58 u59 u60 u61 u62 u63 u64 u65 u66 u67 u68 u69 u70 u71 u72 u73 u74 u75 u76 u77 u78 u79 : Value} (hS : SaysS W hb C z g i p gl j y False W) (hlt : i < pn) (z1 : decide (z < 1) = false) (z2 : decide (4096 < z) = false) (zr : (N == p) = true) (hi : (Tryz.prog.info? 32).map (·.size) = some C.length) (hrec : ∀ w', Calls Tryz.prog 7 #[.agg C.toArray] w' fun e w2 => e = .returned (.string (strB N)) ∧ Kept (fun _ => False) w' w2) (z7 : decide ((7 : Int) < (i : Int)) = true) (z7' : decide (7 < i) = true)
    (HP : ∀ c a (k : Nat) v w, Q (.panic c) (Act.put a (some k) v) w → Q (.panic c) a w) (HQ : ∀ (v39 v40 v41 v42 v43 v44 v45 v46 v47 v48 v49 v50 v51 v52 v53 v54 v55 v56 v57 v58 v59 v60 v61 v62 v63 v64 v65 v66 v67 v68 v69 v70 v71 v72 v73 : Value) (w' : World), Kept (fun _ => False) W w' → Q .normal ⟨List.toArray ((.slice (some ⟨g, 0, none⟩) pn pc) :: u1 :: u2 :: u3 :: u4 :: (.int .i64 (i : Int)) :: u6 :: u7 :: u8 :: u9 :: u10 :: u11 :: (.pointer (some ⟨hb, 0, none⟩)) :: u13 :: u14 :: u15 :: u16 :: u17 :: u18 :: u19 :: u20 :: u21 :: u22 :: u23 :: u24 :: u25 :: u26 :: u27 :: u28 :: u29 :: u30 :: u31 :: u32 :: u33 :: u34 :: u35 :: u36 :: u37 :: u38 :: v39 :: v40 :: v41 :: v42 :: v43 :: v44 :: v45 :: v46 :: v47 :: v48 :: v49 :: v50 :: v51 :: v52 :: v53 :: v54 :: v55 :: v56 :: v57 :: v58 :: v59 :: v60 :: v61 :: v62 :: v63 :: v64 :: v65 :: v66 :: v67 :: v68 :: v69 :: v70 :: v71 :: v72 :: v73 :: (.bool true) :: u75 :: u76 :: u77 :: u78 :: u79 :: []), []⟩ w') :
    Code.wp Tryz.prog (Code.region 8 saysOps8 true) Q ⟨List.toArray ((.slice (some ⟨g, 0, none⟩) pn pc) :: u1 :: u2 :: u3 :: u4 :: (.int .i64 (i : Int)) :: u6 :: u7 :: u8 :: u9 :: u10 :: u11 :: (.pointer (some ⟨hb, 0, none⟩)) :: u13 :: u14 :: u15 :: u16 :: u17 :: u18 :: u19 :: u20 :: u21 :: u22 :: u23 :: u24 :: u25 :: u26 :: u27 :: u28 :: u29 :: u30 :: u31 :: u32 :: u33 :: u34 :: u35 :: u36 :: u37 :: u38 :: u39 :: u40 :: u41 :: u42 :: u43 :: u44 :: u45 :: u46 :: u47 :: u48 :: u49 :: u50 :: u51 :: u52 :: u53 :: u54 :: u55 :: u56 :: u57 :: u58 :: u59 :: u60 :: u61 :: u62 :: u63 :: u64 :: u65 :: u66 :: u67 :: u68 :: u69 :: u70 :: u71 :: u72 :: u73 :: u74 :: u75 :: u76 :: u77 :: u78 :: u79 :: []), []⟩ W := by
  have HQ := Lib.hid HQ
  unfold saysOps8
  refine wp_region_held_drew (S := SaysS W hb C z g i p gl j y False) (by kernel_rfl) (hS.next (Kept.refl _ _).drew) (fun hS0 => ?_)
  clear hS
  generalize World.drew W = W0 at *
  refine tk 0 rfl (fun _ _ _ h => HP _ _ _ _ _ h) hS0 ?_
  refine tk 1 rfl (fun _ _ _ h => HP _ _ _ _ _ h) hS0 ?_ (hy := by (refine Or.inl ⟨by rfl, fun w hSw => ?_⟩; obtain ⟨s1, s2, s3, s4, s5⟩ := hSw; go_simp; (try with_reducible rfl)))
  refine tk 2 rfl (fun _ _ _ h => HP _ _ _ _ _ h) hS0 ?_
  refine tk 3 rfl (fun _ _ _ h => HP _ _ _ _ _ h) hS0 ?_
  refine tk 4 rfl (fun _ _ _ h => HP _ _ _ _ _ h) hS0 ?_
  refine tk 5 rfl (fun _ _ _ h => HP _ _ _ _ _ h) hS0 ?_ (hy := by (refine Or.inl ⟨by rfl, fun w hSw => ?_⟩; obtain ⟨s1, s2, s3, s4, s5⟩ := hSw; go_simp; (try with_reducible rfl)))
  refine tk 6 rfl (fun _ _ _ h => HP _ _ _ _ _ h) hS0 ?_
  refine tk 7 rfl (fun _ _ _ h => HP _ _ _ _ _ h) hS0 ?_
  refine tk 8 rfl (fun _ _ _ h => HP _ _ _ _ _ h) hS0 ?_
  refine tky 9 rfl (fun _ _ _ h => HP _ _ _ _ _ h) (yieldsIf_load_mid (by rfl) _ _ rfl hb 0 rfl C _ (fun w h => h.rg) Tryz.underlying32 rfl hi) hS0 ?_
  refine tk 11 rfl (fun _ _ _ h => HP _ _ _ _ _ h) hS0 ?_
  refine tk 12 rfl (fun _ _ _ h => HP _ _ _ _ _ h) hS0 ?_
  refine tk 13 rfl (fun _ _ _ h => HP _ _ _ _ _ h) hS0 ?_
  refine tk 14 rfl (fun _ _ _ h => HP _ _ _ _ _ h) hS0 ?_ (hy := by (refine Or.inl ⟨by rfl, fun w hSw => ?_⟩; obtain ⟨s1, s2, s3, s4, s5⟩ := hSw; go_simp; (try with_reducible rfl)))
  refine rd1 10 (fun K hK => ?_)
  go_simp
  refine (hrec _).mono ?_
  rintro e w3 ⟨rfl, hk3⟩
  refine hK.out _ _ (hS0.next hk3) (fun hS1 => ?_)
  clear hK K
  try simp only [lyA, lyB, lyC, lyD]
  refine tk 15 rfl (fun _ _ _ h => HP _ _ _ _ _ h) hS1 ?_
  refine tk 16 rfl (fun _ _ _ h => HP _ _ _ _ _ h) hS1 ?_
  refine tk 17 rfl (fun _ _ _ h => HP _ _ _ _ _ h) hS1 ?_
  refine tk 18 rfl (fun _ _ _ h => HP _ _ _ _ _ h) hS1 ?_
  refine tk 19 rfl (fun _ _ _ h => HP _ _ _ _ _ h) hS1 ?_
  refine tk 20 rfl (fun _ _ _ h => HP _ _ _ _ _ h) hS1 ?_
  refine tk 21 rfl (fun _ _ _ h => HP _ _ _ _ _ h) hS1 ?_
  refine tk0 22 rfl (fun _ _ _ h => HP _ _ _ _ _ h) hS1 ?_
  refine tk0 23 rfl (fun _ _ _ h => HP _ _ _ _ _ h) hS1 ?_
  refine tk0 24 rfl (fun _ _ _ h => HP _ _ _ _ _ h) hS1 ?_
  refine tk0 25 rfl (fun _ _ _ h => HP _ _ _ _ _ h) hS1 ?_
  refine tk0 26 rfl (fun _ _ _ h => HP _ _ _ _ _ h) hS1 ?_
  refine tk0 27 rfl (fun _ _ _ h => HP _ _ _ _ _ h) hS1 ?_
  refine tk0 28 rfl (fun _ _ _ h => HP _ _ _ _ _ h) hS1 ?_
  refine tk0 29 rfl (fun _ _ _ h => HP _ _ _ _ _ h) hS1 ?_
  refine tk0 30 rfl (fun _ _ _ h => HP _ _ _ _ _ h) hS1 ?_
  refine tk0 31 rfl (fun _ _ _ h => HP _ _ _ _ _ h) hS1 ?_
  refine tk0 32 rfl (fun _ _ _ h => HP _ _ _ _ _ h) hS1 ?_
  refine tk0 33 rfl (fun _ _ _ h => HP _ _ _ _ _ h) hS1 ?_
  refine tk0 34 rfl (fun _ _ _ h => HP _ _ _ _ _ h) hS1 ?_
  refine tk 35 rfl (fun _ _ _ h => HP _ _ _ _ _ h) hS1 ?_
  refine wpAnyH_done (by kernel_rfl) ?_ _
  exact HQ.out _ _ _ _ _ _ _ _ _ _ _ _ _ _ _ _ _ _ _ _ _ _ _ _ _ _ _ _ _ _ _ _ _ _ _ _ hS1.kept
set_option maxRecDepth 100000 in
set_option maxHeartbeats 4000000 in
theorem says_r5 {W : World} {hb g i pn pc gl j lc : Nat} {z y : Int} {C : List Value} {p N : By} {Q : Exit → Act → World → Prop} {u1 u2 u3 u6 u7 u8 u9 u10 u11 u13 u14 u15 u16 u17 u18 u19 u20 u21 u22 u23 u24 u25 u26 u27 u28 u29 u30 u31 u32 u33 u34 u35 u36 u37 u38 u39 u40 u41 u42 u43 u44 u45 u46 u47 u48 u49 u50 u51 u52 u53 u54 u55 u56 u57 u58 u59 u60 u61 u62 u63 u64 u65 u66 u67 u68 u69 u70 u71 u72 u73 u74 u75 u76 u77 u78 u79 : Value} (hS : SaysS W hb C z g i p gl j y True W) (hlt : i < pn) (z1 : decide (z < 1) = false) (z2 : decide (4096 < z) = false) (zr : (N == p) = true) (hi : (Tryz.prog.info? 32).map (·.size) = some C.length) (hrec : ∀ w', Calls Tryz.prog 7 #[.agg C.toArray] w' fun e w2 => e = .returned (.string (strB N)) ∧ Kept (fun _ => False) w' w2) (z7 : decide ((7 : Int) < (i : Int)) = false) (z7' : decide (7 < i) = false) (z0 : decide ((0 : Int) < (i : Int)) = true) (z0' : decide (0 < i) = true) (zl : decide (z ≤ y) = true) (ej : IntKind.i64.wrap ((i : Int) - 1) = (j : Int)) (hj : j < i)
    (HP : ∀ c a (k : Nat) v w, Q (.panic c) (Act.put a (some k) v) w → Q (.panic c) a w) (HQ : ∀ (v39 v40 v41 v42 v43 v44 v45 v46 v47 v48 v49 v50 v51 v52 v53 v54 v55 v56 v57 v58 v59 v60 v61 v62 v63 v64 v65 v66 v67 v68 v69 v70 v71 v72 v73 : Value) (w' : World), Kept (fun _ => False) W w' → Q .normal ⟨List.toArray ((.slice (some ⟨g, 0, none⟩) pn pc) :: u1 :: u2 :: u3 :: (.slice (some ⟨gl, 0, none⟩) i lc) :: (.int .i64 (i : Int)) :: u6 :: u7 :: u8 :: u9 :: u10 :: u11 :: (.pointer (some ⟨hb, 0, none⟩)) :: u13 :: u14 :: u15 :: u16 :: u17 :: u18 :: u19 :: u20 :: u21 :: u22 :: u23 :: u24 :: u25 :: u26 :: u27 :: u28 :: u29 :: u30 :: u31 :: u32 :: u33 :: u34 :: u35 :: u36 :: u37 :: u38 :: v39 :: v40 :: v41 :: v42 :: v43 :: v44 :: v45 :: v46 :: v47 :: v48 :: v49 :: v50 :: v51 :: v52 :: v53 :: v54 :: v55 :: v56 :: v57 :: v58 :: v59 :: v60 :: v61 :: v62 :: v63 :: v64 :: v65 :: v66 :: v67 :: v68 :: v69 :: v70 :: v71 :: v72 :: v73 :: (.bool true) :: u75 :: u76 :: u77 :: u78 :: u79 :: []), []⟩ w') :
    Code.wp Tryz.prog (Code.region 8 saysOps8 true) Q ⟨List.toArray ((.slice (some ⟨g, 0, none⟩) pn pc) :: u1 :: u2 :: u3 :: (.slice (some ⟨gl, 0, none⟩) i lc) :: (.int .i64 (i : Int)) :: u6 :: u7 :: u8 :: u9 :: u10 :: u11 :: (.pointer (some ⟨hb, 0, none⟩)) :: u13 :: u14 :: u15 :: u16 :: u17 :: u18 :: u19 :: u20 :: u21 :: u22 :: u23 :: u24 :: u25 :: u26 :: u27 :: u28 :: u29 :: u30 :: u31 :: u32 :: u33 :: u34 :: u35 :: u36 :: u37 :: u38 :: u39 :: u40 :: u41 :: u42 :: u43 :: u44 :: u45 :: u46 :: u47 :: u48 :: u49 :: u50 :: u51 :: u52 :: u53 :: u54 :: u55 :: u56 :: u57 :: u58 :: u59 :: u60 :: u61 :: u62 :: u63 :: u64 :: u65 :: u66 :: u67 :: u68 :: u69 :: u70 :: u71 :: u72 :: u73 :: u74 :: u75 :: u76 :: u77 :: u78 :: u79 :: []), []⟩ W := by
  have HQ := Lib.hid HQ
  unfold saysOps8
  refine wp_region_held_drew (S := SaysS W hb C z g i p gl j y True) (by kernel_rfl) (hS.next (Kept.refl _ _).drew) (fun hS0 => ?_)
  clear hS
  generalize World.drew W = W0 at *
  refine tk 0 rfl (fun _ _ _ h => HP _ _ _ _ _ h) hS0 ?_
  refine tk 1 rfl (fun _ _ _ h => HP _ _ _ _ _ h) hS0 ?_ (hy := by (refine Or.inl ⟨by rfl, fun w hSw => ?_⟩; obtain ⟨s1, s2, s3, s4, s5⟩ := hSw; go_simp; (try with_reducible rfl)))
  refine tk 2 rfl (fun _ _ _ h => HP _ _ _ _ _ h) hS0 ?_
  refine tk 3 rfl (fun _ _ _ h => HP _ _ _ _ _ h) hS0 ?_
  refine tk 4 rfl (fun _ _ _ h => HP _ _ _ _ _ h) hS0 ?_
  refine tk 5 rfl (fun _ _ _ h => HP _ _ _ _ _ h) hS0 ?_ (hy := by (refine Or.inl ⟨by rfl, fun w hSw => ?_⟩; obtain ⟨s1, s2, s3, s4, s5⟩ := hSw; go_simp; (try with_reducible rfl)))
  refine tk 6 rfl (fun _ _ _ h => HP _ _ _ _ _ h) hS0 ?_
  refine tk 7 rfl (fun _ _ _ h => HP _ _ _ _ _ h) hS0 ?_
  refine tk 8 rfl (fun _ _ _ h => HP _ _ _ _ _ h) hS0 ?_
  refine tky 9 rfl (fun _ _ _ h => HP _ _ _ _ _ h) (yieldsIf_load_mid (by rfl) _ _ rfl hb 0 rfl C _ (fun w h => h.rg) Tryz.underlying32 rfl hi) hS0 ?_
  refine tk 11 rfl (fun _ _ _ h => HP _ _ _ _ _ h) hS0 ?_
  refine tk 12 rfl (fun _ _ _ h => HP _ _ _ _ _ h) hS0 ?_
  refine tk 13 rfl (fun _ _ _ h => HP _ _ _ _ _ h) hS0 ?_
  refine tk 14 rfl (fun _ _ _ h => HP _ _ _ _ _ h) hS0 ?_ (hy := by (refine Or.inl ⟨by rfl, fun w hSw => ?_⟩; obtain ⟨s1, s2, s3, s4, s5⟩ := hSw; go_simp; (try with_reducible rfl)))
  refine rd1 10 (fun K hK => ?_)
  go_simp
  refine (hrec _).mono ?_
  rintro e w3 ⟨rfl, hk3⟩
  refine hK.out _ _ (hS0.next hk3) (fun hS1 => ?_)
  clear hK K
  try simp only [lyA, lyB, lyC, lyD]
  refine tk 15 rfl (fun _ _ _ h => HP _ _ _ _ _ h) hS1 ?_
  refine tk 16 rfl (fun _ _ _ h => HP _ _ _ _ _ h) hS1 ?_
  refine tk 17 rfl (fun _ _ _ h => HP _ _ _ _ _ h) hS1 ?_
  refine tk 18 rfl (fun _ _ _ h => HP _ _ _ _ _ h) hS1 ?_
  refine tk 19 rfl (fun _ _ _ h => HP _ _ _ _ _ h) hS1 ?_
  refine tk 20 rfl (fun _ _ _ h => HP _ _ _ _ _ h) hS1 ?_
  refine tk 21 rfl (fun _ _ _ h => HP _ _ _ _ _ h) hS1 ?_
  refine tk 22 rfl (fun _ _ _ h => HP _ _ _ _ _ h) hS1 ?_
  refine tk 23 rfl (fun _ _ _ h => HP _ _ _ _ _ h) hS1 ?_
  refine tk 24 rfl (fun _ _ _ h => HP _ _ _ _ _ h) hS1 ?_
  refine tk 25 rfl (fun _ _ _ h => HP _ _ _ _ _ h) hS1 ?_
  refine tk 26 rfl (fun _ _ _ h => HP _ _ _ _ _ h) hS1 ?_
  refine tk 27 rfl (fun _ _ _ h => HP _ _ _ _ _ h) hS1 ?_
  refine tk 28 rfl (fun _ _ _ h => HP _ _ _ _ _ h) hS1 ?_
  refine tk 29 rfl (fun _ _ _ h => HP _ _ _ _ _ h) hS1 ?_
  refine tk 30 rfl (fun _ _ _ h => HP _ _ _ _ _ h) hS1 ?_ (hy := by (refine Or.inl ⟨by rfl, fun w hSw => ?_⟩; obtain ⟨s1, s2, s3, s4, s5⟩ := hSw; have s6 := s4 trivial; go_simp; (try with_reducible rfl)))
  refine tk 31 rfl (fun _ _ _ h => HP _ _ _ _ _ h) hS1 ?_
  refine tk 32 rfl (fun _ _ _ h => HP _ _ _ _ _ h) hS1 ?_ (hy := by (refine Or.inl ⟨by rfl, fun w hSw => ?_⟩; obtain ⟨s1, s2, s3, s4, s5⟩ := hSw; go_simp; (try with_reducible rfl)))
  refine tk 33 rfl (fun _ _ _ h => HP _ _ _ _ _ h) hS1 ?_
  refine tk 34 rfl (fun _ _ _ h => HP _ _ _ _ _ h) hS1 ?_
  refine tk 35 rfl (fun _ _ _ h => HP _ _ _ _ _ h) hS1 ?_
  refine wpAnyH_done (by kernel_rfl) ?_ _
  exact HQ.out _ _ _ _ _ _ _ _ _ _ _ _ _ _ _ _ _ _ _ _ _ _ _ _ _ _ _ _ _ _ _ _ _ _ _ _ hS1.kept
set_option maxRecDepth 100000 in
set_option maxHeartbeats 4000000 in
theorem says_r6 {W : World} {hb g i pn pc gl j lc : Nat} {z y : Int} {C : List Value} {p N : By} {Q : Exit → Act → World → Prop} {u1 u2 u3 u6 u7 u8 u9 u10 u11 u13 u14 u15 u16 u17 u18 u19 u20 u21 u22 u23 u24 u25 u26 u27 u28 u29 u30 u31 u32 u33 u34 u35 u36 u37 u38 u39 u40 u41 u42 u43 u44 u45 u46 u47 u48 u49 u50 u51 u52 u53 u54 u55 u56 u57 u58 u59 u60 u61 u62 u63 u64 u65 u66 u67 u68 u69 u70 u71 u72 u73 u74 u75 u76 u77 u78 u79 : Value} (hS : SaysS W hb C z g i p gl j y True W) (hlt : i < pn) (z1 : decide (z < 1) = false) (z2 : decide (4096 < z) = false) (zr : (N == p) = true) (hi : (Tryz.prog.info? 32).map (·.size) = some C.length) (hrec : ∀ w', Calls Tryz.prog 7 #[.agg C.toArray] w' fun e w2 => e = .returned (.string (strB N)) ∧ Kept (fun _ => False) w' w2) (z7 : decide ((7 : Int) < (i : Int)) = false) (z7' : decide (7 < i) = false) (z0 : decide ((0 : Int) < (i : Int)) = true) (z0' : decide (0 < i) = true) (zl : decide (z ≤ y) = false) (ej : IntKind.i64.wrap ((i : Int) - 1) = (j : Int)) (hj : j < i)
    (HP : ∀ c a (k : Nat) v w, Q (.panic c) (Act.put a (some k) v) w → Q (.panic c) a w) (HQ : ∀ (v39 v40 v41 v42 v43 v44 v45 v46 v47 v48 v49 v50 v51 v52 v53 v54 v55 v56 v57 v58 v59 v60 v61 v62 v63 v64 v65 v66 v67 v68 v69 v70 v71 v72 v73 : Value) (w' : World), Kept (fun _ => False) W w' → Q .normal ⟨List.toArray ((.slice (some ⟨g, 0, none⟩) pn pc) :: u1 :: u2 :: u3 :: (.slice (some ⟨gl, 0, none⟩) i lc) :: (.int .i64 (i : Int)) :: u6 :: u7 :: u8 :: u9 :: u10 :: u11 :: (.pointer (some ⟨hb, 0, none⟩)) :: u13 :: u14 :: u15 :: u16 :: u17 :: u18 :: u19 :: u20 :: u21 :: u22 :: u23 :: u24 :: u25 :: u26 :: u27 :: u28 :: u29 :: u30 :: u31 :: u32 :: u33 :: u34 :: u35 :: u36 :: u37 :: u38 :: v39 :: v40 :: v41 :: v42 :: v43 :: v44 :: v45 :: v46 :: v47 :: v48 :: v49 :: v50 :: v51 :: v52 :: v53 :: v54 :: v55 :: v56 :: v57 :: v58 :: v59 :: v60 :: v61 :: v62 :: v63 :: v64 :: v65 :: v66 :: v67 :: v68 :: v69 :: v70 :: v71 :: v72 :: v73 :: (.bool false) :: u75 :: u76 :: u77 :: u78 :: u79 :: []), []⟩ w') :
    Code.wp Tryz.prog (Code.region 8 saysOps8 true) Q ⟨List.toArray ((.slice (some ⟨g, 0, none⟩) pn pc) :: u1 :: u2 :: u3 :: (.slice (some ⟨gl, 0, none⟩) i lc) :: (.int .i64 (i : Int)) :: u6 :: u7 :: u8 :: u9 :: u10 :: u11 :: (.pointer (some ⟨hb, 0, none⟩)) :: u13 :: u14 :: u15 :: u16 :: u17 :: u18 :: u19 :: u20 :: u21 :: u22 :: u23 :: u24 :: u25 :: u26 :: u27 :: u28 :: u29 :: u30 :: u31 :: u32 :: u33 :: u34 :: u35 :: u36 :: u37 :: u38 :: u39 :: u40 :: u41 :: u42 :: u43 :: u44 :: u45 :: u46 :: u47 :: u48 :: u49 :: u50 :: u51 :: u52 :: u53 :: u54 :: u55 :: u56 :: u57 :: u58 :: u59 :: u60 :: u61 :: u62 :: u63 :: u64 :: u65 :: u66 :: u67 :: u68 :: u69 :: u70 :: u71 :: u72 :: u73 :: u74 :: u75 :: u76 :: u77 :: u78 :: u79 :: []), []⟩ W := by
  have HQ := Lib.hid HQ
  unfold saysOps8
  refine wp_region_held_drew (S := SaysS W hb C z g i p gl j y True) (by kernel_rfl) (hS.next (Kept.refl _ _).drew) (fun hS0 => ?_)
  clear hS
  generalize World.drew W = W0 at *
  refine tk 0 rfl (fun _ _ _ h => HP _ _ _ _ _ h) hS0 ?_
  refine tk 1 rfl (fun _ _ _ h => HP _ _ _ _ _ h) hS0 ?_ (hy := by (refine Or.inl ⟨by rfl, fun w hSw => ?_⟩; obtain ⟨s1, s2, s3, s4, s5⟩ := hSw; go_simp; (try with_reducible rfl)))
  refine tk 2 rfl (fun _ _ _ h => HP _ _ _ _ _ h) hS0 ?_
  refine tk 3 rfl (fun _ _ _ h => HP _ _ _ _ _ h) hS0 ?_
  refine tk 4 rfl (fun _ _ _ h => HP _ _ _ _ _ h) hS0 ?_
  refine tk 5 rfl (fun _ _ _ h => HP _ _ _ _ _ h) hS0 ?_ (hy := by (refine Or.inl ⟨by rfl, fun w hSw => ?_⟩; obtain ⟨s1, s2, s3, s4, s5⟩ := hSw; go_simp; (try with_reducible rfl)))
  refine tk 6 rfl (fun _ _ _ h => HP _ _ _ _ _ h) hS0 ?_
  refine tk 7 rfl (fun _ _ _ h => HP _ _ _ _ _ h) hS0 ?_
  refine tk 8 rfl (fun _ _ _ h => HP _ _ _ _ _ h) hS0 ?_
  refine tky 9 rfl (fun _ _ _ h => HP _ _ _ _ _ h) (yieldsIf_load_mid (by rfl) _ _ rfl hb 0 rfl C _ (fun w h => h.rg) Tryz.underlying32 rfl hi) hS0 ?_
  refine tk 11 rfl (fun _ _ _ h => HP _ _ _ _ _ h) hS0 ?_
  refine tk 12 rfl (fun _ _ _ h => HP _ _ _ _ _ h) hS0 ?_
  refine tk 13 rfl (fun _ _ _ h => HP _ _ _ _ _ h) hS0 ?_
  refine tk 14 rfl (fun _ _ _ h => HP _ _ _ _ _ h) hS0 ?_ (hy := by (refine Or.inl ⟨by rfl, fun w hSw => ?_⟩; obtain ⟨s1, s2, s3, s4, s5⟩ := hSw; go_simp; (try with_reducible rfl)))
  refine rd1 10 (fun K hK => ?_)
  go_simp
  refine (hrec _).mono ?_
  rintro e w3 ⟨rfl, hk3⟩
  refine hK.out _ _ (hS0.next hk3) (fun hS1 => ?_)
  clear hK K
  try simp only [lyA, lyB, lyC, lyD]
  refine tk 15 rfl (fun _ _ _ h => HP _ _ _ _ _ h) hS1 ?_
  refine tk 16 rfl (fun _ _ _ h => HP _ _ _ _ _ h) hS1 ?_
  refine tk 17 rfl (fun _ _ _ h => HP _ _ _ _ _ h) hS1 ?_
  refine tk 18 rfl (fun _ _ _ h => HP _ _ _ _ _ h) hS1 ?_
  refine tk 19 rfl (fun _ _ _ h => HP _ _ _ _ _ h) hS1 ?_
  refine tk 20 rfl (fun _ _ _ h => HP _ _ _ _ _ h) hS1 ?_
  refine tk 21 rfl (fun _ _ _ h => HP _ _ _ _ _ h) hS1 ?_
  refine tk 22 rfl (fun _ _ _ h => HP _ _ _ _ _ h) hS1 ?_
  refine tk 23 rfl (fun _ _ _ h => HP _ _ _ _ _ h) hS1 ?_
  refine tk 24 rfl (fun _ _ _ h => HP _ _ _ _ _ h) hS1 ?_
  refine tk 25 rfl (fun _ _ _ h => HP _ _ _ _ _ h) hS1 ?_
  refine tk 26 rfl (fun _ _ _ h => HP _ _ _ _ _ h) hS1 ?_
  refine tk 27 rfl (fun _ _ _ h => HP _ _ _ _ _ h) hS1 ?_
  refine tk 28 rfl (fun _ _ _ h => HP _ _ _ _ _ h) hS1 ?_
  refine tk 29 rfl (fun _ _ _ h => HP _ _ _ _ _ h) hS1 ?_
  refine tk 30 rfl (fun _ _ _ h => HP _ _ _ _ _ h) hS1 ?_ (hy := by (refine Or.inl ⟨by rfl, fun w hSw => ?_⟩; obtain ⟨s1, s2, s3, s4, s5⟩ := hSw; have s6 := s4 trivial; go_simp; (try with_reducible rfl)))
  refine tk 31 rfl (fun _ _ _ h => HP _ _ _ _ _ h) hS1 ?_
  refine tk 32 rfl (fun _ _ _ h => HP _ _ _ _ _ h) hS1 ?_ (hy := by (refine Or.inl ⟨by rfl, fun w hSw => ?_⟩; obtain ⟨s1, s2, s3, s4, s5⟩ := hSw; go_simp; (try with_reducible rfl)))
  refine tk 33 rfl (fun _ _ _ h => HP _ _ _ _ _ h) hS1 ?_
  refine tk 34 rfl (fun _ _ _ h => HP _ _ _ _ _ h) hS1 ?_
  refine tk 35 rfl (fun _ _ _ h => HP _ _ _ _ _ h) hS1 ?_
  refine wpAnyH_done (by kernel_rfl) ?_ _
  exact HQ.out _ _ _ _ _ _ _ _ _ _ _ _ _ _ _ _ _ _ _ _ _ _ _ _ _ _ _ _ _ _ _ _ _ _ _ _ hS1.kept
set_option maxRecDepth 100000 in
set_option maxHeartbeats 4000000 in
theorem says_r7 {W : World} {hb g i pn pc gl j lc : Nat} {z y : Int} {C : List Value} {p N : By} {Q : Exit → Act → World → Prop} {u1 u2 u3 u4 u6 u7 u8 u9 u10 u11 u13 u14 u15 u16 u17 u18 u19 u20 u21 u22 u23 u24 u25 u26 u27 u28 u29 u30 u31 u32 u33 u34 u35 u36 u37 u38 u39 u40 u41 u42 u43 u44 u45 u46 u47 u48 u49 u50 u51 u52 u53 u54 u55 u56 u57 u58 u59 u60 u61 u62 u63 u64 u65 u66 u67 u68 u69 u70 u71 u72 u73 u74 u75 u76 u77 u78 u79 : Value} (hS : SaysS W hb C z g i p gl j y False W) (hlt : i < pn) (z1 : decide (z < 1) = false) (z2 : decide (4096 < z) = false) (zr : (N == p) = true) (hi : (Tryz.prog.info? 32).map (·.size) = some C.length) (hrec : ∀ w', Calls Tryz.prog 7 #[.agg C.toArray] w' fun e w2 => e = .returned (.string (strB N)) ∧ Kept (fun _ => False) w' w2) (z7 : decide ((7 : Int) < (i : Int)) = false) (z7' : decide (7 < i) = false) (z0 : decide ((0 : Int) < (i : Int)) = false) (z0' : decide (0 < i) = false)
    (HP : ∀ c a (k : Nat) v w, Q (.panic c) (Act.put a (some k) v) w → Q (.panic c) a w) (HQ : ∀ (v39 v40 v41 v42 v43 v44 v45 v46 v47 v48 v49 v50 v51 v52 v53 v54 v55 v56 v57 v58 v59 v60 v61 v62 v63 v64 v65 v66 v67 v68 v69 v70 v71 v72 v73 : Value) (w' : World), Kept (fun _ => False) W w' → Q .normal ⟨List.toArray ((.slice (some ⟨g, 0, none⟩) pn pc) :: u1 :: u2 :: u3 :: u4 :: (.int .i64 (i : Int)) :: u6 :: u7 :: u8 :: u9 :: u10 :: u11 :: (.pointer (some ⟨hb, 0, none⟩)) :: u13 :: u14 :: u15 :: u16 :: u17 :: u18 :: u19 :: u20 :: u21 :: u22 :: u23 :: u24 :: u25 :: u26 :: u27 :: u28 :: u29 :: u30 :: u31 :: u32 :: u33 :: u34 :: u35 :: u36 :: u37 :: u38 :: v39 :: v40 :: v41 :: v42 :: v43 :: v44 :: v45 :: v46 :: v47 :: v48 :: v49 :: v50 :: v51 :: v52 :: v53 :: v54 :: v55 :: v56 :: v57 :: v58 :: v59 :: v60 :: v61 :: v62 :: v63 :: v64 :: v65 :: v66 :: v67 :: v68 :: v69 :: v70 :: v71 :: v72 :: v73 :: (.bool false) :: u75 :: u76 :: u77 :: u78 :: u79 :: []), []⟩ w') :
    Code.wp Tryz.prog (Code.region 8 saysOps8 true) Q ⟨List.toArray ((.slice (some ⟨g, 0, none⟩) pn pc) :: u1 :: u2 :: u3 :: u4 :: (.int .i64 (i : Int)) :: u6 :: u7 :: u8 :: u9 :: u10 :: u11 :: (.pointer (some ⟨hb, 0, none⟩)) :: u13 :: u14 :: u15 :: u16 :: u17 :: u18 :: u19 :: u20 :: u21 :: u22 :: u23 :: u24 :: u25 :: u26 :: u27 :: u28 :: u29 :: u30 :: u31 :: u32 :: u33 :: u34 :: u35 :: u36 :: u37 :: u38 :: u39 :: u40 :: u41 :: u42 :: u43 :: u44 :: u45 :: u46 :: u47 :: u48 :: u49 :: u50 :: u51 :: u52 :: u53 :: u54 :: u55 :: u56 :: u57 :: u58 :: u59 :: u60 :: u61 :: u62 :: u63 :: u64 :: u65 :: u66 :: u67 :: u68 :: u69 :: u70 :: u71 :: u72 :: u73 :: u74 :: u75 :: u76 :: u77 :: u78 :: u79 :: []), []⟩ W := by
  have HQ := Lib.hid HQ
  unfold saysOps8
  refine wp_region_held_drew (S := SaysS W hb C z g i p gl j y False) (by kernel_rfl) (hS.next (Kept.refl _ _).drew) (fun hS0 => ?_)
  clear hS
  generalize World.drew W = W0 at *
  refine tk 0 rfl (fun _ _ _ h => HP _ _ _ _ _ h) hS0 ?_
  refine tk 1 rfl (fun _ _ _ h => HP _ _ _ _ _ h) hS0 ?_ (hy := by (refine Or.inl ⟨by rfl, fun w hSw => ?_⟩; obtain ⟨s1, s2, s3, s4, s5⟩ := hSw; go_simp; (try with_reducible rfl)))
  refine tk 2 rfl (fun _ _ _ h => HP _ _ _ _ _ h) hS0 ?_
  refine tk 3 rfl (fun _ _ _ h => HP _ _ _ _ _ h) hS0 ?_
  refine tk 4 rfl (fun _ _ _ h => HP _ _ _ _ _ h) hS0 ?_
  refine tk 5 rfl (fun _ _ _ h => HP _ _ _ _ _ h) hS0 ?_ (hy := by (refine Or.inl ⟨by rfl, fun w hSw => ?_⟩; obtain ⟨s1, s2, s3, s4, s5⟩ := hSw; go_simp; (try with_reducible rfl)))
  refine tk 6 rfl (fun _ _ _ h => HP _ _ _ _ _ h) hS0 ?_
  refine tk 7 rfl (fun _ _ _ h => HP _ _ _ _ _ h) hS0 ?_
  refine tk 8 rfl (fun _ _ _ h => HP _ _ _ _ _ h) hS0 ?_
  refine tky 9 rfl (fun _ _ _ h => HP _ _ _ _ _ h) (yieldsIf_load_mid (by rfl) _ _ rfl hb 0 rfl C _ (fun w h => h.rg) Tryz.underlying32 rfl hi) hS0 ?_
  refine tk 11 rfl (fun _ _ _ h => HP _ _ _ _ _ h) hS0 ?_
  refine tk 12 rfl (fun _ _ _ h => HP _ _ _ _ _ h) hS0 ?_
  refine tk 13 rfl (fun _ _ _ h => HP _ _ _ _ _ h) hS0 ?_
  refine tk 14 rfl (fun _ _ _ h => HP _ _ _ _ _ h) hS0 ?_ (hy := by (refine Or.inl ⟨by rfl, fun w hSw => ?_⟩; obtain ⟨s1, s2, s3, s4, s5⟩ := hSw; go_simp; (try with_reducible rfl)))
  refine rd1 10 (fun K hK => ?_)
  go_simp
  refine (hrec _).mono ?_
  rintro e w3 ⟨rfl, hk3⟩
  refine hK.out _ _ (hS0.next hk3) (fun hS1 => ?_)
  clear hK K
  try simp only [lyA, lyB, lyC, lyD]
  refine tk 15 rfl (fun _ _ _ h => HP _ _ _ _ _ h) hS1 ?_
  refine tk 16 rfl (fun _ _ _ h => HP _ _ _ _ _ h) hS1 ?_
  refine tk 17 rfl (fun _ _ _ h => HP _ _ _ _ _ h) hS1 ?_
  refine tk 18 rfl (fun _ _ _ h => HP _ _ _ _ _ h) hS1 ?_
  refine tk 19 rfl (fun _ _ _ h => HP _ _ _ _ _ h) hS1 ?_
  refine tk 20 rfl (fun _ _ _ h => HP _ _ _ _ _ h) hS1 ?_
  refine tk 21 rfl (fun _ _ _ h => HP _ _ _ _ _ h) hS1 ?_
  refine tk 22 rfl (fun _ _ _ h => HP _ _ _ _ _ h) hS1 ?_
  refine tk 23 rfl (fun _ _ _ h => HP _ _ _ _ _ h) hS1 ?_
  refine tk 24 rfl (fun _ _ _ h => HP _ _ _ _ _ h) hS1 ?_
  refine tk0 25 rfl (fun _ _ _ h => HP _ _ _ _ _ h) hS1 ?_
  refine tk0 26 rfl (fun _ _ _ h => HP _ _ _ _ _ h) hS1 ?_
  refine tk0 27 rfl (fun _ _ _ h => HP _ _ _ _ _ h) hS1 ?_
  refine tk0 28 rfl (fun _ _ _ h => HP _ _ _ _ _ h) hS1 ?_
  refine tk0 29 rfl (fun _ _ _ h => HP _ _ _ _ _ h) hS1 ?_
  refine tk0 30 rfl (fun _ _ _ h => HP _ _ _ _ _ h) hS1 ?_
  refine tk0 31 rfl (fun _ _ _ h => HP _ _ _ _ _ h) hS1 ?_
  refine tk0 32 rfl (fun _ _ _ h => HP _ _ _ _ _ h) hS1 ?_
  refine tk0 33 rfl (fun _ _ _ h => HP _ _ _ _ _ h) hS1 ?_
  refine tk 34 rfl (fun _ _ _ h => HP _ _ _ _ _ h) hS1 ?_
  refine tk 35 rfl (fun _ _ _ h => HP _ _ _ _ _ h) hS1 ?_
  refine wpAnyH_done (by kernel_rfl) ?_ _
  exact HQ.out _ _ _ _ _ _ _ _ _ _ _ _ _ _ _ _ _ _ _ _ _ _ _ _ _ _ _ _ _ _ _ _ _ _ _ _ hS1.kept
end Go.Proofs.YtdmedbhbefdnkaaGreatDoor

namespace Go.Proofs.YtdmedbhbefdnkaaGreatDoor
open Go.RowKit
theorem hd_fresh (w2 : World) {C : List Value} (hC : C.length = 33) : Blk ((w2.alloc (.cells (headC 0 (List.replicate 32 0)).toArray 32)).setCells w2.heap.size 0 C) w2.heap.size C 32 ∧ Kept (fun _ => False) w2 ((w2.alloc (.cells (headC 0 (List.replicate 32 0)).toArray 32)).setCells w2.heap.size 0 C) ∧ (w2.alloc (.cells (headC 0 (List.replicate 32 0)).toArray 32)).there w2.heap.size 0 C.toArray.size := by
  have hz : (headC 0 (List.replicate 32 0)).length = 33 := headC_len (by simp)
  have b0 := Blk.new w2 (headC 0 (List.replicate 32 0)) 32
  have c0 := b0.setCells 0 C (by omega)
  rw [splice_whole (by omega)] at c0
  exact ⟨c0, ((Kept.refl (fun _ => False) w2).alloc _).then_ (kept_setCells _ w2.heap.size 0 _) (fun i hi e => by omega), b0.there 0 _ (by rw [List.size_toArray]; omega)⟩
structure SaysW (w : World) (x : Value) (l : List Hd) (wr : World) : Prop where
  row : Row wr 32 33 x (hdC l)
  own : ∀ k, x.ownBlock = some k → w.heap.size ≤ k
  kept : Kept (fun _ => False) w wr
theorem SaysW.last {w wr : World} {x : Value} {l : List Hd} (h : SaysW w x l wr) (h32 : ∀ y ∈ l, y.2.length = 32) {i : Nat} (hi : l.length = i + 1) : ∃ gl lc y : Nat, x = .slice (some ⟨gl, 0, none⟩) (i + 1) lc ∧ wr.cell? ⟨gl, i * 33, none⟩ = some (.int .i64 (y : Int)) ∧ lastS 0 l = y := by
  obtain ⟨a, n, lc, rfl, hm, hml, hcl⟩ := h.row.form (by omega)
  rw [hdC_len h32] at hm
  obtain rfl : n = i + 1 := by omega
  obtain ⟨gl, rfl, _, hc⟩ := hcl (by omega)
  obtain ⟨y, hy⟩ : ∃ y, l[i]? = some y := ⟨_, List.getElem?_eq_getElem (by omega)⟩
  refine ⟨gl, lc, y.1, rfl, hc (i * 33) _ ?_, ?_⟩
  · have e := congrArg (·[0]?) (hdC_at h32 i hy)
    simpa [List.getElem?_take, List.getElem?_drop] using e
  · unfold lastS
    rw [List.getLast?_eq_getElem?, hi, Nat.add_sub_cancel, hy]
    rfl
theorem SaysW.app {w wr w5 : World} {x : Value} {l : List Hd} (h : SaysW w x l wr) (h32 : ∀ y ∈ l, y.2.length = 32) (hl : l.length ≤ 1000000) (hk : Kept (fun _ => False) wr w5) {s : Nat} {root : By} (hr : root.length = 32) {C : List Value} (hC : headC (s : Int) root = C) :
    ∃ v' w6, (Builtin.append_ #[22, 22] 22 #[x, .slice (some ⟨w5.heap.size, 0, none⟩) 1 1]).run Tryz.prog (w5.alloc (.cells C.toArray 32)) = .ok v' w6 ∧ Hid (SaysW w v' (l ++ [(s, root)]) w6) := by
  obtain ⟨v', w6, h6, g1, g2, g3⟩ := append_head1 (h.row.kept hk (fun _ _ => id)) h32 (s, root) hr hl
  rw [← hC]
  have hk2 := h.kept.trans hk
  refine ⟨v', w6, h6, Lib.hid ⟨g1, fun k q => ?_, hk2.then_ g2 (fun i hi e => by have := h.own i e; omega)⟩⟩
  rcases g3 k q with q | q
  · exact h.own k q
  · have := hk2.size; omega
set_option maxRecDepth 100000 in
set_option maxHeartbeats 4000000 in
theorem rsays_any (w : World) (v : Value) (ps : List By) (hv : Row w 9 1 v (strV ps)) (hps : ∀ p ∈ ps, p.length ≤ 65536) (hn : ps.length ≤ 1000000) :
    Calls Tryz.prog 44 #[v] w (ReadPost w ps) := by
  obtain ⟨a, n, c, rfl, hm, hml, hcs⟩ := hv.form (by omega)
  rw [strV_len, Nat.mul_one] at hm
  subst hm
  have HCS := Lib.hid (show ∀ (i : Nat) (p : By), ps[i]? = some p → ∃ g, a = some ⟨g, 0, none⟩ ∧ w.cell? ⟨g, i, none⟩ = some (.string (strB p)) from fun i p hp => by
    have hi := (List.getElem?_eq_some_iff.1 hp).1
    obtain ⟨g, rfl, _, hc⟩ := hcs (by omega)
    exact ⟨g, rfl, hc i _ (by simp [strV, hp])⟩)
  have HPS := Lib.hid hps
  clear hcs hv hml hps
  go_enter Tryz.func44, Tryz.ntmps44
  go_wp2_with fail
  go_loopw [4, 5] (fun x y wr => ∃ (i : Nat) (l : List Hd), y = .int .i64 (i : Int) ∧ i ≤ ps.length ∧ Hid (SaysI ps i l ∧ SaysW w x l wr)) (fun _ y _ => ps.length - (intOf y).toNat)
  case atStart => exact ⟨0, [], rfl, Nat.zero_le _, Lib.hid ⟨SaysI.start ps, Row.nil _ _ _, fun k q => by simp [Value.ownBlock] at q, Kept.refl _ _⟩⟩
  case round =>
    obtain ⟨i, l, rfl, hi, HR⟩ := hrel
    by_cases hlt : i < ps.length
    · have z1 : decide ((i : Int) < (ps.length : Int)) = true := decide_eq_true (by omega)
      have z2 : decide (i < ps.length) = true := decide_eq_true hlt
      obtain ⟨p, hp⟩ : ∃ p, ps[i]? = some p := ⟨_, List.getElem?_eq_getElem hlt⟩
      obtain ⟨g, rfl, hc0⟩ := HCS.out i p hp
      have hc1 := HR.out.2.kept.cell hc0 id
      have hpl := HPS.out p (List.mem_of_getElem? hp)
      have HRD := Lib.hid (fun w' => rread_any w' (strB p) (by rw [strB_size]; omega))
      have HP := Lib.hid (And.intro hp hpl)
      have HLT := Lib.hid hlt
      clear hp hc0 hpl hi
      go_upto_region 6 with (go_at_call 84; refine (HRD.out _).mono ?_; rintro e w1 ⟨n, t, b, rfl, hn64, hts, hfm, hk1⟩; have HM := Lib.hid (And.intro hn64 (And.intro hts (And.intro hfm hk1))); clear hn64 hts hfm hk1)
      clear z1 z2 HRD
      have HUN := Lib.hid (fun w' => runhash_any w' t (Nat.le_trans HM.out.2.1 (by rw [strB_size]; exact Nat.le_trans HP.out.2 (by omega))))
      go_upto_region 7 with (first
        | (go_at_call 85; refine (HUN.out _).mono ?_; rintro e w2 ⟨root, t2, b2, hr32, rfl, hrt, hk2⟩; have HU := Lib.hid (And.intro hr32 (And.intro hrt hk2)); clear hr32 hrt hk2)
        | ((with_reducible show wpList _ _ _ (⟨none, .store _ (.tmp 9) _, _, _, _, _⟩ :: _) _ _); refine wpList_store_mid rfl 30 _ _ rfl w2.heap.size 0 (bytes8 root).toArray rfl rfl ?hth ?hi ?h1 ?hk; (case' hk => generalize hw3 : World.setCells _ w2.heap.size 0 _ = w3)))
      case hth => exact (store_fresh w2 root HU.out.1).2.2
      case hi => exact info_hash HU.out.1
      case h1 => exact all_oneCell_toArray (fun y hy => u8_oneCell y hy)
      have HW3 := Lib.hid (show Blk w3 w2.heap.size (bytes8 root) 30 ∧ Kept (fun _ => False) wr w3 from by
        rw [← hw3]
        exact ⟨(store_fresh w2 root HU.out.1).1, (HM.out.2.2.2.trans HU.out.2.2).trans (store_fresh w2 root HU.out.1).2.1⟩)
      clear hw3 HUN
      obtain ⟨s, hs⟩ : ∃ s : Nat, n % 65536 = s := ⟨_, rfl⟩
      have e1 : (n : Int) % 65536 = (s : Int) := by omega
      have hs16 : s < 65536 := by omega
      have e2 : wrap64 (s : Int) = (s : Int) := IntWalk.wrap64_in _ (by omega)
      obtain ⟨C, hC⟩ : ∃ C : List Value, headC (s : Int) root = C := ⟨_, rfl⟩
      have hf1 := fold_build (size := (s : Int)) HU.out.1
      have lC := headC_len (size := (s : Int)) HU.out.1
      rw [hC] at hf1 lC
      simp only [zeros, List.replicate] at hf1
      have lH : (bytes8 root).length = 32 := by rw [bytes8_len, HU.out.1]
      have HI := Lib.hid (show (Tryz.prog.info? 30).map (·.size) = some (bytes8 root).length by rw [bytes8_len, HU.out.1]; exact info_h32)
      have HIC := Lib.hid (show (Tryz.prog.info? 32).map (·.size) = some C.length by rw [lC]; exact info_head)
      have HCE := Lib.hid (And.intro hC (And.intro lC hs))
      clear hC hs hs16
      go_upto_region 8 with (first
        | ((with_reducible show wpList _ _ _ (⟨some 37, _, _, _, _, _⟩ :: _) _ _); refine wpList_load_mid rfl 30 _ rfl w2.heap.size 0 rfl (bytes8 root) _ HW3.out.1.range0 Tryz.underlying30 rfl HI.out ?_)
        | ((with_reducible show wpList _ _ _ (⟨none, .store _ (.tmp 12) _, _, _, _, _⟩ :: _) _ _); refine wpList_store_mid rfl 32 _ _ rfl w3.heap.size 0 C.toArray rfl rfl ?hthC ?hiC ?h1C ?hkC; (case' hkC => generalize hw4 : World.setCells _ w3.heap.size 0 _ = w4)))
      case hthC => exact (hd_fresh w3 HCE.out.2.1).2.2
      case hiC => rw [List.size_toArray]; exact HIC.out
      case h1C => exact all_oneCell_toArray (fun y hy => by rw [← HCE.out.1] at hy; exact head_oneCell y hy)
      have HW4 := Lib.hid (show Blk w4 w3.heap.size C 32 ∧ Kept (fun _ => False) wr w4 from by
        rw [← hw4]
        exact ⟨(hd_fresh w3 HCE.out.2.1).1, HW3.out.2.trans (hd_fresh w3 HCE.out.2.1).2.1⟩)
      clear hw4 HW3 hf1 lH e1 e2 lC
      generalize hhb : w3.heap.size = hb at *
      have hsi := HR.out.1
      have hsw := HR.out.2
      have hroot := HU.out.1
      have hl32 : ∀ y ∈ l, y.2.length = 32 := fun y hy => (hsi.ok y hy).2.2
      have hfm := HM.out.2.2.1
      rw [strB_data] at hfm
      have hrt := HU.out.2.1
      have hun : ∀ x : Hd, HdOk x → recordF x = p → x.1 = s ∧ x.2 = root := fun x hx he => by
        obtain ⟨q1, q2⟩ := hfm x.1 x.2 hx.2.1 he.symm
        have q3 := hrt x.2 hx.2.2 q2
        have := hx.2.1
        have := HCE.out.2.2
        exact ⟨by omega, q3.symm⟩
      have hS : ∀ (gl j : Nat) (y : Int) (has : Prop), (has → w4.cell? ⟨gl, j * 33, none⟩ = some (.int .i64 y)) → SaysS w4 hb C (s : Int) g i p gl j y has w4 := fun gl j y has hcl =>
        ⟨HW4.out.1.cell (by rw [← HCE.out.1]; rfl), HW4.out.1.range0, HW4.out.2.cell hc1 id, hcl, Kept.refl _ _⟩
      have hRC := fun w' => rrecord_any w' (s : Int) root hroot
      have hcg := HCE.out.1
      rw [show headV (s : Int) root = .agg C.toArray from by rw [← hcg]] at hRC
      have HKW := Lib.hid (hsw.kept.trans HW4.out.2)
      have HBAD := Lib.hid (fun (hno : ∀ x, HdOk x → recordF x = p → 7 < i ∨ x.1 ≤ lastS 0 l) => hsi.stop HP.out.1 hno)
      obtain ⟨N, hN⟩ : ∃ N, recG (s : Int) root = N := ⟨_, rfl⟩
      rw [hN] at hRC
      have hs16 : s < 65536 := by have := HCE.out.2.2; omega
      by_cases a1 : s < 1
      · have HB := Lib.hid (HBAD.out (fun x hx he => by obtain ⟨q1, q2⟩ := hun x hx he; have := hx.1; omega))
        refine says_r1 (N := N) (lc := 0) (hS 0 0 0 False False.elim) HLT.out (decide_eq_true (by omega)) (fun _ _ _ _ _ h => h) ?_
        intro _ _ _ _ _ _ _ _ _ _ _ _ _ _ _ _ _ _ _ _ _ _ _ _ _ _ _ _ _ _ _ _ _ _ _ w5 hk5
        clear hun hfm hrt hS hRC hcg hroot hl32 hsi hsw hN HBAD a1
        go_wp2_with fail
        go_ret2
        exact ⟨_, by rw [HB.out]; rfl, fun l' hl' => by (rw [HB.out] at hl'; cases hl'), fun k hk' => by simp [Value.ownBlock] at hk', HKW.out.trans hk5⟩
      by_cases a2 : 4096 < s
      · have HB := Lib.hid (HBAD.out (fun x hx he => by obtain ⟨q1, q2⟩ := hun x hx he; have := hx.2.1; omega))
        refine says_r2 (N := N) (lc := 0) (hS 0 0 0 False False.elim) HLT.out (decide_eq_false (by omega)) (decide_eq_true (by omega)) (fun _ _ _ _ _ h => h) ?_
        intro _ _ _ _ _ _ _ _ _ _ _ _ _ _ _ _ _ _ _ _ _ _ _ _ _ _ _ _ _ _ _ _ _ _ _ w5 hk5
        clear hun hfm hrt hS hRC hcg hroot hl32 hsi hsw hN HBAD a1 a2
        go_wp2_with fail
        go_ret2
        exact ⟨_, by rw [HB.out]; rfl, fun l' hl' => by (rw [HB.out] at hl'; cases hl'), fun k hk' => by simp [Value.ownBlock] at hk', HKW.out.trans hk5⟩
      by_cases a3 : N = p
      · by_cases a4 : 7 < i
        · have HB := Lib.hid (HBAD.out (fun x hx he => by obtain ⟨q1, q2⟩ := hun x hx he; exact Or.inl a4))
          refine says_r4 (N := N) (lc := 0) (hS 0 0 0 False False.elim) HLT.out (decide_eq_false (by omega)) (decide_eq_false (by omega)) (by rw [beq_iff_eq]; exact a3) HIC.out hRC (decide_eq_true (by omega)) (decide_eq_true a4) (fun _ _ _ _ _ h => h) ?_
          intro _ _ _ _ _ _ _ _ _ _ _ _ _ _ _ _ _ _ _ _ _ _ _ _ _ _ _ _ _ _ _ _ _ _ _ w5 hk5
          clear hun hfm hrt hS hRC hcg hroot hl32 hsi hsw hN HBAD a1 a2 a3 a4
          go_wp2_with fail
          go_ret2
          exact ⟨_, by rw [HB.out]; rfl, fun l' hl' => by (rw [HB.out] at hl'; cases hl'), fun k hk' => by simp [Value.ownBlock] at hk', HKW.out.trans hk5⟩
        rcases Nat.eq_zero_or_pos i with a5 | a5
        · have hl0 : l = [] := List.eq_nil_of_length_eq_zero (by rw [hsi.len, a5])
          have hHd : HdOk (s, root) := ⟨by show 1 ≤ s; omega, by show s ≤ 4096; omega, hroot⟩
          have HNX := Lib.hid (hsi.next HP.out.1 hHd (by rw [← recG_rec s (by omega), hN]; exact a3) (by omega) (by rw [hl0]; show 0 < s; omega))
          have HAP := Lib.hid (fun (w5 : World) (hk5 : Kept (fun _ => False) w4 w5) => hsw.app hl32 (by have := hsi.len; omega) (HW4.out.2.trans hk5) hroot hcg)
          have hf2 := fold_head (size := (s : Int)) hroot
          rw [hcg] at hf2
          simp only [zeros, List.replicate] at hf2
          have lC := HCE.out.2.1
          refine says_r7 (N := N) (lc := 0) (hS 0 0 0 False False.elim) HLT.out (decide_eq_false (by omega)) (decide_eq_false (by omega)) (by rw [beq_iff_eq]; exact a3) HIC.out hRC (decide_eq_false (by omega)) (decide_eq_false a4) (decide_eq_false (by omega)) (decide_eq_false (by omega)) (fun _ _ _ _ _ h => h) ?_
          intro _ _ _ _ _ _ _ _ _ _ _ _ _ _ _ _ _ _ _ _ _ _ _ _ _ _ _ _ _ _ _ _ _ _ _ w5 hk5
          obtain ⟨v', w6, hr6, H6⟩ := HAP.out w5 hk5
          have HB5 := Lib.hid (HW4.out.1.kept hk5 id)
          clear hun hfm hrt hS hRC hcg hroot hl32 hsi hsw hN HBAD HAP hHd a1 a2 a3 a4 a5 hl0
          go_wp2_with (first
            | ((with_reducible show wpList _ _ _ (⟨some 76, _, _, _, _, _⟩ :: _) _ _); refine wpList_load_mid rfl 32 _ rfl hb 0 rfl C _ HB5.out.range0 Tryz.underlying32 rfl HIC.out ?_)
            | (at_builtin; refine Lib.wpList_append_run _ rfl _ _ 22 22 rfl _ _ rfl rfl _ _ hr6 ?_))
          have hlt := HLT.out
          have HFI := Lib.hid (And.intro HNX.out H6.out)
          exact ⟨⟨i + 1, _, by go_num, hlt, HFI⟩, by simp [intOf]; omega⟩
        · obtain ⟨j, rfl⟩ : ∃ j, i = j + 1 := ⟨i - 1, by omega⟩
          obtain ⟨gl, lc, y, rfl, hcl, hly⟩ := hsw.last hl32 hsi.len
          have hcl4 := HW4.out.2.cell hcl id
          have ej : IntKind.i64.wrap (((j + 1 : Nat) : Int) - 1) = (j : Int) := by rw [show ((j + 1 : Nat) : Int) - 1 = (j : Int) by omega]; exact IntWalk.i64_in _ (by omega)
          by_cases a6 : s ≤ y
          · have HB := Lib.hid (HBAD.out (fun x hx he => by obtain ⟨q1, q2⟩ := hun x hx he; right; omega))
            refine says_r5 (N := N) (lc := lc) (hS gl j y True (fun _ => hcl4)) HLT.out (decide_eq_false (by omega)) (decide_eq_false (by omega)) (by rw [beq_iff_eq]; exact a3) HIC.out hRC (decide_eq_false (by omega)) (decide_eq_false a4) (decide_eq_true (by omega)) (decide_eq_true (by omega)) (decide_eq_true (by omega)) ej (by omega) (fun _ _ _ _ _ h => h) ?_
            intro _ _ _ _ _ _ _ _ _ _ _ _ _ _ _ _ _ _ _ _ _ _ _ _ _ _ _ _ _ _ _ _ _ _ _ w5 hk5
            clear hun hfm hrt hS hRC hcg hroot hl32 hsi hsw hN HBAD a1 a2 a3 a4 a5 a6 hcl hly hcl4 ej
            go_wp2_with fail
            go_ret2
            exact ⟨_, by rw [HB.out]; rfl, fun l' hl' => by (rw [HB.out] at hl'; cases hl'), fun k hk' => by simp [Value.ownBlock] at hk', HKW.out.trans hk5⟩
          · have hHd : HdOk (s, root) := ⟨by show 1 ≤ s; omega, by show s ≤ 4096; omega, hroot⟩
            have HNX := Lib.hid (hsi.next HP.out.1 hHd (by rw [← recG_rec s (by omega), hN]; exact a3) (by omega) (by rw [hly]; show y < s; omega))
            have HAP := Lib.hid (fun (w5 : World) (hk5 : Kept (fun _ => False) w4 w5) => hsw.app hl32 (by have := hsi.len; omega) (HW4.out.2.trans hk5) hroot hcg)
            have hf2 := fold_head (size := (s : Int)) hroot
            rw [hcg] at hf2
            simp only [zeros, List.replicate] at hf2
            have lC := HCE.out.2.1
            refine says_r6 (N := N) (lc := lc) (hS gl j y True (fun _ => hcl4)) HLT.out (decide_eq_false (by omega)) (decide_eq_false (by omega)) (by rw [beq_iff_eq]; exact a3) HIC.out hRC (decide_eq_false (by omega)) (decide_eq_false a4) (decide_eq_true (by omega)) (decide_eq_true (by omega)) (decide_eq_false (by omega)) ej (by omega) (fun _ _ _ _ _ h => h) ?_
            intro _ _ _ _ _ _ _ _ _ _ _ _ _ _ _ _ _ _ _ _ _ _ _ _ _ _ _ _ _ _ _ _ _ _ _ w5 hk5
            obtain ⟨v', w6, hr6, H6⟩ := HAP.out w5 hk5
            have HB5 := Lib.hid (HW4.out.1.kept hk5 id)
            clear hun hfm hrt hS hRC hcg hroot hl32 hsi hsw hN HBAD HAP hHd a1 a2 a3 a4 a5 a6 hcl hly hcl4 ej
            go_wp2_with (first
              | ((with_reducible show wpList _ _ _ (⟨some 76, _, _, _, _, _⟩ :: _) _ _); refine wpList_load_mid rfl 32 _ rfl hb 0 rfl C _ HB5.out.range0 Tryz.underlying32 rfl HIC.out ?_)
              | (at_builtin; refine Lib.wpList_append_run _ rfl _ _ 22 22 rfl _ _ rfl rfl _ _ hr6 ?_))
            have hlt := HLT.out
            have HFI := Lib.hid (And.intro HNX.out H6.out)
            exact ⟨⟨j + 1 + 1, _, by go_num, hlt, HFI⟩, by simp [intOf]; omega⟩
      · have HB := Lib.hid (HBAD.out (fun x hx he => by obtain ⟨q1, q2⟩ := hun x hx he; exfalso; refine a3 ?_; rw [← hN, recG_rec s (by omega), ← q1, ← q2]; exact he))
        refine says_r3 (N := N) (lc := 0) (hS 0 0 0 False False.elim) HLT.out (decide_eq_false (by omega)) (decide_eq_false (by omega)) (by rw [beq_eq_false_iff_ne]; exact a3) HIC.out hRC (fun _ _ _ _ _ h => h) ?_
        intro _ _ _ _ _ _ _ _ _ _ _ _ _ _ _ _ _ _ _ _ _ _ _ _ _ _ _ _ _ _ _ _ _ _ _ w5 hk5
        clear hun hfm hrt hS hRC hcg hroot hl32 hsi hsw hN HBAD a1 a2 a3
        go_wp2_with fail
        go_ret2
        exact ⟨_, by rw [HB.out]; rfl, fun l' hl' => by (rw [HB.out] at hl'; cases hl'), fun k hk' => by simp [Value.ownBlock] at hk', HKW.out.trans hk5⟩
    · obtain rfl : i = ps.length := by omega
      have z1 : decide ((ps.length : Int) < (ps.length : Int)) = false := decide_eq_false (by omega)
      have z2 : decide (ps.length < ps.length) = false := decide_eq_false hlt
      have HE := Lib.hid (And.intro HR.out.1.last HR.out.2)
      clear HR hlt hi
      go_wp2_with fail
      go_ret2
      exact ⟨_, by rw [HE.out.1]; rfl, fun l' hl' => by (rw [HE.out.1] at hl'; cases hl'; exact HE.out.2.row), HE.out.2.own, HE.out.2.kept⟩
end Go.Proofs.YtdmedbhbefdnkaaGreatDoor
