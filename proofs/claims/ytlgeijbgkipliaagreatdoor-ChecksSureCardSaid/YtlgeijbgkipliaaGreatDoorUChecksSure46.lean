/- DecG ChkR1 ChkR2 ChkR3 ChkR4 ChkR5 ChkL1 -/
import Derived.Test.YtlgeijbgkipliaaGreatDoorUChecksSure32
import Derived.Test.YtlgeijbgkipliaaGreatDoorUChecksSure04
import Derived.Test.YtlgeijbgkipliaaGreatDoorUChecksSure45
import Derived.Test.YtlgeijbgkipliaaGreatDoorUChecksSure31
import Derived.Test.YtlgeijbgkipliaaGreatDoorUChecksSure37
set_option linter.unusedVariables false
set_option linter.unusedSimpArgs false
namespace Go.Proofs.YtlgeijbgkipliaaGreatDoor
open Go.RowKit
abbrev capN (n : Nat) : Nat := min n 1073741824
def pickT {α : Type} (c : Bool) (x : α) : Option α := if c then some x else none
def headT (l : By) : Option (Nat × By × Nat × By × List By) :=
  pickT ((numT l).2.2 && (hashT (numT l).2.1).2.2 && (numT (hashT (numT l).2.1).2.1).2.2 && (textT (numT (hashT (numT l).2.1).2.1).2.1).2.2 && (hashesT (textT (numT (hashT (numT l).2.1).2.1).2.1).2.1).2.2
    && decide ((hashesT (textT (numT (hashT (numT l).2.1).2.1).2.1).2.1).2.1 = []) && validT (capN (numT l).1) (capN (numT (hashT (numT l).2.1).2.1).1) (textT (numT (hashT (numT l).2.1).2.1).2.1).1 (hashesT (textT (numT (hashT (numT l).2.1).2.1).2.1).2.1).1.length)
   (capN (numT l).1, (hashT (numT l).2.1).1, capN (numT (hashT (numT l).2.1).2.1).1, (textT (numT (hashT (numT l).2.1).2.1).2.1).1, (hashesT (textT (numT (hashT (numT l).2.1).2.1).2.1).2.1).1)
def GetTo (w : World) (o : Option (Nat × By × Nat × By × List By)) (e : Ending) (w' : World) : Prop := match o with
  | some x => ∃ a c, e = .returned (.tuple #[signedV (x.1 : Int) x.2.1 (x.2.2.1 : Int) (strB x.2.2.2.1) (.slice a 3 c), .int .i64 0]) ∧ Row w' 57 32 (.slice a 3 c) (hcells x.2.2.2.2) ∧ (∀ k, (Value.slice a 3 c).ownBlock = some k → w.heap.size ≤ k) ∧ Kept (fun _ => False) w w'
  | none => e = .returned (.tuple #[.agg signZ.toArray, .int .i64 10]) ∧ Kept (fun _ => False) w w'
def GetS (w w' : World) (rb hb : Nat) (H : By) (v : Value) (L : List By) : Prop := Blk w' rb signZ 63 ∧ Blk w' hb (bytes8 H) 57 ∧ Row w' 57 32 v (hcells L) ∧ Kept (fun _ => False) w w'
theorem GetS.turn {w w1 w2 : World} {rb hb : Nat} {H : By} {v : Value} {L : List By} (h : GetS w w1 rb hb H v L) (hk : Kept (fun _ => False) w1 w2) : GetS w w2 rb hb H v L :=
  ⟨h.1.kept hk id, h.2.1.kept hk id, h.2.2.1.kept hk (fun _ _ => id), h.2.2.2.trans hk⟩
theorem GetS.put {w w1 w2 : World} {rb hb b : Nat} {H : By} {v : Value} {L : List By} (h : GetS w w1 rb hb H v L) (hk : Kept (· = b) w1 w2) (h1 : rb ≠ b) (h2 : ∀ k, v.ownBlock = some k → k ≠ b) (h3 : hb ≠ b) (h4 : w.heap.size ≤ b) : GetS w w2 rb hb H v L :=
  ⟨h.1.kept hk h1, h.2.1.kept hk h3, h.2.2.1.kept hk h2, h.2.2.2.then_ hk (fun i hi e => by omega)⟩
theorem signZ_one : ∀ v ∈ signZ, v.oneCell' = true := by
  intro v hv
  rw [List.mem_append, List.mem_cons] at hv
  rcases hv with (rfl | hv) | hv
  · rfl
  · rw [zeros, List.mem_replicate] at hv
    rw [hv.2]; rfl
  · simp at hv
    rcases hv with rfl | rfl | rfl <;> rfl
theorem results2_ct {P : Program} {w : World} {fn : Func} {p u : Tmp} {ty1 : TypeId} {tmps : Array Value} {b1 : Nat} {c1 : List Value} {t1 : TypeId} {d1 : TypeDesc} (h1 : Blk w b1 c1 t1) (hf : fn.results = #[.cell p ty1, .tmp u])
    (hp : tmps.getD p undef = .pointer (some ⟨b1, 0, none⟩)) (hu1 : P.underlying ty1 = some d1) (hd1 : (match d1 with | .struct _ | .array _ _ => true | _ => false) = true) (hi1 : (P.info? ty1).map (·.size) = some c1.length) :
    (results fn tmps).run P w = .ok (.tuple #[.agg c1.toArray, tmps.getD u undef]) w := by
  have hp' : tmps[p]?.getD undef = .pointer (some ⟨b1, 0, none⟩) := by simpa using hp
  simp [results, hf, hp', asAddr, run_loadVar_row w b1 t1 ty1 c1.toArray (0, 0) d1 h1 hu1 hd1 (by rw [hi1, List.size_toArray])]
theorem get_new (W WA : World) {c : List Value} (hc : c = signZ) (h : W.alloc (.cells c.toArray 63) = WA) : Blk WA W.heap.size signZ 63 ∧ Kept (fun _ => False) W WA := by
  subst hc; subst h
  exact ⟨Blk.new W _ _, (Kept.refl _ _).alloc _⟩
theorem get_put {WA WB : World} {b : Nat} {X : List Value} (h : Blk WA b signZ 63) (hX : X.length = 36) (hw : WA.setCells b 0 X = WB) : Blk WB b X 63 ∧ Kept (· = b) WA WB := by
  subst hw
  have h2 := h.setCells 0 X (by rw [signZ_len]; omega)
  rw [splice_whole (by rw [signZ_len, hX])] at h2
  exact ⟨h2, kept_setCells _ _ _ _⟩
set_option maxRecDepth 100000 in
set_option maxHeartbeats 8000000 in
theorem get_t (w : World) (l : By) (hs : Short l.length) : Calls Tryz.prog 127 #[.string (strB l)] w (GetTo w (headT l)) := by
  unfold headT
  have HR1 := Lib.hid (fun w' => num_t w' l hs)
  have m1 : (numT l).1 < 18446744073709551616 := by
    cases hg : numG l with
    | none => rw [numT_none hg]; decide
    | some x => rw [numT_some (n := x.1) (r := x.2) hg]; exact (numG_lt hg).1
  have l1 : Short (numT l).2.1.length := by have := numT_len l; unfold Short at *; omega
  generalize numT l = T1 at *
  obtain ⟨n1, r1, b1⟩ := T1
  simp only at HR1 m1 l1 ⊢
  have HR2 := Lib.hid (fun w' => unhash_t w' r1 l1)
  have l2 : Short (hashT r1).2.1.length := by have := (hashT_len r1).2; unfold Short at *; omega
  have hH := (hashT_len r1).1
  generalize hashT r1 = T2 at *
  obtain ⟨H, r2, b2⟩ := T2
  simp only at HR2 hH l2 ⊢
  have HR3 := Lib.hid (fun w' => num_t w' r2 l2)
  have m3 : (numT r2).1 < 18446744073709551616 := by
    cases hg : numG r2 with
    | none => rw [numT_none hg]; decide
    | some x => rw [numT_some (n := x.1) (r := x.2) hg]; exact (numG_lt hg).1
  have l3 : Short (numT r2).2.1.length := by have := numT_len r2; unfold Short at *; omega
  generalize numT r2 = T3 at *
  obtain ⟨n3, r3, b3⟩ := T3
  simp only at HR3 m3 l3 ⊢
  have HR4 := Lib.hid (fun w' => cut_t w' r3 l3)
  have l4 : Short (textT r3).2.1.length := by have := textT_len r3; unfold Short at *; omega
  generalize textT r3 = T4 at *
  obtain ⟨g4, r4, b4⟩ := T4
  simp only at HR4 l4 ⊢
  have HR5 := Lib.hid (fun w' => unhashes_t w' r4 l4)
  unfold UnhashesTo at HR5
  have hL := hashesT_32 r4
  generalize hashesT r4 = T5 at *
  obtain ⟨L, r5, b5⟩ := T5
  simp only at HR5 hL ⊢
  have HS1 := Lib.hid (fun w' => small_t w' n1 m1)
  have HS3 := Lib.hid (fun w' => small_t w' n3 m3)
  have q1 : capN n1 < 9223372036854775808 := by unfold capN; omega
  have q3 : capN n3 < 9223372036854775808 := by unfold capN; omega
  have HF := Lib.hid (fun w' => fresh_hash w' H hH)
  have HI := Lib.hid (info_h H hH)
  have B0 := Lib.hid (Blk.new w signZ 63)
  generalize hO : pickT _ (capN n1, H, capN n3, g4, L) = o
  have HO := Lib.hid hO
  clear hs l1 l2 l3 l4 m1 m3 hO
  go_enter Tryz.func127, Tryz.ntmps127
  go_wp2_with fail
  refine (HR1.out _).mono ?_
  rintro e w1 ⟨rfl, hk1⟩
  have HK1 := Lib.hid (And.intro (B0.out.kept hk1 id) (((Kept.refl (fun _ => False) w).alloc (.cells signZ.toArray 63)).trans hk1))
  clear hk1
  go_wp2_with (first | (go_at_call 148; refine (HR2.out _).mono ?_; rintro e w2 ⟨rfl, hk2⟩) | ((with_reducible show wpList _ _ _ (⟨none, .store _ (.tmp 7) _, _, _, _, _⟩ :: _) _ _); refine wpList_store_mid rfl 57 _ _ rfl w2.heap.size 0 (bytes8 H).toArray rfl rfl ?htha ?hia ?h1a ?hka; (case' hka => generalize hw3 : World.setCells _ w2.heap.size 0 _ = w2'; have HB := Lib.hid ((HF.out w2).2 w2' hw3); clear hw3)) | (go_at_call 123; with_reducible refine (HR3.out _).mono ?_; rintro e w3 ⟨rfl, hk3⟩) | (go_at_call 149; refine (HR4.out _).mono ?_; rintro e w4 ⟨rfl, hk4⟩) | (go_at_call 125; refine (HR5.out _).mono ?_; rintro e w5 ⟨v, rfl, hrow, hown, hk5⟩))
  case htha => exact (HF.out w2).1
  case hia => simpa using HI.out
  case h1a => exact all_oneCell_toArray (fun y hy => u8_oneCell y hy)
  have hch := (((hk2.trans HB.out.2).trans hk3).trans hk4).trans hk5
  have S0 : GetS w w5 w.heap.size w2.heap.size H v L := ⟨HK1.out.1.kept hch id, HB.out.1.kept ((hk3.trans hk4).trans hk5) id, hrow, HK1.out.2.trans hch⟩
  have S1 := S0.turn ((Kept.refl _ _).drew)
  have hls : w.heap.size < w2.heap.size := by have := HK1.out.1.lt; have := hk2.size; omega
  have hl5 : w.heap.size < w4.heap.size := by have := hk3.size; have := hk4.size; have := HB.out.2.size; omega
  have HOW := Lib.hid (fun k (q : v.ownBlock = some k) => Nat.lt_of_lt_of_le hl5 (hown k q))
  obtain ⟨a0, m0, c0, rfl, hm0, _⟩ := hrow.form (by omega)
  rw [hcells_len hL] at hm0
  obtain rfl : m0 = L.length := by omega
  have hbs := built_signed ((capN n1 : Nat) : Int) ((capN n3 : Nat) : Int) H (strB g4) (.slice a0 L.length c0) hH
  have hXP : (signedC ((capN n1 : Nat) : Int) H ((capN n3 : Nat) : Int) (strB g4) (.slice a0 L.length c0)).length = 36 := signedC_len hH
  have hXO := signed_one ((capN n1 : Nat) : Int) H ((capN n3 : Nat) : Int) (strB g4) (.slice a0 L.length c0) rfl
  have HVA : Hid (∀ w', Calls Tryz.prog 113 #[.agg (signedC ((capN n1 : Nat) : Int) H ((capN n3 : Nat) : Int) (strB g4) (.slice a0 L.length c0)).toArray] w' fun e w'' => e = .returned (.bool (validT (capN n1) (capN n3) g4 L.length)) ∧ Kept (fun _ => False) w' w'') := Lib.hid (fun w' => valid_t w' (capN n1) (capN n3) H g4 a0 L.length c0 hH q1 q3)
  generalize hX : signedC ((capN n1 : Nat) : Int) H ((capN n3 : Nat) : Int) (strB g4) (.slice a0 L.length c0) = X at *
  have HBS := Lib.hid hbs
  have HX : Hid (X.length = 36 ∧ 0 + X.length ≤ signZ.length ∧ (Tryz.prog.info? 63).map (·.size) = some X.length ∧ ∀ x ∈ X, x.oneCell' = true) := Lib.hid ⟨hXP, by rw [signZ_len]; omega, by rw [hXP]; exact info_signed_, hXO⟩
  have HHX := Lib.hid hX
  clear hbs hXP hXO hX
  refine wp_region_held_drew (S := fun w' => GetS w w' w.heap.size w2.heap.size H (.slice a0 L.length c0) L) (by kernel_rfl) S1 (fun hH0 => ?_)
  clear S0 S1
  generalize World.drew w5 = W at *
  refine tk 0 rfl (fun _ _ _ h => h) hH0 ?_
  refine tky 2 rfl (fun _ _ _ h => h) (yieldsIf_load_mid (by rfl) _ _ rfl w2.heap.size 0 rfl (bytes8 H) _ (fun w h => h.2.1.range0) Tryz.underlying57 rfl HI.out) hH0 ?_
  refine tk 4 rfl (fun _ _ _ h => h) hH0 ?_
  refine tk 6 rfl (fun _ _ _ h => h) hH0 ?_
  refine tk 7 rfl (fun _ _ _ h => h) hH0 ?_
  try simp only [lyA, lyB, lyC, lyD]
  refine rd2 1 10 (fun K hK => ?_) (fun K hK => ?_)
  · go_simp
    refine (HS1.out _).mono ?_
    rintro e wx ⟨rfl, rfl⟩
    refine hK.out _ _ hH0 (fun _ => ?_)
    clear hK K
    try simp only [lyA, lyB, lyC, lyD]
    refine tky 3 rfl (fun _ _ _ h => h) (yields_built _ _ rfl _ (by rw [List.map_toArray]; exact built_head (capN n1 : Nat) H hH)) hH0 ?_
    try simp only [lyA, lyB, lyC, lyD]
    refine rd2 5 10 (fun K hK => ?_) (fun K hK => ?_)
    · go_simp
      refine (HS3.out _).mono ?_
      rintro e wx ⟨rfl, rfl⟩
      refine hK.out _ _ hH0 (fun _ => ?_)
      clear hK K
      try simp only [lyA, lyB, lyC, lyD]
      refine tky 8 rfl (fun _ _ _ h => h) (yields_built _ _ rfl _ (by rw [List.map_toArray]; exact built_seal (capN n3 : Nat) (strB g4) a0 L.length c0)) hH0 ?_
      try simp only [lyA, lyB, lyC, lyD]
      refine tky 9 rfl (fun _ _ _ h => h) (yields_built _ _ rfl X.toArray (by rw [List.map_toArray]; exact HBS.out)) hH0 ?_
      try simp only [lyA, lyB, lyC, lyD]
      refine rd1 10 (fun K hK => ?_)
      go_simp
      generalize hWA : World.alloc W _ = WA
      have hn : w.heap.size < W.heap.size := hH0.1.lt
      have HA := Lib.hid (get_new W WA rfl hWA)
      have hH1 : GetS w WA w.heap.size w2.heap.size H (.slice a0 L.length c0) L := hH0.turn HA.out.2
      refine hK.out _ _ hH1 (fun _ => ?_)
      clear hK K
      try simp only [lyA, lyB, lyC, lyD]
      refine rd1 11 (fun K hK => ?_)
      rw [if_pos (by rfl)]
      refine wp_store_mid _ _ _ rfl W.heap.size 0 X.toArray rfl rfl (HA.out.1.there 0 _ (by rw [List.size_toArray]; exact HX.out.2.1)) (by rw [List.size_toArray]; exact HX.out.2.2.1) (all_oneCell_toArray HX.out.2.2.2) ?_
      generalize hWB : World.setCells WA W.heap.size 0 _ = WB
      have HBB := Lib.hid (get_put HA.out.1 HX.out.1 hWB)
      have hH2 : GetS w WB w.heap.size w2.heap.size H (.slice a0 L.length c0) L := hH1.put HBB.out.2 (by omega) (fun k q => by have := hH0.2.2.1.lt q; omega) (by have := hH0.2.1.lt; omega) (by have := hH0.2.2.2.size; omega)
      refine hK.out _ _ hH2 (fun _ => ?_)
      clear hK K
      try simp only [lyA, lyB, lyC, lyD]
      refine wpAnyH_done (by kernel_rfl) ?_ _
      cases b1 with
      | false =>
        obtain rfl : o = none := by rw [← HO.out]; rfl
        go_upto_region 8 with (fail)
        refine wp_region_lit ?_
        refine wpList_plain rfl (fun K hK => ?_)
        go_simp
        refine hK _ _ ?_
        clear hK K
        refine wpList_store_mid rfl 63 _ _ rfl w.heap.size 0 signZ.toArray rfl rfl (hH2.1.there 0 _ (by rw [List.size_toArray]; omega)) (by rw [List.size_toArray, signZ_len]; exact info_signed_) (all_oneCell_toArray signZ_one) ?_
        have hbf := hH2.1.setCells 0 signZ (by omega)
        rw [splice_whole rfl] at hbf
        have hkf := kept_setCells WB w.heap.size 0 signZ
        generalize hWC : World.setCells WB w.heap.size 0 _ = WC at *
        go_wp2_with fail
        exact bodyPost_ret (results2_ct hbf rfl rfl Tryz.underlying63 rfl (by rw [signZ_len]; exact info_signed_)) rfl ⟨rfl, hH2.2.2.2.then_ hkf (fun i hi e => by omega)⟩
      | true =>
        cases b2 with
        | false =>
          obtain rfl : o = none := by rw [← HO.out]; rfl
          go_upto_region 8 with (fail)
          refine wp_region_lit ?_
          refine wpList_plain rfl (fun K hK => ?_)
          go_simp
          refine hK _ _ ?_
          clear hK K
          refine wpList_store_mid rfl 63 _ _ rfl w.heap.size 0 signZ.toArray rfl rfl (hH2.1.there 0 _ (by rw [List.size_toArray]; omega)) (by rw [List.size_toArray, signZ_len]; exact info_signed_) (all_oneCell_toArray signZ_one) ?_
          have hbf := hH2.1.setCells 0 signZ (by omega)
          rw [splice_whole rfl] at hbf
          have hkf := kept_setCells WB w.heap.size 0 signZ
          generalize hWC : World.setCells WB w.heap.size 0 _ = WC at *
          go_wp2_with fail
          exact bodyPost_ret (results2_ct hbf rfl rfl Tryz.underlying63 rfl (by rw [signZ_len]; exact info_signed_)) rfl ⟨rfl, hH2.2.2.2.then_ hkf (fun i hi e => by omega)⟩
        | true =>
          cases b3 with
          | false =>
            obtain rfl : o = none := by rw [← HO.out]; rfl
            go_upto_region 8 with (fail)
            refine wp_region_lit ?_
            refine wpList_plain rfl (fun K hK => ?_)
            go_simp
            refine hK _ _ ?_
            clear hK K
            refine wpList_store_mid rfl 63 _ _ rfl w.heap.size 0 signZ.toArray rfl rfl (hH2.1.there 0 _ (by rw [List.size_toArray]; omega)) (by rw [List.size_toArray, signZ_len]; exact info_signed_) (all_oneCell_toArray signZ_one) ?_
            have hbf := hH2.1.setCells 0 signZ (by omega)
            rw [splice_whole rfl] at hbf
            have hkf := kept_setCells WB w.heap.size 0 signZ
            generalize hWC : World.setCells WB w.heap.size 0 _ = WC at *
            go_wp2_with fail
            exact bodyPost_ret (results2_ct hbf rfl rfl Tryz.underlying63 rfl (by rw [signZ_len]; exact info_signed_)) rfl ⟨rfl, hH2.2.2.2.then_ hkf (fun i hi e => by omega)⟩
          | true =>
            cases b4 with
            | false =>
              obtain rfl : o = none := by rw [← HO.out]; rfl
              go_upto_region 8 with (fail)
              refine wp_region_lit ?_
              refine wpList_plain rfl (fun K hK => ?_)
              go_simp
              refine hK _ _ ?_
              clear hK K
              refine wpList_store_mid rfl 63 _ _ rfl w.heap.size 0 signZ.toArray rfl rfl (hH2.1.there 0 _ (by rw [List.size_toArray]; omega)) (by rw [List.size_toArray, signZ_len]; exact info_signed_) (all_oneCell_toArray signZ_one) ?_
              have hbf := hH2.1.setCells 0 signZ (by omega)
              rw [splice_whole rfl] at hbf
              have hkf := kept_setCells WB w.heap.size 0 signZ
              generalize hWC : World.setCells WB w.heap.size 0 _ = WC at *
              go_wp2_with fail
              exact bodyPost_ret (results2_ct hbf rfl rfl Tryz.underlying63 rfl (by rw [signZ_len]; exact info_signed_)) rfl ⟨rfl, hH2.2.2.2.then_ hkf (fun i hi e => by omega)⟩
            | true =>
              cases b5 with
              | false =>
                obtain rfl : o = none := by rw [← HO.out]; rfl
                go_upto_region 8 with (fail)
                refine wp_region_lit ?_
                refine wpList_plain rfl (fun K hK => ?_)
                go_simp
                refine hK _ _ ?_
                clear hK K
                refine wpList_store_mid rfl 63 _ _ rfl w.heap.size 0 signZ.toArray rfl rfl (hH2.1.there 0 _ (by rw [List.size_toArray]; omega)) (by rw [List.size_toArray, signZ_len]; exact info_signed_) (all_oneCell_toArray signZ_one) ?_
                have hbf := hH2.1.setCells 0 signZ (by omega)
                rw [splice_whole rfl] at hbf
                have hkf := kept_setCells WB w.heap.size 0 signZ
                generalize hWC : World.setCells WB w.heap.size 0 _ = WC at *
                go_wp2_with fail
                exact bodyPost_ret (results2_ct hbf rfl rfl Tryz.underlying63 rfl (by rw [signZ_len]; exact info_signed_)) rfl ⟨rfl, hH2.2.2.2.then_ hkf (fun i hi e => by omega)⟩
              | true =>
                by_cases hr5 : r5 = []
                · subst hr5
                  generalize hv : validT (capN n1) (capN n3) g4 L.length = bv at *
                  cases bv with
                  | false =>
                    obtain rfl : o = none := by rw [← HO.out]; rfl
                    go_upto_region 8 with (first | ((with_reducible show wpList _ _ _ (⟨some 79, _, _, _, _, _⟩ :: _) _ _); refine BigFrame.wpList_want (by rfl) (fun K hK => ?_); refine wp_load_mid _ _ rfl W.heap.size 0 rfl X _ HBB.out.1.range0 Tryz.underlying63 rfl HX.out.2.2.1 ?_; refine hK _ _ ?_; clear hK K) | (go_at_call 113; refine (HVA.out _).mono ?_; rintro e w6 ⟨rfl, hk6⟩))
                    have hH3 := hH2.turn hk6
                    refine wp_region_lit ?_
                    refine wpList_plain rfl (fun K hK => ?_)
                    go_simp
                    refine hK _ _ ?_
                    clear hK K
                    refine wpList_store_mid rfl 63 _ _ rfl w.heap.size 0 signZ.toArray rfl rfl (hH3.1.there 0 _ (by rw [List.size_toArray]; omega)) (by rw [List.size_toArray, signZ_len]; exact info_signed_) (all_oneCell_toArray signZ_one) ?_
                    have hbf := hH3.1.setCells 0 signZ (by omega)
                    rw [splice_whole rfl] at hbf
                    have hkf := kept_setCells w6 w.heap.size 0 signZ
                    generalize hWC : World.setCells w6 w.heap.size 0 _ = WC at *
                    go_wp2_with fail
                    exact bodyPost_ret (results2_ct hbf rfl rfl Tryz.underlying63 rfl (by rw [signZ_len]; exact info_signed_)) rfl ⟨rfl, hH3.2.2.2.then_ hkf (fun i hi e => by omega)⟩
                  | true =>
                    obtain rfl : o = some (capN n1, H, capN n3, g4, L) := by rw [← HO.out]; rfl
                    go_wp2_with (first | ((with_reducible show wpList _ _ _ (⟨some 79, _, _, _, _, _⟩ :: _) _ _); refine BigFrame.wpList_want (by rfl) (fun K hK => ?_); refine wp_load_mid _ _ rfl W.heap.size 0 rfl X _ HBB.out.1.range0 Tryz.underlying63 rfl HX.out.2.2.1 ?_; refine hK _ _ ?_; clear hK K) | (go_at_call 113; refine (HVA.out _).mono ?_; rintro e w6 ⟨rfl, hk6⟩) | ((with_reducible show wpList _ _ _ (⟨some 84, _, _, _, _, _⟩ :: _) _ _); refine wpList_load_mid rfl 63 _ rfl W.heap.size 0 rfl X _ (HBB.out.1.kept hk6 id).range0 Tryz.underlying63 rfl HX.out.2.2.1 ?_) | ((with_reducible show wpList _ _ _ (⟨none, .store _ (.tmp 2) _, _, _, _, _⟩ :: _) _ _); refine wpList_store_mid rfl 63 _ _ rfl w.heap.size 0 X.toArray rfl rfl ?hth9a ?hi9a ?h19a ?hk9a; (case' hk9a => generalize hWC : World.setCells _ w.heap.size 0 _ = WC)))
                    case hth9a => exact (hH2.turn hk6).1.there 0 _ (by rw [List.size_toArray]; exact HX.out.2.1)
                    case hi9a => rw [List.size_toArray]; exact HX.out.2.2.1
                    case h19a => exact all_oneCell_toArray HX.out.2.2.2
                    have hH3 := hH2.turn hk6
                    have hbf := hH3.1.setCells 0 X HX.out.2.1
                    rw [splice_whole (by rw [signZ_len, HX.out.1])] at hbf
                    have hkf := kept_setCells w6 w.heap.size 0 X
                    rw [hWC] at hbf hkf
                    have hl3 : L.length = 3 := (of_decide_eq_true hv).2.2.2
                    refine bodyPost_ret (results2_ct hbf rfl rfl Tryz.underlying63 rfl HX.out.2.2.1) rfl ⟨a0, c0, ?_, ?_, ?_, hH3.2.2.2.then_ hkf (fun i hi e => by omega)⟩
                    · rw [← HHX.out, hl3]; rfl
                    · rw [← hl3]; exact hH3.2.2.1.kept hkf (fun k q e => by have := HOW.out k q; omega)
                    · rw [← hl3]; exact fun k q => Nat.le_of_lt (HOW.out k q)
                · have hd : decide (r5 = []) = false := decide_eq_false hr5
                  obtain rfl : o = none := by rw [← HO.out]; simp [pickT, hd]
                  go_upto_region 8 with (first | ((with_reducible show wpList _ _ _ (⟨some 79, _, _, _, _, _⟩ :: _) _ _); refine BigFrame.wpList_want (by rfl) (fun K hK => ?_); refine wp_load_mid _ _ rfl W.heap.size 0 rfl X _ HBB.out.1.range0 Tryz.underlying63 rfl HX.out.2.2.1 ?_; refine hK _ _ ?_; clear hK K) | (go_at_call 113; refine (HVA.out _).mono ?_; rintro e w6 ⟨rfl, hk6⟩))
                  refine wp_region_lit ?_
                  refine wpList_plain rfl (fun K hK => ?_)
                  go_simp
                  refine hK _ _ ?_
                  clear hK K
                  refine wpList_store_mid rfl 63 _ _ rfl w.heap.size 0 signZ.toArray rfl rfl (hH2.1.there 0 _ (by rw [List.size_toArray]; omega)) (by rw [List.size_toArray, signZ_len]; exact info_signed_) (all_oneCell_toArray signZ_one) ?_
                  have hbf := hH2.1.setCells 0 signZ (by omega)
                  rw [splice_whole rfl] at hbf
                  have hkf := kept_setCells WB w.heap.size 0 signZ
                  generalize hWC : World.setCells WB w.heap.size 0 _ = WC at *
                  go_wp2_with fail
                  exact bodyPost_ret (results2_ct hbf rfl rfl Tryz.underlying63 rfl (by rw [signZ_len]; exact info_signed_)) rfl ⟨rfl, hH2.2.2.2.then_ hkf (fun i hi e => by omega)⟩
    · go_simp
      generalize hWA : World.alloc W _ = WA
      have hn : w.heap.size < W.heap.size := hH0.1.lt
      have HA := Lib.hid (get_new W WA rfl hWA)
      have hH1 : GetS w WA w.heap.size w2.heap.size H (.slice a0 L.length c0) L := hH0.turn HA.out.2
      refine hK.out _ _ hH1 (fun _ => ?_)
      clear hK K
      try simp only [lyA, lyB, lyC, lyD]
      refine rd1 5 (fun K hK => ?_)
      go_simp
      refine (HS3.out _).mono ?_
      rintro e wx ⟨rfl, rfl⟩
      refine hK.out _ _ hH1 (fun _ => ?_)
      clear hK K
      try simp only [lyA, lyB, lyC, lyD]
      refine tky 8 rfl (fun _ _ _ h => h) (yields_built _ _ rfl _ (by rw [List.map_toArray]; exact built_seal (capN n3 : Nat) (strB g4) a0 L.length c0)) hH1 ?_
      try simp only [lyA, lyB, lyC, lyD]
      refine tky 9 rfl (fun _ _ _ h => h) (yields_built _ _ rfl X.toArray (by rw [List.map_toArray]; exact HBS.out)) hH1 ?_
      try simp only [lyA, lyB, lyC, lyD]
      refine rd1 11 (fun K hK => ?_)
      rw [if_pos (by rfl)]
      refine wp_store_mid _ _ _ rfl W.heap.size 0 X.toArray rfl rfl (HA.out.1.there 0 _ (by rw [List.size_toArray]; exact HX.out.2.1)) (by rw [List.size_toArray]; exact HX.out.2.2.1) (all_oneCell_toArray HX.out.2.2.2) ?_
      generalize hWB : World.setCells WA W.heap.size 0 _ = WB
      have HBB := Lib.hid (get_put HA.out.1 HX.out.1 hWB)
      have hH2 : GetS w WB w.heap.size w2.heap.size H (.slice a0 L.length c0) L := hH1.put HBB.out.2 (by omega) (fun k q => by have := hH0.2.2.1.lt q; omega) (by have := hH0.2.1.lt; omega) (by have := hH0.2.2.2.size; omega)
      refine hK.out _ _ hH2 (fun _ => ?_)
      clear hK K
      try simp only [lyA, lyB, lyC, lyD]
      refine wpAnyH_done (by kernel_rfl) ?_ _
      cases b1 with
      | false =>
        obtain rfl : o = none := by rw [← HO.out]; rfl
        go_upto_region 8 with (fail)
        refine wp_region_lit ?_
        refine wpList_plain rfl (fun K hK => ?_)
        go_simp
        refine hK _ _ ?_
        clear hK K
        refine wpList_store_mid rfl 63 _ _ rfl w.heap.size 0 signZ.toArray rfl rfl (hH2.1.there 0 _ (by rw [List.size_toArray]; omega)) (by rw [List.size_toArray, signZ_len]; exact info_signed_) (all_oneCell_toArray signZ_one) ?_
        have hbf := hH2.1.setCells 0 signZ (by omega)
        rw [splice_whole rfl] at hbf
        have hkf := kept_setCells WB w.heap.size 0 signZ
        generalize hWC : World.setCells WB w.heap.size 0 _ = WC at *
        go_wp2_with fail
        exact bodyPost_ret (results2_ct hbf rfl rfl Tryz.underlying63 rfl (by rw [signZ_len]; exact info_signed_)) rfl ⟨rfl, hH2.2.2.2.then_ hkf (fun i hi e => by omega)⟩
      | true =>
        cases b2 with
        | false =>
          obtain rfl : o = none := by rw [← HO.out]; rfl
          go_upto_region 8 with (fail)
          refine wp_region_lit ?_
          refine wpList_plain rfl (fun K hK => ?_)
          go_simp
          refine hK _ _ ?_
          clear hK K
          refine wpList_store_mid rfl 63 _ _ rfl w.heap.size 0 signZ.toArray rfl rfl (hH2.1.there 0 _ (by rw [List.size_toArray]; omega)) (by rw [List.size_toArray, signZ_len]; exact info_signed_) (all_oneCell_toArray signZ_one) ?_
          have hbf := hH2.1.setCells 0 signZ (by omega)
          rw [splice_whole rfl] at hbf
          have hkf := kept_setCells WB w.heap.size 0 signZ
          generalize hWC : World.setCells WB w.heap.size 0 _ = WC at *
          go_wp2_with fail
          exact bodyPost_ret (results2_ct hbf rfl rfl Tryz.underlying63 rfl (by rw [signZ_len]; exact info_signed_)) rfl ⟨rfl, hH2.2.2.2.then_ hkf (fun i hi e => by omega)⟩
        | true =>
          cases b3 with
          | false =>
            obtain rfl : o = none := by rw [← HO.out]; rfl
            go_upto_region 8 with (fail)
            refine wp_region_lit ?_
            refine wpList_plain rfl (fun K hK => ?_)
            go_simp
            refine hK _ _ ?_
            clear hK K
            refine wpList_store_mid rfl 63 _ _ rfl w.heap.size 0 signZ.toArray rfl rfl (hH2.1.there 0 _ (by rw [List.size_toArray]; omega)) (by rw [List.size_toArray, signZ_len]; exact info_signed_) (all_oneCell_toArray signZ_one) ?_
            have hbf := hH2.1.setCells 0 signZ (by omega)
            rw [splice_whole rfl] at hbf
            have hkf := kept_setCells WB w.heap.size 0 signZ
            generalize hWC : World.setCells WB w.heap.size 0 _ = WC at *
            go_wp2_with fail
            exact bodyPost_ret (results2_ct hbf rfl rfl Tryz.underlying63 rfl (by rw [signZ_len]; exact info_signed_)) rfl ⟨rfl, hH2.2.2.2.then_ hkf (fun i hi e => by omega)⟩
          | true =>
            cases b4 with
            | false =>
              obtain rfl : o = none := by rw [← HO.out]; rfl
              go_upto_region 8 with (fail)
              refine wp_region_lit ?_
              refine wpList_plain rfl (fun K hK => ?_)
              go_simp
              refine hK _ _ ?_
              clear hK K
              refine wpList_store_mid rfl 63 _ _ rfl w.heap.size 0 signZ.toArray rfl rfl (hH2.1.there 0 _ (by rw [List.size_toArray]; omega)) (by rw [List.size_toArray, signZ_len]; exact info_signed_) (all_oneCell_toArray signZ_one) ?_
              have hbf := hH2.1.setCells 0 signZ (by omega)
              rw [splice_whole rfl] at hbf
              have hkf := kept_setCells WB w.heap.size 0 signZ
              generalize hWC : World.setCells WB w.heap.size 0 _ = WC at *
              go_wp2_with fail
              exact bodyPost_ret (results2_ct hbf rfl rfl Tryz.underlying63 rfl (by rw [signZ_len]; exact info_signed_)) rfl ⟨rfl, hH2.2.2.2.then_ hkf (fun i hi e => by omega)⟩
            | true =>
              cases b5 with
              | false =>
                obtain rfl : o = none := by rw [← HO.out]; rfl
                go_upto_region 8 with (fail)
                refine wp_region_lit ?_
                refine wpList_plain rfl (fun K hK => ?_)
                go_simp
                refine hK _ _ ?_
                clear hK K
                refine wpList_store_mid rfl 63 _ _ rfl w.heap.size 0 signZ.toArray rfl rfl (hH2.1.there 0 _ (by rw [List.size_toArray]; omega)) (by rw [List.size_toArray, signZ_len]; exact info_signed_) (all_oneCell_toArray signZ_one) ?_
                have hbf := hH2.1.setCells 0 signZ (by omega)
                rw [splice_whole rfl] at hbf
                have hkf := kept_setCells WB w.heap.size 0 signZ
                generalize hWC : World.setCells WB w.heap.size 0 _ = WC at *
                go_wp2_with fail
                exact bodyPost_ret (results2_ct hbf rfl rfl Tryz.underlying63 rfl (by rw [signZ_len]; exact info_signed_)) rfl ⟨rfl, hH2.2.2.2.then_ hkf (fun i hi e => by omega)⟩
              | true =>
                by_cases hr5 : r5 = []
                · subst hr5
                  generalize hv : validT (capN n1) (capN n3) g4 L.length = bv at *
                  cases bv with
                  | false =>
                    obtain rfl : o = none := by rw [← HO.out]; rfl
                    go_upto_region 8 with (first | ((with_reducible show wpList _ _ _ (⟨some 79, _, _, _, _, _⟩ :: _) _ _); refine BigFrame.wpList_want (by rfl) (fun K hK => ?_); refine wp_load_mid _ _ rfl W.heap.size 0 rfl X _ HBB.out.1.range0 Tryz.underlying63 rfl HX.out.2.2.1 ?_; refine hK _ _ ?_; clear hK K) | (go_at_call 113; refine (HVA.out _).mono ?_; rintro e w6 ⟨rfl, hk6⟩))
                    have hH3 := hH2.turn hk6
                    refine wp_region_lit ?_
                    refine wpList_plain rfl (fun K hK => ?_)
                    go_simp
                    refine hK _ _ ?_
                    clear hK K
                    refine wpList_store_mid rfl 63 _ _ rfl w.heap.size 0 signZ.toArray rfl rfl (hH3.1.there 0 _ (by rw [List.size_toArray]; omega)) (by rw [List.size_toArray, signZ_len]; exact info_signed_) (all_oneCell_toArray signZ_one) ?_
                    have hbf := hH3.1.setCells 0 signZ (by omega)
                    rw [splice_whole rfl] at hbf
                    have hkf := kept_setCells w6 w.heap.size 0 signZ
                    generalize hWC : World.setCells w6 w.heap.size 0 _ = WC at *
                    go_wp2_with fail
                    exact bodyPost_ret (results2_ct hbf rfl rfl Tryz.underlying63 rfl (by rw [signZ_len]; exact info_signed_)) rfl ⟨rfl, hH3.2.2.2.then_ hkf (fun i hi e => by omega)⟩
                  | true =>
                    obtain rfl : o = some (capN n1, H, capN n3, g4, L) := by rw [← HO.out]; rfl
                    go_wp2_with (first | ((with_reducible show wpList _ _ _ (⟨some 79, _, _, _, _, _⟩ :: _) _ _); refine BigFrame.wpList_want (by rfl) (fun K hK => ?_); refine wp_load_mid _ _ rfl W.heap.size 0 rfl X _ HBB.out.1.range0 Tryz.underlying63 rfl HX.out.2.2.1 ?_; refine hK _ _ ?_; clear hK K) | (go_at_call 113; refine (HVA.out _).mono ?_; rintro e w6 ⟨rfl, hk6⟩) | ((with_reducible show wpList _ _ _ (⟨some 84, _, _, _, _, _⟩ :: _) _ _); refine wpList_load_mid rfl 63 _ rfl W.heap.size 0 rfl X _ (HBB.out.1.kept hk6 id).range0 Tryz.underlying63 rfl HX.out.2.2.1 ?_) | ((with_reducible show wpList _ _ _ (⟨none, .store _ (.tmp 2) _, _, _, _, _⟩ :: _) _ _); refine wpList_store_mid rfl 63 _ _ rfl w.heap.size 0 X.toArray rfl rfl ?hth9b ?hi9b ?h19b ?hk9b; (case' hk9b => generalize hWC : World.setCells _ w.heap.size 0 _ = WC)))
                    case hth9b => exact (hH2.turn hk6).1.there 0 _ (by rw [List.size_toArray]; exact HX.out.2.1)
                    case hi9b => rw [List.size_toArray]; exact HX.out.2.2.1
                    case h19b => exact all_oneCell_toArray HX.out.2.2.2
                    have hH3 := hH2.turn hk6
                    have hbf := hH3.1.setCells 0 X HX.out.2.1
                    rw [splice_whole (by rw [signZ_len, HX.out.1])] at hbf
                    have hkf := kept_setCells w6 w.heap.size 0 X
                    rw [hWC] at hbf hkf
                    have hl3 : L.length = 3 := (of_decide_eq_true hv).2.2.2
                    refine bodyPost_ret (results2_ct hbf rfl rfl Tryz.underlying63 rfl HX.out.2.2.1) rfl ⟨a0, c0, ?_, ?_, ?_, hH3.2.2.2.then_ hkf (fun i hi e => by omega)⟩
                    · rw [← HHX.out, hl3]; rfl
                    · rw [← hl3]; exact hH3.2.2.1.kept hkf (fun k q e => by have := HOW.out k q; omega)
                    · rw [← hl3]; exact fun k q => Nat.le_of_lt (HOW.out k q)
                · have hd : decide (r5 = []) = false := decide_eq_false hr5
                  obtain rfl : o = none := by rw [← HO.out]; simp [pickT, hd]
                  go_upto_region 8 with (first | ((with_reducible show wpList _ _ _ (⟨some 79, _, _, _, _, _⟩ :: _) _ _); refine BigFrame.wpList_want (by rfl) (fun K hK => ?_); refine wp_load_mid _ _ rfl W.heap.size 0 rfl X _ HBB.out.1.range0 Tryz.underlying63 rfl HX.out.2.2.1 ?_; refine hK _ _ ?_; clear hK K) | (go_at_call 113; refine (HVA.out _).mono ?_; rintro e w6 ⟨rfl, hk6⟩))
                  refine wp_region_lit ?_
                  refine wpList_plain rfl (fun K hK => ?_)
                  go_simp
                  refine hK _ _ ?_
                  clear hK K
                  refine wpList_store_mid rfl 63 _ _ rfl w.heap.size 0 signZ.toArray rfl rfl (hH2.1.there 0 _ (by rw [List.size_toArray]; omega)) (by rw [List.size_toArray, signZ_len]; exact info_signed_) (all_oneCell_toArray signZ_one) ?_
                  have hbf := hH2.1.setCells 0 signZ (by omega)
                  rw [splice_whole rfl] at hbf
                  have hkf := kept_setCells WB w.heap.size 0 signZ
                  generalize hWC : World.setCells WB w.heap.size 0 _ = WC at *
                  go_wp2_with fail
                  exact bodyPost_ret (results2_ct hbf rfl rfl Tryz.underlying63 rfl (by rw [signZ_len]; exact info_signed_)) rfl ⟨rfl, hH2.2.2.2.then_ hkf (fun i hi e => by omega)⟩
  · go_simp
    generalize hWA : World.alloc W _ = WA
    have hn : w.heap.size < W.heap.size := hH0.1.lt
    have HA := Lib.hid (get_new W WA rfl hWA)
    have hH1 : GetS w WA w.heap.size w2.heap.size H (.slice a0 L.length c0) L := hH0.turn HA.out.2
    refine hK.out _ _ hH1 (fun _ => ?_)
    clear hK K
    try simp only [lyA, lyB, lyC, lyD]
    refine rd1 1 (fun K hK => ?_)
    go_simp
    refine (HS1.out _).mono ?_
    rintro e wx ⟨rfl, rfl⟩
    refine hK.out _ _ hH1 (fun _ => ?_)
    clear hK K
    try simp only [lyA, lyB, lyC, lyD]
    refine tky 3 rfl (fun _ _ _ h => h) (yields_built _ _ rfl _ (by rw [List.map_toArray]; exact built_head (capN n1 : Nat) H hH)) hH1 ?_
    try simp only [lyA, lyB, lyC, lyD]
    refine rd1 5 (fun K hK => ?_)
    go_simp
    refine (HS3.out _).mono ?_
    rintro e wx ⟨rfl, rfl⟩
    refine hK.out _ _ hH1 (fun _ => ?_)
    clear hK K
    try simp only [lyA, lyB, lyC, lyD]
    refine tky 8 rfl (fun _ _ _ h => h) (yields_built _ _ rfl _ (by rw [List.map_toArray]; exact built_seal (capN n3 : Nat) (strB g4) a0 L.length c0)) hH1 ?_
    try simp only [lyA, lyB, lyC, lyD]
    refine tky 9 rfl (fun _ _ _ h => h) (yields_built _ _ rfl X.toArray (by rw [List.map_toArray]; exact HBS.out)) hH1 ?_
    try simp only [lyA, lyB, lyC, lyD]
    refine rd1 11 (fun K hK => ?_)
    rw [if_pos (by rfl)]
    refine wp_store_mid _ _ _ rfl W.heap.size 0 X.toArray rfl rfl (HA.out.1.there 0 _ (by rw [List.size_toArray]; exact HX.out.2.1)) (by rw [List.size_toArray]; exact HX.out.2.2.1) (all_oneCell_toArray HX.out.2.2.2) ?_
    generalize hWB : World.setCells WA W.heap.size 0 _ = WB
    have HBB := Lib.hid (get_put HA.out.1 HX.out.1 hWB)
    have hH2 : GetS w WB w.heap.size w2.heap.size H (.slice a0 L.length c0) L := hH1.put HBB.out.2 (by omega) (fun k q => by have := hH0.2.2.1.lt q; omega) (by have := hH0.2.1.lt; omega) (by have := hH0.2.2.2.size; omega)
    refine hK.out _ _ hH2 (fun _ => ?_)
    clear hK K
    try simp only [lyA, lyB, lyC, lyD]
    refine wpAnyH_done (by kernel_rfl) ?_ _
    cases b1 with
    | false =>
      obtain rfl : o = none := by rw [← HO.out]; rfl
      go_upto_region 8 with (fail)
      refine wp_region_lit ?_
      refine wpList_plain rfl (fun K hK => ?_)
      go_simp
      refine hK _ _ ?_
      clear hK K
      refine wpList_store_mid rfl 63 _ _ rfl w.heap.size 0 signZ.toArray rfl rfl (hH2.1.there 0 _ (by rw [List.size_toArray]; omega)) (by rw [List.size_toArray, signZ_len]; exact info_signed_) (all_oneCell_toArray signZ_one) ?_
      have hbf := hH2.1.setCells 0 signZ (by omega)
      rw [splice_whole rfl] at hbf
      have hkf := kept_setCells WB w.heap.size 0 signZ
      generalize hWC : World.setCells WB w.heap.size 0 _ = WC at *
      go_wp2_with fail
      exact bodyPost_ret (results2_ct hbf rfl rfl Tryz.underlying63 rfl (by rw [signZ_len]; exact info_signed_)) rfl ⟨rfl, hH2.2.2.2.then_ hkf (fun i hi e => by omega)⟩
    | true =>
      cases b2 with
      | false =>
        obtain rfl : o = none := by rw [← HO.out]; rfl
        go_upto_region 8 with (fail)
        refine wp_region_lit ?_
        refine wpList_plain rfl (fun K hK => ?_)
        go_simp
        refine hK _ _ ?_
        clear hK K
        refine wpList_store_mid rfl 63 _ _ rfl w.heap.size 0 signZ.toArray rfl rfl (hH2.1.there 0 _ (by rw [List.size_toArray]; omega)) (by rw [List.size_toArray, signZ_len]; exact info_signed_) (all_oneCell_toArray signZ_one) ?_
        have hbf := hH2.1.setCells 0 signZ (by omega)
        rw [splice_whole rfl] at hbf
        have hkf := kept_setCells WB w.heap.size 0 signZ
        generalize hWC : World.setCells WB w.heap.size 0 _ = WC at *
        go_wp2_with fail
        exact bodyPost_ret (results2_ct hbf rfl rfl Tryz.underlying63 rfl (by rw [signZ_len]; exact info_signed_)) rfl ⟨rfl, hH2.2.2.2.then_ hkf (fun i hi e => by omega)⟩
      | true =>
        cases b3 with
        | false =>
          obtain rfl : o = none := by rw [← HO.out]; rfl
          go_upto_region 8 with (fail)
          refine wp_region_lit ?_
          refine wpList_plain rfl (fun K hK => ?_)
          go_simp
          refine hK _ _ ?_
          clear hK K
          refine wpList_store_mid rfl 63 _ _ rfl w.heap.size 0 signZ.toArray rfl rfl (hH2.1.there 0 _ (by rw [List.size_toArray]; omega)) (by rw [List.size_toArray, signZ_len]; exact info_signed_) (all_oneCell_toArray signZ_one) ?_
          have hbf := hH2.1.setCells 0 signZ (by omega)
          rw [splice_whole rfl] at hbf
          have hkf := kept_setCells WB w.heap.size 0 signZ
          generalize hWC : World.setCells WB w.heap.size 0 _ = WC at *
          go_wp2_with fail
          exact bodyPost_ret (results2_ct hbf rfl rfl Tryz.underlying63 rfl (by rw [signZ_len]; exact info_signed_)) rfl ⟨rfl, hH2.2.2.2.then_ hkf (fun i hi e => by omega)⟩
        | true =>
          cases b4 with
          | false =>
            obtain rfl : o = none := by rw [← HO.out]; rfl
            go_upto_region 8 with (fail)
            refine wp_region_lit ?_
            refine wpList_plain rfl (fun K hK => ?_)
            go_simp
            refine hK _ _ ?_
            clear hK K
            refine wpList_store_mid rfl 63 _ _ rfl w.heap.size 0 signZ.toArray rfl rfl (hH2.1.there 0 _ (by rw [List.size_toArray]; omega)) (by rw [List.size_toArray, signZ_len]; exact info_signed_) (all_oneCell_toArray signZ_one) ?_
            have hbf := hH2.1.setCells 0 signZ (by omega)
            rw [splice_whole rfl] at hbf
            have hkf := kept_setCells WB w.heap.size 0 signZ
            generalize hWC : World.setCells WB w.heap.size 0 _ = WC at *
            go_wp2_with fail
            exact bodyPost_ret (results2_ct hbf rfl rfl Tryz.underlying63 rfl (by rw [signZ_len]; exact info_signed_)) rfl ⟨rfl, hH2.2.2.2.then_ hkf (fun i hi e => by omega)⟩
          | true =>
            cases b5 with
            | false =>
              obtain rfl : o = none := by rw [← HO.out]; rfl
              go_upto_region 8 with (fail)
              refine wp_region_lit ?_
              refine wpList_plain rfl (fun K hK => ?_)
              go_simp
              refine hK _ _ ?_
              clear hK K
              refine wpList_store_mid rfl 63 _ _ rfl w.heap.size 0 signZ.toArray rfl rfl (hH2.1.there 0 _ (by rw [List.size_toArray]; omega)) (by rw [List.size_toArray, signZ_len]; exact info_signed_) (all_oneCell_toArray signZ_one) ?_
              have hbf := hH2.1.setCells 0 signZ (by omega)
              rw [splice_whole rfl] at hbf
              have hkf := kept_setCells WB w.heap.size 0 signZ
              generalize hWC : World.setCells WB w.heap.size 0 _ = WC at *
              go_wp2_with fail
              exact bodyPost_ret (results2_ct hbf rfl rfl Tryz.underlying63 rfl (by rw [signZ_len]; exact info_signed_)) rfl ⟨rfl, hH2.2.2.2.then_ hkf (fun i hi e => by omega)⟩
            | true =>
              by_cases hr5 : r5 = []
              · subst hr5
                generalize hv : validT (capN n1) (capN n3) g4 L.length = bv at *
                cases bv with
                | false =>
                  obtain rfl : o = none := by rw [← HO.out]; rfl
                  go_upto_region 8 with (first | ((with_reducible show wpList _ _ _ (⟨some 79, _, _, _, _, _⟩ :: _) _ _); refine BigFrame.wpList_want (by rfl) (fun K hK => ?_); refine wp_load_mid _ _ rfl W.heap.size 0 rfl X _ HBB.out.1.range0 Tryz.underlying63 rfl HX.out.2.2.1 ?_; refine hK _ _ ?_; clear hK K) | (go_at_call 113; refine (HVA.out _).mono ?_; rintro e w6 ⟨rfl, hk6⟩))
                  have hH3 := hH2.turn hk6
                  refine wp_region_lit ?_
                  refine wpList_plain rfl (fun K hK => ?_)
                  go_simp
                  refine hK _ _ ?_
                  clear hK K
                  refine wpList_store_mid rfl 63 _ _ rfl w.heap.size 0 signZ.toArray rfl rfl (hH3.1.there 0 _ (by rw [List.size_toArray]; omega)) (by rw [List.size_toArray, signZ_len]; exact info_signed_) (all_oneCell_toArray signZ_one) ?_
                  have hbf := hH3.1.setCells 0 signZ (by omega)
                  rw [splice_whole rfl] at hbf
                  have hkf := kept_setCells w6 w.heap.size 0 signZ
                  generalize hWC : World.setCells w6 w.heap.size 0 _ = WC at *
                  go_wp2_with fail
                  exact bodyPost_ret (results2_ct hbf rfl rfl Tryz.underlying63 rfl (by rw [signZ_len]; exact info_signed_)) rfl ⟨rfl, hH3.2.2.2.then_ hkf (fun i hi e => by omega)⟩
                | true =>
                  obtain rfl : o = some (capN n1, H, capN n3, g4, L) := by rw [← HO.out]; rfl
                  go_wp2_with (first | ((with_reducible show wpList _ _ _ (⟨some 79, _, _, _, _, _⟩ :: _) _ _); refine BigFrame.wpList_want (by rfl) (fun K hK => ?_); refine wp_load_mid _ _ rfl W.heap.size 0 rfl X _ HBB.out.1.range0 Tryz.underlying63 rfl HX.out.2.2.1 ?_; refine hK _ _ ?_; clear hK K) | (go_at_call 113; refine (HVA.out _).mono ?_; rintro e w6 ⟨rfl, hk6⟩) | ((with_reducible show wpList _ _ _ (⟨some 84, _, _, _, _, _⟩ :: _) _ _); refine wpList_load_mid rfl 63 _ rfl W.heap.size 0 rfl X _ (HBB.out.1.kept hk6 id).range0 Tryz.underlying63 rfl HX.out.2.2.1 ?_) | ((with_reducible show wpList _ _ _ (⟨none, .store _ (.tmp 2) _, _, _, _, _⟩ :: _) _ _); refine wpList_store_mid rfl 63 _ _ rfl w.heap.size 0 X.toArray rfl rfl ?hth9c ?hi9c ?h19c ?hk9c; (case' hk9c => generalize hWC : World.setCells _ w.heap.size 0 _ = WC)))
                  case hth9c => exact (hH2.turn hk6).1.there 0 _ (by rw [List.size_toArray]; exact HX.out.2.1)
                  case hi9c => rw [List.size_toArray]; exact HX.out.2.2.1
                  case h19c => exact all_oneCell_toArray HX.out.2.2.2
                  have hH3 := hH2.turn hk6
                  have hbf := hH3.1.setCells 0 X HX.out.2.1
                  rw [splice_whole (by rw [signZ_len, HX.out.1])] at hbf
                  have hkf := kept_setCells w6 w.heap.size 0 X
                  rw [hWC] at hbf hkf
                  have hl3 : L.length = 3 := (of_decide_eq_true hv).2.2.2
                  refine bodyPost_ret (results2_ct hbf rfl rfl Tryz.underlying63 rfl HX.out.2.2.1) rfl ⟨a0, c0, ?_, ?_, ?_, hH3.2.2.2.then_ hkf (fun i hi e => by omega)⟩
                  · rw [← HHX.out, hl3]; rfl
                  · rw [← hl3]; exact hH3.2.2.1.kept hkf (fun k q e => by have := HOW.out k q; omega)
                  · rw [← hl3]; exact fun k q => Nat.le_of_lt (HOW.out k q)
              · have hd : decide (r5 = []) = false := decide_eq_false hr5
                obtain rfl : o = none := by rw [← HO.out]; simp [pickT, hd]
                go_upto_region 8 with (first | ((with_reducible show wpList _ _ _ (⟨some 79, _, _, _, _, _⟩ :: _) _ _); refine BigFrame.wpList_want (by rfl) (fun K hK => ?_); refine wp_load_mid _ _ rfl W.heap.size 0 rfl X _ HBB.out.1.range0 Tryz.underlying63 rfl HX.out.2.2.1 ?_; refine hK _ _ ?_; clear hK K) | (go_at_call 113; refine (HVA.out _).mono ?_; rintro e w6 ⟨rfl, hk6⟩))
                refine wp_region_lit ?_
                refine wpList_plain rfl (fun K hK => ?_)
                go_simp
                refine hK _ _ ?_
                clear hK K
                refine wpList_store_mid rfl 63 _ _ rfl w.heap.size 0 signZ.toArray rfl rfl (hH2.1.there 0 _ (by rw [List.size_toArray]; omega)) (by rw [List.size_toArray, signZ_len]; exact info_signed_) (all_oneCell_toArray signZ_one) ?_
                have hbf := hH2.1.setCells 0 signZ (by omega)
                rw [splice_whole rfl] at hbf
                have hkf := kept_setCells WB w.heap.size 0 signZ
                generalize hWC : World.setCells WB w.heap.size 0 _ = WC at *
                go_wp2_with fail
                exact bodyPost_ret (results2_ct hbf rfl rfl Tryz.underlying63 rfl (by rw [signZ_len]; exact info_signed_)) rfl ⟨rfl, hH2.2.2.2.then_ hkf (fun i hi e => by omega)⟩
end Go.Proofs.YtlgeijbgkipliaaGreatDoor

namespace Go.Proofs.YtlgeijbgkipliaaGreatDoor
open Go.RowKit
theorem numT_num (n : Nat) (hn : U64n n) (r : By) : numT (numL n ++ r) = (n, r, true) := numT_some (numG_num n hn r)
theorem hashT_at (h r : By) (hh : h.length = 32) : hashT (h ++ r) = (h, r, true) := by
  rw [hashT_yes (by rw [List.length_append]; omega), List.take_append_of_le_length (by omega), List.take_of_length_le (by omega), List.drop_append_of_le_length (by omega), List.drop_eq_nil_of_le (by omega), List.nil_append]
theorem hashesGo_at : ∀ (L : List By) (r : By), (∀ x ∈ L, x.length = 32) → hashesGo L.length (L.flatten ++ r) = some (L, r) := by
  intro L
  induction L with
  | nil => intro r _; rfl
  | cons a L ih =>
    intro r h
    have ha := h a (by simp)
    have e : hashG ((a :: L).flatten ++ r) = some (a, L.flatten ++ r) := by
      unfold hashG
      rw [List.flatten_cons, List.append_assoc, if_pos (by rw [List.length_append]; omega), List.take_append_of_le_length (by omega), List.take_of_length_le (by omega), List.drop_append_of_le_length (by omega), List.drop_eq_nil_of_le (by omega), List.nil_append]
    rw [List.length_cons]
    unfold hashesGo
    rw [e]
    simp only [ih r (fun x hx => h x (by simp [hx])), Option.map_some]
theorem hashesT_at (L : List By) (r : By) (h : ∀ x ∈ L, x.length = 32) (hl : L.length ≤ 64) : hashesT (hashesF L ++ r) = (L, r, true) := by
  unfold hashesT hashesG hashesF
  rw [List.append_assoc, numG_num _ (U64n.small (by omega))]
  simp only [if_pos hl, hashesGo_at L r h]
theorem textT_at (s r : By) (hs : s.length ≤ 4294967295) : textT (numL s.length ++ s ++ r) = (s, r, true) := by
  unfold textT textG
  rw [List.append_assoc, numG_num _ (U64n.small hs)]
  simp only
  rw [if_pos (by rw [List.length_append]; omega)]
  simp only
  rw [List.take_append_of_le_length (by omega), List.take_of_length_le (by omega), List.drop_append_of_le_length (by omega), List.drop_eq_nil_of_le (by omega), List.nil_append]
theorem headT_at {z i : Nat} {root : By} {sig : ByteArray} {path : List By} (hr : root.length = 32) (hz : z ≤ 4096) (hi : i < 8) (hsg : sig.size = 16384) (hp : path.length = 3) (h32 : ∀ x ∈ path, x.length = 32) : headT (hputF z root i sig path) = some (z, root, i, sig.data.toList, path) := by
  have hsl : sig.data.toList.length = 16384 := by rw [← hsg]; simp
  have e1 : numT (hputF z root i sig path) = (z, root ++ (numL i ++ ((numL sig.data.toList.length ++ sig.data.toList) ++ (hashesF path ++ []))), true) := by
    unfold hputF
    rw [List.append_nil, show sig.data.toList.length = sig.size by simp, ← numT_num z (U64n.small (by omega)) (root ++ (numL i ++ ((numL sig.size ++ sig.data.toList) ++ hashesF path)))]
    simp only [List.append_assoc]
  have e2 := hashT_at root (numL i ++ ((numL sig.data.toList.length ++ sig.data.toList) ++ (hashesF path ++ []))) hr
  have e3 := numT_num i (U64n.small (by omega)) ((numL sig.data.toList.length ++ sig.data.toList) ++ (hashesF path ++ []))
  have e4 := textT_at sig.data.toList (hashesF path ++ []) (by omega)
  have e5 := hashesT_at path [] h32 (by omega)
  have c1 : capN z = z := by unfold capN; omega
  have c3 : capN i = i := by unfold capN; omega
  unfold headT
  simp only [e1, e2, e3, e4, e5, c1, c3]
  unfold pickT
  rw [if_pos]
  simp only [validT]
  simp only [Bool.true_and, decide_eq_true_eq, Bool.and_eq_true]
  exact ⟨trivial, hz, hi, hsl, hp⟩
theorem PtM.numT {p : PtM} (h : p.Ok) : Go.Proofs.YtlgeijbgkipliaaGreatDoor.numT p.bytes = (p.size, hashesF p.hs ++ hputF p.z p.root p.i p.sig p.path, true) := by
  unfold PtM.bytes pbytesF
  rw [List.append_assoc]
  exact numT_num _ (U64n.small (by have := h.hsize; omega)) _
theorem PtM.hashesT {p : PtM} (h : p.Ok) : Go.Proofs.YtlgeijbgkipliaaGreatDoor.hashesT (hashesF p.hs ++ hputF p.z p.root p.i p.sig p.path) = (p.hs, hputF p.z p.root p.i p.sig p.path, true) := hashesT_at _ _ h.h32 h.hlen
theorem PtM.headT {p : PtM} (h : p.Ok) : Go.Proofs.YtlgeijbgkipliaaGreatDoor.headT (hputF p.z p.root p.i p.sig p.path) = some (p.z, p.root, p.i, p.sig.data.toList, p.path) := headT_at h.hr h.hz h.hi h.hsg h.p3 h.p32
end Go.Proofs.YtlgeijbgkipliaaGreatDoor

namespace Go.Proofs.YtlgeijbgkipliaaGreatDoor
open Go.RowKit
structure RdS (w W : World) (l : By) (x y : Value) (D : List Value) (ok : Bool) : Prop where
  text : Blk W w.heap.size [.string (strB l)] 9
  pt : Blk W (w.heap.size + 1) (x :: y :: D) 72
  okb : Blk W (w.heap.size + 2) [.bool ok] 4
  kept : Kept (fun _ => False) w W
theorem RdS.turn {w W W' : World} {l : By} {x y : Value} {D : List Value} {ok : Bool} (h : RdS w W l x y D ok) (hk : Kept (fun _ => False) W W') : RdS w W' l x y D ok :=
  ⟨h.text.kept hk id, h.pt.kept hk id, h.okb.kept hk id, h.kept.trans hk⟩
theorem RdS.put {w W : World} {l r : By} {x y : Value} {D : List Value} {ok : Bool} (h : RdS w W l x y D ok) (i : Nat) (v : Value) {W' : World} (hW : (W.setCell ⟨w.heap.size + 1, i, none⟩ v).setCell ⟨w.heap.size, 0, none⟩ (.string (strB r)) = W') :
    Blk W' w.heap.size [.string (strB r)] 9 ∧ Blk W' (w.heap.size + 1) ((x :: y :: D).set i v) 72 ∧ Blk W' (w.heap.size + 2) [.bool ok] 4 ∧ Kept (fun k => k = w.heap.size ∨ k = w.heap.size + 1) W W' ∧ Kept (fun _ => False) w W' := by
  have k1 := kept_cell W (w.heap.size + 1) i v
  have b1 := h.pt.set i v
  generalize W.setCell ⟨w.heap.size + 1, i, none⟩ v = W1 at *
  have k2 := kept_cell W1 w.heap.size 0 (.string (strB r))
  have b2 := (h.text.kept k1 (by omega)).set 0 (.string (strB r))
  rw [hW] at k2 b2
  refine ⟨b2, b1.kept k2 (by omega), (h.okb.kept k1 (by omega)).kept k2 (by omega), (k1.mono (fun _ _ q => Or.inr q)).trans (k2.mono (fun _ _ q => Or.inl q)), (h.kept.then_ k1 (fun i hi e => by omega)).then_ k2 (fun i hi e => by omega)⟩
theorem fresh_signed (w1 : World) {y : List Value} (hy : y.length = 36) : (w1.alloc (.cells signZ.toArray 63)).there w1.heap.size 0 y.toArray.size ∧ ∀ W2, (w1.alloc (.cells signZ.toArray 63)).setCells w1.heap.size 0 y = W2 → Blk W2 w1.heap.size y 63 ∧ Kept (fun _ => False) w1 W2 := by
  have b1 := Blk.new w1 signZ 63
  refine ⟨b1.there 0 _ (by rw [List.size_toArray, hy, signZ_len]; omega), fun W2 hW => ?_⟩
  have k := kept_setCells (w1.alloc (.cells signZ.toArray 63)) w1.heap.size 0 y
  have b2 := b1.setCells 0 y (by rw [hy, signZ_len]; omega)
  rw [splice_whole (by rw [signZ_len, hy]), hW] at b2
  rw [hW] at k
  exact ⟨b2, ((Kept.refl (fun _ => False) w1).alloc _).then_ k (fun i hi e => by omega)⟩
set_option maxRecDepth 100000 in
theorem rd_size {w W : World} {l : By} {x y : Value} {D : List Value} {ok : Bool} (h : RdS w W l x y D ok) (hl : Short l.length) :
    Calls Tryz.prog 122 #[.pointer (some ⟨w.heap.size, 0, none⟩), .pointer (some ⟨w.heap.size + 1, 0, none⟩)] W fun e W' => e = .returned (.bool (numT l).2.2) ∧ RdS w W' (numT l).2.1 (.int .i64 (min ((numT l).1 : Int) 4097)) y D ok := by
  have c0 := h.text.cell (i := 0) rfl
  have HN := Lib.hid (fun w' => num_t w' l hl)
  have HH := Lib.hid (fun w' (hk : Kept (fun _ => False) W w') => h.turn hk)
  generalize numT l = T at *
  obtain ⟨n, r, b⟩ := T
  simp only at HN ⊢
  clear h
  go_enter Tryz.func122, Tryz.ntmps122
  go_wp2_with (go_at_call 123; refine (HN.out _).mono ?_; rintro e w1 ⟨rfl, hk1⟩; have H1 := Lib.hid (HH.out _ hk1); clear hk1; have r0 := H1.out.text.cell (i := 0) rfl; have r1 := H1.out.pt.cell (i := 0) rfl; have z0 := H1.out.text.free 0; have z1 := H1.out.pt.free 0)
  generalize hW : World.setCell (World.setCell w1 _ _) _ _ = W'
  have hp := H1.out.put (r := r) 0 (.int .i64 (min (n : Int) 4097)) hW
  go_ret
  exact ⟨rfl, hp.1, hp.2.1, hp.2.2.1, hp.2.2.2.2⟩
set_option maxRecDepth 100000 in
theorem rd_list {w W : World} {l : By} {x y : Value} {D : List Value} {ok : Bool} (h : RdS w W l x y D ok) (hl : Short l.length) :
    Calls Tryz.prog 124 #[.pointer (some ⟨w.heap.size, 0, none⟩), .pointer (some ⟨w.heap.size + 1, 0, none⟩)] W fun e W' => ∃ v, e = .returned (.bool (hashesT l).2.2) ∧ RdS w W' (hashesT l).2.1 x v D ok ∧ Row W' 57 32 v (hcells (hashesT l).1) ∧ (∀ k, v.ownBlock = some k → W.heap.size ≤ k) := by
  have c0 := h.text.cell (i := 0) rfl
  have h3 := h.okb.lt
  have HN := Lib.hid (fun w' => unhashes_t w' l hl)
  unfold UnhashesTo at HN
  have HH := Lib.hid (fun w' (hk : Kept (fun _ => False) W w') => h.turn hk)
  generalize hashesT l = T at *
  obtain ⟨L, r, b⟩ := T
  simp only at HN ⊢
  clear h
  go_enter Tryz.func124, Tryz.ntmps124
  go_wp2_with (go_at_call 125; refine (HN.out _).mono ?_; rintro e w1 ⟨v, rfl, hrow, hown, hk1⟩; obtain ⟨a0, m0, cc, rfl, hm0⟩ := hrow.form (by omega); clear hm0; have H1 := Lib.hid (HH.out _ hk1); clear hk1; have r0 := H1.out.text.cell (i := 0) rfl; have r1 := H1.out.pt.cell (i := 1) rfl; have z0 := H1.out.text.free 0; have z1 := H1.out.pt.free 1)
  generalize hW : World.setCell (World.setCell w1 _ _) _ _ = W'
  have hp := H1.out.put (r := r) 1 (.slice a0 m0 cc) hW
  go_ret
  exact ⟨_, rfl, ⟨hp.1, hp.2.1, hp.2.2.1, hp.2.2.2.2⟩, hrow.kept hp.2.2.2.1 (fun k q e => by have := hown k q; omega), hown⟩
set_option maxRecDepth 100000 in
set_option maxHeartbeats 1000000 in
theorem rd_head {w W : World} {l : By} {x y : Value} {D : List Value} {ok : Bool} (h : RdS w W l x y D ok) (hl : Short l.length) (hD : D.length = 36) {z i : Nat} {root sig : By} {path : List By} (hg : headT l = some (z, root, i, sig, path)) (hr : root.length = 32) :
    Calls Tryz.prog 126 #[.pointer (some ⟨w.heap.size, 0, none⟩), .pointer (some ⟨w.heap.size + 1, 0, none⟩)] W fun e W' => ∃ a c, e = .returned (.bool true) ∧ RdS w W' l x y (signedC (z : Int) root (i : Int) (strB sig) (.slice a 3 c)) ok ∧ Kept (fun k => k = w.heap.size + 1) W W' ∧ Row W' 57 32 (.slice a 3 c) (hcells path) ∧ (∀ k, (Value.slice a 3 c).ownBlock = some k → W.heap.size ≤ k) := by
  have c0 := h.text.cell (i := 0) rfl
  have h3 := h.okb.lt
  have HN := Lib.hid (fun w' => get_t w' l hl)
  rw [hg] at HN
  unfold GetTo at HN
  simp only at HN
  have HH := Lib.hid (fun w' (hk : Kept (fun _ => False) W w') => h.turn hk)
  clear h hg
  go_enter Tryz.func126, Tryz.ntmps126
  go_upto_region 2 with first
    | (go_at_call 127; refine (HN.out _).mono ?_; rintro e w1 ⟨a, c, rfl, hrow, hown, hk1⟩; have HF := Lib.hid (fresh_signed w1 (signedC_len (size := (z : Int)) (root := root) (i := (i : Int)) (s := strB sig) (v := .slice a 3 c) hr)))
    | ((with_reducible show wpList _ _ _ (⟨none, .store _ (.tmp 3) _, _, _, _, _⟩ :: _) _ _); refine wpList_store_mid rfl 63 _ _ rfl w1.heap.size 0 (signedC (z : Int) root (i : Int) (strB sig) (.slice a 3 c)).toArray rfl rfl HF.out.1 (info_signed_of hr) (all_oneCell_toArray (signed_one _ _ _ _ _ rfl)) ?_)
  generalize hW2 : World.setCells _ _ _ _ = W2
  have H2 := Lib.hid (HF.out.2 W2 hW2)
  have HK2 := Lib.hid (hk1.trans H2.out.2)
  have H1 := Lib.hid (HH.out _ HK2.out)
  have iS : (Tryz.prog.info? 63).map (·.size) = some (signedC (z : Int) root (i : Int) (strB sig) (.slice a 3 c)).length := by rw [signedC_len hr]; exact info_signed_
  have hst := H1.out.pt.setCells 2 (signedC (z : Int) root (i : Int) (strB sig) (.slice a 3 c)) (by rw [signedC_len hr, List.length_cons, List.length_cons, hD]; omega)
  have HT := Lib.hid (H1.out.pt.there 2 (signedC (z : Int) root (i : Int) (strB sig) (.slice a 3 c)).toArray.size (by rw [List.size_toArray, signedC_len hr, List.length_cons, List.length_cons, hD]; omega))
  clear hW2 hk1
  go_wp2_with first
    | ((with_reducible show wpList _ _ _ (⟨some 10, _, _, _, _, _⟩ :: _) _ _); refine wpList_load_mid rfl 63 _ rfl w1.heap.size 0 rfl _ _ H2.out.1.range0 Tryz.underlying63 rfl iS ?_)
    | ((with_reducible show wpList _ _ _ (⟨none, .store _ (.tmp 11) _, _, _, _, _⟩ :: _) _ _); refine wpList_store_mid rfl 63 _ _ rfl (w.heap.size + 1) 2 (signedC (z : Int) root (i : Int) (strB sig) (.slice a 3 c)).toArray rfl rfl HT.out (info_signed_of hr) (all_oneCell_toArray (signed_one _ _ _ _ _ rfl)) ?_)
  generalize hW3 : World.setCells _ _ _ _ = W3
  have kst := kept_setCells W2 (w.heap.size + 1) 2 (signedC (z : Int) root (i : Int) (strB sig) (.slice a 3 c))
  have e3 : splice (x :: y :: D) 2 (signedC (z : Int) root (i : Int) (strB sig) (.slice a 3 c)) = x :: y :: signedC (z : Int) root (i : Int) (strB sig) (.slice a 3 c) := by
    unfold splice
    rw [List.drop_eq_nil_of_le (by rw [signedC_len hr, List.length_cons, List.length_cons, hD]; omega), List.append_nil]
    rfl
  rw [e3] at hst
  rw [hW3] at hst kst
  go_ret
  exact ⟨a, c, rfl, ⟨H1.out.text.kept kst (by omega), hst, H1.out.okb.kept kst (by omega), H1.out.kept.then_ kst (fun i hi e => by omega)⟩, (HK2.out.mono (fun _ _ => False.elim)).trans kst, (hrow.kept H2.out.2 (fun _ _ => id)).kept kst (fun k q e => by have := hown k q; omega), hown⟩
end Go.Proofs.YtlgeijbgkipliaaGreatDoor

namespace Go.Proofs.YtlgeijbgkipliaaGreatDoor
open Go.RowKit
set_option maxRecDepth 100000 in
theorem take_yes {W : World} {ob g : Nat} {x y : Value} {b : Bool} {R : World → Prop} (hg : g ∈ [122, 124, 126]) (ho : Blk W ob [.bool true] 4)
    (hc : Calls Tryz.prog g #[x, y] W fun e w' => e = .returned (.bool b) ∧ R w') (hR : ∀ w', R w' → Blk w' ob [.bool true] 4) :
    Calls Tryz.prog 121 #[.func (.func g) #[] #[x, y], .pointer (some ⟨ob, 0, none⟩)] W fun e W' => e = .returned (.tuple #[]) ∧ ∃ w1, R w1 ∧ w1.setCell ⟨ob, 0, none⟩ (.bool b) = W' := by
  have c0 := ho.cell (i := 0) rfl
  have HC := Lib.hid hc
  have HR := Lib.hid hR
  clear hc hR ho
  simp only [List.mem_cons, List.not_mem_nil, or_false] at hg
  go_enter Tryz.func121, Tryz.ntmps121
  rcases hg with rfl | rfl | rfl
  all_goals go_wp2_with (refine HC.out.mono ?_; rintro e w1 ⟨rfl, h1⟩; have H1 := Lib.hid h1; clear h1; have r0 := (HR.out w1 H1.out).cell (i := 0) rfl; have z0 := (HR.out w1 H1.out).free 0)
  all_goals (go_end0; exact ⟨rfl, w1, H1.out, rfl⟩)
end Go.Proofs.YtlgeijbgkipliaaGreatDoor

namespace Go.Proofs.YtlgeijbgkipliaaGreatDoor
open Go.RowKit
section
variable {w W : World} {l : By} {x y : Value} {D : List Value} {ok : Bool}
theorem RdS.okset (h : RdS w W l x y D ok) (b : Bool) {W' : World} (hW : W.setCell ⟨w.heap.size + 2, 0, none⟩ (.bool b) = W') : RdS w W' l x y D b ∧ Kept (· = w.heap.size + 2) W W' := by
  subst hW
  have k := kept_cell W (w.heap.size + 2) 0 (.bool b)
  exact ⟨⟨h.text.kept k (by omega), h.pt.kept k (by omega), h.okb.set 0 (.bool b), h.kept.then_ k (fun i hi e => by omega)⟩, k⟩
theorem take_size (h : RdS w W l x y D true) (hl : Short l.length) (hb : (numT l).2.2 = true) :
    Calls Tryz.prog 121 #[.func (.func 122) #[] #[.pointer (some ⟨w.heap.size, 0, none⟩), .pointer (some ⟨w.heap.size + 1, 0, none⟩)], .pointer (some ⟨w.heap.size + 2, 0, none⟩)] W fun e W' =>
      e = .returned (.tuple #[]) ∧ RdS w W' (numT l).2.1 (.int .i64 (min ((numT l).1 : Int) 4097)) y D true := by
  have h1 := rd_size h hl
  rw [hb] at h1
  refine (take_yes (by simp) h.okb h1 (fun w' q => q.okb)).mono ?_
  rintro e W' ⟨rfl, w1, q, hW⟩
  exact ⟨rfl, (q.okset true hW).1⟩
theorem take_list (h : RdS w W l x y D true) (hl : Short l.length) (hb : (hashesT l).2.2 = true) :
    Calls Tryz.prog 121 #[.func (.func 124) #[] #[.pointer (some ⟨w.heap.size, 0, none⟩), .pointer (some ⟨w.heap.size + 1, 0, none⟩)], .pointer (some ⟨w.heap.size + 2, 0, none⟩)] W fun e W' =>
      e = .returned (.tuple #[]) ∧ ∃ v, RdS w W' (hashesT l).2.1 x v D true ∧ Row W' 57 32 v (hcells (hashesT l).1) ∧ ∀ k, v.ownBlock = some k → W.heap.size ≤ k := by
  have h3 := h.okb.lt
  have h1 := (rd_list h hl).mono (R' := fun e W' => e = .returned (.bool true) ∧ ∃ v, RdS w W' (hashesT l).2.1 x v D true ∧ Row W' 57 32 v (hcells (hashesT l).1) ∧ ∀ k, v.ownBlock = some k → W.heap.size ≤ k) (by
    rintro e W' ⟨v, rfl, q1, q2, q3⟩
    exact ⟨by rw [hb], v, q1, q2, q3⟩)
  refine (take_yes (by simp) h.okb h1 (fun w' q => by obtain ⟨v, q, _⟩ := q; exact q.okb)).mono ?_
  rintro e W' ⟨rfl, w1, ⟨v, q1, q2, q3⟩, hW⟩
  obtain ⟨o1, o2⟩ := q1.okset true hW
  exact ⟨rfl, v, o1, q2.kept o2 (fun k q e => by have := q3 k q; omega), q3⟩
theorem take_head (h : RdS w W l x y D true) (hl : Short l.length) (hD : D.length = 36) {z i : Nat} {root sig : By} {path : List By} (hg : headT l = some (z, root, i, sig, path)) (hr : root.length = 32) :
    Calls Tryz.prog 121 #[.func (.func 126) #[] #[.pointer (some ⟨w.heap.size, 0, none⟩), .pointer (some ⟨w.heap.size + 1, 0, none⟩)], .pointer (some ⟨w.heap.size + 2, 0, none⟩)] W fun e W' =>
      e = .returned (.tuple #[]) ∧ ∃ a c, RdS w W' l x y (signedC (z : Int) root (i : Int) (strB sig) (.slice a 3 c)) true ∧ Kept (fun k => k = w.heap.size + 1 ∨ k = w.heap.size + 2) W W' ∧ Row W' 57 32 (.slice a 3 c) (hcells path) ∧ ∀ k, (Value.slice a 3 c).ownBlock = some k → W.heap.size ≤ k := by
  have h3 := h.okb.lt
  have h1 := (rd_head h hl hD hg hr).mono (R' := fun e W' => e = .returned (.bool true) ∧ ∃ a c, RdS w W' l x y (signedC (z : Int) root (i : Int) (strB sig) (.slice a 3 c)) true ∧ Kept (fun k => k = w.heap.size + 1) W W' ∧ Row W' 57 32 (.slice a 3 c) (hcells path) ∧ ∀ k, (Value.slice a 3 c).ownBlock = some k → W.heap.size ≤ k) (by
    rintro e W' ⟨a, c, rfl, q⟩
    exact ⟨rfl, a, c, q⟩)
  refine (take_yes (by simp) h.okb h1 (fun w' q => by obtain ⟨a, c, q, _⟩ := q; exact q.okb)).mono ?_
  rintro e W' ⟨rfl, w1, ⟨a, c, q1, q0, q2, q3⟩, hW⟩
  obtain ⟨o1, o2⟩ := q1.okset true hW
  exact ⟨rfl, a, c, o1, (q0.mono (fun _ _ => Or.inl)).trans (o2.mono (fun _ _ => Or.inr)), q2.kept o2 (fun k q e => by have := q3 k q; omega), q3⟩
end
end Go.Proofs.YtlgeijbgkipliaaGreatDoor

namespace Go.Proofs.YtlgeijbgkipliaaGreatDoor
open Go.RowKit
def ReadTo (w : World) (p : PtM) (e : Ending) (w' : World) : Prop := ∃ a c b d, e = .returned (.tuple #[.agg (p.cells (.slice a p.hs.length c) (.slice b 3 d)).toArray, .bool p.may]) ∧ Row w' 57 32 (.slice a p.hs.length c) (hcells p.hs) ∧ Row w' 57 32 (.slice b 3 d) (hcells p.path) ∧
  (∀ k, (Value.slice a p.hs.length c).ownBlock = some k → w.heap.size ≤ k) ∧ (∀ k, (Value.slice b 3 d).ownBlock = some k → w.heap.size ≤ k) ∧ (∀ k, (Value.slice a p.hs.length c).ownBlock = some k → ¬ (Value.slice b 3 d).ownBlock = some k) ∧ Kept (fun _ => False) w w'
theorem rd_start (w : World) (l : By) : RdS w (((w.alloc (.cells [.string (strB l)].toArray 9)).alloc (.cells (.int .i64 0 :: .slice none 0 0 :: signZ).toArray 72)).alloc (.cells [.bool false].toArray 4)) l (.int .i64 0) (.slice none 0 0) signZ false := by
  obtain ⟨w1, e1⟩ : ∃ x, x = w.alloc (.cells [.string (strB l)].toArray 9) := ⟨_, rfl⟩
  obtain ⟨w2, e2⟩ : ∃ x, x = w1.alloc (.cells (.int .i64 0 :: .slice none 0 0 :: signZ).toArray 72) := ⟨_, rfl⟩
  obtain ⟨w3, e3⟩ : ∃ x, x = w2.alloc (.cells [.bool false].toArray 4) := ⟨_, rfl⟩
  have s1 : w1.heap.size = w.heap.size + 1 := by rw [e1, World.size_alloc]
  have s2 : w2.heap.size = w.heap.size + 2 := by rw [e2, World.size_alloc, s1]
  have b1 : Blk w1 w.heap.size [.string (strB l)] 9 := by rw [e1]; exact Blk.new w _ _
  have b2 : Blk w2 (w.heap.size + 1) (.int .i64 0 :: .slice none 0 0 :: signZ) 72 := by rw [← s1, e2]; exact Blk.new w1 _ _
  have b3 : Blk w3 (w.heap.size + 2) [.bool false] 4 := by rw [← s2, e3]; exact Blk.new w2 _ _
  have k1 : Kept (fun _ => False) w w1 := by rw [e1]; exact (Kept.refl _ _).alloc _
  have k2 : Kept (fun _ => False) w1 w2 := by rw [e2]; exact (Kept.refl _ _).alloc _
  have k3 : Kept (fun _ => False) w2 w3 := by rw [e3]; exact (Kept.refl _ _).alloc _
  rw [← e1, ← e2, ← e3]
  exact ⟨b1.kept (k2.trans k3) id, b2.kept k3 id, b3, k1.trans (k2.trans k3)⟩
structure RdF (w w' : World) (C : List Value) (u v : Value) (hs path : List By) : Prop where
  pt : Blk w' (w.heap.size + 1) C 72
  okb : ∃ ok, Blk w' (w.heap.size + 2) [.bool ok] 4
  r1 : Row w' 57 32 u (hcells hs)
  r2 : Row w' 57 32 v (hcells path)
  kept : Kept (fun _ => False) w w'
theorem RdF.turn {w w1 w2 : World} {C : List Value} {u v : Value} {hs path : List By} (h : RdF w w1 C u v hs path) (hk : Kept (fun _ => False) w1 w2) : RdF w w2 C u v hs path :=
  ⟨h.pt.kept hk id, by obtain ⟨ok, q⟩ := h.okb; exact ⟨ok, q.kept hk id⟩, h.r1.kept hk (fun _ _ => id), h.r2.kept hk (fun _ _ => id), h.kept.trans hk⟩
theorem RdF.again {w w1 w2 : World} {C : List Value} {u v : Value} {hs path : List By} (h : RdF w w1 C u v hs path) (hu : ∀ k, u.ownBlock = some k → w.heap.size + 3 ≤ k) (hv : ∀ k, v.ownBlock = some k → w.heap.size + 3 ≤ k) (hW : w1.setCells (w.heap.size + 1) 0 C = w2) : RdF w w2 C u v hs path := by
  subst hW
  have k := kept_setCells w1 (w.heap.size + 1) 0 C
  have b := h.pt.setCells 0 C (Nat.le_of_eq (Nat.zero_add _))
  rw [splice_whole rfl] at b
  exact ⟨b, by obtain ⟨ok, q⟩ := h.okb; exact ⟨ok, q.kept k (by omega)⟩, h.r1.kept k (fun i q e => by have := hu i q; omega), h.r2.kept k (fun i q e => by have := hv i q; omega), h.kept.then_ k (fun i hi e => by omega)⟩
theorem RdF.word {w w1 w2 : World} {C : List Value} {u v : Value} {hs path : List By} (h : RdF w w1 C u v hs path) (hu : ∀ k, u.ownBlock = some k → w.heap.size + 3 ≤ k) (hv : ∀ k, v.ownBlock = some k → w.heap.size + 3 ≤ k) (b : Bool) (hW : w1.setCell ⟨w.heap.size + 2, 0, none⟩ (.bool b) = w2) : RdF w w2 C u v hs path ∧ w2.cell? ⟨w.heap.size + 2, 0, none⟩ = some (.bool b) := by
  subst hW
  obtain ⟨ok, q⟩ := h.okb
  have k := kept_cell w1 (w.heap.size + 2) 0 (.bool b)
  have q2 : Blk (w1.setCell ⟨w.heap.size + 2, 0, none⟩ (.bool b)) (w.heap.size + 2) [.bool b] 4 := q.set 0 (.bool b)
  exact ⟨⟨h.pt.kept k (by omega), ⟨b, q2⟩, h.r1.kept k (fun i q e => by have := hu i q; omega), h.r2.kept k (fun i q e => by have := hv i q; omega), h.kept.then_ k (fun i hi e => by omega)⟩, q2.cell (i := 0) rfl⟩
theorem results2_cw {P : Program} {w : World} {fn : Func} {p q : Tmp} {ty1 ty2 : TypeId} {tmps : Array Value} {b1 b2 : Nat} {c1 : List Value} {t1 : TypeId} {d1 : TypeDesc} {v : Value} (h1 : Blk w b1 c1 t1) (hf : fn.results = #[.cell p ty1, .cell q ty2])
    (hp : tmps.getD p undef = .pointer (some ⟨b1, 0, none⟩)) (hq : tmps.getD q undef = .pointer (some ⟨b2, 0, none⟩)) (hu1 : P.underlying ty1 = some d1) (hd1 : (match d1 with | .struct _ | .array _ _ => true | _ => false) = true) (hi1 : (P.info? ty1).map (·.size) = some c1.length) (h2 : (loadVar ty2 ⟨b2, 0, none⟩).run P w = .ok v w) :
    (results fn tmps).run P w = .ok (.tuple #[.agg c1.toArray, v]) w := by
  have hp' : tmps[p]?.getD undef = .pointer (some ⟨b1, 0, none⟩) := by simpa using hp
  have hq' : tmps[q]?.getD undef = .pointer (some ⟨b2, 0, none⟩) := by simpa using hq
  simp [results, hf, hp', hq', h2, asAddr, run_loadVar_row w b1 t1 ty1 c1.toArray (0, 0) d1 h1 hu1 hd1 (by rw [hi1, List.size_toArray])]
theorem info_point_ : (Tryz.prog.info? 72).map (·.size) = some 38 := by kernel_rfl
theorem pointC_one (size : Int) (u : Value) (z : Int) (root : By) (i : Int) (s : ByteArray) (v : Value) (hu : u.oneCell' = true) (hv : v.oneCell' = true) : ∀ x ∈ pointC size u z root i s v, x.oneCell' = true := by
  intro x hx
  rcases List.mem_cons.1 hx with rfl | hx
  · rfl
  · rcases List.mem_cons.1 hx with rfl | hx
    · exact hu
    · exact signed_one _ _ _ _ _ hv x hx
set_option maxRecDepth 100000 in
set_option maxHeartbeats 2000000 in
theorem read_pt (w : World) (p : PtM) (hp : p.Ok) (ht : Tab w) : Calls Tryz.prog 81 #[.string (strB p.bytes)] w (ReadTo w p) := by
  have hl : Short p.bytes.length := by have := PtM.bytes_len hp; unfold Short; omega
  obtain ⟨W, hW⟩ : ∃ W : World, W = ((w.alloc (.cells [.string (strB p.bytes)].toArray 9)).alloc (.cells (.int .i64 0 :: .slice none 0 0 :: signZ).toArray 72)).alloc (.cells [.bool false].toArray 4) := ⟨_, rfl⟩
  have H0 := Lib.hid (show RdS w W p.bytes (.int .i64 0) (.slice none 0 0) signZ false by rw [hW]; exact rd_start w p.bytes)
  have HP := Lib.hid (And.intro hp (And.intro hl ht))
  clear hp hl ht
  go_enter Tryz.func81, Tryz.ntmps81
  go_upto_region 1 with (fail)
  generalize hWx : World.alloc _ _ = Wx
  obtain rfl : W = Wx := by rw [hW, ← hWx]; rfl
  clear hW hWx
  have r0 := H0.out.okb.cell (i := 0) rfl
  have z0 := H0.out.okb.free 0
  go_upto_region 2 with (fail)
  generalize hW1 : World.setCell _ _ _ = W1
  have h1 := (H0.out.okset true hW1).1
  have ht1 := take_size h1 HP.out.2.1 (by rw [PtM.numT HP.out.1])
  have m1 : min (p.size : Int) 4097 = (p.size : Int) := by have := HP.out.1.hsize; omega
  have l2 : Short (hashesF p.hs ++ hputF p.z p.root p.i p.sig p.path).length := by
    have h2 := numT_len p.bytes
    rw [PtM.numT HP.out.1] at h2
    have h3 := HP.out.2.1
    unfold Short at *
    simp only at h2
    omega
  rw [PtM.numT HP.out.1] at ht1
  simp only [m1] at ht1
  have HT1 := Lib.hid ht1
  have L2 := Lib.hid l2
  clear r0 z0 hW1 h1 ht1 m1 l2 H0
  go_upto_region 4 with (go_at_call 121; refine HT1.out.mono ?_; rintro e w2 ⟨rfl, h2⟩)
  have ht2 := take_list h2 L2.out (by rw [PtM.hashesT HP.out.1])
  rw [PtM.hashesT HP.out.1] at ht2
  simp only at ht2
  have HT2 := Lib.hid ht2
  have hw2x := h2.okb.lt
  clear ht2 h2
  go_upto_region 5 with (go_at_call 121; refine HT2.out.mono ?_; rintro e w3 ⟨rfl, v, h3, hv, ho⟩)
  obtain ⟨a, n, c, rfl, hn, _⟩ := hv.form (by omega)
  rw [hcells_len HP.out.1.h32] at hn
  obtain rfl : n = p.hs.length := by omega
  have l3 : Short (hputF p.z p.root p.i p.sig p.path).length := by have h4 := L2.out; rw [List.length_append] at h4; unfold Short at *; omega
  have ht3 := take_head h3 l3 (by rfl) (PtM.headT HP.out.1) HP.out.1.hr
  rw [strB_eq] at ht3
  have hV : Row w3 57 32 (.slice a p.hs.length c) (hcells p.hs) ∧ ∀ k, (Value.slice a p.hs.length c).ownBlock = some k → w2.heap.size ≤ k := ⟨hv, ho⟩
  have HT3 := Lib.hid ht3
  have HV := Lib.hid hV
  have HK3 := Lib.hid h3.okb.lt
  have H2 := Lib.hid (show w.heap.size + 2 < w2.heap.size from by have := hw2x; omega)
  clear ht3 h3 hv ho hV
  go_upto_region 6 with (go_at_call 121; refine HT3.out.mono ?_; rintro e w4 ⟨rfl, b, d, h4, hk4, hp4, ho4⟩)
  have own1 : ∀ k, (Value.slice a p.hs.length c).ownBlock = some k → w.heap.size + 3 ≤ k := fun k q => by have := HV.out.2 k q; have := H2.out; omega
  have own2 : ∀ k, (Value.slice b 3 d).ownBlock = some k → w.heap.size + 3 ≤ k := fun k q => by have := ho4 k q; have := HK3.out; have := H2.out; omega
  have own12 : ∀ k, (Value.slice a p.hs.length c).ownBlock = some k → ¬ (Value.slice b 3 d).ownBlock = some k := fun k q q2 => by have := HV.out.1.lt q; have := ho4 k q2; omega
  have S0 : RdF w w4 (p.cells (.slice a p.hs.length c) (.slice b 3 d)) (.slice a p.hs.length c) (.slice b 3 d) p.hs p.path := ⟨h4.pt, ⟨true, h4.okb⟩, HV.out.1.kept hk4 (fun k q e => by have := own1 k q; omega), hp4, h4.kept⟩
  have r4 := h4.okb.drew.cell (i := 0) rfl
  have S1 := S0.turn ((Kept.refl _ _).drew)
  have HO := Lib.hid (And.intro own1 (And.intro own2 own12))
  have hC : (p.cells (.slice a p.hs.length c) (.slice b 3 d)).length = 38 := PtM.cells_len HP.out.1 _ _
  have hC1 : ∀ x ∈ p.cells (.slice a p.hs.length c) (.slice b 3 d), x.oneCell' = true := pointC_one _ _ _ _ _ _ _ rfl rfl
  have HMY := Lib.hid (fun (W5 : World) (h5 : RdF w W5 (p.cells (.slice a p.hs.length c) (.slice b 3 d)) (.slice a p.hs.length c) (.slice b 3 d) p.hs p.path) => (show Calls Tryz.prog 73 #[.agg (p.cells (.slice a p.hs.length c) (.slice b 3 d)).toArray] W5 fun e w' => e = .returned (.bool p.may) ∧ Kept (fun _ => False) W5 w' from may_any W5 p.size p.z p.i a c p.hs p.root p.sig b d (Row.view h5.r1) HP.out.1.h32 (by have := HP.out.1.hlen; omega) HP.out.1.hok (HP.out.2.2.same h5.kept) HP.out.1.hr HP.out.1.hz HP.out.1.hi HP.out.1.hsg))
  have HC := Lib.hid (And.intro hC hC1)
  have HQ : Hid (∀ (W5 : World), RdF w W5 (p.cells (.slice a p.hs.length c) (.slice b 3 d)) (.slice a p.hs.length c) (.slice b 3 d) p.hs p.path → ReadTo w p (.returned (.tuple #[.agg (p.cells (.slice a p.hs.length c) (.slice b 3 d)).toArray, .bool p.may])) W5) := Lib.hid (fun W5 h5 => ⟨a, c, b, d, rfl, h5.r1, h5.r2, fun k q => by have := HO.out.1 k q; omega, fun k q => by have := HO.out.2.1 k q; omega, HO.out.2.2, h5.kept⟩)
  generalize p.cells (.slice a p.hs.length c) (.slice b 3 d) = C at *
  generalize p.may = my at *
  clear own1 own2 own12 S0 hC hC1 h4 hk4 hp4 ho4 HV
  refine wp_region_held_drew (S := fun w' => RdF w w' C (.slice a p.hs.length c) (.slice b 3 d) p.hs p.path) (by kernel_rfl) S1 (fun hH0 => ?_)
  clear S1
  generalize World.drew w4 = W4 at *
  have iC : (Tryz.prog.info? 72).map (·.size) = some C.length := by rw [HC.out.1]; exact info_point_
  have IC := Lib.hid iC
  clear iC
  refine tky 0 rfl (fun _ _ _ h => h) (yieldsIf_load_mid (by rfl) _ _ rfl (w.heap.size + 1) 0 rfl C _ (fun w h => h.pt.range0) Tryz.underlying72 rfl IC.out) hH0 ?_
  try simp only [lyA, lyB, lyC, lyD]
  refine rd1 1 (fun K hK => ?_)
  go_simp
  refine hK.out _ _ hH0 (fun _ => ?_)
  clear hK K
  try simp only [lyA, lyB, lyC, lyD]
  refine tk 2 rfl (fun _ _ _ h => h) hH0 ?_
  refine tky 3 rfl (fun _ _ _ h => h) (yieldsIf_load_mid (by rfl) _ _ rfl (w.heap.size + 1) 0 rfl C _ (fun w h => h.pt.range0) Tryz.underlying72 rfl IC.out) hH0 ?_
  try simp only [lyA, lyB, lyC, lyD]
  refine rd1 4 (fun K hK => ?_)
  rw [if_pos (by rfl)]
  go_simp
  refine (HMY.out _ hH0).mono ?_
  rintro e w5 ⟨rfl, hk5⟩
  have hH1 := hH0.turn hk5
  refine hK.out _ _ hH1 (fun _ => ?_)
  clear hK K
  try simp only [lyA, lyB, lyC, lyD]
  refine tk 5 rfl (fun _ _ _ h => h) hH1 ?_
  refine rd1 6 (fun K hK => ?_)
  rw [if_pos (by rfl)]
  refine wp_store_mid _ _ _ rfl (w.heap.size + 1) 0 C.toArray rfl rfl (hH1.pt.there 0 _ (by rw [List.size_toArray]; omega)) (by rw [List.size_toArray]; exact IC.out) (all_oneCell_toArray HC.out.2) ?_
  generalize hW6 : World.setCells w5 _ _ _ = w6
  have hH2 := hH1.again HO.out.1 HO.out.2.1 hW6
  clear hW6
  refine hK.out _ _ hH2 (fun _ => ?_)
  clear hK K
  try simp only [lyA, lyB, lyC, lyD]
  obtain ⟨ok6, hok6⟩ := hH2.okb
  have r6 := hok6.cell (i := 0) rfl
  have z6 := hok6.free 0
  refine rd1 7 (fun K hK => ?_)
  go_simp
  generalize hW7 : World.setCell w6 _ _ = w7
  obtain ⟨hH3, r7⟩ := hH2.word HO.out.1 HO.out.2.1 my hW7
  clear hW7 r6 z6 hok6
  refine hK.out _ _ hH3 (fun _ => ?_)
  clear hK K
  try simp only [lyA, lyB, lyC, lyD]
  refine wpAnyH_done (by kernel_rfl) ?_ _
  go_wp2_with fail
  refine bodyPost_ret (v := .tuple #[.agg C.toArray, .bool my]) (results2_cw hH3.pt rfl rfl rfl Tryz.underlying72 rfl IC.out (by simp [go_sem, r7])) rfl (HQ.out _ hH3)
end Go.Proofs.YtlgeijbgkipliaaGreatDoor

namespace Go.Proofs.YtlgeijbgkipliaaGreatDoor
open Go.RowKit
def LoadTo (w : World) (b : By) (e : Ending) (w' : World) : Prop := ∃ a c, e = .returned (.tuple #[.slice a (wholeF b).1.length c, .int .i64 ((b.length - (wholeF b).2.length : Nat) : Int), .int .i64 (b.length : Int)]) ∧ Row w' 9 1 (.slice a (wholeF b).1.length c) (strV (wholeF b).1) ∧ (∀ k, (Value.slice a (wholeF b).1.length c).ownBlock = some k → w.heap.size ≤ k) ∧ Kept (fun _ => False) w w'
section
variable {w0 w w' : World} {d : Nat} {M : DiskM} {Os : List Og}
set_option maxRecDepth 100000 in
theorem chk_load (h : Owg w0 w d M Os) (n : Int) (n0 : -9223372036854775808 ≤ n ∧ n ≤ 9223372036854775807) (hdn : M.down = false) {b : By} (hf : AM.get M.files n = some b) (hb : b.length ≤ 2000000) :
    Calls Tryz.prog 80 #[.pointer (some ⟨d, 0, none⟩), .int .i64 n] w (LoadTo w b) := by
  have htab := h.tab
  obtain ⟨B, h⟩ := h
  have hz : M.sizeR n = ((b.length : Int), 0) := by simp [DiskM.sizeR, DiskM.has, hdn, hf]
  have hsize := size_ap h.ap n n0 hz
  have hread := read_ap h.ap n n0 0 b.length b hdn hf (by omega)
  rw [List.drop_zero, List.take_of_length_le (Nat.le_refl _)] at hread
  have hread : Calls Tryz.prog 63 #[.pointer (some ⟨d, 0, none⟩), .int .i64 n, .int .i64 0, .int .i64 (b.length : Int)] w fun e w' => e = .returned (.tuple #[.string ⟨b.toArray⟩, .int .i64 0]) ∧ w = w' := hread
  have hwh := whole_any w ⟨b.toArray⟩ (by show b.toArray.size ≤ _; rw [List.size_toArray]; exact hb) htab
  have HW : Hid (Calls Tryz.prog 120 #[.string ⟨b.toArray⟩] w (WholePost w b)) := Lib.hid hwh
  have HS := Lib.hid hsize
  have HR := Lib.hid hread
  clear hz h hf hdn hsize hread hwh htab
  go_enter Tryz.func80, Tryz.ntmps80
  go_wp2_with (first | (go_at_call 48; refine HS.out.mono ?_; rintro e w' ⟨rfl, rfl⟩) | (go_at_call 63; refine HR.out.mono ?_; rintro e w' ⟨rfl, rfl⟩) | (go_at_call 120; refine HW.out.mono ?_; rintro e w2 ⟨v, rfl, hrow, hown, hk⟩))
  obtain ⟨a, m, c, rfl, hm, _⟩ := hrow.form (by omega)
  rw [strV_len, Nat.mul_one] at hm
  subst hm
  go_ret3
  exact ⟨a, c, rfl, hrow, hown, hk⟩
theorem chk_load_pts (h : Owg w0 w d M Os) (n : Int) (n0 : -9223372036854775808 ≤ n ∧ n ≤ 9223372036854775807) (hdn : M.down = false) {b : By} (hf : AM.get M.files n = some b) (hb : b.length ≤ 2000000) {ps : List PtM} (hp : (wholeF b).1 = ps.map PtM.bytes) :
    Calls Tryz.prog 80 #[.pointer (some ⟨d, 0, none⟩), .int .i64 n] w fun e w' => ∃ a c, e = .returned (.tuple #[.slice a ps.length c, .int .i64 ((b.length - (wholeF b).2.length : Nat) : Int), .int .i64 (b.length : Int)]) ∧ Row w' 9 1 (.slice a ps.length c) (strV (ps.map PtM.bytes)) ∧ (∀ k, (Value.slice a ps.length c).ownBlock = some k → w.heap.size ≤ k) ∧ Kept (fun _ => False) w w' := by
  refine (chk_load h n n0 hdn hf hb).mono ?_
  rintro e w' ⟨a, c, q⟩
  rw [hp, List.length_map] at q
  exact ⟨a, c, q⟩
end
end Go.Proofs.YtlgeijbgkipliaaGreatDoor
