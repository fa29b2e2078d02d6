/- The law KeyringOnce, walked. -/
import Derived.Deep.CutBlock
import Derived.Deep.DeepCutAuto
import Derived.Test.YtaimokclhcfohaaDoorUKeyringOnce39
import Derived.Test.YtaimokclhcfohaaDoorUKeyringOnce42
set_option linter.unusedVariables false
set_option linter.unusedSimpArgs false
namespace Go.Proofs.YtaimokclhcfohaaDoor
open Go.RowKit Go.WideShapes Go.ChangeShapes Go.Joins

def InR (w0 wr : World) (d hb xb kb bb : Nat) (sd : ByteArray) (K X H : List Value) (i : Nat) (v : Value) (told : Nat) : Prop :=
  ∃ r M L s, v = .pointer (some ⟨r, 0, none⟩) ∧ L.length = told ∧ Rises 0 L ∧ told ≤ 8 ∧ UpM L s M ∧ 0 ≤ s ∧ s ≤ 5 * (i : Int) ∧ Up w0 wr d r ⟨sd, L, s, false⟩ M ((hb, H, 25) :: (xb, X, 59) :: Lcs kb bb K L)
theorem rangeAt_elem {w wr : World} {b off i : Nat} {X : List Value} (hb : b < w.heap.size) (hc : ∀ j v, X[j]? = some v → w.cell? ⟨b, off + i * 39 + j, none⟩ = some v) (hk : Kept (fun _ => False) w wr) : wr.rangeAt b (off + i * 39) X :=
  fun j v hv => hk.cell (hc j v hv) id
/-- A key in a block of its own. -/
theorem store_key (w4 : World) {K : List Value} (hK : K.length = 32) : (w4.alloc (.cells (zeros 32).toArray 23)).there w4.heap.size 0 K.toArray.size ∧ Blk ((w4.alloc (.cells (zeros 32).toArray 23)).setCells w4.heap.size 0 K) w4.heap.size K 23 ∧ Kept (fun _ => False) w4 ((w4.alloc (.cells (zeros 32).toArray 23)).setCells w4.heap.size 0 K) := by
  have hb := Blk.new w4 (zeros 32) 23
  have h2 := hb.setCells 0 K (by rw [hK, zeros_len]; omega)
  rw [splice_whole (by rw [hK, zeros_len])] at h2
  exact ⟨hb.there 0 _ (by rw [List.size_toArray, hK, zeros_len]; omega), h2, ((Kept.refl (fun _ => False) w4).alloc _).then_ (kept_setCells _ w4.heap.size 0 _) (fun i hi e => by omega)⟩
theorem by_new (w : World) : Blk (w.alloc (.cells (hdC (byH [])).toArray 57)) w.heap.size (hdC (byH [])) 57 := Blk.new w _ _
set_option maxRecDepth 100000 in
set_option maxHeartbeats 8000000 in
theorem once_walk0 (w : World) (ht : Tab w) (ad : Option Addr) (len cap : Nat) (hl : len ≤ maxLen) (h : Acts34 w ad len) :
    Calls Tryd.prog 4 #[.slice ad len cap] w fun e w' => e = .returned (.bool true) ∧ Kept (fun _ => False) w w' := by
  have HG := Lib.hid (great34 w ad len cap 14 (by omega) hl h)
  have HT := Lib.hid ht
  have HR := Lib.hid (ringed_any w ht)
  have HA := Lib.hid h
  have HL := Lib.hid hl
  clear h ht hl
  go_enter Tryd.func4, Tryd.ntmps4
  go_upto_if 22 with (go_at_call 13; refine HG.out.mono ?_; rintro e w' ⟨b, rfl, hb, rfl⟩; have HB := Lib.hid hb; clear hb)
  cases b
  case true =>
    go_wp2_with (go_at_call 12; refine HR.out.mono ?_; rintro e w' ⟨rfl, hk⟩)
    go_ret
    exact ⟨rfl, hk⟩
  case false =>
  obtain ⟨sd, hsd⟩ : ∃ sd : ByteArray, sd = ⟨#[114, 105, 110, 103]⟩ := ⟨_, rfl⟩
  have HSD := Lib.hid hsd
  clear hsd HR HG
  go_upto_region 4 with (go_at_call 9; refine (new_ok _ 10000 (by omega) (by omega)).mono ?_; rintro e w1 hnew; obtain ⟨d, rfl, hA1, k1⟩ := Apart.made _ hnew; have HD := Lib.hid (Fr.made hA1 HT.out k1); clear hnew hA1 k1)
  have hop := HD.out.opens sd (by rw [HSD.out]; decide) (by decide)
  rw [ropen0, HSD.out] at hop
  have HOP := Lib.hid hop
  clear hop
  go_upto_region 5 with (go_at_call 10; refine HOP.out.mono ?_; intro e w2 ho; obtain ⟨r, rfl, hU⟩ : ∃ r, e = .returned (.tuple #[.pointer (some ⟨r, 0, none⟩), .int .i64 0]) ∧ Up w w2 d r ⟨sd, [], 0, false⟩ (oneD [] [] 10000 false 0 false 0 0) [] := (ho.elim (fun q => absurd rfl q.1) (fun ⟨_, r, q1, q2⟩ => ⟨r, q1, by rw [HSD.out]; exact q2⟩)); have HU := Lib.hid hU; clear ho hU)
  clear HOP HD
  obtain ⟨K, hK⟩ : ∃ K : By, K = rootF (leavesF sd.data.toList) := ⟨_, rfl⟩
  have hK32 : K.length = 32 := by rw [hK]; exact rootF_len (leaves_32 _)
  have HKEY := Lib.hid (And.intro hK hK32)
  have hky : Calls Tryd.prog 8 #[.pointer (some ⟨r, 0, none⟩)] w2 fun e w' => e = .returned (hashV K) ∧ Kept (fun _ => False) w2 w' := by
    obtain ⟨S, hS⟩ := HU.out.ring
    have h := ring_key hS HU.out.dn.tab
    rw [hK]
    exact h
  have HKY := Lib.hid hky
  clear hky hK hK32
  go_upto_region 8 with (first | (go_at_call 8; refine HKY.out.mono ?_; rintro e w3 ⟨rfl, hk3⟩; have HK3 := Lib.hid hk3; clear hk3) | ((with_reducible show wpList _ _ _ (⟨none, .store _ (.tmp 7) _, _, _, _, _⟩ :: _) _ _); refine wpList_store_mid rfl 23 _ _ rfl w3.heap.size 0 (bytes8 K).toArray rfl rfl ?hta ?hia ?h1a ?_))
  case hta => exact (store_key w3 (by rw [bytes8_len]; exact HKEY.out.2)).1
  case hia => exact (by rw [List.size_toArray, bytes8_len, HKEY.out.2]; exact info_h32)
  case h1a => exact all_oneCell_toArray (fun y hy => u8_oneCell y hy)
  generalize hw4 : World.setCells _ w3.heap.size 0 _ = w4
  have hU4 : Up w w4 d r ⟨sd, [], 0, false⟩ (oneD [] [] 10000 false 0 false 0 0) [(w3.heap.size, bytes8 K, 23)] := by
    have h := store_key w3 (K := bytes8 K) (by rw [bytes8_len]; exact HKEY.out.2)
    rw [← hw4]
    exact HU.out.new (HK3.out.trans h.2.2) h.2.1 HK3.out.size
  have HU4 := Lib.hid hU4
  clear hU4 hw4 HU HKY HK3
  go_upto_region 9 with fail
  generalize hw5 : World.alloc w4 _ = w5
  have hU5 : Up w w5 d r ⟨sd, [], 0, false⟩ (oneD [] [] 10000 false 0 false 0 0) [(w4.heap.size, hdC (byH []), 57), (w3.heap.size, bytes8 K, 23)] := by
    rw [← hw5]
    exact HU4.out.new ((Kept.refl _ _).alloc _) (by_new w4) (Nat.le_refl _)
  have HO : Hid (OutR w w5 d w3.heap.size w4.heap.size sd (bytes8 K) 0 (.pointer (some ⟨r, 0, none⟩)) 0) := Lib.hid ⟨r, _, [], 0, rfl, rfl, trivial, by omega, ⟨false, 0, 0, rfl, fun h => by cases h⟩, by omega, by simp, hU5.fewer (fun x q => by simp only [List.mem_cons, List.not_mem_nil, or_false] at q ⊢; exact q.symm)⟩
  clear hw5 hU5 HU4
  generalize w3.heap.size = kb at *
  generalize w4.heap.size = bb at *
  clear w3 w4 w2 w1
  obtain ⟨C, hC⟩ : ∃ C : List Value, C = bytes8 K := ⟨_, rfl⟩
  rw [← hC] at HO
  have HC := Lib.hid hC
  clear hC
  go_wp2_with fail
  go_loopw [5, 9, 10] (fun v y z wr => ∃ (u : Value) (told i : Nat), u = v ∧ y = .int .i64 (told : Int) ∧ z = .int .i64 (i : Int) ∧ i ≤ len ∧ Hid (OutR w wr d kb bb sd C i u told)) (fun _ _ z _ => len - (intOf z).toNat)
  case atStart => exact ⟨_, 0, 0, rfl, rfl, rfl, Nat.zero_le _, HO⟩
  case round =>
    clear HO
    obtain ⟨v, told, i, hvv, rfl, rfl, hi, HO⟩ := hrel
    subst hvv
    by_cases hlt : i < len
    · have x1 : decide ((i : Int) < (len : Int)) = true := by simp; omega
      have hk : Kept (fun _ => False) w wr := by obtain ⟨r, M, L, s, -, -, -, -, -, -, -, q⟩ := HO.out; exact q.dn.old
      obtain ⟨X, k, z, o, N, M, C', s, hX, b, off, rfl, hbb, hc⟩ := HA.out i hlt
      have hrg := rangeAt_elem hbb hc hk
      have HRG := Lib.hid (And.intro hrg (show (Tryd.prog.info? 59).map (·.size) = some X.length by rw [hX.len]; exact c_act34'))
      have HX := Lib.hid hX
      have HH := Lib.hid (And.intro (hdA_ok (z := z) o hX.z0.1) hX.len)
      clear hrg hX hc hk hbb
      go_upto_region 14 with (first | ((with_reducible show wpList _ _ _ (⟨some 50, _, _, _, _, _⟩ :: _) _ _); refine wpList_load_mid rfl 59 _ rfl b (off + i * 39) rfl X _ HRG.out.1 Tryd.underlying59 rfl HRG.out.2 ?_) | ((with_reducible show wpList _ _ _ (⟨none, .store _ (.tmp 11) _, _, _, _, _⟩ :: _) _ _); refine wpList_store_mid rfl 59 _ _ rfl wr.heap.size 0 X.toArray rfl rfl ?htc ?hic ?h1c ?_))
      case htc => exact (store_new wr act0C X 59 (by rw [HH.out.2, act0_len])).1
      case hic => exact (by rw [List.size_toArray, HH.out.2]; exact c_act34')
      case h1c => exact all_oneCell_toArray HX.out.one
      generalize hw6 : World.setCells _ wr.heap.size 0 _ = w6
      have hw6' : Blk w6 wr.heap.size X 59 ∧ Kept (fun _ => False) wr w6 := by rw [← hw6]; exact (store_new wr act0C X 59 (by rw [HH.out.2, act0_len])).2
      have HW6 := Lib.hid hw6'
      clear hw6 hw6' HRG
      have hhd := act_head w6 HX.out
      obtain ⟨hz, hzd⟩ : ∃ hz : Hd, hz = hdA z o := ⟨_, rfl⟩
      rw [← hzd] at hhd
      have HZ := Lib.hid (And.intro hzd (show HdOk hz by rw [hzd]; exact HH.out.1))
      have HHD := Lib.hid hhd
      clear hhd hzd
      have HX6 := Lib.hid (And.intro HW6.out.1.range0 (show (Tryd.prog.info? 59).map (·.size) = some X.length by rw [HH.out.2]; exact c_act34'))
      obtain ⟨H, hH⟩ : ∃ H : List Value, H = headC (hz.1 : Int) hz.2 := ⟨_, rfl⟩
      have hH33 : H.length = 33 := by rw [hH]; exact headC_len HZ.out.2.2.2
      have HHC := Lib.hid (And.intro hH hH33)
      have HHD2 : Hid (Calls Tryd.prog 14 #[.agg X.toArray] w6 fun e w' => e = .returned (.agg H.toArray) ∧ Kept (fun _ => False) w6 w') := Lib.hid (by rw [hH]; exact HHD.out)
      clear hH hH33 HHD
      go_upto_region 15 with (first | ((with_reducible show wpList _ _ _ (⟨some 51, _, _, _, _, _⟩ :: _) _ _); refine wpList_load_mid rfl 59 _ rfl wr.heap.size 0 rfl X _ HX6.out.1 Tryd.underlying59 rfl HX6.out.2 ?_) | (go_at_call 14; refine HHD2.out.mono ?_; rintro e w7 ⟨rfl, hk7⟩; have HK7 := Lib.hid hk7; clear hk7) | ((with_reducible show wpList _ _ _ (⟨none, .store _ (.tmp 12) _, _, _, _, _⟩ :: _) _ _); refine wpList_store_mid rfl 25 _ _ rfl w7.heap.size 0 H.toArray rfl rfl ?htd ?hid ?h1d ?_))
      case htd => exact (store_new w7 (headC 0 zeroRoot) H 25 (by rw [HHC.out.2, headC_len (by simp)])).1
      case hid => exact (by rw [List.size_toArray, HHC.out.2]; exact info_head)
      case h1d => exact all_oneCell_toArray (by rw [HHC.out.1]; exact head_oneCell)
      generalize hw8 : World.setCells _ w7.heap.size 0 _ = w8
      have hw8' : Blk w8 w7.heap.size H 25 ∧ Kept (fun _ => False) w7 w8 := by rw [← hw8]; exact (store_new w7 (headC 0 zeroRoot) H 25 (by rw [HHC.out.2, headC_len (by simp)])).2
      have HI : Hid (InR w w8 d w7.heap.size wr.heap.size kb bb sd C X H i v told) := Lib.hid (by
        obtain ⟨r, M, L, s, h1, h2, h3, h4, h5, h6, h7, h8⟩ := HO.out
        exact ⟨r, M, L, s, h1, h2, h3, h4, h5, h6, h7, ((h8.new HW6.out.2 HW6.out.1 (Nat.le_refl _)).same HK7.out).new hw8'.2 hw8'.1 (Nat.le_refl _)⟩)
      have hne : w7.heap.size ≠ wr.heap.size := by have := HW6.out.1.lt; have := HK7.out.size; omega
      have HN := Lib.hid hne
      clear hw8 hw8' HX6 HHD2 HW6 HK7 HO hne
      generalize w7.heap.size = hb at *
      generalize wr.heap.size = xb at *
      clear w7 w6
      have c0 : w8.cell? ⟨xb, 0, none⟩ = some (.int .u8 k) := by
        obtain ⟨r', M', L, s', -, -, -, -, -, -, -, q⟩ := HI.out
        exact (q.dn.blk (y := (xb, X, 59)) (by simp)).cell HX.out.c0
      have k0 := HX.out.k0
      go_upto_block 2 with fail
      obtain ⟨r2, Md, L, s1, rfl, rfl, hr, h8, hM, s0, sI, hU⟩ := HI.out
      refine once_blk2 (code := _) (by kernel_rfl) (Lib.hid ⟨trivial, HZ.out.2⟩) HHC HC HKEY HX k0 hr h8 hM s0 sI hU (fun _ _ _ _ _ h => h) ?_
      clear hr h8 hM s0 sI hU HI c0
      intro told2 v56 v57 v58 v59 v60 v61 v62 v14 v64 v65 v66 v63 v67 v68 v13 v69 v70 v71 v72 v73 v15 v74 v75 v76 v77 v78 v79 v80 v81 v82 v83 v84 v85 v86 v87 v88 v89 v90 v91 v92 v93 v94 v95 v96 v97 v98 v99 v100 v101 v102 v103 v104 v105 v106 v107 v108 v109 v110 v111 v112 v113 v114 v115 v116 v117 v118 v119 v120 v121 v122 v123 v124 v125 v126 v2 v127 v128 v129 v130 v131 v132 v133 v135 v134 v136 v137 v138 v139 v141 v140 v142 v143 v144 v145 v146 v147 v148 w9 HM
      have hi14 : i ≤ 14 := Nat.le_trans (Nat.le_of_lt hlt) (HB.out trivial).1
      go_upto_block 3 with fail
      refine once_loop (code := _) (by kernel_rfl) HKEY HSD (Lib.hid ⟨trivial, HZ.out.2⟩) HHC HX hi14 HM (fun _ _ _ _ _ h => h) ?_
      intro v5 told3 v2 v149 v150 v151 v152 v153 v154 v155 v156 v157 v16 v158 v159 v160 v161 v162 v163 v164 v165 v166 v167 v168 v169 v170 v171 v173 v174 v172 v175 v176 v17 v18 v177 v178 v179 v180 v181 v182 v183 v184 v185 v186 v187 v188 v189 v190 v191 v192 v193 v195 v196 v194 v197 v198 v19 v20 v199 v200 v201 v202 v203 v204 v205 v206 v207 v208 v209 v210 v211 v212 v213 v214 v215 v216 v217 v218 v219 v220 v221 v222 v223 v224 v225 v226 v227 v228 v229 v230 v231 v232 v233 v234 v235 v236 v237 v238 v239 v240 v241 w' HO'
      have hup : Calls Tryd.prog 17 #[.pointer (some ⟨d, 0, none⟩)] w' fun e w2 => e = .returned (.bool true) ∧ w' = w2 := by
        obtain ⟨r, M, L, s, -, -, -, -, h5, -, -, h8⟩ := HO'.out
        exact h8.dn.isup (by rw [h5.up.1]; rfl)
      have HUP := Lib.hid hup
      clear hup
      go_wp2_with (go_at_call 17; refine HUP.out.mono ?_; rintro e w2 ⟨rfl, rfl⟩)
      go_roundw
      case rel => exact ⟨_, told3, i + 1, rfl, rfl, by go_num, hlt, HO'⟩
      case measure => simp [intOf]; omega
    · have x1 : decide ((i : Int) < (len : Int)) = false := by simp; omega
      have hk : Kept (fun _ => False) w wr := by obtain ⟨r, M, L, s, -, -, -, -, -, -, -, q⟩ := HO.out; exact q.dn.old
      have HRG := Lib.hid (ringed_any wr (HT.out.same hk))
      go_wp2_with (go_at_call 12; refine HRG.out.mono ?_; rintro e w5 ⟨rfl, k5⟩)
      go_ret
      exact ⟨rfl, hk.trans k5⟩
set_option maxRecDepth 100000 in
theorem keyringOnce_walk (v : Value) (W : World) (ht : Tab W) {base : Nat} {H : Type} {enc : TypeId × Value → H} {dd : DataW H} {pp : List MemPlace} (hv : Value.okWide Tryd.prog W .any base 55 v) (h : DataW.Trod enc Tryd.prog W 0 (fun _ => true) true 55 v dd pp) :
    Calls Tryd.prog 4 #[v] W fun e w' => e = .returned (.bool true) ∧ Below W.heap.size W w' := by
  obtain ⟨a, len, cap, rfl, hl, hA⟩ := acts34_of hv h
  exact (once_walk0 W ht a len cap hl hA).mono (fun e w' ⟨he, hk⟩ => ⟨he, hk.below (fun _ _ => id) (Nat.le_refl _)⟩)
end Go.Proofs.YtaimokclhcfohaaDoor
