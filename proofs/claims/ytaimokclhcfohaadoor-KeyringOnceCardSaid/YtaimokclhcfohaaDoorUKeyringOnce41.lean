/- The law KeyringOnce: a head is signed. -/
import Derived.Test.YtaimokclhcfohaaDoorUKeyringOnce40
import Derived.Test.YtaimokclhcfohaaDoorUKeyringOnce01
set_option linter.unusedVariables false
set_option linter.unusedSimpArgs false
namespace Go.Proofs.YtaimokclhcfohaaDoor
open Go.RowKit

set_option maxRecDepth 100000 in
set_option maxHeartbeats 8000000 in
theorem once_signs {w wc : World} {d r hb xb kb bb i : Nat} {Md : DiskM} {sd : ByteArray} {K : By} {C X H C' : List Value} {k z o N M : Int} {s : ByteArray} {hz : Hd} {L : List Hd} {s1 : Int} {Q : Exit → Act → World → Prop} {g0 g1 g2 g4 g6 g10 g13 g14 g15 g16 g17 g18 g19 g20 g21 g22 g23 g24 g25 g26 g27 g28 g29 g30 g31 g32 g33 g34 g35 g36 g37 g38 g39 g40 g41 g42 g43 g44 g45 g46 g47 g48 g49 g50 g51 g52 g53 g54 g57 g58 g59 g60 g61 g62 g63 g64 g65 g66 g67 g68 g69 g70 g71 g72 g73 g74 g75 g76 g77 g78 g79 g80 g81 g82 g83 g84 g85 g86 g87 g88 g89 g90 g91 g92 g93 g94 g95 g96 g97 g98 g99 g100 g101 g102 g103 g104 g105 g106 g107 g108 g109 g110 g111 g112 g113 g114 g115 g116 g117 g118 g119 g120 g121 g122 g123 g124 g125 g126 g127 g128 g129 g130 g131 g132 g133 g134 g135 g136 g137 g138 g139 g140 g141 g142 g143 g144 g145 g146 g147 g148 g149 g150 g151 g152 g153 g154 g155 g156 g157 g158 g159 g160 g161 g162 g163 g164 g165 g166 g167 g168 g169 g170 g171 g172 g173 g174 g175 g176 g177 g178 g179 g180 g181 g182 g183 g184 g185 g186 g187 g188 g189 g190 g191 g192 g193 g194 g195 g196 g197 g198 g199 g200 g201 g202 g203 g204 g205 g206 g207 g208 g209 g210 g211 g212 g213 g214 g215 g216 g217 g218 g219 g220 g221 g222 g223 g224 g225 g226 g227 g228 g229 g230 g231 g232 g233 g234 g235 g236 g237 g238 g239 g240 g241 g242 g243 g244 g245 : Value} {code : Code} (hcode : codeCond 56 (Tryd.f4.body.getD .skip) = some code) (HZ : Hid (True ∧ HdOk hz)) (HHC : Hid (H = headC (hz.1 : Int) hz.2 ∧ H.length = 33)) (HC : Hid (C = bytes8 K)) (HKEY : Hid (K = rootF (leavesF sd.data.toList) ∧ List.length K = 32)) (HX : Hid (ActL X k z o N M C' s)) (k0 : 0 ≤ k ∧ k ≤ 255) (hr : Rises 0 L) (h8 : L.length ≤ 8) (hM : UpM L s1 Md) (s0 : 0 ≤ s1) (sI : s1 ≤ 5 * (i : Int)) (hU : Up w wc d r ⟨sd, L, s1, false⟩ Md ((hb, H, 25) :: (xb, X, 59) :: Lcs kb bb C L))
    (HP : ∀ c a (k : Nat) v w, Q (.panic c) (Act.put a (some k) v) w → Q (.panic c) a w) (HEND : ∀ (told2 : Nat) (v14 v64 v65 v66 v63 v67 v68 v13 v69 v70 v71 v72 v73 v15 v74 v75 v76 v77 v78 v79 v80 v81 v82 v83 v84 v85 v86 v87 v88 v89 v90 v91 v92 v93 v94 v95 v96 v97 v98 v99 v100 v101 v102 v103 v104 v105 v106 v107 v108 v109 v110 v111 v112 v113 v114 v115 v116 v117 v118 v119 v120 v121 v122 v123 v124 v125 v126 v2 v127 v128 v129 v130 v131 v132 v133 v135 v134 v136 v137 v138 v139 v141 v140 v142 v143 v144 v145 v146 v147 v148 : Value) (w' : World), Hid (MidR w w' d sd C X H hb xb kb bb hz i 0 (.pointer (some ⟨r, 0, none⟩)) told2) → Q .normal ⟨List.toArray (g0 :: g1 :: v2 :: (.pointer (some ⟨d, 0, none⟩)) :: g4 :: (.pointer (some ⟨r, 0, none⟩)) :: g6 :: (.pointer (some ⟨kb, 0, none⟩)) :: (.pointer (some ⟨bb, 0, none⟩)) :: (.int .i64 (told2 : Int)) :: g10 :: (.pointer (some ⟨xb, 0, none⟩)) :: (.pointer (some ⟨hb, 0, none⟩)) :: v13 :: v14 :: v15 :: g16 :: g17 :: g18 :: g19 :: g20 :: g21 :: g22 :: g23 :: g24 :: g25 :: g26 :: g27 :: g28 :: g29 :: g30 :: g31 :: g32 :: g33 :: g34 :: g35 :: g36 :: g37 :: g38 :: g39 :: g40 :: g41 :: g42 :: g43 :: g44 :: g45 :: g46 :: g47 :: g48 :: g49 :: g50 :: g51 :: g52 :: g53 :: g54 :: (.int .u8 (k % 13)) :: (.bool true) :: g57 :: g58 :: g59 :: g60 :: g61 :: g62 :: v63 :: v64 :: v65 :: v66 :: v67 :: v68 :: v69 :: v70 :: v71 :: v72 :: v73 :: v74 :: v75 :: v76 :: v77 :: v78 :: v79 :: v80 :: v81 :: v82 :: v83 :: v84 :: v85 :: v86 :: v87 :: v88 :: v89 :: v90 :: v91 :: v92 :: v93 :: v94 :: v95 :: v96 :: v97 :: v98 :: v99 :: v100 :: v101 :: v102 :: v103 :: v104 :: v105 :: v106 :: v107 :: v108 :: v109 :: v110 :: v111 :: v112 :: v113 :: v114 :: v115 :: v116 :: v117 :: v118 :: v119 :: v120 :: v121 :: v122 :: v123 :: v124 :: v125 :: v126 :: v127 :: v128 :: v129 :: v130 :: v131 :: v132 :: v133 :: v134 :: v135 :: v136 :: v137 :: v138 :: v139 :: v140 :: v141 :: v142 :: v143 :: v144 :: v145 :: v146 :: v147 :: v148 :: g149 :: g150 :: g151 :: g152 :: g153 :: g154 :: g155 :: g156 :: g157 :: g158 :: g159 :: g160 :: g161 :: g162 :: g163 :: g164 :: g165 :: g166 :: g167 :: g168 :: g169 :: g170 :: g171 :: g172 :: g173 :: g174 :: g175 :: g176 :: g177 :: g178 :: g179 :: g180 :: g181 :: g182 :: g183 :: g184 :: g185 :: g186 :: g187 :: g188 :: g189 :: g190 :: g191 :: g192 :: g193 :: g194 :: g195 :: g196 :: g197 :: g198 :: g199 :: g200 :: g201 :: g202 :: g203 :: g204 :: g205 :: g206 :: g207 :: g208 :: g209 :: g210 :: g211 :: g212 :: g213 :: g214 :: g215 :: g216 :: g217 :: g218 :: g219 :: g220 :: g221 :: g222 :: g223 :: g224 :: g225 :: g226 :: g227 :: g228 :: g229 :: g230 :: g231 :: g232 :: g233 :: g234 :: g235 :: g236 :: g237 :: g238 :: g239 :: g240 :: g241 :: g242 :: g243 :: g244 :: g245 :: []), []⟩ w') :
    Code.wp Tryd.prog code Q ⟨List.toArray (g0 :: g1 :: g2 :: (.pointer (some ⟨d, 0, none⟩)) :: g4 :: (.pointer (some ⟨r, 0, none⟩)) :: g6 :: (.pointer (some ⟨kb, 0, none⟩)) :: (.pointer (some ⟨bb, 0, none⟩)) :: (.int .i64 (L.length : Int)) :: g10 :: (.pointer (some ⟨xb, 0, none⟩)) :: (.pointer (some ⟨hb, 0, none⟩)) :: g13 :: g14 :: g15 :: g16 :: g17 :: g18 :: g19 :: g20 :: g21 :: g22 :: g23 :: g24 :: g25 :: g26 :: g27 :: g28 :: g29 :: g30 :: g31 :: g32 :: g33 :: g34 :: g35 :: g36 :: g37 :: g38 :: g39 :: g40 :: g41 :: g42 :: g43 :: g44 :: g45 :: g46 :: g47 :: g48 :: g49 :: g50 :: g51 :: g52 :: g53 :: g54 :: (.int .u8 (k % 13)) :: (.bool true) :: g57 :: g58 :: g59 :: g60 :: g61 :: g62 :: g63 :: g64 :: g65 :: g66 :: g67 :: g68 :: g69 :: g70 :: g71 :: g72 :: g73 :: g74 :: g75 :: g76 :: g77 :: g78 :: g79 :: g80 :: g81 :: g82 :: g83 :: g84 :: g85 :: g86 :: g87 :: g88 :: g89 :: g90 :: g91 :: g92 :: g93 :: g94 :: g95 :: g96 :: g97 :: g98 :: g99 :: g100 :: g101 :: g102 :: g103 :: g104 :: g105 :: g106 :: g107 :: g108 :: g109 :: g110 :: g111 :: g112 :: g113 :: g114 :: g115 :: g116 :: g117 :: g118 :: g119 :: g120 :: g121 :: g122 :: g123 :: g124 :: g125 :: g126 :: g127 :: g128 :: g129 :: g130 :: g131 :: g132 :: g133 :: g134 :: g135 :: g136 :: g137 :: g138 :: g139 :: g140 :: g141 :: g142 :: g143 :: g144 :: g145 :: g146 :: g147 :: g148 :: g149 :: g150 :: g151 :: g152 :: g153 :: g154 :: g155 :: g156 :: g157 :: g158 :: g159 :: g160 :: g161 :: g162 :: g163 :: g164 :: g165 :: g166 :: g167 :: g168 :: g169 :: g170 :: g171 :: g172 :: g173 :: g174 :: g175 :: g176 :: g177 :: g178 :: g179 :: g180 :: g181 :: g182 :: g183 :: g184 :: g185 :: g186 :: g187 :: g188 :: g189 :: g190 :: g191 :: g192 :: g193 :: g194 :: g195 :: g196 :: g197 :: g198 :: g199 :: g200 :: g201 :: g202 :: g203 :: g204 :: g205 :: g206 :: g207 :: g208 :: g209 :: g210 :: g211 :: g212 :: g213 :: g214 :: g215 :: g216 :: g217 :: g218 :: g219 :: g220 :: g221 :: g222 :: g223 :: g224 :: g225 :: g226 :: g227 :: g228 :: g229 :: g230 :: g231 :: g232 :: g233 :: g234 :: g235 :: g236 :: g237 :: g238 :: g239 :: g240 :: g241 :: g242 :: g243 :: g244 :: g245 :: []), []⟩ wc := by
  have HP := Lib.hid HP
  have HEND := Lib.hid HEND
  simp only [Tryd.f4, Option.getD_some, codeSeq, codeBlock, codeCond, Nat.reduceEqDiff, ↓reduceIte, Option.none_or, Option.or_none, Option.some_or, Option.some.injEq] at hcode
  subst hcode
  go_upto_region 24 with fail
  generalize hw9 : World.alloc wc _ = w9
  have hw9' : Blk w9 wc.heap.size signed0C 31 ∧ Kept (fun _ => False) wc w9 := by rw [← hw9]; exact ⟨Blk.new _ _ _, (Kept.refl _ _).alloc _⟩
  have hU9 := hU.new hw9'.2 hw9'.1 (Nat.le_refl _)
  have HH9 := Lib.hid (And.intro (hU9.dn.blk (y := (hb, H, 25)) (by simp)).range0 (show (Tryd.prog.info? 25).map (·.size) = some H.length by rw [HHC.out.2]; exact info_head))
  have HLT := Lib.hid (show ∀ x ∈ ((hb, H, 25) :: (xb, X, 59) :: Lcs kb bb C L : List Loc), x.1 < wc.heap.size from fun x q => (hU.dn.blk q).lt)
  have hsc := sign_cases hU9 hM hr h8 HZ.out.2
  unfold headV at hsc
  rw [← HHC.out.1] at hsc
  have HM := Lib.hid (And.intro hr (And.intro h8 (And.intro s0 sI)))
  have HS9 := Lib.hid (show wc.heap.size < w9.heap.size from hw9'.1.lt)
  clear hw9 hw9' hU9 hr h8 hM s0 sI hU
  generalize hsb : wc.heap.size = sb at *
  rcases hsc with hsc | ⟨m, L', m8, hL', hLm, hr', hLL, hsc⟩
  · have HSC := Lib.hid hsc
    clear hsc
    go_upto_region 25 with (first | ((with_reducible show wpList _ _ _ (⟨some 65, _, _, _, _, _⟩ :: _) _ _); refine wpList_load_mid rfl 25 _ rfl hb 0 rfl H _ HH9.out.1 Tryd.underlying25 rfl HH9.out.2 ?_) | (go_at_call 5; refine HSC.out.mono ?_; rintro e w10 ⟨x, hx0, rfl, HO10⟩) | ((with_reducible show wpList _ _ _ (⟨none, .store _ (.tmp 14) _, _, _, _, _⟩ :: _) _ _); refine wpList_store_mid rfl 31 _ _ rfl sb 0 signed0C.toArray rfl rfl ?hte ?hie ?h1e ?_))
    case hte => exact (sign_none signed0_len (fun x q => Nat.ne_of_lt (HLT.out x q)) HO10.out).1
    case hie => exact (by rw [List.size_toArray]; exact info_signed0)
    case h1e => exact signed0_one
    have hs := (sign_none signed0_len (fun x q => Nat.ne_of_lt (HLT.out x q)) HO10.out).2
    generalize World.setCells w10 sb 0 _ = w11 at hs
    have HS := Lib.hid hs
    have z1 : (x == 0) = false := by simpa using hx0
    have z2 : decide (x = 0) = false := decide_eq_false hx0
    clear hs HO10 HSC hx0
    go_wp2_with fail
    obtain ⟨q1, q2, q3, q4⟩ := HM.out
    exact (Lib.hid (HS.out.elim (fun ⟨M', h1, h2⟩ => ⟨M', L, s1, rfl, q1, q2, q3, Int.le_trans q4 (by simp), Or.inl ⟨r, rfl, h1, h2⟩⟩) (fun ⟨M', h1, h2⟩ => ⟨M', L, s1, rfl, q1, q2, q3, Int.le_trans q4 (by simp), Or.inr ⟨h1, h2⟩⟩)))
  · have HSC := Lib.hid hsc
    have HQ := Lib.hid (And.intro hL' (And.intro hLm (And.intro hr' hLL)))
    clear hsc hL' hLm hr' hLL
    go_upto_region 25 with (first | ((with_reducible show wpList _ _ _ (⟨some 65, _, _, _, _, _⟩ :: _) _ _); refine wpList_load_mid rfl 25 _ rfl hb 0 rfl H _ HH9.out.1 Tryd.underlying25 rfl HH9.out.2 ?_) | (go_at_call 5; refine HSC.out.mono ?_; rintro e w10 ⟨M', hM', a, c, Y, rfl, HY⟩; have HM' := Lib.hid hM'; clear hM') | ((with_reducible show wpList _ _ _ (⟨none, .store _ (.tmp 14) _, _, _, _, _⟩ :: _) _ _); refine wpList_store_mid rfl 31 _ _ rfl sb 0 Y.toArray rfl rfl ?htf ?hif ?h1f ?_))
    case htf => exact (HY.out.2.2.2.2.1.put 0 Y (by rw [HY.out.2.1, signed0_len]; omega) (fun x q => Nat.ne_of_lt (HLT.out x q))).1
    case hif => exact info_sized HY.out.2.1
    case h1f => exact all_oneCell_toArray HY.out.2.2.1
    have hp := HY.out.2.2.2.2.1.put 0 Y (by rw [HY.out.2.1, signed0_len]; omega) (fun x q => Nat.ne_of_lt (HLT.out x q))
    rw [splice_whole (by rw [HY.out.2.1, signed0_len])] at hp
    have hrow := HY.out.2.2.2.1.kept hp.2.2 (fun k1 q e => by
      have h1 := HY.out.2.2.2.2.2 k1 q
      have h2 := HS9.out
      omega)
    generalize World.setCells w10 sb 0 _ = w11 at hp hrow
    have U11 := Lib.hid hp.2.1
    have ROW := Lib.hid hrow
    have HBY := Lib.hid (hp.2.1.dn.blk (y := (sb, Y, 31)) (by simp))
    have HBH := Lib.hid (hp.2.1.dn.blk (y := (hb, H, 25)) (by simp))
    have HBK := Lib.hid (hp.2.1.dn.blk (y := (kb, C, 23)) (by simp))
    have HBB := Lib.hid (hp.2.1.dn.blk (y := (bb, hdC (byH L), 57)) (by simp))
    have HNE := Lib.hid (And.intro (HBH.out.ne34 HBB.out (show (25 : Nat) ≠ 57 by decide)) (And.intro ((hp.2.1.dn.blk (y := (xb, X, 59)) (by simp)).ne34 HBB.out (show (59 : Nat) ≠ 57 by decide)) (HBK.out.ne34 HBB.out (show (23 : Nat) ≠ 57 by decide))))
    have c33 : w11.cell? ⟨sb, 33, none⟩ = some (.int .i64 (m : Int)) := HBY.out.cell (by rw [HY.out.1]; exact (signed_at HZ.out.2.2.2).2.1)
    have hck : ∀ w', Kept (fun _ => False) w11 w' → Calls Tryd.prog 15 #[.agg C.toArray, .agg Y.toArray] w' fun e w2 => e = .returned (.int .i64 0) ∧ Kept (fun _ => False) w' w2 := by
      intro w' kk
      have h := check_of HY.out.1 (by have := HZ.out.2.2.1; omega) HZ.out.2.2.2 m8 (ROW.out.kept kk (fun _ _ => id)) (U11.out.dn.tab.same kk)
      have e : hashV (rootF (leavesF sd.data.toList)) = .agg C.toArray := by rw [HC.out, HKEY.out.1]
      rw [e] at h
      exact h
    have hus : ∀ w', Kept (fun _ => False) w11 w' → Calls Tryd.prog 7 #[.pointer (some ⟨r, 0, none⟩)] w' fun e w2 => e = .returned (.int .i64 ((m : Int) + 1)) ∧ w' = w2 := by
      intro w' kk
      have h := (U11.out.same kk).used
      rw [show ((⟨sd, L', s1, false⟩ : RingM).signed.length : Int) = (m : Int) + 1 by show (L'.length : Int) = _; have := HQ.out.1; omega] at h
      exact h
    have HCK := Lib.hid hck
    have HUS := Lib.hid hus
    have HIh := Lib.hid (show (Tryd.prog.info? 25).map (·.size) = some H.length by rw [HHC.out.2]; exact info_head)
    have HIk := Lib.hid (show (Tryd.prog.info? 23).map (·.size) = some C.length by rw [HC.out, bytes8_len, HKEY.out.2]; exact info_h32)
    have HIy := Lib.hid (info_sized HY.out.2.1)
    have hneq : ∀ w', (binOp .neq 25 (.agg H.toArray) (.agg H.toArray)).run Tryd.prog w' = .ok (.bool false) w' := by
      intro w'
      have h := neq_head w' (hz.1 : Int) (hz.1 : Int) hz.2 hz.2 HZ.out.2.2.2 HZ.out.2.2.2
      unfold headV at h
      rw [← HHC.out.1] at h
      simpa using h
    have hlt4 := And.intro HBY.out.lt (And.intro HBH.out.lt (And.intro HBK.out.lt HBB.out.lt))
    have HL4 := Lib.hid hlt4
    obtain ⟨a1, p1, q, hq1, hq8, hat, hpt, ha1, hset, hmax⟩ := once_at HQ.out.1 HQ.out.2.1 HQ.out.2.2.1 m8 HM.out.2.1 HQ.out.2.2.2
    have SA := s27_of (m := m) (q := q) HBY.out HBH.out HBK.out HBB.out (byH_32 HM.out.1.ok) HY.out.1 HHC.out.1 hat hpt
    have HSET := Lib.hid (And.intro hset (And.intro hmax (And.intro (show m < (byH L).length by rw [byH_len HM.out.2.1]; exact m8) (byH_32 HM.out.1.ok))))
    have HROOM := Lib.hid (show m * 33 + 33 ≤ 8 * 33 by omega)
    clear hp hrow hck hus hlt4 hat hpt hset hmax HH9 HSC HS9
    obtain ⟨zz, hzz⟩ : ∃ zz : Int, zz = (hz.1 : Int) := ⟨_, rfl⟩
    obtain ⟨pp, hpp⟩ : ∃ pp : Int, pp = (p1.1 : Int) := ⟨_, rfl⟩
    rw [← hzz, ← hpp] at SA
    have zp := nums27z (zz := zz) (pp := pp) (by rw [hzz]; have := HZ.out.2.1; omega)
    have hpz : 0 < m → pp < zz := fun h => by have := (hq1 h).2; omega
    have HZZ := Lib.hid hzz
    have hnn := nums27 m8 (fun h => (hq1 h).1) hq8
    clear hzz hpp
    have HNN := Lib.hid hnn
    clear hnn hq1 hq8
    go_upto_region 26 with fail
    have i6 := HNN.out.2.2.2.2.2.2.2.1
    go_upto_region 27 with fail
    clear c33
    obtain ⟨i0, i1, i2, i3, i4, i5, i6', i7, i8, i9⟩ := HNN.out
    clear i6
    have i6 := i6'
    clear i6'
    obtain ⟨j1, j2, j3, j4⟩ := zp
    have HCASE : Hid ((m = 0 ∧ decide ((0 : Int) < (m : Int)) = false ∧ decide (0 < m) = false) ∨ (decide ((0 : Int) < (m : Int)) = true ∧ decide (0 < m) = true ∧ IntKind.i64.wrap ((m : Int) - 1) = (q : Int) ∧ wrap64 ((m : Int) - 1) = (q : Int) ∧ decide (zz ≤ pp) = false)) := Lib.hid (by
      rcases Nat.eq_zero_or_pos m with hm0 | hm0
      · exact Or.inl ⟨hm0, i8 hm0, decide_eq_false (by rw [hm0]; exact Nat.lt_irrefl 0)⟩
      · obtain ⟨k1, k2, k3⟩ := i9 hm0
        exact Or.inr ⟨k1, decide_eq_true hm0, k2, k3, j4 (hpz hm0)⟩)
    have HSA : Hid (S27 w11 w11.drew sb hb kb bb m q Y H C H zz pp zz ∨ S27 w11 w11.drew sb hb kb bb m q Y H C (headC 0 zeroRoot) 0 pp zz) := Lib.hid (by
      rcases ha1 with rfl | rfl
      · rw [← HHC.out.1, ← HZZ.out] at SA
        exact Or.inl SA
      · exact Or.inr SA)
    clear i8 i9 j4 hpz SA ha1
    refine once27 HCK HUS HL4 HIh HIk HIy hneq i0 i1 i2 i3 i4 i5 i6 i7 j1 j2 j3 HCASE HSA (fun _ _ _ _ _ h => HP.out _ _ _ _ _ h) ?_
    intro v74 v75 v76 v77 v78 v79 v80 v81 v82 v83 v84 v85 v86 v87 v88 v89 v90 v91 v92 v93 v94 v95 v96 v97 v98 v99 v100 v101 v102 v103 v104 v105 v106 v107 v108 v109 v110 v111 v112 v113 v114 v115 v116 v117 v118 v119 v120 v121 v122 v123 v124 v125 w12 hk12
    have U12 := Lib.hid ((U11.out.same hk12).fewer (Lc' := (bb, hdC (byH L), 57) :: [(hb, H, 25), (xb, X, 59), (kb, C, 23)]) (fun x q => by simp only [List.mem_cons, List.not_mem_nil, or_false] at q ⊢; rcases q with rfl | rfl | rfl | rfl <;> simp))
    have HB12 := Lib.hid ((U12.out.dn.blk (y := (hb, H, 25)) (by simp)).range0)
    have PUT := Lib.hid (U12.out.put (m * 33) H (by rw [HHC.out.2, hdC_len HSET.out.2.2.2, byH_len HM.out.2.1]; exact HROOM.out) (fun x q => by simp only [List.mem_cons, List.not_mem_nil, or_false] at q; rcases q with rfl | rfl | rfl <;> first | exact HNE.out.1 | exact HNE.out.2.1 | exact HNE.out.2.2))
    clear hk12
    go_wp2_with (first | ((with_reducible show wpList _ _ _ (⟨some 128, _, _, _, _, _⟩ :: _) _ _); refine wpList_load_mid rfl 25 _ rfl hb 0 rfl H _ HB12.out Tryd.underlying25 rfl HIh.out ?_) | ((with_reducible show wpList _ _ _ (⟨none, .store _ (.tmp 129) _, _, _, _, _⟩ :: _) _ _); refine wpList_store_mid rfl 25 _ _ rfl bb (m * 33) H.toArray rfl rfl ?htg ?hig ?h1g ?_))
    case htg => simpa using PUT.out.1
    case hig => simpa using HIh.out
    case h1g => exact (by rw [HHC.out.1]; exact head_oneCell)
    have HP2 := Lib.hid PUT.out.2.1
    generalize World.setCells w12 bb (m * 33) _ = w13 at HP2
    have hmx := max_cast HSET.out.2.1
    rw [hmx]
    have hsp := hdC_set HSET.out.2.2.2 HZ.out.2.2.2 HSET.out.2.2.1
    rw [← HHC.out.1, HSET.out.1] at hsp
    rw [hsp] at HP2
    obtain ⟨q1, q2, q3, q4⟩ := HM.out
    exact HEND.out (m + 1) _ _ _ _ _ _ _ _ _ _ _ _ _ _ _ _ _ _ _ _ _ _ _ _ _ _ _ _ _ _ _ _ _ _ _ _ _ _ _ _ _ _ _ _ _ _ _ _ _ _ _ _ _ _ _ _ _ _ _ _ _ _ _ _ _ _ _ _ _ _ _ _ _ _ _ _ _ _ _ _ _ _ _ _ _ _ _ _ _ _ _ (Lib.hid ⟨M', L', s1, HQ.out.1, HQ.out.2.2.1, m8, q3, Int.le_trans q4 (by simp), Or.inl ⟨r, rfl, HM'.out, HP2.out.fewer (fun x q => by simp only [List.mem_cons, List.not_mem_nil, or_false] at q ⊢; rcases q with rfl | rfl | rfl | rfl <;> simp)⟩⟩)

end Go.Proofs.YtaimokclhcfohaaDoor
