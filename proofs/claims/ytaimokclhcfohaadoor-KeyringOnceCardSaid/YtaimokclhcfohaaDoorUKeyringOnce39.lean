/- The law KeyringOnce: the loop in which the disk is started again. -/
import Derived.Deep.CutRange
import Derived.Test.YtaimokclhcfohaaDoorUKeyringOnce38
import Derived.Test.YtaimokclhcfohaaDoorUKeyringOnce01
set_option linter.unusedVariables false
set_option linter.unusedSimpArgs false
namespace Go.Proofs.YtaimokclhcfohaaDoor
open Go.RowKit

theorem nums47 {t : Nat} (h : t ≤ 8) : decide ((t : Int) + 1 < (t : Int)) = false ∧ decide ((t : Int) < (t : Int) + 1) = true ∧ wrap64 ((t : Int) + 1) = (t : Int) + 1 ∧ IntKind.i64.wrap ((t : Int) + 1) = (t : Int) + 1 ∧ decide ((0 : Int) < (t : Int) + 1) = true ∧ (((t : Int) + 1) == (t : Int)) = false ∧ decide ((t : Int) + 1 = (t : Int)) = false ∧
    (0 < t → decide ((0 : Int) < (t : Int)) = true ∧ ∃ q : Nat, q + 1 = t ∧ IntKind.i64.wrap ((t : Int) - 1) = (q : Int) ∧ wrap64 ((t : Int) - 1) = (q : Int) ∧ (q : Int) < 8) ∧ (t = 0 → decide ((0 : Int) < (t : Int)) = false) := by
  have h1 : (0 : Int) ≤ t ∧ (t : Int) ≤ 8 := by omega
  refine ⟨decide_eq_false (by omega), decide_eq_true (by omega), IntWalk.wrap64_in _ (by omega), IntWalk.i64_in _ (by omega), decide_eq_true (by omega), ?_, decide_eq_false (by omega), fun h0 => ⟨decide_eq_true (by omega), t - 1, by omega, ?_, ?_, by omega⟩, fun h0 => decide_eq_false (by omega)⟩
  · rw [beq_eq_false_iff_ne]; omega
  · rw [show (t : Int) - 1 = ((t - 1 : Nat) : Int) by omega]; exact IntWalk.i64_in _ (by omega)
  · rw [show (t : Int) - 1 = ((t - 1 : Nat) : Int) by omega]; exact IntWalk.wrap64_in _ (by omega)
set_option maxRecDepth 100000 in
set_option maxHeartbeats 8000000 in
theorem once_loop {w wc : World} {d hb xb kb bb i told0 : Nat} {vv : Value} {sd : ByteArray} {K : By} {C X H C' : List Value} {k z o N M : Int} {s : ByteArray} {hz : Hd} {Q : Exit → Act → World → Prop} {g0 g1 g2 g4 g6 g10 g13 g14 g15 g17 g18 g19 g20 g21 g22 g23 g24 g25 g26 g27 g28 g29 g30 g31 g32 g33 g34 g35 g36 g37 g38 g39 g40 g41 g42 g43 g44 g45 g46 g47 g48 g49 g50 g51 g52 g53 g54 g55 g56 g57 g58 g59 g60 g61 g62 g63 g64 g65 g66 g67 g68 g69 g70 g71 g72 g73 g74 g75 g76 g77 g78 g79 g80 g81 g82 g83 g84 g85 g86 g87 g88 g89 g90 g91 g92 g93 g94 g95 g96 g97 g98 g99 g100 g101 g102 g103 g104 g105 g106 g107 g108 g109 g110 g111 g112 g113 g114 g115 g116 g117 g118 g119 g120 g121 g122 g123 g124 g125 g126 g127 g128 g129 g130 g131 g132 g133 g134 g135 g136 g137 g138 g139 g140 g141 g142 g143 g144 g145 g146 g147 g148 g149 g150 g151 g152 g153 g154 g155 g156 g157 g158 g159 g160 g161 g162 g163 g164 g165 g166 g167 g168 g169 g170 g171 g172 g173 g174 g175 g176 g177 g178 g179 g180 g181 g182 g183 g184 g185 g186 g187 g188 g189 g190 g191 g192 g193 g194 g195 g196 g197 g198 g199 g200 g201 g202 g203 g204 g205 g206 g207 g208 g209 g210 g211 g212 g213 g214 g215 g216 g217 g218 g219 g220 g221 g222 g223 g224 g225 g226 g227 g228 g229 g230 g231 g232 g233 g234 g235 g236 g237 g238 g239 g240 g241 g242 g243 g244 g245 : Value} {code : Code} (hcode : codeBlock 3 (Tryd.f4.body.getD .skip) = some code) (HKEY : Hid (K = rootF (leavesF sd.data.toList) ∧ List.length K = 32)) (HSD : Hid (sd = ⟨#[114, 105, 110, 103]⟩)) (HZ : Hid (True ∧ HdOk hz)) (HHC : Hid (H = headC (hz.1 : Int) hz.2 ∧ H.length = 33)) (HX : Hid (ActL X k z o N M C' s)) (hi14 : i ≤ 14) (HM0 : Hid (MidR w wc d sd C X H hb xb kb bb hz i 0 vv told0))
    (HP : ∀ c a (k : Nat) v w, Q (.panic c) (Act.put a (some k) v) w → Q (.panic c) a w) (HEND : ∀ (v5 : Value) (told2 : Nat) (v2 v149 v150 v151 v152 v153 v154 v155 v156 v157 v16 v158 v159 v160 v161 v162 v163 v164 v165 v166 v167 v168 v169 v170 v171 v173 v174 v172 v175 v176 v17 v18 v177 v178 v179 v180 v181 v182 v183 v184 v185 v186 v187 v188 v189 v190 v191 v192 v193 v195 v196 v194 v197 v198 v19 v20 v199 v200 v201 v202 v203 v204 v205 v206 v207 v208 v209 v210 v211 v212 v213 v214 v215 v216 v217 v218 v219 v220 v221 v222 v223 v224 v225 v226 v227 v228 v229 v230 v231 v232 v233 v234 v235 v236 v237 v238 v239 v240 v241 : Value) (w' : World), Hid (OutR w w' d kb bb sd C (i + 1) v5 told2) → Q .normal ⟨List.toArray (g0 :: g1 :: v2 :: (.pointer (some ⟨d, 0, none⟩)) :: g4 :: (v5) :: g6 :: (.pointer (some ⟨kb, 0, none⟩)) :: (.pointer (some ⟨bb, 0, none⟩)) :: (.int .i64 (told2 : Int)) :: g10 :: (.pointer (some ⟨xb, 0, none⟩)) :: (.pointer (some ⟨hb, 0, none⟩)) :: g13 :: g14 :: g15 :: v16 :: v17 :: v18 :: v19 :: v20 :: g21 :: g22 :: g23 :: g24 :: g25 :: g26 :: g27 :: g28 :: g29 :: g30 :: g31 :: g32 :: g33 :: g34 :: g35 :: g36 :: g37 :: g38 :: g39 :: g40 :: g41 :: g42 :: g43 :: g44 :: g45 :: g46 :: g47 :: g48 :: g49 :: g50 :: g51 :: g52 :: g53 :: g54 :: g55 :: g56 :: g57 :: g58 :: g59 :: g60 :: g61 :: g62 :: g63 :: g64 :: g65 :: g66 :: g67 :: g68 :: g69 :: g70 :: g71 :: g72 :: g73 :: g74 :: g75 :: g76 :: g77 :: g78 :: g79 :: g80 :: g81 :: g82 :: g83 :: g84 :: g85 :: g86 :: g87 :: g88 :: g89 :: g90 :: g91 :: g92 :: g93 :: g94 :: g95 :: g96 :: g97 :: g98 :: g99 :: g100 :: g101 :: g102 :: g103 :: g104 :: g105 :: g106 :: g107 :: g108 :: g109 :: g110 :: g111 :: g112 :: g113 :: g114 :: g115 :: g116 :: g117 :: g118 :: g119 :: g120 :: g121 :: g122 :: g123 :: g124 :: g125 :: g126 :: g127 :: g128 :: g129 :: g130 :: g131 :: g132 :: g133 :: g134 :: g135 :: g136 :: g137 :: g138 :: g139 :: g140 :: g141 :: g142 :: g143 :: g144 :: g145 :: g146 :: g147 :: g148 :: v149 :: v150 :: v151 :: v152 :: v153 :: v154 :: v155 :: v156 :: v157 :: v158 :: v159 :: v160 :: v161 :: v162 :: v163 :: v164 :: v165 :: v166 :: v167 :: v168 :: v169 :: v170 :: v171 :: v172 :: v173 :: v174 :: v175 :: v176 :: v177 :: v178 :: v179 :: v180 :: v181 :: v182 :: v183 :: v184 :: v185 :: v186 :: v187 :: v188 :: v189 :: v190 :: v191 :: v192 :: v193 :: v194 :: v195 :: v196 :: v197 :: v198 :: v199 :: v200 :: v201 :: v202 :: v203 :: v204 :: v205 :: v206 :: v207 :: v208 :: v209 :: v210 :: v211 :: v212 :: v213 :: v214 :: v215 :: v216 :: v217 :: v218 :: v219 :: v220 :: v221 :: v222 :: v223 :: v224 :: v225 :: v226 :: v227 :: v228 :: v229 :: v230 :: v231 :: v232 :: v233 :: v234 :: v235 :: v236 :: v237 :: v238 :: v239 :: v240 :: v241 :: g242 :: g243 :: g244 :: g245 :: []), []⟩ w') :
    Code.wp Tryd.prog code Q ⟨List.toArray (g0 :: g1 :: g2 :: (.pointer (some ⟨d, 0, none⟩)) :: g4 :: (vv) :: g6 :: (.pointer (some ⟨kb, 0, none⟩)) :: (.pointer (some ⟨bb, 0, none⟩)) :: (.int .i64 (told0 : Int)) :: g10 :: (.pointer (some ⟨xb, 0, none⟩)) :: (.pointer (some ⟨hb, 0, none⟩)) :: g13 :: g14 :: g15 :: (.int .i64 0) :: g17 :: g18 :: g19 :: g20 :: g21 :: g22 :: g23 :: g24 :: g25 :: g26 :: g27 :: g28 :: g29 :: g30 :: g31 :: g32 :: g33 :: g34 :: g35 :: g36 :: g37 :: g38 :: g39 :: g40 :: g41 :: g42 :: g43 :: g44 :: g45 :: g46 :: g47 :: g48 :: g49 :: g50 :: g51 :: g52 :: g53 :: g54 :: g55 :: g56 :: g57 :: g58 :: g59 :: g60 :: g61 :: g62 :: g63 :: g64 :: g65 :: g66 :: g67 :: g68 :: g69 :: g70 :: g71 :: g72 :: g73 :: g74 :: g75 :: g76 :: g77 :: g78 :: g79 :: g80 :: g81 :: g82 :: g83 :: g84 :: g85 :: g86 :: g87 :: g88 :: g89 :: g90 :: g91 :: g92 :: g93 :: g94 :: g95 :: g96 :: g97 :: g98 :: g99 :: g100 :: g101 :: g102 :: g103 :: g104 :: g105 :: g106 :: g107 :: g108 :: g109 :: g110 :: g111 :: g112 :: g113 :: g114 :: g115 :: g116 :: g117 :: g118 :: g119 :: g120 :: g121 :: g122 :: g123 :: g124 :: g125 :: g126 :: g127 :: g128 :: g129 :: g130 :: g131 :: g132 :: g133 :: g134 :: g135 :: g136 :: g137 :: g138 :: g139 :: g140 :: g141 :: g142 :: g143 :: g144 :: g145 :: g146 :: g147 :: g148 :: g149 :: g150 :: g151 :: g152 :: g153 :: g154 :: g155 :: g156 :: g157 :: g158 :: g159 :: g160 :: g161 :: g162 :: g163 :: g164 :: g165 :: g166 :: g167 :: g168 :: g169 :: g170 :: g171 :: g172 :: g173 :: g174 :: g175 :: g176 :: g177 :: g178 :: g179 :: g180 :: g181 :: g182 :: g183 :: g184 :: g185 :: g186 :: g187 :: g188 :: g189 :: g190 :: g191 :: g192 :: g193 :: g194 :: g195 :: g196 :: g197 :: g198 :: g199 :: g200 :: g201 :: g202 :: g203 :: g204 :: g205 :: g206 :: g207 :: g208 :: g209 :: g210 :: g211 :: g212 :: g213 :: g214 :: g215 :: g216 :: g217 :: g218 :: g219 :: g220 :: g221 :: g222 :: g223 :: g224 :: g225 :: g226 :: g227 :: g228 :: g229 :: g230 :: g231 :: g232 :: g233 :: g234 :: g235 :: g236 :: g237 :: g238 :: g239 :: g240 :: g241 :: g242 :: g243 :: g244 :: g245 :: []), []⟩ wc := by
  have HP := Lib.hid HP
  have HEND := Lib.hid HEND
  simp only [Tryd.f4, Option.getD_some, codeSeq, codeBlock, codeCond, Nat.reduceEqDiff, ↓reduceIte, Option.none_or, Option.or_none, Option.some_or, Option.some.injEq] at hcode
  subst hcode
  go_wp2_with fail
  go_loopw [5, 9, 16] (fun v y z wr => ∃ (u : Value) (told n : Nat), u = v ∧ y = .int .i64 (told : Int) ∧ z = .int .i64 (n : Int) ∧ Hid (LoopR w wr d sd C X H hb xb kb bb hz i n u told)) (fun _ _ z _ => 4 - (intOf z).toNat)
  case atStart => exact ⟨_, _, 0, rfl, rfl, rfl, Lib.hid ⟨by omega, HM0.out.parts.imp id (fun q => ⟨by omega, q⟩)⟩⟩
  case round =>
    obtain ⟨v, told, n, hvv, rfl, rfl, HR⟩ := hrel
    subst hvv
    have hn4 := HR.out.1
    have x1 : decide ((n : Int) < 20) = true := by simp; omega
    have x2 : decide (n < 20) = true := by simp; omega
    rcases HR.out.2 with hU | ⟨hn3, hD⟩
    · have hup : Calls Tryd.prog 17 #[.pointer (some ⟨d, 0, none⟩)] wr fun e w' => e = .returned (.bool true) ∧ wr = w' := by
        obtain ⟨r, M, L, s, -, -, -, -, -, -, h7, h8⟩ := hU
        exact h8.dn.isup (by rw [h7.up.1]; rfl)
      have HUP := Lib.hid hup
      have HO := Lib.hid (hU.out hn4)
      clear hU hup HR
      go_wp2_with (go_at_call 17; refine HUP.out.mono ?_; rintro e w' ⟨rfl, rfl⟩)
      exact HO
    · obtain ⟨Md, L, s1, htold, hr, h8, s0, sI, hDn, hd⟩ := hD
      obtain ⟨L', M1, hst, hMd, hL', hr', h8'⟩ := hDn.start
      have HUP := Lib.hid (hd.isup (b := false) (by rw [hDn.down.1]; rfl))
      have HST := Lib.hid (hd.start ⟨by rw [hDn.down.2]; omega, by rw [hDn.down.2]; omega⟩ hst)
      have HM := Lib.hid (And.intro hr (And.intro h8 (And.intro s0 (And.intro sI (And.intro hMd (And.intro hL' (And.intro hr' (And.intro h8' hn3))))))))
      have HTD := Lib.hid htold
      clear htold hr h8 s0 sI hMd hL' hr' h8' hDn hd hst HR
      go_upto_if 162 with (first | (go_at_call 17; refine HUP.out.mono ?_; rintro e w' ⟨rfl, rfl⟩) | (go_at_call 18; refine HST.out.mono ?_; rintro e w1 ⟨rfl, hd1⟩; have HD1 := Lib.hid hd1; clear hd1))
      clear x1 x2 hn4
      go_cut [] from 149 to 241 (fun wx => ∃ (f : Bool) (M2 : DiskM), Hid (MdM L' (s1 + 1) f M2 ∧ (f = true → n < 3) ∧ Dn w wx d M2 [(hb, H, 25), (xb, X, 59), (kb, C, 23), (bb, hdC (byH L), 57)]))
      case first =>
        by_cases h3 : n < 3
        · have y1 : decide ((n : Int) < 3) = true := by simp; omega
          have y2 : decide (n < 3) = true := decide_eq_true h3
          obtain ⟨F, hF, hF0⟩ : ∃ F : Int, bits .and .i64 (wrap64 (N + (n : Int))) 3 = F ∧ (0 ≤ F ∧ F ≤ 3) := ⟨_, i64_mask 2 (by decide) _, by constructor <;> omega⟩
          obtain ⟨M2, he, hM2⟩ := HM.out.2.2.2.2.1.fail hF0.1 M
          have HFL := Lib.hid (HD1.out.fail F M (by omega) HX.out.m0 he)
          have HM2 := Lib.hid hM2
          have hblk := HD1.out.blk (y := (xb, X, 59)) (by simp)
          have c36 := hblk.cell HX.out.c36
          have c37 := hblk.cell HX.out.c37
          clear hblk he hM2 hF0
          go_wp2_with (go_at_call 16; refine HFL.out.mono ?_; rintro e w2 ⟨rfl, hd2⟩; have HD2 := Lib.hid hd2; clear hd2)
          go_meet
          exact ⟨true, M2, Lib.hid ⟨HM2.out, fun _ => h3, HD2.out⟩⟩
        · have y1 : decide ((n : Int) < 3) = false := by simp; omega
          have y2 : decide (n < 3) = false := decide_eq_false h3
          go_wp2_with fail
          go_meet
          exact ⟨false, M1, Lib.hid ⟨HM.out.2.2.2.2.1, (fun h => by cases h), HD1.out⟩⟩
      case rest =>
        obtain ⟨f, M2, HM2⟩ := hcut
        have hop := HM2.out.2.2.opens sd (by rw [HSD.out]; decide) HM2.out.1.up.2.2
        rcases HM2.out.1.open (L := L) (h := hz) HM.out.2.2.2.2.2.1 HM.out.2.2.2.2.2.2.1 HM.out.2.2.2.2.2.2.2.1 with ⟨M3, eo, hU3⟩ | ⟨hf, l, M3, eo, hD3⟩
        · rw [eo, show sd = (⟨#[114, 105, 110, 103]⟩ : ByteArray) from HSD.out] at hop
          have HOP := Lib.hid hop
          have HU3 := Lib.hid hU3
          clear hop eo hU3 HUP HST HD1
          go_upto_region 43 with (go_at_call 10; refine HOP.out.mono ?_; intro e w3 ho; obtain ⟨r2, rfl, hU4⟩ : ∃ r2, e = .returned (.tuple #[.pointer (some ⟨r2, 0, none⟩), .int .i64 0]) ∧ Up w w3 d r2 ⟨sd, L', s1 + 1, false⟩ M3 [(hb, H, 25), (xb, X, 59), (kb, C, 23), (bb, hdC (byH L), 57)] := (ho.elim (fun q => absurd rfl q.1) (fun ⟨_, r, q1, q2⟩ => ⟨r, q1, by rw [HSD.out, ← HU3.out.up.2.1]; exact q2⟩)); have HU4 := Lib.hid hU4; clear ho hU4)
          clear HOP
          have hl32 : (lastH L').2.length = 32 := lastH_32 HM.out.2.2.2.2.2.2.1.ok
          obtain ⟨lh, hlh⟩ : ∃ lh : Hd, lh = lastH L' := ⟨_, rfl⟩
          rw [← hlh] at hl32
          obtain ⟨ok, hok⟩ : ∃ ok : Bool, ok = !L'.isEmpty := ⟨_, rfl⟩
          obtain ⟨HL, hHL⟩ : ∃ HL : List Value, HL = headC (lh.1 : Int) lh.2 := ⟨_, rfl⟩
          have hla : Calls Tryd.prog 6 #[.pointer (some ⟨r2, 0, none⟩)] w3 fun e w' => e = .returned (.tuple #[.agg HL.toArray, .bool ok]) ∧ Kept (fun _ => False) w3 w' := by
            have h := last_up HU4.out
            change Calls _ _ _ _ (fun e w' => e = .returned (.tuple #[.agg (headC ((lastH L').1 : Int) (lastH L').2).toArray, .bool (!L'.isEmpty)]) ∧ Kept (fun _ => False) w3 w') at h
            rw [← hlh, ← hHL, ← hok] at h
            exact h
          have HLA := Lib.hid hla
          have hL33 : HL.length = 33 := by rw [hHL]; exact headC_len hl32
          have HHL := Lib.hid (And.intro hHL (And.intro hL33 (And.intro hlh (And.intro hok hl32))))
          have HIl := Lib.hid (show (Tryd.prog.info? 25).map (·.size) = some HL.length by rw [hL33]; exact info_head)
          have hneq : ∀ w', (binOp .neq 25 (.agg HL.toArray) (.agg HL.toArray)).run Tryd.prog w' = .ok (.bool false) w' := by
            intro w'
            have h := neq_head w' (lh.1 : Int) (lh.1 : Int) lh.2 lh.2 hl32 hl32
            unfold headV at h
            rw [← hHL] at h
            simpa using h
          have HNQ := Lib.hid hneq
          clear hla hHL hlh hok hl32 hL33 hneq
          have ht8 : told ≤ 8 := HM.out.2.1
          have HN := Lib.hid (nums47 ht8)
          clear ht8
          rcases HM.out.2.2.2.2.2.1 with rfl | hLz
          · skip
            have hus : ∀ w', Kept (fun _ => False) w3 w' → Calls Tryd.prog 7 #[.pointer (some ⟨r2, 0, none⟩)] w' fun e w2 => e = .returned (.int .i64 ((told : Int))) ∧ w' = w2 := by
              intro w' kk
              have h := (HU4.out.same kk).used
              rw [show ((⟨sd, L', s1 + 1, false⟩ : RingM).signed.length : Int) = (told : Int) by show (L'.length : Int) = _; rw [HTD.out]] at h
              exact h
            have HUS := Lib.hid hus
            have HU5 := Lib.hid (hus w3 (Kept.refl _ _))
            clear hus
            obtain ⟨e1, e2, e3, e4, -⟩ := HN.out
            go_upto_region 47 with (first | (go_at_call 7; refine HU5.out.mono ?_; rintro e w' ⟨rfl, rfl⟩) | (go_at_call 6; refine HLA.out.mono ?_; rintro e w4 ⟨rfl, hk4⟩; have HK4 := Lib.hid hk4; clear hk4) | ((with_reducible show wpList _ _ _ (⟨none, .store _ (.tmp 19) _, _, _, _, _⟩ :: _) _ _); refine wpList_store_mid rfl 25 _ _ rfl w4.heap.size 0 HL.toArray rfl rfl ?hta ?hia ?h1a ?_))
            case hta => exact (store_new w4 (headC 0 zeroRoot) HL 25 (by rw [HHL.out.2.1, headC_len (by simp)])).1
            case hia => exact (by rw [List.size_toArray]; exact HIl.out)
            case h1a => exact all_oneCell_toArray (by rw [HHL.out.1]; exact head_oneCell)
            generalize hw5 : World.setCells _ w4.heap.size 0 _ = w5
            have hw5' : Blk w5 w4.heap.size HL 25 ∧ Kept (fun _ => False) w4 w5 := by rw [← hw5]; exact (store_new w4 (headC 0 zeroRoot) HL 25 (by rw [HHL.out.2.1, headC_len (by simp)])).2
            have HU6 := Lib.hid (HU4.out.new (HK4.out.trans hw5'.2) hw5'.1 HK4.out.size)
            have HUS5 : Hid (∀ w', Kept (fun _ => False) w5 w' → Calls Tryd.prog 7 #[.pointer (some ⟨r2, 0, none⟩)] w' fun e w2 => e = .returned (.int .i64 ((told : Int))) ∧ w' = w2) := Lib.hid (fun w' kk => HUS.out w' ((HK4.out.trans hw5'.2).trans kk))
            clear hw5 hw5' HU4 HK4 HLA HU5 HUS
            generalize w4.heap.size = lb at *
            have BL := Lib.hid (HU6.out.dn.blk (y := (lb, HL, 25)) (by simp))
            have BH := Lib.hid (HU6.out.dn.blk (y := (hb, H, 25)) (by simp))
            have BB := Lib.hid (HU6.out.dn.blk (y := (bb, hdC (byH L'), 57)) (by simp))
            have i1 : ((told : Int) == (told : Int)) = true := beq_self_eq_true _
            have i2 : decide ((told : Int) = (told : Int)) = true := decide_eq_true rfl
            have i3 : decide ((told : Int) < (told : Int)) = false := decide_eq_false (Int.lt_irrefl _)
            rcases Nat.eq_zero_or_pos told with h0 | h0
            · have i0 := HN.out.2.2.2.2.2.2.2.2 h0
              have hok : ok = false := by rw [HHL.out.2.2.2.1, List.eq_nil_of_length_eq_zero (HTD.out.trans h0)]; rfl
              subst hok
              have SA : S47 w5 w5.drew lb hb bb 0 HL H [] := ⟨BL.out.drew.range0, BH.out.drew.range0, (fun j v hv => by simp at hv), (Kept.refl _ _).drew⟩
              clear h0
              refine once47_1 HUS5 HIl HNQ.out i0 i1 i2 i3 SA (fun _ _ _ _ _ h => HP.out _ _ _ _ _ h) ?_
              intro v199 v200 v201 v202 v203 v204 v205 v206 v207 v208 v209 v210 v211 v212 v213 v214 v215 v216 v217 v218 v219 v220 v221 v222 v223 v224 v225 v226 v227 v228 v229 v230 w6 hS
              have HU7 := Lib.hid ((HU6.out.same hS.2.2.2).fewer (fun x q => List.mem_cons_of_mem _ q))
              have HU8 := Lib.hid (HUS5.out w6 hS.2.2.2)
              clear hS SA i0 i1 i2 i3
              go_wp2_with (go_at_call 7; refine HU8.out.mono ?_; rintro e w' ⟨rfl, rfl⟩)
              go_roundw
              case rel =>
                obtain ⟨q1, q2, q3, q4, q5, q6, q7, q8, q9⟩ := HM.out
                exact ⟨_, told, n + 1, rfl, rfl, by go_num, Lib.hid ⟨by omega, Or.inl ⟨r2, M3, L', s1 + 1, rfl, HTD.out, q7, q2, by omega, by omega, HU3.out, HU7.out⟩⟩⟩
              case measure => have q9 := HM.out.2.2.2.2.2.2.2.2; simp [intOf]; omega
            · obtain ⟨i0, q, hq, i4, i5, i6⟩ := HN.out.2.2.2.2.2.2.2.1 h0
              have hget : L'[q]? = some lh := by
                rw [HHL.out.2.2.1]
                unfold lastH
                rw [List.getLast?_eq_getElem?, show L'.length - 1 = q by rw [HTD.out]; omega]
                obtain ⟨y, hy⟩ : ∃ y, L'[q]? = some y := ⟨_, List.getElem?_eq_getElem (by rw [HTD.out]; omega)⟩
                rw [hy]; rfl
              have hok : ok = true := by
                rw [HHL.out.2.2.2.1]
                cases hL : L' with
                | nil => rw [hL] at hget; simp at hget
                | cons x y => rfl
              subst hok
              have SA : S47 w5 w5.drew lb hb bb q HL H HL := ⟨BL.out.drew.range0, BH.out.drew.range0, by rw [HHL.out.1]; exact (hd_range BB.out.drew (byH_32 HM.out.2.2.2.2.2.2.1.ok) (by rw [byH_in (by rw [HTD.out]; omega)]; exact hget)).1, (Kept.refl _ _).drew⟩
              clear h0 hq hget
              refine once47_2 (HB := []) HUS5 HIl HNQ.out i0 i1 i2 i3 i4 i5 i6 SA (fun _ _ _ _ _ h => HP.out _ _ _ _ _ h) ?_
              intro v199 v200 v201 v202 v203 v204 v205 v206 v207 v208 v209 v210 v211 v212 v213 v214 v215 v216 v217 v218 v219 v220 v221 v222 v223 v224 v225 v226 v227 v228 v229 v230 w6 hS
              have HU7 := Lib.hid ((HU6.out.same hS.2.2.2).fewer (fun x q => List.mem_cons_of_mem _ q))
              have HU8 := Lib.hid (HUS5.out w6 hS.2.2.2)
              clear hS SA i0 i1 i2 i3 i4 i5 i6
              go_wp2_with (go_at_call 7; refine HU8.out.mono ?_; rintro e w' ⟨rfl, rfl⟩)
              go_roundw
              case rel =>
                obtain ⟨q1, q2, q3, q4, q5, q6, q7, q8, q9⟩ := HM.out
                exact ⟨_, told, n + 1, rfl, rfl, by go_num, Lib.hid ⟨by omega, Or.inl ⟨r2, M3, L', s1 + 1, rfl, HTD.out, q7, q2, by omega, by omega, HU3.out, HU7.out⟩⟩⟩
              case measure => have q9 := HM.out.2.2.2.2.2.2.2.2; simp [intOf]; omega
          · skip
            have hus : ∀ w', Kept (fun _ => False) w3 w' → Calls Tryd.prog 7 #[.pointer (some ⟨r2, 0, none⟩)] w' fun e w2 => e = .returned (.int .i64 ((told : Int) + 1)) ∧ w' = w2 := by
              intro w' kk
              have h := (HU4.out.same kk).used
              rw [show ((⟨sd, L', s1 + 1, false⟩ : RingM).signed.length : Int) = (told : Int) + 1 by show (L'.length : Int) = _; rw [hLz, List.length_append, List.length_singleton, HTD.out]; rfl] at h
              exact h
            have HUS := Lib.hid hus
            have HU5 := Lib.hid (hus w3 (Kept.refl _ _))
            clear hus
            obtain ⟨e1, e2, e3, e4, -⟩ := HN.out
            go_upto_region 47 with (first | (go_at_call 7; refine HU5.out.mono ?_; rintro e w' ⟨rfl, rfl⟩) | (go_at_call 6; refine HLA.out.mono ?_; rintro e w4 ⟨rfl, hk4⟩; have HK4 := Lib.hid hk4; clear hk4) | ((with_reducible show wpList _ _ _ (⟨none, .store _ (.tmp 19) _, _, _, _, _⟩ :: _) _ _); refine wpList_store_mid rfl 25 _ _ rfl w4.heap.size 0 HL.toArray rfl rfl ?hta ?hia ?h1a ?_))
            case hta => exact (store_new w4 (headC 0 zeroRoot) HL 25 (by rw [HHL.out.2.1, headC_len (by simp)])).1
            case hia => exact (by rw [List.size_toArray]; exact HIl.out)
            case h1a => exact all_oneCell_toArray (by rw [HHL.out.1]; exact head_oneCell)
            generalize hw5 : World.setCells _ w4.heap.size 0 _ = w5
            have hw5' : Blk w5 w4.heap.size HL 25 ∧ Kept (fun _ => False) w4 w5 := by rw [← hw5]; exact (store_new w4 (headC 0 zeroRoot) HL 25 (by rw [HHL.out.2.1, headC_len (by simp)])).2
            have HU6 := Lib.hid (HU4.out.new (HK4.out.trans hw5'.2) hw5'.1 HK4.out.size)
            have HUS5 : Hid (∀ w', Kept (fun _ => False) w5 w' → Calls Tryd.prog 7 #[.pointer (some ⟨r2, 0, none⟩)] w' fun e w2 => e = .returned (.int .i64 ((told : Int) + 1)) ∧ w' = w2) := Lib.hid (fun w' kk => HUS.out w' ((HK4.out.trans hw5'.2).trans kk))
            clear hw5 hw5' HU4 HK4 HLA HU5 HUS
            generalize w4.heap.size = lb at *
            have BL := Lib.hid (HU6.out.dn.blk (y := (lb, HL, 25)) (by simp))
            have BH := Lib.hid (HU6.out.dn.blk (y := (hb, H, 25)) (by simp))
            have BB := Lib.hid (HU6.out.dn.blk (y := (bb, hdC (byH L), 57)) (by simp))
            have hlz : lh = hz := by rw [HHL.out.2.2.1, hLz]; unfold lastH; simp
            have hok : ok = true := by rw [HHL.out.2.2.2.1, hLz]; simp
            subst hok
            have hHLH : HL = H := by rw [HHL.out.1, hlz, HHC.out.1]
            have SA : S47 w5 w5.drew lb hb bb 0 HL HL [] := ⟨BL.out.drew.range0, by rw [hHLH]; exact BH.out.drew.range0, (fun j v hv => by simp at hv), (Kept.refl _ _).drew⟩
            have i0 := HN.out.2.2.2.2.1
            have i1 := HN.out.2.2.2.2.2.1
            have i2 := HN.out.2.2.2.2.2.2.1
            have ht7 : told < 8 := by have h := HM.out.2.2.2.2.2.2.2.1; rw [hLz, List.length_append, List.length_singleton, HTD.out] at h; omega
            have HROOM := Lib.hid (And.intro (show told * 33 + 33 ≤ 8 * 33 by omega) ht7)
            have j1 : (told : Int) < 8 := by omega
            have hbl : told < (byH L).length := by rw [byH_len (by rw [HTD.out]; omega)]; exact ht7
            have hsn : (byH L).set told hz = byH L' := by rw [hLz, ← HTD.out]; exact byH_snoc (by rw [HTD.out]; exact ht7)
            have h32 := byH_32 HM.out.1.ok
            have HSET := Lib.hid (And.intro hsn (And.intro hbl h32))
            have HHH := Lib.hid (And.intro hHLH hLz)
            have HNE := Lib.hid (And.intro (BL.out.ne34 BB.out (show (25 : Nat) ≠ 57 by decide)) (And.intro (BH.out.ne34 BB.out (show (25 : Nat) ≠ 57 by decide)) (And.intro ((HU6.out.dn.blk (y := (xb, X, 59)) (by simp)).ne34 BB.out (show (59 : Nat) ≠ 57 by decide)) ((HU6.out.dn.blk (y := (kb, C, 23)) (by simp)).ne34 BB.out (show (23 : Nat) ≠ 57 by decide)))))
            clear hlz hHLH ht7 hbl hsn h32 hLz
            refine once47_3 (H := HL) HUS5 HIl HNQ.out i0 i1 i2 e2 SA (fun _ _ _ _ _ h => HP.out _ _ _ _ _ h) ?_
            intro v199 v200 v201 v202 v203 v204 v205 v206 v207 v208 v209 v210 v211 v212 v213 v214 v215 v216 v217 v218 v219 v220 v221 v222 v223 v224 v225 v226 v227 v228 v229 v230 w6 hS
            have HU7 := Lib.hid ((HU6.out.same hS.2.2.2).fewer (Lc' := (bb, hdC (byH L), 57) :: [(lb, HL, 25), (hb, H, 25), (xb, X, 59), (kb, C, 23)]) (fun x q => by simp only [List.mem_cons, List.not_mem_nil, or_false] at q ⊢; rcases q with rfl | rfl | rfl | rfl | rfl <;> simp))
            have HU8 := Lib.hid (HUS5.out w6 hS.2.2.2)
            have HBL := Lib.hid ((HU7.out.dn.blk (y := (lb, HL, 25)) (by simp)).range0)
            have PUT := Lib.hid (HU7.out.put (told * 33) HL (by rw [HHL.out.2.1, hdC_len HSET.out.2.2, byH_len (by rw [HTD.out]; exact Nat.le_of_lt HROOM.out.2)]; exact HROOM.out.1) (fun x q => by simp only [List.mem_cons, List.not_mem_nil, or_false] at q; rcases q with rfl | rfl | rfl | rfl <;> first | exact HNE.out.1 | exact HNE.out.2.1 | exact HNE.out.2.2.1 | exact HNE.out.2.2.2))
            clear hS SA i0 i1 i2
            go_wp2_with (first | (go_at_call 7; refine HU8.out.mono ?_; rintro e w' ⟨rfl, rfl⟩) | ((with_reducible show wpList _ _ _ (⟨some 237, _, _, _, _, _⟩ :: _) _ _); refine wpList_load_mid rfl 25 _ rfl lb 0 rfl HL _ HBL.out Tryd.underlying25 rfl HIl.out ?_) | ((with_reducible show wpList _ _ _ (⟨none, .store _ (.tmp 238) _, _, _, _, _⟩ :: _) _ _); refine wpList_store_mid rfl 25 _ _ rfl bb (told * 33) HL.toArray rfl rfl ?htb ?hib ?h1b ?_))
            case htb => first | exact PUT.out.1 | simpa using PUT.out.1
            case hib => first | exact (by rw [List.size_toArray]; exact HIl.out) | simpa using HIl.out
            case h1b => first | exact all_oneCell_toArray (by rw [HHL.out.1]; exact head_oneCell) | exact (by rw [HHL.out.1]; exact head_oneCell)
            have HP2 := Lib.hid PUT.out.2.1
            generalize World.setCells w6 bb (told * 33) _ = w7 at HP2
            go_roundw
            case rel =>
              obtain ⟨q1, q2, q3, q4, q5, q6, q7, q8, q9⟩ := HM.out
              have hsp := hdC_set HSET.out.2.2 HZ.out.2.2.2 HSET.out.2.1
              rw [HSET.out.1] at hsp
              have hp2 := HP2.out
              rw [HHH.out.1, HHC.out.1, hsp, ← HHC.out.1] at hp2
              exact ⟨_, told + 1, n + 1, rfl, by go_num, by go_num, Lib.hid ⟨by omega, Or.inl ⟨r2, M3, L', s1 + 1, rfl, by rw [HHH.out.2, List.length_append, List.length_singleton, HTD.out], q7, HROOM.out.2, by omega, by omega, HU3.out, hp2.fewer (fun x q => by simp only [List.mem_cons, List.not_mem_nil, or_false] at q ⊢; rcases q with rfl | rfl | rfl | rfl <;> simp)⟩⟩⟩
            case measure => have q9 := HM.out.2.2.2.2.2.2.2.2; simp [intOf]; omega
        · rw [eo, show sd = (⟨#[114, 105, 110, 103]⟩ : ByteArray) from HSD.out] at hop
          have HOP := Lib.hid hop
          have HD3 := Lib.hid hD3
          have h3 := HM2.out.2.1 hf
          clear hop eo hD3 hf HUP HST HD1
          go_wp2_with (go_at_call 10; refine HOP.out.mono ?_; intro e w3 ho; obtain ⟨rfl, hd3⟩ : e = .returned (.tuple #[.pointer none, .int .i64 61]) ∧ Dn w w3 d M3 [(hb, H, 25), (xb, X, 59), (kb, C, 23), (bb, hdC (byH L), 57)] := (ho.elim (fun q => ⟨q.2.1, q.2.2⟩) (fun q => absurd q.1 (show ¬ (61 : Int) = 0 by decide))); have HD4 := Lib.hid hd3; clear ho hd3)
          go_roundw
          case rel =>
            obtain ⟨q1, q2, q3, q4, -⟩ := HM.out
            exact ⟨_, told, n + 1, rfl, rfl, by go_num, Lib.hid ⟨by omega, Or.inr ⟨by omega, M3, L, s1 + 1, HTD.out, q1, q2, by omega, by omega, HD3.out, HD4.out⟩⟩⟩
          case measure => simp [intOf]; omega

end Go.Proofs.YtaimokclhcfohaaDoor
