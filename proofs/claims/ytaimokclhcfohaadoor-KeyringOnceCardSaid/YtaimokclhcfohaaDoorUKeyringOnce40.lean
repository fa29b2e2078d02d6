/- The law KeyringOnce: the first test. -/
import Derived.Test.YtaimokclhcfohaaDoorUKeyringOnce37
set_option linter.unusedVariables false
set_option linter.unusedSimpArgs false
namespace Go.Proofs.YtaimokclhcfohaaDoor
open Go.RowKit

def ops27 : Array Oper := #[
  ⟨some 74, .fieldAddr 31 (.tmp 14) 0, 0, "outright.go:51", #[], none⟩,
  ⟨some 75, .load 25 (.tmp 74), 25, "outright.go:51", #[⟨0, .data⟩], none⟩,
  ⟨some 76, .load 25 (.tmp 12), 25, "outright.go:51", #[], none⟩,
  ⟨some 77, .binOp .neq 25 (.tmp 75) (.tmp 76) 25, 4, "outright.go:51", #[⟨1, .data⟩, ⟨2, .data⟩], none⟩,
  ⟨some 78, .move (.tmp 77), 4, "outright.go:51", #[⟨3, .data⟩], none⟩,
  ⟨some 79, .load 23 (.tmp 7), 23, "outright.go:51", #[⟨4, .guard⟩], some (4, false)⟩,
  ⟨some 80, .load 31 (.tmp 14), 31, "outright.go:51", #[⟨4, .guard⟩], some (4, false)⟩,
  ⟨some 81, .call { callee := .value (.func 15), args := #[.tmp 79, .tmp 80], argTypes := #[23, 31] }, 32, "outright.go:51", #[⟨5, .data⟩, ⟨6, .data⟩, ⟨4, .chain⟩, ⟨4, .guard⟩], some (4, false)⟩,
  ⟨some 82, .binOp .neq 32 (.tmp 81) (.const (.int .i64 0)) 32, 4, "outright.go:51", #[⟨7, .data⟩, ⟨4, .guard⟩], some (4, false)⟩,
  ⟨some 83, .pick (.tmp 78) (.const (.bool true)) (.tmp 82), 4, "outright.go:51", #[⟨4, .data⟩, ⟨8, .data⟩], none⟩,
  ⟨some 84, .move (.tmp 83), 4, "outright.go:51", #[⟨9, .data⟩, ⟨7, .chain⟩], none⟩,
  ⟨some 85, .move (.tmp 15), 3, "outright.go:51", #[⟨10, .guard⟩], some (10, false)⟩,
  ⟨some 86, .binOp .lss 3 (.tmp 85) (.const (.int .i64 0)) 3, 4, "outright.go:51", #[⟨11, .data⟩, ⟨10, .guard⟩], some (10, false)⟩,
  ⟨some 87, .pick (.tmp 84) (.const (.bool true)) (.tmp 86), 4, "outright.go:51", #[⟨10, .data⟩, ⟨12, .data⟩], none⟩,
  ⟨some 88, .move (.tmp 87), 4, "outright.go:51", #[⟨13, .data⟩, ⟨10, .chain⟩], none⟩,
  ⟨some 89, .move (.tmp 15), 3, "outright.go:51", #[⟨14, .guard⟩], some (14, false)⟩,
  ⟨some 90, .binOp .geq 3 (.tmp 89) (.const (.int .i64 8)) 3, 4, "outright.go:51", #[⟨15, .data⟩, ⟨14, .guard⟩], some (14, false)⟩,
  ⟨some 91, .pick (.tmp 88) (.const (.bool true)) (.tmp 90), 4, "outright.go:51", #[⟨14, .data⟩, ⟨16, .data⟩], none⟩,
  ⟨some 92, .move (.tmp 91), 4, "outright.go:51", #[⟨17, .data⟩, ⟨14, .chain⟩], none⟩,
  ⟨some 93, .move (.tmp 15), 3, "outright.go:51", #[⟨18, .guard⟩], some (18, false)⟩,
  ⟨some 94, .indexAddr 57 (.tmp 8) (.tmp 93), 0, "outright.go:51", #[⟨19, .data⟩, ⟨18, .guard⟩], some (18, false)⟩,
  ⟨some 95, .fieldAddr 25 (.tmp 94) 0, 0, "outright.go:51", #[⟨20, .data⟩, ⟨18, .guard⟩], some (18, false)⟩,
  ⟨some 96, .load 3 (.tmp 95), 3, "outright.go:51", #[⟨21, .data⟩, ⟨18, .guard⟩], some (18, false)⟩,
  ⟨some 97, .binOp .neq 3 (.tmp 96) (.const (.int .i64 0)) 3, 4, "outright.go:51", #[⟨22, .data⟩, ⟨18, .guard⟩], some (18, false)⟩,
  ⟨some 98, .move (.tmp 97), 4, "outright.go:51", #[⟨23, .data⟩, ⟨18, .chain⟩, ⟨18, .guard⟩], some (18, false)⟩,
  ⟨some 99, .move (.tmp 15), 3, "outright.go:51", #[⟨24, .guard⟩], some (24, true)⟩,
  ⟨some 100, .indexAddr 57 (.tmp 8) (.tmp 99), 0, "outright.go:51", #[⟨25, .data⟩, ⟨24, .guard⟩], some (24, true)⟩,
  ⟨some 101, .load 25 (.tmp 100), 25, "outright.go:51", #[⟨26, .data⟩, ⟨24, .guard⟩], some (24, true)⟩,
  ⟨some 102, .load 25 (.tmp 12), 25, "outright.go:51", #[⟨24, .guard⟩], some (24, true)⟩,
  ⟨some 103, .binOp .neq 25 (.tmp 101) (.tmp 102) 25, 4, "outright.go:51", #[⟨27, .data⟩, ⟨28, .data⟩, ⟨24, .guard⟩], some (24, true)⟩,
  ⟨some 104, .pick (.tmp 98) (.tmp 103) (.const (.bool false)), 4, "outright.go:51", #[⟨24, .data⟩, ⟨29, .data⟩, ⟨18, .guard⟩], some (18, false)⟩,
  ⟨some 105, .pick (.tmp 92) (.const (.bool true)) (.tmp 104), 4, "outright.go:51", #[⟨18, .data⟩, ⟨30, .data⟩], none⟩,
  ⟨some 106, .move (.tmp 105), 4, "outright.go:51", #[⟨31, .data⟩, ⟨24, .chain⟩], none⟩,
  ⟨some 107, .move (.tmp 15), 3, "outright.go:51", #[⟨32, .guard⟩], some (32, false)⟩,
  ⟨some 108, .binOp .gtr 3 (.tmp 107) (.const (.int .i64 0)) 3, 4, "outright.go:51", #[⟨33, .data⟩, ⟨32, .guard⟩], some (32, false)⟩,
  ⟨some 109, .move (.tmp 108), 4, "outright.go:51", #[⟨34, .data⟩, ⟨32, .chain⟩, ⟨32, .guard⟩], some (32, false)⟩,
  ⟨some 110, .move (.tmp 15), 3, "outright.go:51", #[⟨35, .guard⟩], some (35, true)⟩,
  ⟨some 111, .binOp .sub 3 (.tmp 110) (.const (.int .i64 1)) 3, 3, "outright.go:51", #[⟨36, .data⟩, ⟨35, .guard⟩], some (35, true)⟩,
  ⟨some 112, .indexAddr 57 (.tmp 8) (.tmp 111), 0, "outright.go:51", #[⟨37, .data⟩, ⟨35, .guard⟩], some (35, true)⟩,
  ⟨some 113, .fieldAddr 25 (.tmp 112) 0, 0, "outright.go:51", #[⟨38, .data⟩, ⟨35, .guard⟩], some (35, true)⟩,
  ⟨some 114, .load 3 (.tmp 113), 3, "outright.go:51", #[⟨39, .data⟩, ⟨35, .guard⟩], some (35, true)⟩,
  ⟨some 115, .fieldAddr 25 (.tmp 12) 0, 0, "outright.go:51", #[⟨35, .guard⟩], some (35, true)⟩,
  ⟨some 116, .load 3 (.tmp 115), 3, "outright.go:51", #[⟨41, .data⟩, ⟨35, .guard⟩], some (35, true)⟩,
  ⟨some 117, .binOp .geq 3 (.tmp 114) (.tmp 116) 3, 4, "outright.go:51", #[⟨40, .data⟩, ⟨42, .data⟩, ⟨35, .guard⟩], some (35, true)⟩,
  ⟨some 118, .pick (.tmp 109) (.tmp 117) (.const (.bool false)), 4, "outright.go:51", #[⟨35, .data⟩, ⟨43, .data⟩, ⟨32, .guard⟩], some (32, false)⟩,
  ⟨some 119, .pick (.tmp 106) (.const (.bool true)) (.tmp 118), 4, "outright.go:51", #[⟨32, .data⟩, ⟨44, .data⟩], none⟩,
  ⟨some 120, .move (.tmp 119), 4, "outright.go:51", #[⟨45, .data⟩, ⟨35, .chain⟩], none⟩,
  ⟨some 121, .move (.tmp 15), 3, "outright.go:51", #[⟨46, .guard⟩], some (46, false)⟩,
  ⟨some 122, .move (.tmp 5), 26, "outright.go:51", #[⟨46, .guard⟩], some (46, false)⟩,
  ⟨some 123, .call { callee := .value (.func 7), args := #[.tmp 122], argTypes := #[26] }, 3, "outright.go:51", #[⟨48, .data⟩, ⟨46, .chain⟩, ⟨46, .guard⟩], some (46, false)⟩,
  ⟨some 124, .binOp .sub 3 (.tmp 123) (.const (.int .i64 1)) 3, 3, "outright.go:51", #[⟨49, .data⟩, ⟨46, .guard⟩], some (46, false)⟩,
  ⟨some 125, .binOp .neq 3 (.tmp 121) (.tmp 124) 3, 4, "outright.go:51", #[⟨47, .data⟩, ⟨50, .data⟩, ⟨46, .guard⟩], some (46, false)⟩,
  ⟨some 126, .pick (.tmp 120) (.const (.bool true)) (.tmp 125), 4, "outright.go:51", #[⟨46, .data⟩, ⟨51, .data⟩], none⟩]
set_option maxRecDepth 100000 in
set_option maxHeartbeats 4000000 in
theorem once27A0 {w11 : World} {sb hb kb bb m q r : Nat} {Y H C : List Value} {zz pp : Int} {Q : Exit → Act → World → Prop} {u0 u1 u2 u3 u4 u6 u9 u10 u11 u13 u16 u17 u18 u19 u20 u21 u22 u23 u24 u25 u26 u27 u28 u29 u30 u31 u32 u33 u34 u35 u36 u37 u38 u39 u40 u41 u42 u43 u44 u45 u46 u47 u48 u49 u50 u51 u52 u53 u54 u55 u56 u57 u58 u59 u60 u61 u62 u63 u64 u65 u66 u67 u68 u69 u70 u71 u72 u73 u74 u75 u76 u77 u78 u79 u80 u81 u82 u83 u84 u85 u86 u87 u88 u89 u90 u91 u92 u93 u94 u95 u96 u97 u98 u99 u100 u101 u102 u103 u104 u105 u106 u107 u108 u109 u110 u111 u112 u113 u114 u115 u116 u117 u118 u119 u120 u121 u122 u123 u124 u125 u126 u127 u128 u129 u130 u131 u132 u133 u134 u135 u136 u137 u138 u139 u140 u141 u142 u143 u144 u145 u146 u147 u148 u149 u150 u151 u152 u153 u154 u155 u156 u157 u158 u159 u160 u161 u162 u163 u164 u165 u166 u167 u168 u169 u170 u171 u172 u173 u174 u175 u176 u177 u178 u179 u180 u181 u182 u183 u184 u185 u186 u187 u188 u189 u190 u191 u192 u193 u194 u195 u196 u197 u198 u199 u200 u201 u202 u203 u204 u205 u206 u207 u208 u209 u210 u211 u212 u213 u214 u215 u216 u217 u218 u219 u220 u221 u222 u223 u224 u225 u226 u227 u228 u229 u230 u231 u232 u233 u234 u235 u236 u237 u238 u239 u240 u241 u242 u243 u244 u245 : Value} (HCK : Hid (∀ w', Kept (fun _ => False) w11 w' → Calls Tryd.prog 15 #[.agg C.toArray, .agg Y.toArray] w' fun e w2 => e = .returned (.int .i64 0) ∧ Kept (fun _ => False) w' w2)) (HUS : Hid (∀ w', Kept (fun _ => False) w11 w' → Calls Tryd.prog 7 #[.pointer (some ⟨r, 0, none⟩)] w' fun e w2 => e = .returned (.int .i64 ((m : Int) + 1)) ∧ w' = w2)) (HL4 : Hid (sb < w11.heap.size ∧ hb < w11.heap.size ∧ kb < w11.heap.size ∧ bb < w11.heap.size)) (HIh : Hid ((Tryd.prog.info? 25).map (·.size) = some H.length)) (HIk : Hid ((Tryd.prog.info? 23).map (·.size) = some C.length)) (HIy : Hid ((Tryd.prog.info? 31).map (·.size) = some Y.length)) (hneq : ∀ w', (binOp .neq 25 (.agg H.toArray) (.agg H.toArray)).run Tryd.prog w' = .ok (.bool false) w') (i0 : decide ((m : Int) < 0) = false) (i1 : decide ((8 : Int) ≤ (m : Int)) = false) (i2 : (m : Int) < 8) (i3 : (q : Int) < 8) (i4 : wrap64 ((m : Int) + 1) = (m : Int) + 1) (i5 : IntKind.i64.wrap ((m : Int) + 1) = (m : Int) + 1) (i6 : IntKind.i64.wrap (m : Int) = (m : Int)) (i7 : wrap64 (m : Int) = (m : Int)) (i8 : decide ((0 : Int) < (m : Int)) = false) (i12 : decide (0 < m) = false) (j1 : (zz != 0) = true) (j2 : (zz == 0) = false) (j3 : decide (zz = 0) = false) (SA : (fun w' => S27 w11 w' sb hb kb bb m q Y H C (H) zz pp zz) w11.drew)
    (HP : ∀ c a (k : Nat) v w, Q (.panic c) (Act.put a (some k) v) w → Q (.panic c) a w) (HQ : ∀ (v74 v75 v76 v77 v78 v79 v80 v81 v82 v83 v84 v85 v86 v87 v88 v89 v90 v91 v92 v93 v94 v95 v96 v97 v98 v99 v100 v101 v102 v103 v104 v105 v106 v107 v108 v109 v110 v111 v112 v113 v114 v115 v116 v117 v118 v119 v120 v121 v122 v123 v124 v125 : Value) (w' : World), (fun w' => S27 w11 w' sb hb kb bb m q Y H C (H) zz pp zz) w' → Q .normal ⟨List.toArray (u0 :: u1 :: u2 :: u3 :: u4 :: (.pointer (some ⟨r, 0, none⟩)) :: u6 :: (.pointer (some ⟨kb, 0, none⟩)) :: (.pointer (some ⟨bb, 0, none⟩)) :: u9 :: u10 :: u11 :: (.pointer (some ⟨hb, 0, none⟩)) :: u13 :: (.pointer (some ⟨sb, 0, none⟩)) :: (.int .i64 (m : Int)) :: u16 :: u17 :: u18 :: u19 :: u20 :: u21 :: u22 :: u23 :: u24 :: u25 :: u26 :: u27 :: u28 :: u29 :: u30 :: u31 :: u32 :: u33 :: u34 :: u35 :: u36 :: u37 :: u38 :: u39 :: u40 :: u41 :: u42 :: u43 :: u44 :: u45 :: u46 :: u47 :: u48 :: u49 :: u50 :: u51 :: u52 :: u53 :: u54 :: u55 :: u56 :: u57 :: u58 :: u59 :: u60 :: u61 :: u62 :: u63 :: u64 :: u65 :: u66 :: u67 :: u68 :: u69 :: u70 :: u71 :: u72 :: u73 :: v74 :: v75 :: v76 :: v77 :: v78 :: v79 :: v80 :: v81 :: v82 :: v83 :: v84 :: v85 :: v86 :: v87 :: v88 :: v89 :: v90 :: v91 :: v92 :: v93 :: v94 :: v95 :: v96 :: v97 :: v98 :: v99 :: v100 :: v101 :: v102 :: v103 :: v104 :: v105 :: v106 :: v107 :: v108 :: v109 :: v110 :: v111 :: v112 :: v113 :: v114 :: v115 :: v116 :: v117 :: v118 :: v119 :: v120 :: v121 :: v122 :: v123 :: v124 :: v125 :: (.bool false) :: u127 :: u128 :: u129 :: u130 :: u131 :: u132 :: u133 :: u134 :: u135 :: u136 :: u137 :: u138 :: u139 :: u140 :: u141 :: u142 :: u143 :: u144 :: u145 :: u146 :: u147 :: u148 :: u149 :: u150 :: u151 :: u152 :: u153 :: u154 :: u155 :: u156 :: u157 :: u158 :: u159 :: u160 :: u161 :: u162 :: u163 :: u164 :: u165 :: u166 :: u167 :: u168 :: u169 :: u170 :: u171 :: u172 :: u173 :: u174 :: u175 :: u176 :: u177 :: u178 :: u179 :: u180 :: u181 :: u182 :: u183 :: u184 :: u185 :: u186 :: u187 :: u188 :: u189 :: u190 :: u191 :: u192 :: u193 :: u194 :: u195 :: u196 :: u197 :: u198 :: u199 :: u200 :: u201 :: u202 :: u203 :: u204 :: u205 :: u206 :: u207 :: u208 :: u209 :: u210 :: u211 :: u212 :: u213 :: u214 :: u215 :: u216 :: u217 :: u218 :: u219 :: u220 :: u221 :: u222 :: u223 :: u224 :: u225 :: u226 :: u227 :: u228 :: u229 :: u230 :: u231 :: u232 :: u233 :: u234 :: u235 :: u236 :: u237 :: u238 :: u239 :: u240 :: u241 :: u242 :: u243 :: u244 :: u245 :: []), []⟩ w') :
    Code.wp Tryd.prog (Code.region 27 ops27 true) Q ⟨List.toArray (u0 :: u1 :: u2 :: u3 :: u4 :: (.pointer (some ⟨r, 0, none⟩)) :: u6 :: (.pointer (some ⟨kb, 0, none⟩)) :: (.pointer (some ⟨bb, 0, none⟩)) :: u9 :: u10 :: u11 :: (.pointer (some ⟨hb, 0, none⟩)) :: u13 :: (.pointer (some ⟨sb, 0, none⟩)) :: (.int .i64 (m : Int)) :: u16 :: u17 :: u18 :: u19 :: u20 :: u21 :: u22 :: u23 :: u24 :: u25 :: u26 :: u27 :: u28 :: u29 :: u30 :: u31 :: u32 :: u33 :: u34 :: u35 :: u36 :: u37 :: u38 :: u39 :: u40 :: u41 :: u42 :: u43 :: u44 :: u45 :: u46 :: u47 :: u48 :: u49 :: u50 :: u51 :: u52 :: u53 :: u54 :: u55 :: u56 :: u57 :: u58 :: u59 :: u60 :: u61 :: u62 :: u63 :: u64 :: u65 :: u66 :: u67 :: u68 :: u69 :: u70 :: u71 :: u72 :: u73 :: u74 :: u75 :: u76 :: u77 :: u78 :: u79 :: u80 :: u81 :: u82 :: u83 :: u84 :: u85 :: u86 :: u87 :: u88 :: u89 :: u90 :: u91 :: u92 :: u93 :: u94 :: u95 :: u96 :: u97 :: u98 :: u99 :: u100 :: u101 :: u102 :: u103 :: u104 :: u105 :: u106 :: u107 :: u108 :: u109 :: u110 :: u111 :: u112 :: u113 :: u114 :: u115 :: u116 :: u117 :: u118 :: u119 :: u120 :: u121 :: u122 :: u123 :: u124 :: u125 :: u126 :: u127 :: u128 :: u129 :: u130 :: u131 :: u132 :: u133 :: u134 :: u135 :: u136 :: u137 :: u138 :: u139 :: u140 :: u141 :: u142 :: u143 :: u144 :: u145 :: u146 :: u147 :: u148 :: u149 :: u150 :: u151 :: u152 :: u153 :: u154 :: u155 :: u156 :: u157 :: u158 :: u159 :: u160 :: u161 :: u162 :: u163 :: u164 :: u165 :: u166 :: u167 :: u168 :: u169 :: u170 :: u171 :: u172 :: u173 :: u174 :: u175 :: u176 :: u177 :: u178 :: u179 :: u180 :: u181 :: u182 :: u183 :: u184 :: u185 :: u186 :: u187 :: u188 :: u189 :: u190 :: u191 :: u192 :: u193 :: u194 :: u195 :: u196 :: u197 :: u198 :: u199 :: u200 :: u201 :: u202 :: u203 :: u204 :: u205 :: u206 :: u207 :: u208 :: u209 :: u210 :: u211 :: u212 :: u213 :: u214 :: u215 :: u216 :: u217 :: u218 :: u219 :: u220 :: u221 :: u222 :: u223 :: u224 :: u225 :: u226 :: u227 :: u228 :: u229 :: u230 :: u231 :: u232 :: u233 :: u234 :: u235 :: u236 :: u237 :: u238 :: u239 :: u240 :: u241 :: u242 :: u243 :: u244 :: u245 :: []), []⟩ w11 := by
  have HQ := Lib.hid HQ
  unfold ops27
  refine wp_region_held_drew (S := (fun w' => S27 w11 w' sb hb kb bb m q Y H C (H) zz pp zz)) (by kernel_rfl) SA (fun hH0 => ?_)
  refine wpAnyH_take (i := 0) (oi := ⟨some 74, .fieldAddr 31 (.tmp 14) 0, 0, "outright.go:51", #[], none⟩) (v := ?_) rfl (by kernel_rfl) (by kernel_rfl) (by kernel_rfl) (fun _ _ _ h => HP _ _ _ _ _ h) (Or.inl ⟨by rfl, fun w hSw => ?_⟩) hH0 ?_
  rotate_left 1
  · (try simp only [S27] at hSw); go_simp; (try with_reducible rfl)
  try simp only [Act.put, List.setIfInBounds_toArray, List.set_cons_zero, List.set_cons_succ]
  refine wpAnyH_take (i := 1) (oi := ⟨some 75, .load 25 (.tmp 74), 25, "outright.go:51", #[⟨0, .data⟩], none⟩) (v := .agg (H).toArray) rfl (by kernel_rfl) (by kernel_rfl) (by kernel_rfl) (fun _ _ _ h => HP _ _ _ _ _ h) (yieldsIf_load_mid (by rfl) _ _ rfl (sb) (0) rfl (H) _ (fun w q => q.2.1) Tryd.underlying25 rfl HIh.out) hH0 ?_
  try simp only [Act.put, List.setIfInBounds_toArray, List.set_cons_zero, List.set_cons_succ]
  refine wpAnyH_take (i := 2) (oi := ⟨some 76, .load 25 (.tmp 12), 25, "outright.go:51", #[], none⟩) (v := .agg (H).toArray) rfl (by kernel_rfl) (by kernel_rfl) (by kernel_rfl) (fun _ _ _ h => HP _ _ _ _ _ h) (yieldsIf_load_mid (by rfl) _ _ rfl (hb) (0) rfl (H) _ (fun w q => q.2.2.1) Tryd.underlying25 rfl HIh.out) hH0 ?_
  try simp only [Act.put, List.setIfInBounds_toArray, List.set_cons_zero, List.set_cons_succ]
  refine wpAnyH_take (i := 3) (oi := ⟨some 77, .binOp .neq 25 (.tmp 75) (.tmp 76) 25, 4, "outright.go:51", #[⟨1, .data⟩, ⟨2, .data⟩], none⟩) (v := ?_) rfl (by kernel_rfl) (by kernel_rfl) (by kernel_rfl) (fun _ _ _ h => HP _ _ _ _ _ h) (Or.inl ⟨by rfl, fun w hSw => ?_⟩) hH0 ?_
  rotate_left 1
  · (try simp only [S27] at hSw); go_simp; (try with_reducible rfl)
  try simp only [Act.put, List.setIfInBounds_toArray, List.set_cons_zero, List.set_cons_succ]
  refine wpAnyH_take (i := 4) (oi := ⟨some 78, .move (.tmp 77), 4, "outright.go:51", #[⟨3, .data⟩], none⟩) (v := ?_) rfl (by kernel_rfl) (by kernel_rfl) (by kernel_rfl) (fun _ _ _ h => HP _ _ _ _ _ h) (Or.inl ⟨by rfl, fun w hSw => ?_⟩) hH0 ?_
  rotate_left 1
  · (try simp only [S27] at hSw); go_simp; (try with_reducible rfl)
  try simp only [Act.put, List.setIfInBounds_toArray, List.set_cons_zero, List.set_cons_succ]
  refine wpAnyH_take (i := 5) (oi := ⟨some 79, .load 23 (.tmp 7), 23, "outright.go:51", #[⟨4, .guard⟩], some (4, false)⟩) (v := .agg (C).toArray) rfl (by kernel_rfl) (by kernel_rfl) (by kernel_rfl) (fun _ _ _ h => HP _ _ _ _ _ h) (yieldsIf_load_mid (by rfl) _ _ rfl (kb) (0) rfl (C) _ (fun w q => q.2.2.2.1) Tryd.underlying23 rfl HIk.out) hH0 ?_
  try simp only [Act.put, List.setIfInBounds_toArray, List.set_cons_zero, List.set_cons_succ]
  refine wpAnyH_take (i := 6) (oi := ⟨some 80, .load 31 (.tmp 14), 31, "outright.go:51", #[⟨4, .guard⟩], some (4, false)⟩) (v := .agg (Y).toArray) rfl (by kernel_rfl) (by kernel_rfl) (by kernel_rfl) (fun _ _ _ h => HP _ _ _ _ _ h) (yieldsIf_load_mid (by rfl) _ _ rfl (sb) (0) rfl (Y) _ (fun w q => q.1) Tryd.underlying31 rfl HIy.out) hH0 ?_
  try simp only [Act.put, List.setIfInBounds_toArray, List.set_cons_zero, List.set_cons_succ]
  refine wpAnyH_ready (rs := [7]) (by kernel_rfl) (by simp) ?_
  refine AllReadyH.cons (o := ⟨some 81, .call { callee := .value (.func 15), args := #[.tmp 79, .tmp 80], argTypes := #[23, 31] }, 32, "outright.go:51", #[⟨5, .data⟩, ⟨6, .data⟩, ⟨4, .chain⟩, ⟨4, .guard⟩], some (4, false)⟩) rfl (fun K hK => ?_) AllReadyH.nil
  go_simp
  refine (HCK.out _ hH0.2.2.2.2.2.2.2.2).mono ?_
  rintro e w12 ⟨rfl, hk12⟩
  refine hK.out _ _ (s27_next hH0 HL4.out hk12) (fun hH1 => ?_)
  clear hK K
  try simp only [Act.put, List.setIfInBounds_toArray, List.set_cons_zero, List.set_cons_succ]
  refine wpAnyH_take (i := 8) (oi := ⟨some 82, .binOp .neq 32 (.tmp 81) (.const (.int .i64 0)) 32, 4, "outright.go:51", #[⟨7, .data⟩, ⟨4, .guard⟩], some (4, false)⟩) (v := ?_) rfl (by kernel_rfl) (by kernel_rfl) (by kernel_rfl) (fun _ _ _ h => HP _ _ _ _ _ h) (Or.inl ⟨by rfl, fun w hSw => ?_⟩) hH1 ?_
  rotate_left 1
  · (try simp only [S27] at hSw); go_simp; (try with_reducible rfl)
  try simp only [Act.put, List.setIfInBounds_toArray, List.set_cons_zero, List.set_cons_succ]
  refine wpAnyH_take (i := 9) (oi := ⟨some 83, .pick (.tmp 78) (.const (.bool true)) (.tmp 82), 4, "outright.go:51", #[⟨4, .data⟩, ⟨8, .data⟩], none⟩) (v := ?_) rfl (by kernel_rfl) (by kernel_rfl) (by kernel_rfl) (fun _ _ _ h => HP _ _ _ _ _ h) (Or.inl ⟨by rfl, fun w hSw => ?_⟩) hH1 ?_
  rotate_left 1
  · (try simp only [S27] at hSw); go_simp; (try with_reducible rfl)
  try simp only [Act.put, List.setIfInBounds_toArray, List.set_cons_zero, List.set_cons_succ]
  refine wpAnyH_take (i := 10) (oi := ⟨some 84, .move (.tmp 83), 4, "outright.go:51", #[⟨9, .data⟩, ⟨7, .chain⟩], none⟩) (v := ?_) rfl (by kernel_rfl) (by kernel_rfl) (by kernel_rfl) (fun _ _ _ h => HP _ _ _ _ _ h) (Or.inl ⟨by rfl, fun w hSw => ?_⟩) hH1 ?_
  rotate_left 1
  · (try simp only [S27] at hSw); go_simp; (try with_reducible rfl)
  try simp only [Act.put, List.setIfInBounds_toArray, List.set_cons_zero, List.set_cons_succ]
  refine wpAnyH_take (i := 11) (oi := ⟨some 85, .move (.tmp 15), 3, "outright.go:51", #[⟨10, .guard⟩], some (10, false)⟩) (v := ?_) rfl (by kernel_rfl) (by kernel_rfl) (by kernel_rfl) (fun _ _ _ h => HP _ _ _ _ _ h) (Or.inl ⟨by rfl, fun w hSw => ?_⟩) hH1 ?_
  rotate_left 1
  · (try simp only [S27] at hSw); go_simp; (try with_reducible rfl)
  try simp only [Act.put, List.setIfInBounds_toArray, List.set_cons_zero, List.set_cons_succ]
  refine wpAnyH_take (i := 12) (oi := ⟨some 86, .binOp .lss 3 (.tmp 85) (.const (.int .i64 0)) 3, 4, "outright.go:51", #[⟨11, .data⟩, ⟨10, .guard⟩], some (10, false)⟩) (v := ?_) rfl (by kernel_rfl) (by kernel_rfl) (by kernel_rfl) (fun _ _ _ h => HP _ _ _ _ _ h) (Or.inl ⟨by rfl, fun w hSw => ?_⟩) hH1 ?_
  rotate_left 1
  · (try simp only [S27] at hSw); go_simp; (try with_reducible rfl)
  try simp only [Act.put, List.setIfInBounds_toArray, List.set_cons_zero, List.set_cons_succ]
  refine wpAnyH_take (i := 13) (oi := ⟨some 87, .pick (.tmp 84) (.const (.bool true)) (.tmp 86), 4, "outright.go:51", #[⟨10, .data⟩, ⟨12, .data⟩], none⟩) (v := ?_) rfl (by kernel_rfl) (by kernel_rfl) (by kernel_rfl) (fun _ _ _ h => HP _ _ _ _ _ h) (Or.inl ⟨by rfl, fun w hSw => ?_⟩) hH1 ?_
  rotate_left 1
  · (try simp only [S27] at hSw); go_simp; (try with_reducible rfl)
  try simp only [Act.put, List.setIfInBounds_toArray, List.set_cons_zero, List.set_cons_succ]
  refine wpAnyH_take (i := 14) (oi := ⟨some 88, .move (.tmp 87), 4, "outright.go:51", #[⟨13, .data⟩, ⟨10, .chain⟩], none⟩) (v := ?_) rfl (by kernel_rfl) (by kernel_rfl) (by kernel_rfl) (fun _ _ _ h => HP _ _ _ _ _ h) (Or.inl ⟨by rfl, fun w hSw => ?_⟩) hH1 ?_
  rotate_left 1
  · (try simp only [S27] at hSw); go_simp; (try with_reducible rfl)
  try simp only [Act.put, List.setIfInBounds_toArray, List.set_cons_zero, List.set_cons_succ]
  refine wpAnyH_take (i := 15) (oi := ⟨some 89, .move (.tmp 15), 3, "outright.go:51", #[⟨14, .guard⟩], some (14, false)⟩) (v := ?_) rfl (by kernel_rfl) (by kernel_rfl) (by kernel_rfl) (fun _ _ _ h => HP _ _ _ _ _ h) (Or.inl ⟨by rfl, fun w hSw => ?_⟩) hH1 ?_
  rotate_left 1
  · (try simp only [S27] at hSw); go_simp; (try with_reducible rfl)
  try simp only [Act.put, List.setIfInBounds_toArray, List.set_cons_zero, List.set_cons_succ]
  refine wpAnyH_take (i := 16) (oi := ⟨some 90, .binOp .geq 3 (.tmp 89) (.const (.int .i64 8)) 3, 4, "outright.go:51", #[⟨15, .data⟩, ⟨14, .guard⟩], some (14, false)⟩) (v := ?_) rfl (by kernel_rfl) (by kernel_rfl) (by kernel_rfl) (fun _ _ _ h => HP _ _ _ _ _ h) (Or.inl ⟨by rfl, fun w hSw => ?_⟩) hH1 ?_
  rotate_left 1
  · (try simp only [S27] at hSw); go_simp; (try with_reducible rfl)
  try simp only [Act.put, List.setIfInBounds_toArray, List.set_cons_zero, List.set_cons_succ]
  refine wpAnyH_take (i := 17) (oi := ⟨some 91, .pick (.tmp 88) (.const (.bool true)) (.tmp 90), 4, "outright.go:51", #[⟨14, .data⟩, ⟨16, .data⟩], none⟩) (v := ?_) rfl (by kernel_rfl) (by kernel_rfl) (by kernel_rfl) (fun _ _ _ h => HP _ _ _ _ _ h) (Or.inl ⟨by rfl, fun w hSw => ?_⟩) hH1 ?_
  rotate_left 1
  · (try simp only [S27] at hSw); go_simp; (try with_reducible rfl)
  try simp only [Act.put, List.setIfInBounds_toArray, List.set_cons_zero, List.set_cons_succ]
  refine wpAnyH_take (i := 18) (oi := ⟨some 92, .move (.tmp 91), 4, "outright.go:51", #[⟨17, .data⟩, ⟨14, .chain⟩], none⟩) (v := ?_) rfl (by kernel_rfl) (by kernel_rfl) (by kernel_rfl) (fun _ _ _ h => HP _ _ _ _ _ h) (Or.inl ⟨by rfl, fun w hSw => ?_⟩) hH1 ?_
  rotate_left 1
  · (try simp only [S27] at hSw); go_simp; (try with_reducible rfl)
  try simp only [Act.put, List.setIfInBounds_toArray, List.set_cons_zero, List.set_cons_succ]
  refine wpAnyH_take (i := 19) (oi := ⟨some 93, .move (.tmp 15), 3, "outright.go:51", #[⟨18, .guard⟩], some (18, false)⟩) (v := ?_) rfl (by kernel_rfl) (by kernel_rfl) (by kernel_rfl) (fun _ _ _ h => HP _ _ _ _ _ h) (Or.inl ⟨by rfl, fun w hSw => ?_⟩) hH1 ?_
  rotate_left 1
  · (try simp only [S27] at hSw); go_simp; (try with_reducible rfl)
  try simp only [Act.put, List.setIfInBounds_toArray, List.set_cons_zero, List.set_cons_succ]
  refine wpAnyH_take (i := 20) (oi := ⟨some 94, .indexAddr 57 (.tmp 8) (.tmp 93), 0, "outright.go:51", #[⟨19, .data⟩, ⟨18, .guard⟩], some (18, false)⟩) (v := ?_) rfl (by kernel_rfl) (by kernel_rfl) (by kernel_rfl) (fun _ _ _ h => HP _ _ _ _ _ h) (Or.inl ⟨by rfl, fun w hSw => ?_⟩) hH1 ?_
  rotate_left 1
  · (try simp only [S27] at hSw); go_simp; (try with_reducible rfl)
  try simp only [Act.put, List.setIfInBounds_toArray, List.set_cons_zero, List.set_cons_succ]
  refine wpAnyH_take (i := 21) (oi := ⟨some 95, .fieldAddr 25 (.tmp 94) 0, 0, "outright.go:51", #[⟨20, .data⟩, ⟨18, .guard⟩], some (18, false)⟩) (v := ?_) rfl (by kernel_rfl) (by kernel_rfl) (by kernel_rfl) (fun _ _ _ h => HP _ _ _ _ _ h) (Or.inl ⟨by rfl, fun w hSw => ?_⟩) hH1 ?_
  rotate_left 1
  · (try simp only [S27] at hSw); go_simp; (try with_reducible rfl)
  try simp only [Act.put, List.setIfInBounds_toArray, List.set_cons_zero, List.set_cons_succ]
  refine wpAnyH_take (i := 22) (oi := ⟨some 96, .load 3 (.tmp 95), 3, "outright.go:51", #[⟨21, .data⟩, ⟨18, .guard⟩], some (18, false)⟩) (v := ?_) rfl (by kernel_rfl) (by kernel_rfl) (by kernel_rfl) (fun _ _ _ h => HP _ _ _ _ _ h) (Or.inl ⟨by rfl, fun w hSw => ?_⟩) hH1 ?_
  rotate_left 1
  · (try simp only [S27] at hSw); go_simp; (try with_reducible rfl)
  try simp only [Act.put, List.setIfInBounds_toArray, List.set_cons_zero, List.set_cons_succ]
  refine wpAnyH_take (i := 23) (oi := ⟨some 97, .binOp .neq 3 (.tmp 96) (.const (.int .i64 0)) 3, 4, "outright.go:51", #[⟨22, .data⟩, ⟨18, .guard⟩], some (18, false)⟩) (v := ?_) rfl (by kernel_rfl) (by kernel_rfl) (by kernel_rfl) (fun _ _ _ h => HP _ _ _ _ _ h) (Or.inl ⟨by rfl, fun w hSw => ?_⟩) hH1 ?_
  rotate_left 1
  · (try simp only [S27] at hSw); go_simp; (try with_reducible rfl)
  try simp only [Act.put, List.setIfInBounds_toArray, List.set_cons_zero, List.set_cons_succ]
  refine wpAnyH_take (i := 24) (oi := ⟨some 98, .move (.tmp 97), 4, "outright.go:51", #[⟨23, .data⟩, ⟨18, .chain⟩, ⟨18, .guard⟩], some (18, false)⟩) (v := ?_) rfl (by kernel_rfl) (by kernel_rfl) (by kernel_rfl) (fun _ _ _ h => HP _ _ _ _ _ h) (Or.inl ⟨by rfl, fun w hSw => ?_⟩) hH1 ?_
  rotate_left 1
  · (try simp only [S27] at hSw); go_simp; (try with_reducible rfl)
  try simp only [Act.put, List.setIfInBounds_toArray, List.set_cons_zero, List.set_cons_succ]
  refine wpAnyH_take (i := 25) (oi := ⟨some 99, .move (.tmp 15), 3, "outright.go:51", #[⟨24, .guard⟩], some (24, true)⟩) (v := ?_) rfl (by kernel_rfl) (by kernel_rfl) (by kernel_rfl) (fun _ _ _ h => HP _ _ _ _ _ h) (Or.inl ⟨by rfl, fun w hSw => ?_⟩) hH1 ?_
  rotate_left 1
  · (try simp only [S27] at hSw); go_simp; (try with_reducible rfl)
  try simp only [Act.put, List.setIfInBounds_toArray, List.set_cons_zero, List.set_cons_succ]
  refine wpAnyH_take (i := 26) (oi := ⟨some 100, .indexAddr 57 (.tmp 8) (.tmp 99), 0, "outright.go:51", #[⟨25, .data⟩, ⟨24, .guard⟩], some (24, true)⟩) (v := ?_) rfl (by kernel_rfl) (by kernel_rfl) (by kernel_rfl) (fun _ _ _ h => HP _ _ _ _ _ h) (Or.inl ⟨by rfl, fun w hSw => ?_⟩) hH1 ?_
  rotate_left 1
  · (try simp only [S27] at hSw); go_simp; (try with_reducible rfl)
  try simp only [Act.put, List.setIfInBounds_toArray, List.set_cons_zero, List.set_cons_succ]
  refine wpAnyH_take (i := 27) (oi := ⟨some 101, .load 25 (.tmp 100), 25, "outright.go:51", #[⟨26, .data⟩, ⟨24, .guard⟩], some (24, true)⟩) (v := .agg (H).toArray) rfl (by kernel_rfl) (by kernel_rfl) (by kernel_rfl) (fun _ _ _ h => HP _ _ _ _ _ h) (yieldsIf_load_mid (by rfl) _ _ rfl (bb) (m * 33) rfl (H) _ (fun w q => q.2.2.2.2.1) Tryd.underlying25 rfl HIh.out) hH1 ?_
  try simp only [Act.put, List.setIfInBounds_toArray, List.set_cons_zero, List.set_cons_succ]
  refine wpAnyH_take (i := 28) (oi := ⟨some 102, .load 25 (.tmp 12), 25, "outright.go:51", #[⟨24, .guard⟩], some (24, true)⟩) (v := .agg (H).toArray) rfl (by kernel_rfl) (by kernel_rfl) (by kernel_rfl) (fun _ _ _ h => HP _ _ _ _ _ h) (yieldsIf_load_mid (by rfl) _ _ rfl (hb) (0) rfl (H) _ (fun w q => q.2.2.1) Tryd.underlying25 rfl HIh.out) hH1 ?_
  try simp only [Act.put, List.setIfInBounds_toArray, List.set_cons_zero, List.set_cons_succ]
  refine wpAnyH_take (i := 29) (oi := ⟨some 103, .binOp .neq 25 (.tmp 101) (.tmp 102) 25, 4, "outright.go:51", #[⟨27, .data⟩, ⟨28, .data⟩, ⟨24, .guard⟩], some (24, true)⟩) (v := ?_) rfl (by kernel_rfl) (by kernel_rfl) (by kernel_rfl) (fun _ _ _ h => HP _ _ _ _ _ h) (Or.inl ⟨by rfl, fun w hSw => ?_⟩) hH1 ?_
  rotate_left 1
  · (try simp only [S27] at hSw); go_simp; (try with_reducible rfl)
  try simp only [Act.put, List.setIfInBounds_toArray, List.set_cons_zero, List.set_cons_succ]
  refine wpAnyH_take (i := 30) (oi := ⟨some 104, .pick (.tmp 98) (.tmp 103) (.const (.bool false)), 4, "outright.go:51", #[⟨24, .data⟩, ⟨29, .data⟩, ⟨18, .guard⟩], some (18, false)⟩) (v := ?_) rfl (by kernel_rfl) (by kernel_rfl) (by kernel_rfl) (fun _ _ _ h => HP _ _ _ _ _ h) (Or.inl ⟨by rfl, fun w hSw => ?_⟩) hH1 ?_
  rotate_left 1
  · (try simp only [S27] at hSw); go_simp; (try with_reducible rfl)
  try simp only [Act.put, List.setIfInBounds_toArray, List.set_cons_zero, List.set_cons_succ]
  refine wpAnyH_take (i := 31) (oi := ⟨some 105, .pick (.tmp 92) (.const (.bool true)) (.tmp 104), 4, "outright.go:51", #[⟨18, .data⟩, ⟨30, .data⟩], none⟩) (v := ?_) rfl (by kernel_rfl) (by kernel_rfl) (by kernel_rfl) (fun _ _ _ h => HP _ _ _ _ _ h) (Or.inl ⟨by rfl, fun w hSw => ?_⟩) hH1 ?_
  rotate_left 1
  · (try simp only [S27] at hSw); go_simp; (try with_reducible rfl)
  try simp only [Act.put, List.setIfInBounds_toArray, List.set_cons_zero, List.set_cons_succ]
  refine wpAnyH_take (i := 32) (oi := ⟨some 106, .move (.tmp 105), 4, "outright.go:51", #[⟨31, .data⟩, ⟨24, .chain⟩], none⟩) (v := ?_) rfl (by kernel_rfl) (by kernel_rfl) (by kernel_rfl) (fun _ _ _ h => HP _ _ _ _ _ h) (Or.inl ⟨by rfl, fun w hSw => ?_⟩) hH1 ?_
  rotate_left 1
  · (try simp only [S27] at hSw); go_simp; (try with_reducible rfl)
  try simp only [Act.put, List.setIfInBounds_toArray, List.set_cons_zero, List.set_cons_succ]
  refine wpAnyH_take (i := 33) (oi := ⟨some 107, .move (.tmp 15), 3, "outright.go:51", #[⟨32, .guard⟩], some (32, false)⟩) (v := ?_) rfl (by kernel_rfl) (by kernel_rfl) (by kernel_rfl) (fun _ _ _ h => HP _ _ _ _ _ h) (Or.inl ⟨by rfl, fun w hSw => ?_⟩) hH1 ?_
  rotate_left 1
  · (try simp only [S27] at hSw); go_simp; (try with_reducible rfl)
  try simp only [Act.put, List.setIfInBounds_toArray, List.set_cons_zero, List.set_cons_succ]
  refine wpAnyH_take (i := 34) (oi := ⟨some 108, .binOp .gtr 3 (.tmp 107) (.const (.int .i64 0)) 3, 4, "outright.go:51", #[⟨33, .data⟩, ⟨32, .guard⟩], some (32, false)⟩) (v := ?_) rfl (by kernel_rfl) (by kernel_rfl) (by kernel_rfl) (fun _ _ _ h => HP _ _ _ _ _ h) (Or.inl ⟨by rfl, fun w hSw => ?_⟩) hH1 ?_
  rotate_left 1
  · (try simp only [S27] at hSw); go_simp; (try with_reducible rfl)
  try simp only [Act.put, List.setIfInBounds_toArray, List.set_cons_zero, List.set_cons_succ]
  refine wpAnyH_take (i := 35) (oi := ⟨some 109, .move (.tmp 108), 4, "outright.go:51", #[⟨34, .data⟩, ⟨32, .chain⟩, ⟨32, .guard⟩], some (32, false)⟩) (v := ?_) rfl (by kernel_rfl) (by kernel_rfl) (by kernel_rfl) (fun _ _ _ h => HP _ _ _ _ _ h) (Or.inl ⟨by rfl, fun w hSw => ?_⟩) hH1 ?_
  rotate_left 1
  · (try simp only [S27] at hSw); go_simp; (try with_reducible rfl)
  try simp only [Act.put, List.setIfInBounds_toArray, List.set_cons_zero, List.set_cons_succ]
  refine wpAnyH_take (i := 36) (oi := ⟨some 110, .move (.tmp 15), 3, "outright.go:51", #[⟨35, .guard⟩], some (35, true)⟩) (v := undef) rfl (by kernel_rfl) (by kernel_rfl) (by kernel_rfl) (fun _ _ _ h => HP _ _ _ _ _ h) (Or.inr ⟨by rfl, rfl⟩) hH1 ?_
  try simp only [Act.put, List.setIfInBounds_toArray, List.set_cons_zero, List.set_cons_succ]
  refine wpAnyH_take (i := 37) (oi := ⟨some 111, .binOp .sub 3 (.tmp 110) (.const (.int .i64 1)) 3, 3, "outright.go:51", #[⟨36, .data⟩, ⟨35, .guard⟩], some (35, true)⟩) (v := undef) rfl (by kernel_rfl) (by kernel_rfl) (by kernel_rfl) (fun _ _ _ h => HP _ _ _ _ _ h) (Or.inr ⟨by rfl, rfl⟩) hH1 ?_
  try simp only [Act.put, List.setIfInBounds_toArray, List.set_cons_zero, List.set_cons_succ]
  refine wpAnyH_take (i := 38) (oi := ⟨some 112, .indexAddr 57 (.tmp 8) (.tmp 111), 0, "outright.go:51", #[⟨37, .data⟩, ⟨35, .guard⟩], some (35, true)⟩) (v := undef) rfl (by kernel_rfl) (by kernel_rfl) (by kernel_rfl) (fun _ _ _ h => HP _ _ _ _ _ h) (Or.inr ⟨by rfl, rfl⟩) hH1 ?_
  try simp only [Act.put, List.setIfInBounds_toArray, List.set_cons_zero, List.set_cons_succ]
  refine wpAnyH_take (i := 39) (oi := ⟨some 113, .fieldAddr 25 (.tmp 112) 0, 0, "outright.go:51", #[⟨38, .data⟩, ⟨35, .guard⟩], some (35, true)⟩) (v := undef) rfl (by kernel_rfl) (by kernel_rfl) (by kernel_rfl) (fun _ _ _ h => HP _ _ _ _ _ h) (Or.inr ⟨by rfl, rfl⟩) hH1 ?_
  try simp only [Act.put, List.setIfInBounds_toArray, List.set_cons_zero, List.set_cons_succ]
  refine wpAnyH_take (i := 40) (oi := ⟨some 114, .load 3 (.tmp 113), 3, "outright.go:51", #[⟨39, .data⟩, ⟨35, .guard⟩], some (35, true)⟩) (v := undef) rfl (by kernel_rfl) (by kernel_rfl) (by kernel_rfl) (fun _ _ _ h => HP _ _ _ _ _ h) (Or.inr ⟨by rfl, rfl⟩) hH1 ?_
  try simp only [Act.put, List.setIfInBounds_toArray, List.set_cons_zero, List.set_cons_succ]
  refine wpAnyH_take (i := 41) (oi := ⟨some 115, .fieldAddr 25 (.tmp 12) 0, 0, "outright.go:51", #[⟨35, .guard⟩], some (35, true)⟩) (v := undef) rfl (by kernel_rfl) (by kernel_rfl) (by kernel_rfl) (fun _ _ _ h => HP _ _ _ _ _ h) (Or.inr ⟨by rfl, rfl⟩) hH1 ?_
  try simp only [Act.put, List.setIfInBounds_toArray, List.set_cons_zero, List.set_cons_succ]
  refine wpAnyH_take (i := 42) (oi := ⟨some 116, .load 3 (.tmp 115), 3, "outright.go:51", #[⟨41, .data⟩, ⟨35, .guard⟩], some (35, true)⟩) (v := undef) rfl (by kernel_rfl) (by kernel_rfl) (by kernel_rfl) (fun _ _ _ h => HP _ _ _ _ _ h) (Or.inr ⟨by rfl, rfl⟩) hH1 ?_
  try simp only [Act.put, List.setIfInBounds_toArray, List.set_cons_zero, List.set_cons_succ]
  refine wpAnyH_take (i := 43) (oi := ⟨some 117, .binOp .geq 3 (.tmp 114) (.tmp 116) 3, 4, "outright.go:51", #[⟨40, .data⟩, ⟨42, .data⟩, ⟨35, .guard⟩], some (35, true)⟩) (v := undef) rfl (by kernel_rfl) (by kernel_rfl) (by kernel_rfl) (fun _ _ _ h => HP _ _ _ _ _ h) (Or.inr ⟨by rfl, rfl⟩) hH1 ?_
  try simp only [Act.put, List.setIfInBounds_toArray, List.set_cons_zero, List.set_cons_succ]
  refine wpAnyH_take (i := 44) (oi := ⟨some 118, .pick (.tmp 109) (.tmp 117) (.const (.bool false)), 4, "outright.go:51", #[⟨35, .data⟩, ⟨43, .data⟩, ⟨32, .guard⟩], some (32, false)⟩) (v := ?_) rfl (by kernel_rfl) (by kernel_rfl) (by kernel_rfl) (fun _ _ _ h => HP _ _ _ _ _ h) (Or.inl ⟨by rfl, fun w hSw => ?_⟩) hH1 ?_
  rotate_left 1
  · (try simp only [S27] at hSw); go_simp; (try with_reducible rfl)
  try simp only [Act.put, List.setIfInBounds_toArray, List.set_cons_zero, List.set_cons_succ]
  refine wpAnyH_take (i := 45) (oi := ⟨some 119, .pick (.tmp 106) (.const (.bool true)) (.tmp 118), 4, "outright.go:51", #[⟨32, .data⟩, ⟨44, .data⟩], none⟩) (v := ?_) rfl (by kernel_rfl) (by kernel_rfl) (by kernel_rfl) (fun _ _ _ h => HP _ _ _ _ _ h) (Or.inl ⟨by rfl, fun w hSw => ?_⟩) hH1 ?_
  rotate_left 1
  · (try simp only [S27] at hSw); go_simp; (try with_reducible rfl)
  try simp only [Act.put, List.setIfInBounds_toArray, List.set_cons_zero, List.set_cons_succ]
  refine wpAnyH_take (i := 46) (oi := ⟨some 120, .move (.tmp 119), 4, "outright.go:51", #[⟨45, .data⟩, ⟨35, .chain⟩], none⟩) (v := ?_) rfl (by kernel_rfl) (by kernel_rfl) (by kernel_rfl) (fun _ _ _ h => HP _ _ _ _ _ h) (Or.inl ⟨by rfl, fun w hSw => ?_⟩) hH1 ?_
  rotate_left 1
  · (try simp only [S27] at hSw); go_simp; (try with_reducible rfl)
  try simp only [Act.put, List.setIfInBounds_toArray, List.set_cons_zero, List.set_cons_succ]
  refine wpAnyH_take (i := 47) (oi := ⟨some 121, .move (.tmp 15), 3, "outright.go:51", #[⟨46, .guard⟩], some (46, false)⟩) (v := ?_) rfl (by kernel_rfl) (by kernel_rfl) (by kernel_rfl) (fun _ _ _ h => HP _ _ _ _ _ h) (Or.inl ⟨by rfl, fun w hSw => ?_⟩) hH1 ?_
  rotate_left 1
  · (try simp only [S27] at hSw); go_simp; (try with_reducible rfl)
  try simp only [Act.put, List.setIfInBounds_toArray, List.set_cons_zero, List.set_cons_succ]
  refine wpAnyH_take (i := 48) (oi := ⟨some 122, .move (.tmp 5), 26, "outright.go:51", #[⟨46, .guard⟩], some (46, false)⟩) (v := ?_) rfl (by kernel_rfl) (by kernel_rfl) (by kernel_rfl) (fun _ _ _ h => HP _ _ _ _ _ h) (Or.inl ⟨by rfl, fun w hSw => ?_⟩) hH1 ?_
  rotate_left 1
  · (try simp only [S27] at hSw); go_simp; (try with_reducible rfl)
  try simp only [Act.put, List.setIfInBounds_toArray, List.set_cons_zero, List.set_cons_succ]
  refine wpAnyH_ready (rs := [49]) (by kernel_rfl) (by simp) ?_
  refine AllReadyH.cons (o := ⟨some 123, .call { callee := .value (.func 7), args := #[.tmp 122], argTypes := #[26] }, 3, "outright.go:51", #[⟨48, .data⟩, ⟨46, .chain⟩, ⟨46, .guard⟩], some (46, false)⟩) rfl (fun K hK => ?_) AllReadyH.nil
  go_simp
  refine (HUS.out _ hH1.2.2.2.2.2.2.2.2).mono ?_
  rintro e w' ⟨rfl, rfl⟩
  refine hK.out _ _ (hH1) (fun hH2 => ?_)
  clear hK K
  try simp only [Act.put, List.setIfInBounds_toArray, List.set_cons_zero, List.set_cons_succ]
  refine wpAnyH_take (i := 50) (oi := ⟨some 124, .binOp .sub 3 (.tmp 123) (.const (.int .i64 1)) 3, 3, "outright.go:51", #[⟨49, .data⟩, ⟨46, .guard⟩], some (46, false)⟩) (v := ?_) rfl (by kernel_rfl) (by kernel_rfl) (by kernel_rfl) (fun _ _ _ h => HP _ _ _ _ _ h) (Or.inl ⟨by rfl, fun w hSw => ?_⟩) hH2 ?_
  rotate_left 1
  · (try simp only [S27] at hSw); go_simp; (try with_reducible rfl)
  try simp only [Act.put, List.setIfInBounds_toArray, List.set_cons_zero, List.set_cons_succ]
  refine wpAnyH_take (i := 51) (oi := ⟨some 125, .binOp .neq 3 (.tmp 121) (.tmp 124) 3, 4, "outright.go:51", #[⟨47, .data⟩, ⟨50, .data⟩, ⟨46, .guard⟩], some (46, false)⟩) (v := ?_) rfl (by kernel_rfl) (by kernel_rfl) (by kernel_rfl) (fun _ _ _ h => HP _ _ _ _ _ h) (Or.inl ⟨by rfl, fun w hSw => ?_⟩) hH2 ?_
  rotate_left 1
  · (try simp only [S27] at hSw); go_simp; (try with_reducible rfl)
  try simp only [Act.put, List.setIfInBounds_toArray, List.set_cons_zero, List.set_cons_succ]
  refine wpAnyH_take (i := 52) (oi := ⟨some 126, .pick (.tmp 120) (.const (.bool true)) (.tmp 125), 4, "outright.go:51", #[⟨46, .data⟩, ⟨51, .data⟩], none⟩) (v := ?_) rfl (by kernel_rfl) (by kernel_rfl) (by kernel_rfl) (fun _ _ _ h => HP _ _ _ _ _ h) (Or.inl ⟨by rfl, fun w hSw => ?_⟩) hH2 ?_
  rotate_left 1
  · (try simp only [S27] at hSw); go_simp; (try with_reducible rfl)
  try simp only [Act.put, List.setIfInBounds_toArray, List.set_cons_zero, List.set_cons_succ]
  refine wpAnyH_done (by kernel_rfl) ?_ _
  exact HQ.out _ _ _ _ _ _ _ _ _ _ _ _ _ _ _ _ _ _ _ _ _ _ _ _ _ _ _ _ _ _ _ _ _ _ _ _ _ _ _ _ _ _ _ _ _ _ _ _ _ _ _ _ _ hH2
set_option maxRecDepth 100000 in
set_option maxHeartbeats 4000000 in
theorem once27A1 {w11 : World} {sb hb kb bb m q r : Nat} {Y H C : List Value} {zz pp : Int} {Q : Exit → Act → World → Prop} {u0 u1 u2 u3 u4 u6 u9 u10 u11 u13 u16 u17 u18 u19 u20 u21 u22 u23 u24 u25 u26 u27 u28 u29 u30 u31 u32 u33 u34 u35 u36 u37 u38 u39 u40 u41 u42 u43 u44 u45 u46 u47 u48 u49 u50 u51 u52 u53 u54 u55 u56 u57 u58 u59 u60 u61 u62 u63 u64 u65 u66 u67 u68 u69 u70 u71 u72 u73 u74 u75 u76 u77 u78 u79 u80 u81 u82 u83 u84 u85 u86 u87 u88 u89 u90 u91 u92 u93 u94 u95 u96 u97 u98 u99 u100 u101 u102 u103 u104 u105 u106 u107 u108 u109 u110 u111 u112 u113 u114 u115 u116 u117 u118 u119 u120 u121 u122 u123 u124 u125 u126 u127 u128 u129 u130 u131 u132 u133 u134 u135 u136 u137 u138 u139 u140 u141 u142 u143 u144 u145 u146 u147 u148 u149 u150 u151 u152 u153 u154 u155 u156 u157 u158 u159 u160 u161 u162 u163 u164 u165 u166 u167 u168 u169 u170 u171 u172 u173 u174 u175 u176 u177 u178 u179 u180 u181 u182 u183 u184 u185 u186 u187 u188 u189 u190 u191 u192 u193 u194 u195 u196 u197 u198 u199 u200 u201 u202 u203 u204 u205 u206 u207 u208 u209 u210 u211 u212 u213 u214 u215 u216 u217 u218 u219 u220 u221 u222 u223 u224 u225 u226 u227 u228 u229 u230 u231 u232 u233 u234 u235 u236 u237 u238 u239 u240 u241 u242 u243 u244 u245 : Value} (HCK : Hid (∀ w', Kept (fun _ => False) w11 w' → Calls Tryd.prog 15 #[.agg C.toArray, .agg Y.toArray] w' fun e w2 => e = .returned (.int .i64 0) ∧ Kept (fun _ => False) w' w2)) (HUS : Hid (∀ w', Kept (fun _ => False) w11 w' → Calls Tryd.prog 7 #[.pointer (some ⟨r, 0, none⟩)] w' fun e w2 => e = .returned (.int .i64 ((m : Int) + 1)) ∧ w' = w2)) (HL4 : Hid (sb < w11.heap.size ∧ hb < w11.heap.size ∧ kb < w11.heap.size ∧ bb < w11.heap.size)) (HIh : Hid ((Tryd.prog.info? 25).map (·.size) = some H.length)) (HIk : Hid ((Tryd.prog.info? 23).map (·.size) = some C.length)) (HIy : Hid ((Tryd.prog.info? 31).map (·.size) = some Y.length)) (hneq : ∀ w', (binOp .neq 25 (.agg H.toArray) (.agg H.toArray)).run Tryd.prog w' = .ok (.bool false) w') (i0 : decide ((m : Int) < 0) = false) (i1 : decide ((8 : Int) ≤ (m : Int)) = false) (i2 : (m : Int) < 8) (i3 : (q : Int) < 8) (i4 : wrap64 ((m : Int) + 1) = (m : Int) + 1) (i5 : IntKind.i64.wrap ((m : Int) + 1) = (m : Int) + 1) (i6 : IntKind.i64.wrap (m : Int) = (m : Int)) (i7 : wrap64 (m : Int) = (m : Int)) (i8 : decide ((0 : Int) < (m : Int)) = true) (i12 : decide (0 < m) = true) (i10 : IntKind.i64.wrap ((m : Int) - 1) = (q : Int)) (i11 : wrap64 ((m : Int) - 1) = (q : Int)) (j5 : decide (zz ≤ pp) = false) (j1 : (zz != 0) = true) (j2 : (zz == 0) = false) (j3 : decide (zz = 0) = false) (SA : (fun w' => S27 w11 w' sb hb kb bb m q Y H C (H) zz pp zz) w11.drew)
    (HP : ∀ c a (k : Nat) v w, Q (.panic c) (Act.put a (some k) v) w → Q (.panic c) a w) (HQ : ∀ (v74 v75 v76 v77 v78 v79 v80 v81 v82 v83 v84 v85 v86 v87 v88 v89 v90 v91 v92 v93 v94 v95 v96 v97 v98 v99 v100 v101 v102 v103 v104 v105 v106 v107 v108 v109 v110 v111 v112 v113 v114 v115 v116 v117 v118 v119 v120 v121 v122 v123 v124 v125 : Value) (w' : World), (fun w' => S27 w11 w' sb hb kb bb m q Y H C (H) zz pp zz) w' → Q .normal ⟨List.toArray (u0 :: u1 :: u2 :: u3 :: u4 :: (.pointer (some ⟨r, 0, none⟩)) :: u6 :: (.pointer (some ⟨kb, 0, none⟩)) :: (.pointer (some ⟨bb, 0, none⟩)) :: u9 :: u10 :: u11 :: (.pointer (some ⟨hb, 0, none⟩)) :: u13 :: (.pointer (some ⟨sb, 0, none⟩)) :: (.int .i64 (m : Int)) :: u16 :: u17 :: u18 :: u19 :: u20 :: u21 :: u22 :: u23 :: u24 :: u25 :: u26 :: u27 :: u28 :: u29 :: u30 :: u31 :: u32 :: u33 :: u34 :: u35 :: u36 :: u37 :: u38 :: u39 :: u40 :: u41 :: u42 :: u43 :: u44 :: u45 :: u46 :: u47 :: u48 :: u49 :: u50 :: u51 :: u52 :: u53 :: u54 :: u55 :: u56 :: u57 :: u58 :: u59 :: u60 :: u61 :: u62 :: u63 :: u64 :: u65 :: u66 :: u67 :: u68 :: u69 :: u70 :: u71 :: u72 :: u73 :: v74 :: v75 :: v76 :: v77 :: v78 :: v79 :: v80 :: v81 :: v82 :: v83 :: v84 :: v85 :: v86 :: v87 :: v88 :: v89 :: v90 :: v91 :: v92 :: v93 :: v94 :: v95 :: v96 :: v97 :: v98 :: v99 :: v100 :: v101 :: v102 :: v103 :: v104 :: v105 :: v106 :: v107 :: v108 :: v109 :: v110 :: v111 :: v112 :: v113 :: v114 :: v115 :: v116 :: v117 :: v118 :: v119 :: v120 :: v121 :: v122 :: v123 :: v124 :: v125 :: (.bool false) :: u127 :: u128 :: u129 :: u130 :: u131 :: u132 :: u133 :: u134 :: u135 :: u136 :: u137 :: u138 :: u139 :: u140 :: u141 :: u142 :: u143 :: u144 :: u145 :: u146 :: u147 :: u148 :: u149 :: u150 :: u151 :: u152 :: u153 :: u154 :: u155 :: u156 :: u157 :: u158 :: u159 :: u160 :: u161 :: u162 :: u163 :: u164 :: u165 :: u166 :: u167 :: u168 :: u169 :: u170 :: u171 :: u172 :: u173 :: u174 :: u175 :: u176 :: u177 :: u178 :: u179 :: u180 :: u181 :: u182 :: u183 :: u184 :: u185 :: u186 :: u187 :: u188 :: u189 :: u190 :: u191 :: u192 :: u193 :: u194 :: u195 :: u196 :: u197 :: u198 :: u199 :: u200 :: u201 :: u202 :: u203 :: u204 :: u205 :: u206 :: u207 :: u208 :: u209 :: u210 :: u211 :: u212 :: u213 :: u214 :: u215 :: u216 :: u217 :: u218 :: u219 :: u220 :: u221 :: u222 :: u223 :: u224 :: u225 :: u226 :: u227 :: u228 :: u229 :: u230 :: u231 :: u232 :: u233 :: u234 :: u235 :: u236 :: u237 :: u238 :: u239 :: u240 :: u241 :: u242 :: u243 :: u244 :: u245 :: []), []⟩ w') :
    Code.wp Tryd.prog (Code.region 27 ops27 true) Q ⟨List.toArray (u0 :: u1 :: u2 :: u3 :: u4 :: (.pointer (some ⟨r, 0, none⟩)) :: u6 :: (.pointer (some ⟨kb, 0, none⟩)) :: (.pointer (some ⟨bb, 0, none⟩)) :: u9 :: u10 :: u11 :: (.pointer (some ⟨hb, 0, none⟩)) :: u13 :: (.pointer (some ⟨sb, 0, none⟩)) :: (.int .i64 (m : Int)) :: u16 :: u17 :: u18 :: u19 :: u20 :: u21 :: u22 :: u23 :: u24 :: u25 :: u26 :: u27 :: u28 :: u29 :: u30 :: u31 :: u32 :: u33 :: u34 :: u35 :: u36 :: u37 :: u38 :: u39 :: u40 :: u41 :: u42 :: u43 :: u44 :: u45 :: u46 :: u47 :: u48 :: u49 :: u50 :: u51 :: u52 :: u53 :: u54 :: u55 :: u56 :: u57 :: u58 :: u59 :: u60 :: u61 :: u62 :: u63 :: u64 :: u65 :: u66 :: u67 :: u68 :: u69 :: u70 :: u71 :: u72 :: u73 :: u74 :: u75 :: u76 :: u77 :: u78 :: u79 :: u80 :: u81 :: u82 :: u83 :: u84 :: u85 :: u86 :: u87 :: u88 :: u89 :: u90 :: u91 :: u92 :: u93 :: u94 :: u95 :: u96 :: u97 :: u98 :: u99 :: u100 :: u101 :: u102 :: u103 :: u104 :: u105 :: u106 :: u107 :: u108 :: u109 :: u110 :: u111 :: u112 :: u113 :: u114 :: u115 :: u116 :: u117 :: u118 :: u119 :: u120 :: u121 :: u122 :: u123 :: u124 :: u125 :: u126 :: u127 :: u128 :: u129 :: u130 :: u131 :: u132 :: u133 :: u134 :: u135 :: u136 :: u137 :: u138 :: u139 :: u140 :: u141 :: u142 :: u143 :: u144 :: u145 :: u146 :: u147 :: u148 :: u149 :: u150 :: u151 :: u152 :: u153 :: u154 :: u155 :: u156 :: u157 :: u158 :: u159 :: u160 :: u161 :: u162 :: u163 :: u164 :: u165 :: u166 :: u167 :: u168 :: u169 :: u170 :: u171 :: u172 :: u173 :: u174 :: u175 :: u176 :: u177 :: u178 :: u179 :: u180 :: u181 :: u182 :: u183 :: u184 :: u185 :: u186 :: u187 :: u188 :: u189 :: u190 :: u191 :: u192 :: u193 :: u194 :: u195 :: u196 :: u197 :: u198 :: u199 :: u200 :: u201 :: u202 :: u203 :: u204 :: u205 :: u206 :: u207 :: u208 :: u209 :: u210 :: u211 :: u212 :: u213 :: u214 :: u215 :: u216 :: u217 :: u218 :: u219 :: u220 :: u221 :: u222 :: u223 :: u224 :: u225 :: u226 :: u227 :: u228 :: u229 :: u230 :: u231 :: u232 :: u233 :: u234 :: u235 :: u236 :: u237 :: u238 :: u239 :: u240 :: u241 :: u242 :: u243 :: u244 :: u245 :: []), []⟩ w11 := by
  have HQ := Lib.hid HQ
  unfold ops27
  refine wp_region_held_drew (S := (fun w' => S27 w11 w' sb hb kb bb m q Y H C (H) zz pp zz)) (by kernel_rfl) SA (fun hH0 => ?_)
  refine wpAnyH_take (i := 0) (oi := ⟨some 74, .fieldAddr 31 (.tmp 14) 0, 0, "outright.go:51", #[], none⟩) (v := ?_) rfl (by kernel_rfl) (by kernel_rfl) (by kernel_rfl) (fun _ _ _ h => HP _ _ _ _ _ h) (Or.inl ⟨by rfl, fun w hSw => ?_⟩) hH0 ?_
  rotate_left 1
  · (try simp only [S27] at hSw); go_simp; (try with_reducible rfl)
  try simp only [Act.put, List.setIfInBounds_toArray, List.set_cons_zero, List.set_cons_succ]
  refine wpAnyH_take (i := 1) (oi := ⟨some 75, .load 25 (.tmp 74), 25, "outright.go:51", #[⟨0, .data⟩], none⟩) (v := .agg (H).toArray) rfl (by kernel_rfl) (by kernel_rfl) (by kernel_rfl) (fun _ _ _ h => HP _ _ _ _ _ h) (yieldsIf_load_mid (by rfl) _ _ rfl (sb) (0) rfl (H) _ (fun w q => q.2.1) Tryd.underlying25 rfl HIh.out) hH0 ?_
  try simp only [Act.put, List.setIfInBounds_toArray, List.set_cons_zero, List.set_cons_succ]
  refine wpAnyH_take (i := 2) (oi := ⟨some 76, .load 25 (.tmp 12), 25, "outright.go:51", #[], none⟩) (v := .agg (H).toArray) rfl (by kernel_rfl) (by kernel_rfl) (by kernel_rfl) (fun _ _ _ h => HP _ _ _ _ _ h) (yieldsIf_load_mid (by rfl) _ _ rfl (hb) (0) rfl (H) _ (fun w q => q.2.2.1) Tryd.underlying25 rfl HIh.out) hH0 ?_
  try simp only [Act.put, List.setIfInBounds_toArray, List.set_cons_zero, List.set_cons_succ]
  refine wpAnyH_take (i := 3) (oi := ⟨some 77, .binOp .neq 25 (.tmp 75) (.tmp 76) 25, 4, "outright.go:51", #[⟨1, .data⟩, ⟨2, .data⟩], none⟩) (v := ?_) rfl (by kernel_rfl) (by kernel_rfl) (by kernel_rfl) (fun _ _ _ h => HP _ _ _ _ _ h) (Or.inl ⟨by rfl, fun w hSw => ?_⟩) hH0 ?_
  rotate_left 1
  · (try simp only [S27] at hSw); go_simp; (try with_reducible rfl)
  try simp only [Act.put, List.setIfInBounds_toArray, List.set_cons_zero, List.set_cons_succ]
  refine wpAnyH_take (i := 4) (oi := ⟨some 78, .move (.tmp 77), 4, "outright.go:51", #[⟨3, .data⟩], none⟩) (v := ?_) rfl (by kernel_rfl) (by kernel_rfl) (by kernel_rfl) (fun _ _ _ h => HP _ _ _ _ _ h) (Or.inl ⟨by rfl, fun w hSw => ?_⟩) hH0 ?_
  rotate_left 1
  · (try simp only [S27] at hSw); go_simp; (try with_reducible rfl)
  try simp only [Act.put, List.setIfInBounds_toArray, List.set_cons_zero, List.set_cons_succ]
  refine wpAnyH_take (i := 5) (oi := ⟨some 79, .load 23 (.tmp 7), 23, "outright.go:51", #[⟨4, .guard⟩], some (4, false)⟩) (v := .agg (C).toArray) rfl (by kernel_rfl) (by kernel_rfl) (by kernel_rfl) (fun _ _ _ h => HP _ _ _ _ _ h) (yieldsIf_load_mid (by rfl) _ _ rfl (kb) (0) rfl (C) _ (fun w q => q.2.2.2.1) Tryd.underlying23 rfl HIk.out) hH0 ?_
  try simp only [Act.put, List.setIfInBounds_toArray, List.set_cons_zero, List.set_cons_succ]
  refine wpAnyH_take (i := 6) (oi := ⟨some 80, .load 31 (.tmp 14), 31, "outright.go:51", #[⟨4, .guard⟩], some (4, false)⟩) (v := .agg (Y).toArray) rfl (by kernel_rfl) (by kernel_rfl) (by kernel_rfl) (fun _ _ _ h => HP _ _ _ _ _ h) (yieldsIf_load_mid (by rfl) _ _ rfl (sb) (0) rfl (Y) _ (fun w q => q.1) Tryd.underlying31 rfl HIy.out) hH0 ?_
  try simp only [Act.put, List.setIfInBounds_toArray, List.set_cons_zero, List.set_cons_succ]
  refine wpAnyH_ready (rs := [7]) (by kernel_rfl) (by simp) ?_
  refine AllReadyH.cons (o := ⟨some 81, .call { callee := .value (.func 15), args := #[.tmp 79, .tmp 80], argTypes := #[23, 31] }, 32, "outright.go:51", #[⟨5, .data⟩, ⟨6, .data⟩, ⟨4, .chain⟩, ⟨4, .guard⟩], some (4, false)⟩) rfl (fun K hK => ?_) AllReadyH.nil
  go_simp
  refine (HCK.out _ hH0.2.2.2.2.2.2.2.2).mono ?_
  rintro e w12 ⟨rfl, hk12⟩
  refine hK.out _ _ (s27_next hH0 HL4.out hk12) (fun hH1 => ?_)
  clear hK K
  try simp only [Act.put, List.setIfInBounds_toArray, List.set_cons_zero, List.set_cons_succ]
  refine wpAnyH_take (i := 8) (oi := ⟨some 82, .binOp .neq 32 (.tmp 81) (.const (.int .i64 0)) 32, 4, "outright.go:51", #[⟨7, .data⟩, ⟨4, .guard⟩], some (4, false)⟩) (v := ?_) rfl (by kernel_rfl) (by kernel_rfl) (by kernel_rfl) (fun _ _ _ h => HP _ _ _ _ _ h) (Or.inl ⟨by rfl, fun w hSw => ?_⟩) hH1 ?_
  rotate_left 1
  · (try simp only [S27] at hSw); go_simp; (try with_reducible rfl)
  try simp only [Act.put, List.setIfInBounds_toArray, List.set_cons_zero, List.set_cons_succ]
  refine wpAnyH_take (i := 9) (oi := ⟨some 83, .pick (.tmp 78) (.const (.bool true)) (.tmp 82), 4, "outright.go:51", #[⟨4, .data⟩, ⟨8, .data⟩], none⟩) (v := ?_) rfl (by kernel_rfl) (by kernel_rfl) (by kernel_rfl) (fun _ _ _ h => HP _ _ _ _ _ h) (Or.inl ⟨by rfl, fun w hSw => ?_⟩) hH1 ?_
  rotate_left 1
  · (try simp only [S27] at hSw); go_simp; (try with_reducible rfl)
  try simp only [Act.put, List.setIfInBounds_toArray, List.set_cons_zero, List.set_cons_succ]
  refine wpAnyH_take (i := 10) (oi := ⟨some 84, .move (.tmp 83), 4, "outright.go:51", #[⟨9, .data⟩, ⟨7, .chain⟩], none⟩) (v := ?_) rfl (by kernel_rfl) (by kernel_rfl) (by kernel_rfl) (fun _ _ _ h => HP _ _ _ _ _ h) (Or.inl ⟨by rfl, fun w hSw => ?_⟩) hH1 ?_
  rotate_left 1
  · (try simp only [S27] at hSw); go_simp; (try with_reducible rfl)
  try simp only [Act.put, List.setIfInBounds_toArray, List.set_cons_zero, List.set_cons_succ]
  refine wpAnyH_take (i := 11) (oi := ⟨some 85, .move (.tmp 15), 3, "outright.go:51", #[⟨10, .guard⟩], some (10, false)⟩) (v := ?_) rfl (by kernel_rfl) (by kernel_rfl) (by kernel_rfl) (fun _ _ _ h => HP _ _ _ _ _ h) (Or.inl ⟨by rfl, fun w hSw => ?_⟩) hH1 ?_
  rotate_left 1
  · (try simp only [S27] at hSw); go_simp; (try with_reducible rfl)
  try simp only [Act.put, List.setIfInBounds_toArray, List.set_cons_zero, List.set_cons_succ]
  refine wpAnyH_take (i := 12) (oi := ⟨some 86, .binOp .lss 3 (.tmp 85) (.const (.int .i64 0)) 3, 4, "outright.go:51", #[⟨11, .data⟩, ⟨10, .guard⟩], some (10, false)⟩) (v := ?_) rfl (by kernel_rfl) (by kernel_rfl) (by kernel_rfl) (fun _ _ _ h => HP _ _ _ _ _ h) (Or.inl ⟨by rfl, fun w hSw => ?_⟩) hH1 ?_
  rotate_left 1
  · (try simp only [S27] at hSw); go_simp; (try with_reducible rfl)
  try simp only [Act.put, List.setIfInBounds_toArray, List.set_cons_zero, List.set_cons_succ]
  refine wpAnyH_take (i := 13) (oi := ⟨some 87, .pick (.tmp 84) (.const (.bool true)) (.tmp 86), 4, "outright.go:51", #[⟨10, .data⟩, ⟨12, .data⟩], none⟩) (v := ?_) rfl (by kernel_rfl) (by kernel_rfl) (by kernel_rfl) (fun _ _ _ h => HP _ _ _ _ _ h) (Or.inl ⟨by rfl, fun w hSw => ?_⟩) hH1 ?_
  rotate_left 1
  · (try simp only [S27] at hSw); go_simp; (try with_reducible rfl)
  try simp only [Act.put, List.setIfInBounds_toArray, List.set_cons_zero, List.set_cons_succ]
  refine wpAnyH_take (i := 14) (oi := ⟨some 88, .move (.tmp 87), 4, "outright.go:51", #[⟨13, .data⟩, ⟨10, .chain⟩], none⟩) (v := ?_) rfl (by kernel_rfl) (by kernel_rfl) (by kernel_rfl) (fun _ _ _ h => HP _ _ _ _ _ h) (Or.inl ⟨by rfl, fun w hSw => ?_⟩) hH1 ?_
  rotate_left 1
  · (try simp only [S27] at hSw); go_simp; (try with_reducible rfl)
  try simp only [Act.put, List.setIfInBounds_toArray, List.set_cons_zero, List.set_cons_succ]
  refine wpAnyH_take (i := 15) (oi := ⟨some 89, .move (.tmp 15), 3, "outright.go:51", #[⟨14, .guard⟩], some (14, false)⟩) (v := ?_) rfl (by kernel_rfl) (by kernel_rfl) (by kernel_rfl) (fun _ _ _ h => HP _ _ _ _ _ h) (Or.inl ⟨by rfl, fun w hSw => ?_⟩) hH1 ?_
  rotate_left 1
  · (try simp only [S27] at hSw); go_simp; (try with_reducible rfl)
  try simp only [Act.put, List.setIfInBounds_toArray, List.set_cons_zero, List.set_cons_succ]
  refine wpAnyH_take (i := 16) (oi := ⟨some 90, .binOp .geq 3 (.tmp 89) (.const (.int .i64 8)) 3, 4, "outright.go:51", #[⟨15, .data⟩, ⟨14, .guard⟩], some (14, false)⟩) (v := ?_) rfl (by kernel_rfl) (by kernel_rfl) (by kernel_rfl) (fun _ _ _ h => HP _ _ _ _ _ h) (Or.inl ⟨by rfl, fun w hSw => ?_⟩) hH1 ?_
  rotate_left 1
  · (try simp only [S27] at hSw); go_simp; (try with_reducible rfl)
  try simp only [Act.put, List.setIfInBounds_toArray, List.set_cons_zero, List.set_cons_succ]
  refine wpAnyH_take (i := 17) (oi := ⟨some 91, .pick (.tmp 88) (.const (.bool true)) (.tmp 90), 4, "outright.go:51", #[⟨14, .data⟩, ⟨16, .data⟩], none⟩) (v := ?_) rfl (by kernel_rfl) (by kernel_rfl) (by kernel_rfl) (fun _ _ _ h => HP _ _ _ _ _ h) (Or.inl ⟨by rfl, fun w hSw => ?_⟩) hH1 ?_
  rotate_left 1
  · (try simp only [S27] at hSw); go_simp; (try with_reducible rfl)
  try simp only [Act.put, List.setIfInBounds_toArray, List.set_cons_zero, List.set_cons_succ]
  refine wpAnyH_take (i := 18) (oi := ⟨some 92, .move (.tmp 91), 4, "outright.go:51", #[⟨17, .data⟩, ⟨14, .chain⟩], none⟩) (v := ?_) rfl (by kernel_rfl) (by kernel_rfl) (by kernel_rfl) (fun _ _ _ h => HP _ _ _ _ _ h) (Or.inl ⟨by rfl, fun w hSw => ?_⟩) hH1 ?_
  rotate_left 1
  · (try simp only [S27] at hSw); go_simp; (try with_reducible rfl)
  try simp only [Act.put, List.setIfInBounds_toArray, List.set_cons_zero, List.set_cons_succ]
  refine wpAnyH_take (i := 19) (oi := ⟨some 93, .move (.tmp 15), 3, "outright.go:51", #[⟨18, .guard⟩], some (18, false)⟩) (v := ?_) rfl (by kernel_rfl) (by kernel_rfl) (by kernel_rfl) (fun _ _ _ h => HP _ _ _ _ _ h) (Or.inl ⟨by rfl, fun w hSw => ?_⟩) hH1 ?_
  rotate_left 1
  · (try simp only [S27] at hSw); go_simp; (try with_reducible rfl)
  try simp only [Act.put, List.setIfInBounds_toArray, List.set_cons_zero, List.set_cons_succ]
  refine wpAnyH_take (i := 20) (oi := ⟨some 94, .indexAddr 57 (.tmp 8) (.tmp 93), 0, "outright.go:51", #[⟨19, .data⟩, ⟨18, .guard⟩], some (18, false)⟩) (v := ?_) rfl (by kernel_rfl) (by kernel_rfl) (by kernel_rfl) (fun _ _ _ h => HP _ _ _ _ _ h) (Or.inl ⟨by rfl, fun w hSw => ?_⟩) hH1 ?_
  rotate_left 1
  · (try simp only [S27] at hSw); go_simp; (try with_reducible rfl)
  try simp only [Act.put, List.setIfInBounds_toArray, List.set_cons_zero, List.set_cons_succ]
  refine wpAnyH_take (i := 21) (oi := ⟨some 95, .fieldAddr 25 (.tmp 94) 0, 0, "outright.go:51", #[⟨20, .data⟩, ⟨18, .guard⟩], some (18, false)⟩) (v := ?_) rfl (by kernel_rfl) (by kernel_rfl) (by kernel_rfl) (fun _ _ _ h => HP _ _ _ _ _ h) (Or.inl ⟨by rfl, fun w hSw => ?_⟩) hH1 ?_
  rotate_left 1
  · (try simp only [S27] at hSw); go_simp; (try with_reducible rfl)
  try simp only [Act.put, List.setIfInBounds_toArray, List.set_cons_zero, List.set_cons_succ]
  refine wpAnyH_take (i := 22) (oi := ⟨some 96, .load 3 (.tmp 95), 3, "outright.go:51", #[⟨21, .data⟩, ⟨18, .guard⟩], some (18, false)⟩) (v := ?_) rfl (by kernel_rfl) (by kernel_rfl) (by kernel_rfl) (fun _ _ _ h => HP _ _ _ _ _ h) (Or.inl ⟨by rfl, fun w hSw => ?_⟩) hH1 ?_
  rotate_left 1
  · (try simp only [S27] at hSw); go_simp; (try with_reducible rfl)
  try simp only [Act.put, List.setIfInBounds_toArray, List.set_cons_zero, List.set_cons_succ]
  refine wpAnyH_take (i := 23) (oi := ⟨some 97, .binOp .neq 3 (.tmp 96) (.const (.int .i64 0)) 3, 4, "outright.go:51", #[⟨22, .data⟩, ⟨18, .guard⟩], some (18, false)⟩) (v := ?_) rfl (by kernel_rfl) (by kernel_rfl) (by kernel_rfl) (fun _ _ _ h => HP _ _ _ _ _ h) (Or.inl ⟨by rfl, fun w hSw => ?_⟩) hH1 ?_
  rotate_left 1
  · (try simp only [S27] at hSw); go_simp; (try with_reducible rfl)
  try simp only [Act.put, List.setIfInBounds_toArray, List.set_cons_zero, List.set_cons_succ]
  refine wpAnyH_take (i := 24) (oi := ⟨some 98, .move (.tmp 97), 4, "outright.go:51", #[⟨23, .data⟩, ⟨18, .chain⟩, ⟨18, .guard⟩], some (18, false)⟩) (v := ?_) rfl (by kernel_rfl) (by kernel_rfl) (by kernel_rfl) (fun _ _ _ h => HP _ _ _ _ _ h) (Or.inl ⟨by rfl, fun w hSw => ?_⟩) hH1 ?_
  rotate_left 1
  · (try simp only [S27] at hSw); go_simp; (try with_reducible rfl)
  try simp only [Act.put, List.setIfInBounds_toArray, List.set_cons_zero, List.set_cons_succ]
  refine wpAnyH_take (i := 25) (oi := ⟨some 99, .move (.tmp 15), 3, "outright.go:51", #[⟨24, .guard⟩], some (24, true)⟩) (v := ?_) rfl (by kernel_rfl) (by kernel_rfl) (by kernel_rfl) (fun _ _ _ h => HP _ _ _ _ _ h) (Or.inl ⟨by rfl, fun w hSw => ?_⟩) hH1 ?_
  rotate_left 1
  · (try simp only [S27] at hSw); go_simp; (try with_reducible rfl)
  try simp only [Act.put, List.setIfInBounds_toArray, List.set_cons_zero, List.set_cons_succ]
  refine wpAnyH_take (i := 26) (oi := ⟨some 100, .indexAddr 57 (.tmp 8) (.tmp 99), 0, "outright.go:51", #[⟨25, .data⟩, ⟨24, .guard⟩], some (24, true)⟩) (v := ?_) rfl (by kernel_rfl) (by kernel_rfl) (by kernel_rfl) (fun _ _ _ h => HP _ _ _ _ _ h) (Or.inl ⟨by rfl, fun w hSw => ?_⟩) hH1 ?_
  rotate_left 1
  · (try simp only [S27] at hSw); go_simp; (try with_reducible rfl)
  try simp only [Act.put, List.setIfInBounds_toArray, List.set_cons_zero, List.set_cons_succ]
  refine wpAnyH_take (i := 27) (oi := ⟨some 101, .load 25 (.tmp 100), 25, "outright.go:51", #[⟨26, .data⟩, ⟨24, .guard⟩], some (24, true)⟩) (v := .agg (H).toArray) rfl (by kernel_rfl) (by kernel_rfl) (by kernel_rfl) (fun _ _ _ h => HP _ _ _ _ _ h) (yieldsIf_load_mid (by rfl) _ _ rfl (bb) (m * 33) rfl (H) _ (fun w q => q.2.2.2.2.1) Tryd.underlying25 rfl HIh.out) hH1 ?_
  try simp only [Act.put, List.setIfInBounds_toArray, List.set_cons_zero, List.set_cons_succ]
  refine wpAnyH_take (i := 28) (oi := ⟨some 102, .load 25 (.tmp 12), 25, "outright.go:51", #[⟨24, .guard⟩], some (24, true)⟩) (v := .agg (H).toArray) rfl (by kernel_rfl) (by kernel_rfl) (by kernel_rfl) (fun _ _ _ h => HP _ _ _ _ _ h) (yieldsIf_load_mid (by rfl) _ _ rfl (hb) (0) rfl (H) _ (fun w q => q.2.2.1) Tryd.underlying25 rfl HIh.out) hH1 ?_
  try simp only [Act.put, List.setIfInBounds_toArray, List.set_cons_zero, List.set_cons_succ]
  refine wpAnyH_take (i := 29) (oi := ⟨some 103, .binOp .neq 25 (.tmp 101) (.tmp 102) 25, 4, "outright.go:51", #[⟨27, .data⟩, ⟨28, .data⟩, ⟨24, .guard⟩], some (24, true)⟩) (v := ?_) rfl (by kernel_rfl) (by kernel_rfl) (by kernel_rfl) (fun _ _ _ h => HP _ _ _ _ _ h) (Or.inl ⟨by rfl, fun w hSw => ?_⟩) hH1 ?_
  rotate_left 1
  · (try simp only [S27] at hSw); go_simp; (try with_reducible rfl)
  try simp only [Act.put, List.setIfInBounds_toArray, List.set_cons_zero, List.set_cons_succ]
  refine wpAnyH_take (i := 30) (oi := ⟨some 104, .pick (.tmp 98) (.tmp 103) (.const (.bool false)), 4, "outright.go:51", #[⟨24, .data⟩, ⟨29, .data⟩, ⟨18, .guard⟩], some (18, false)⟩) (v := ?_) rfl (by kernel_rfl) (by kernel_rfl) (by kernel_rfl) (fun _ _ _ h => HP _ _ _ _ _ h) (Or.inl ⟨by rfl, fun w hSw => ?_⟩) hH1 ?_
  rotate_left 1
  · (try simp only [S27] at hSw); go_simp; (try with_reducible rfl)
  try simp only [Act.put, List.setIfInBounds_toArray, List.set_cons_zero, List.set_cons_succ]
  refine wpAnyH_take (i := 31) (oi := ⟨some 105, .pick (.tmp 92) (.const (.bool true)) (.tmp 104), 4, "outright.go:51", #[⟨18, .data⟩, ⟨30, .data⟩], none⟩) (v := ?_) rfl (by kernel_rfl) (by kernel_rfl) (by kernel_rfl) (fun _ _ _ h => HP _ _ _ _ _ h) (Or.inl ⟨by rfl, fun w hSw => ?_⟩) hH1 ?_
  rotate_left 1
  · (try simp only [S27] at hSw); go_simp; (try with_reducible rfl)
  try simp only [Act.put, List.setIfInBounds_toArray, List.set_cons_zero, List.set_cons_succ]
  refine wpAnyH_take (i := 32) (oi := ⟨some 106, .move (.tmp 105), 4, "outright.go:51", #[⟨31, .data⟩, ⟨24, .chain⟩], none⟩) (v := ?_) rfl (by kernel_rfl) (by kernel_rfl) (by kernel_rfl) (fun _ _ _ h => HP _ _ _ _ _ h) (Or.inl ⟨by rfl, fun w hSw => ?_⟩) hH1 ?_
  rotate_left 1
  · (try simp only [S27] at hSw); go_simp; (try with_reducible rfl)
  try simp only [Act.put, List.setIfInBounds_toArray, List.set_cons_zero, List.set_cons_succ]
  refine wpAnyH_take (i := 33) (oi := ⟨some 107, .move (.tmp 15), 3, "outright.go:51", #[⟨32, .guard⟩], some (32, false)⟩) (v := ?_) rfl (by kernel_rfl) (by kernel_rfl) (by kernel_rfl) (fun _ _ _ h => HP _ _ _ _ _ h) (Or.inl ⟨by rfl, fun w hSw => ?_⟩) hH1 ?_
  rotate_left 1
  · (try simp only [S27] at hSw); go_simp; (try with_reducible rfl)
  try simp only [Act.put, List.setIfInBounds_toArray, List.set_cons_zero, List.set_cons_succ]
  refine wpAnyH_take (i := 34) (oi := ⟨some 108, .binOp .gtr 3 (.tmp 107) (.const (.int .i64 0)) 3, 4, "outright.go:51", #[⟨33, .data⟩, ⟨32, .guard⟩], some (32, false)⟩) (v := ?_) rfl (by kernel_rfl) (by kernel_rfl) (by kernel_rfl) (fun _ _ _ h => HP _ _ _ _ _ h) (Or.inl ⟨by rfl, fun w hSw => ?_⟩) hH1 ?_
  rotate_left 1
  · (try simp only [S27] at hSw); go_simp; (try with_reducible rfl)
  try simp only [Act.put, List.setIfInBounds_toArray, List.set_cons_zero, List.set_cons_succ]
  refine wpAnyH_take (i := 35) (oi := ⟨some 109, .move (.tmp 108), 4, "outright.go:51", #[⟨34, .data⟩, ⟨32, .chain⟩, ⟨32, .guard⟩], some (32, false)⟩) (v := ?_) rfl (by kernel_rfl) (by kernel_rfl) (by kernel_rfl) (fun _ _ _ h => HP _ _ _ _ _ h) (Or.inl ⟨by rfl, fun w hSw => ?_⟩) hH1 ?_
  rotate_left 1
  · (try simp only [S27] at hSw); go_simp; (try with_reducible rfl)
  try simp only [Act.put, List.setIfInBounds_toArray, List.set_cons_zero, List.set_cons_succ]
  refine wpAnyH_take (i := 36) (oi := ⟨some 110, .move (.tmp 15), 3, "outright.go:51", #[⟨35, .guard⟩], some (35, true)⟩) (v := ?_) rfl (by kernel_rfl) (by kernel_rfl) (by kernel_rfl) (fun _ _ _ h => HP _ _ _ _ _ h) (Or.inl ⟨by rfl, fun w hSw => ?_⟩) hH1 ?_
  rotate_left 1
  · (try simp only [S27] at hSw); go_simp; (try with_reducible rfl)
  try simp only [Act.put, List.setIfInBounds_toArray, List.set_cons_zero, List.set_cons_succ]
  refine wpAnyH_take (i := 37) (oi := ⟨some 111, .binOp .sub 3 (.tmp 110) (.const (.int .i64 1)) 3, 3, "outright.go:51", #[⟨36, .data⟩, ⟨35, .guard⟩], some (35, true)⟩) (v := ?_) rfl (by kernel_rfl) (by kernel_rfl) (by kernel_rfl) (fun _ _ _ h => HP _ _ _ _ _ h) (Or.inl ⟨by rfl, fun w hSw => ?_⟩) hH1 ?_
  rotate_left 1
  · (try simp only [S27] at hSw); go_simp; (try with_reducible rfl)
  try simp only [Act.put, List.setIfInBounds_toArray, List.set_cons_zero, List.set_cons_succ]
  refine wpAnyH_take (i := 38) (oi := ⟨some 112, .indexAddr 57 (.tmp 8) (.tmp 111), 0, "outright.go:51", #[⟨37, .data⟩, ⟨35, .guard⟩], some (35, true)⟩) (v := ?_) rfl (by kernel_rfl) (by kernel_rfl) (by kernel_rfl) (fun _ _ _ h => HP _ _ _ _ _ h) (Or.inl ⟨by rfl, fun w hSw => ?_⟩) hH1 ?_
  rotate_left 1
  · (try simp only [S27] at hSw); go_simp; (try with_reducible rfl)
  try simp only [Act.put, List.setIfInBounds_toArray, List.set_cons_zero, List.set_cons_succ]
  refine wpAnyH_take (i := 39) (oi := ⟨some 113, .fieldAddr 25 (.tmp 112) 0, 0, "outright.go:51", #[⟨38, .data⟩, ⟨35, .guard⟩], some (35, true)⟩) (v := ?_) rfl (by kernel_rfl) (by kernel_rfl) (by kernel_rfl) (fun _ _ _ h => HP _ _ _ _ _ h) (Or.inl ⟨by rfl, fun w hSw => ?_⟩) hH1 ?_
  rotate_left 1
  · (try simp only [S27] at hSw); go_simp; (try with_reducible rfl)
  try simp only [Act.put, List.setIfInBounds_toArray, List.set_cons_zero, List.set_cons_succ]
  refine wpAnyH_take (i := 40) (oi := ⟨some 114, .load 3 (.tmp 113), 3, "outright.go:51", #[⟨39, .data⟩, ⟨35, .guard⟩], some (35, true)⟩) (v := ?_) rfl (by kernel_rfl) (by kernel_rfl) (by kernel_rfl) (fun _ _ _ h => HP _ _ _ _ _ h) (Or.inl ⟨by rfl, fun w hSw => ?_⟩) hH1 ?_
  rotate_left 1
  · (try simp only [S27] at hSw); go_simp; (try with_reducible rfl)
  try simp only [Act.put, List.setIfInBounds_toArray, List.set_cons_zero, List.set_cons_succ]
  refine wpAnyH_take (i := 41) (oi := ⟨some 115, .fieldAddr 25 (.tmp 12) 0, 0, "outright.go:51", #[⟨35, .guard⟩], some (35, true)⟩) (v := ?_) rfl (by kernel_rfl) (by kernel_rfl) (by kernel_rfl) (fun _ _ _ h => HP _ _ _ _ _ h) (Or.inl ⟨by rfl, fun w hSw => ?_⟩) hH1 ?_
  rotate_left 1
  · (try simp only [S27] at hSw); go_simp; (try with_reducible rfl)
  try simp only [Act.put, List.setIfInBounds_toArray, List.set_cons_zero, List.set_cons_succ]
  refine wpAnyH_take (i := 42) (oi := ⟨some 116, .load 3 (.tmp 115), 3, "outright.go:51", #[⟨41, .data⟩, ⟨35, .guard⟩], some (35, true)⟩) (v := ?_) rfl (by kernel_rfl) (by kernel_rfl) (by kernel_rfl) (fun _ _ _ h => HP _ _ _ _ _ h) (Or.inl ⟨by rfl, fun w hSw => ?_⟩) hH1 ?_
  rotate_left 1
  · (try simp only [S27] at hSw); go_simp; (try with_reducible rfl)
  try simp only [Act.put, List.setIfInBounds_toArray, List.set_cons_zero, List.set_cons_succ]
  refine wpAnyH_take (i := 43) (oi := ⟨some 117, .binOp .geq 3 (.tmp 114) (.tmp 116) 3, 4, "outright.go:51", #[⟨40, .data⟩, ⟨42, .data⟩, ⟨35, .guard⟩], some (35, true)⟩) (v := ?_) rfl (by kernel_rfl) (by kernel_rfl) (by kernel_rfl) (fun _ _ _ h => HP _ _ _ _ _ h) (Or.inl ⟨by rfl, fun w hSw => ?_⟩) hH1 ?_
  rotate_left 1
  · (try simp only [S27] at hSw); go_simp; (try with_reducible rfl)
  try simp only [Act.put, List.setIfInBounds_toArray, List.set_cons_zero, List.set_cons_succ]
  refine wpAnyH_take (i := 44) (oi := ⟨some 118, .pick (.tmp 109) (.tmp 117) (.const (.bool false)), 4, "outright.go:51", #[⟨35, .data⟩, ⟨43, .data⟩, ⟨32, .guard⟩], some (32, false)⟩) (v := ?_) rfl (by kernel_rfl) (by kernel_rfl) (by kernel_rfl) (fun _ _ _ h => HP _ _ _ _ _ h) (Or.inl ⟨by rfl, fun w hSw => ?_⟩) hH1 ?_
  rotate_left 1
  · (try simp only [S27] at hSw); go_simp; (try with_reducible rfl)
  try simp only [Act.put, List.setIfInBounds_toArray, List.set_cons_zero, List.set_cons_succ]
  refine wpAnyH_take (i := 45) (oi := ⟨some 119, .pick (.tmp 106) (.const (.bool true)) (.tmp 118), 4, "outright.go:51", #[⟨32, .data⟩, ⟨44, .data⟩], none⟩) (v := ?_) rfl (by kernel_rfl) (by kernel_rfl) (by kernel_rfl) (fun _ _ _ h => HP _ _ _ _ _ h) (Or.inl ⟨by rfl, fun w hSw => ?_⟩) hH1 ?_
  rotate_left 1
  · (try simp only [S27] at hSw); go_simp; (try with_reducible rfl)
  try simp only [Act.put, List.setIfInBounds_toArray, List.set_cons_zero, List.set_cons_succ]
  refine wpAnyH_take (i := 46) (oi := ⟨some 120, .move (.tmp 119), 4, "outright.go:51", #[⟨45, .data⟩, ⟨35, .chain⟩], none⟩) (v := ?_) rfl (by kernel_rfl) (by kernel_rfl) (by kernel_rfl) (fun _ _ _ h => HP _ _ _ _ _ h) (Or.inl ⟨by rfl, fun w hSw => ?_⟩) hH1 ?_
  rotate_left 1
  · (try simp only [S27] at hSw); go_simp; (try with_reducible rfl)
  try simp only [Act.put, List.setIfInBounds_toArray, List.set_cons_zero, List.set_cons_succ]
  refine wpAnyH_take (i := 47) (oi := ⟨some 121, .move (.tmp 15), 3, "outright.go:51", #[⟨46, .guard⟩], some (46, false)⟩) (v := ?_) rfl (by kernel_rfl) (by kernel_rfl) (by kernel_rfl) (fun _ _ _ h => HP _ _ _ _ _ h) (Or.inl ⟨by rfl, fun w hSw => ?_⟩) hH1 ?_
  rotate_left 1
  · (try simp only [S27] at hSw); go_simp; (try with_reducible rfl)
  try simp only [Act.put, List.setIfInBounds_toArray, List.set_cons_zero, List.set_cons_succ]
  refine wpAnyH_take (i := 48) (oi := ⟨some 122, .move (.tmp 5), 26, "outright.go:51", #[⟨46, .guard⟩], some (46, false)⟩) (v := ?_) rfl (by kernel_rfl) (by kernel_rfl) (by kernel_rfl) (fun _ _ _ h => HP _ _ _ _ _ h) (Or.inl ⟨by rfl, fun w hSw => ?_⟩) hH1 ?_
  rotate_left 1
  · (try simp only [S27] at hSw); go_simp; (try with_reducible rfl)
  try simp only [Act.put, List.setIfInBounds_toArray, List.set_cons_zero, List.set_cons_succ]
  refine wpAnyH_ready (rs := [49]) (by kernel_rfl) (by simp) ?_
  refine AllReadyH.cons (o := ⟨some 123, .call { callee := .value (.func 7), args := #[.tmp 122], argTypes := #[26] }, 3, "outright.go:51", #[⟨48, .data⟩, ⟨46, .chain⟩, ⟨46, .guard⟩], some (46, false)⟩) rfl (fun K hK => ?_) AllReadyH.nil
  go_simp
  refine (HUS.out _ hH1.2.2.2.2.2.2.2.2).mono ?_
  rintro e w' ⟨rfl, rfl⟩
  refine hK.out _ _ (hH1) (fun hH2 => ?_)
  clear hK K
  try simp only [Act.put, List.setIfInBounds_toArray, List.set_cons_zero, List.set_cons_succ]
  refine wpAnyH_take (i := 50) (oi := ⟨some 124, .binOp .sub 3 (.tmp 123) (.const (.int .i64 1)) 3, 3, "outright.go:51", #[⟨49, .data⟩, ⟨46, .guard⟩], some (46, false)⟩) (v := ?_) rfl (by kernel_rfl) (by kernel_rfl) (by kernel_rfl) (fun _ _ _ h => HP _ _ _ _ _ h) (Or.inl ⟨by rfl, fun w hSw => ?_⟩) hH2 ?_
  rotate_left 1
  · (try simp only [S27] at hSw); go_simp; (try with_reducible rfl)
  try simp only [Act.put, List.setIfInBounds_toArray, List.set_cons_zero, List.set_cons_succ]
  refine wpAnyH_take (i := 51) (oi := ⟨some 125, .binOp .neq 3 (.tmp 121) (.tmp 124) 3, 4, "outright.go:51", #[⟨47, .data⟩, ⟨50, .data⟩, ⟨46, .guard⟩], some (46, false)⟩) (v := ?_) rfl (by kernel_rfl) (by kernel_rfl) (by kernel_rfl) (fun _ _ _ h => HP _ _ _ _ _ h) (Or.inl ⟨by rfl, fun w hSw => ?_⟩) hH2 ?_
  rotate_left 1
  · (try simp only [S27] at hSw); go_simp; (try with_reducible rfl)
  try simp only [Act.put, List.setIfInBounds_toArray, List.set_cons_zero, List.set_cons_succ]
  refine wpAnyH_take (i := 52) (oi := ⟨some 126, .pick (.tmp 120) (.const (.bool true)) (.tmp 125), 4, "outright.go:51", #[⟨46, .data⟩, ⟨51, .data⟩], none⟩) (v := ?_) rfl (by kernel_rfl) (by kernel_rfl) (by kernel_rfl) (fun _ _ _ h => HP _ _ _ _ _ h) (Or.inl ⟨by rfl, fun w hSw => ?_⟩) hH2 ?_
  rotate_left 1
  · (try simp only [S27] at hSw); go_simp; (try with_reducible rfl)
  try simp only [Act.put, List.setIfInBounds_toArray, List.set_cons_zero, List.set_cons_succ]
  refine wpAnyH_done (by kernel_rfl) ?_ _
  exact HQ.out _ _ _ _ _ _ _ _ _ _ _ _ _ _ _ _ _ _ _ _ _ _ _ _ _ _ _ _ _ _ _ _ _ _ _ _ _ _ _ _ _ _ _ _ _ _ _ _ _ _ _ _ _ hH2
set_option maxRecDepth 100000 in
set_option maxHeartbeats 4000000 in
theorem once27F0 {w11 : World} {sb hb kb bb m q r : Nat} {Y H C : List Value} {zz pp : Int} {Q : Exit → Act → World → Prop} {u0 u1 u2 u3 u4 u6 u9 u10 u11 u13 u16 u17 u18 u19 u20 u21 u22 u23 u24 u25 u26 u27 u28 u29 u30 u31 u32 u33 u34 u35 u36 u37 u38 u39 u40 u41 u42 u43 u44 u45 u46 u47 u48 u49 u50 u51 u52 u53 u54 u55 u56 u57 u58 u59 u60 u61 u62 u63 u64 u65 u66 u67 u68 u69 u70 u71 u72 u73 u74 u75 u76 u77 u78 u79 u80 u81 u82 u83 u84 u85 u86 u87 u88 u89 u90 u91 u92 u93 u94 u95 u96 u97 u98 u99 u100 u101 u102 u103 u104 u105 u106 u107 u108 u109 u110 u111 u112 u113 u114 u115 u116 u117 u118 u119 u120 u121 u122 u123 u124 u125 u126 u127 u128 u129 u130 u131 u132 u133 u134 u135 u136 u137 u138 u139 u140 u141 u142 u143 u144 u145 u146 u147 u148 u149 u150 u151 u152 u153 u154 u155 u156 u157 u158 u159 u160 u161 u162 u163 u164 u165 u166 u167 u168 u169 u170 u171 u172 u173 u174 u175 u176 u177 u178 u179 u180 u181 u182 u183 u184 u185 u186 u187 u188 u189 u190 u191 u192 u193 u194 u195 u196 u197 u198 u199 u200 u201 u202 u203 u204 u205 u206 u207 u208 u209 u210 u211 u212 u213 u214 u215 u216 u217 u218 u219 u220 u221 u222 u223 u224 u225 u226 u227 u228 u229 u230 u231 u232 u233 u234 u235 u236 u237 u238 u239 u240 u241 u242 u243 u244 u245 : Value} (HCK : Hid (∀ w', Kept (fun _ => False) w11 w' → Calls Tryd.prog 15 #[.agg C.toArray, .agg Y.toArray] w' fun e w2 => e = .returned (.int .i64 0) ∧ Kept (fun _ => False) w' w2)) (HUS : Hid (∀ w', Kept (fun _ => False) w11 w' → Calls Tryd.prog 7 #[.pointer (some ⟨r, 0, none⟩)] w' fun e w2 => e = .returned (.int .i64 ((m : Int) + 1)) ∧ w' = w2)) (HL4 : Hid (sb < w11.heap.size ∧ hb < w11.heap.size ∧ kb < w11.heap.size ∧ bb < w11.heap.size)) (HIh : Hid ((Tryd.prog.info? 25).map (·.size) = some H.length)) (HIk : Hid ((Tryd.prog.info? 23).map (·.size) = some C.length)) (HIy : Hid ((Tryd.prog.info? 31).map (·.size) = some Y.length)) (hneq : ∀ w', (binOp .neq 25 (.agg H.toArray) (.agg H.toArray)).run Tryd.prog w' = .ok (.bool false) w') (i0 : decide ((m : Int) < 0) = false) (i1 : decide ((8 : Int) ≤ (m : Int)) = false) (i2 : (m : Int) < 8) (i3 : (q : Int) < 8) (i4 : wrap64 ((m : Int) + 1) = (m : Int) + 1) (i5 : IntKind.i64.wrap ((m : Int) + 1) = (m : Int) + 1) (i6 : IntKind.i64.wrap (m : Int) = (m : Int)) (i7 : wrap64 (m : Int) = (m : Int)) (i8 : decide ((0 : Int) < (m : Int)) = false) (i12 : decide (0 < m) = false) (SA : (fun w' => S27 w11 w' sb hb kb bb m q Y H C (headC 0 zeroRoot) 0 pp zz) w11.drew)
    (HP : ∀ c a (k : Nat) v w, Q (.panic c) (Act.put a (some k) v) w → Q (.panic c) a w) (HQ : ∀ (v74 v75 v76 v77 v78 v79 v80 v81 v82 v83 v84 v85 v86 v87 v88 v89 v90 v91 v92 v93 v94 v95 v96 v97 v98 v99 v100 v101 v102 v103 v104 v105 v106 v107 v108 v109 v110 v111 v112 v113 v114 v115 v116 v117 v118 v119 v120 v121 v122 v123 v124 v125 : Value) (w' : World), (fun w' => S27 w11 w' sb hb kb bb m q Y H C (headC 0 zeroRoot) 0 pp zz) w' → Q .normal ⟨List.toArray (u0 :: u1 :: u2 :: u3 :: u4 :: (.pointer (some ⟨r, 0, none⟩)) :: u6 :: (.pointer (some ⟨kb, 0, none⟩)) :: (.pointer (some ⟨bb, 0, none⟩)) :: u9 :: u10 :: u11 :: (.pointer (some ⟨hb, 0, none⟩)) :: u13 :: (.pointer (some ⟨sb, 0, none⟩)) :: (.int .i64 (m : Int)) :: u16 :: u17 :: u18 :: u19 :: u20 :: u21 :: u22 :: u23 :: u24 :: u25 :: u26 :: u27 :: u28 :: u29 :: u30 :: u31 :: u32 :: u33 :: u34 :: u35 :: u36 :: u37 :: u38 :: u39 :: u40 :: u41 :: u42 :: u43 :: u44 :: u45 :: u46 :: u47 :: u48 :: u49 :: u50 :: u51 :: u52 :: u53 :: u54 :: u55 :: u56 :: u57 :: u58 :: u59 :: u60 :: u61 :: u62 :: u63 :: u64 :: u65 :: u66 :: u67 :: u68 :: u69 :: u70 :: u71 :: u72 :: u73 :: v74 :: v75 :: v76 :: v77 :: v78 :: v79 :: v80 :: v81 :: v82 :: v83 :: v84 :: v85 :: v86 :: v87 :: v88 :: v89 :: v90 :: v91 :: v92 :: v93 :: v94 :: v95 :: v96 :: v97 :: v98 :: v99 :: v100 :: v101 :: v102 :: v103 :: v104 :: v105 :: v106 :: v107 :: v108 :: v109 :: v110 :: v111 :: v112 :: v113 :: v114 :: v115 :: v116 :: v117 :: v118 :: v119 :: v120 :: v121 :: v122 :: v123 :: v124 :: v125 :: (.bool false) :: u127 :: u128 :: u129 :: u130 :: u131 :: u132 :: u133 :: u134 :: u135 :: u136 :: u137 :: u138 :: u139 :: u140 :: u141 :: u142 :: u143 :: u144 :: u145 :: u146 :: u147 :: u148 :: u149 :: u150 :: u151 :: u152 :: u153 :: u154 :: u155 :: u156 :: u157 :: u158 :: u159 :: u160 :: u161 :: u162 :: u163 :: u164 :: u165 :: u166 :: u167 :: u168 :: u169 :: u170 :: u171 :: u172 :: u173 :: u174 :: u175 :: u176 :: u177 :: u178 :: u179 :: u180 :: u181 :: u182 :: u183 :: u184 :: u185 :: u186 :: u187 :: u188 :: u189 :: u190 :: u191 :: u192 :: u193 :: u194 :: u195 :: u196 :: u197 :: u198 :: u199 :: u200 :: u201 :: u202 :: u203 :: u204 :: u205 :: u206 :: u207 :: u208 :: u209 :: u210 :: u211 :: u212 :: u213 :: u214 :: u215 :: u216 :: u217 :: u218 :: u219 :: u220 :: u221 :: u222 :: u223 :: u224 :: u225 :: u226 :: u227 :: u228 :: u229 :: u230 :: u231 :: u232 :: u233 :: u234 :: u235 :: u236 :: u237 :: u238 :: u239 :: u240 :: u241 :: u242 :: u243 :: u244 :: u245 :: []), []⟩ w') :
    Code.wp Tryd.prog (Code.region 27 ops27 true) Q ⟨List.toArray (u0 :: u1 :: u2 :: u3 :: u4 :: (.pointer (some ⟨r, 0, none⟩)) :: u6 :: (.pointer (some ⟨kb, 0, none⟩)) :: (.pointer (some ⟨bb, 0, none⟩)) :: u9 :: u10 :: u11 :: (.pointer (some ⟨hb, 0, none⟩)) :: u13 :: (.pointer (some ⟨sb, 0, none⟩)) :: (.int .i64 (m : Int)) :: u16 :: u17 :: u18 :: u19 :: u20 :: u21 :: u22 :: u23 :: u24 :: u25 :: u26 :: u27 :: u28 :: u29 :: u30 :: u31 :: u32 :: u33 :: u34 :: u35 :: u36 :: u37 :: u38 :: u39 :: u40 :: u41 :: u42 :: u43 :: u44 :: u45 :: u46 :: u47 :: u48 :: u49 :: u50 :: u51 :: u52 :: u53 :: u54 :: u55 :: u56 :: u57 :: u58 :: u59 :: u60 :: u61 :: u62 :: u63 :: u64 :: u65 :: u66 :: u67 :: u68 :: u69 :: u70 :: u71 :: u72 :: u73 :: u74 :: u75 :: u76 :: u77 :: u78 :: u79 :: u80 :: u81 :: u82 :: u83 :: u84 :: u85 :: u86 :: u87 :: u88 :: u89 :: u90 :: u91 :: u92 :: u93 :: u94 :: u95 :: u96 :: u97 :: u98 :: u99 :: u100 :: u101 :: u102 :: u103 :: u104 :: u105 :: u106 :: u107 :: u108 :: u109 :: u110 :: u111 :: u112 :: u113 :: u114 :: u115 :: u116 :: u117 :: u118 :: u119 :: u120 :: u121 :: u122 :: u123 :: u124 :: u125 :: u126 :: u127 :: u128 :: u129 :: u130 :: u131 :: u132 :: u133 :: u134 :: u135 :: u136 :: u137 :: u138 :: u139 :: u140 :: u141 :: u142 :: u143 :: u144 :: u145 :: u146 :: u147 :: u148 :: u149 :: u150 :: u151 :: u152 :: u153 :: u154 :: u155 :: u156 :: u157 :: u158 :: u159 :: u160 :: u161 :: u162 :: u163 :: u164 :: u165 :: u166 :: u167 :: u168 :: u169 :: u170 :: u171 :: u172 :: u173 :: u174 :: u175 :: u176 :: u177 :: u178 :: u179 :: u180 :: u181 :: u182 :: u183 :: u184 :: u185 :: u186 :: u187 :: u188 :: u189 :: u190 :: u191 :: u192 :: u193 :: u194 :: u195 :: u196 :: u197 :: u198 :: u199 :: u200 :: u201 :: u202 :: u203 :: u204 :: u205 :: u206 :: u207 :: u208 :: u209 :: u210 :: u211 :: u212 :: u213 :: u214 :: u215 :: u216 :: u217 :: u218 :: u219 :: u220 :: u221 :: u222 :: u223 :: u224 :: u225 :: u226 :: u227 :: u228 :: u229 :: u230 :: u231 :: u232 :: u233 :: u234 :: u235 :: u236 :: u237 :: u238 :: u239 :: u240 :: u241 :: u242 :: u243 :: u244 :: u245 :: []), []⟩ w11 := by
  have HQ := Lib.hid HQ
  unfold ops27
  refine wp_region_held_drew (S := (fun w' => S27 w11 w' sb hb kb bb m q Y H C (headC 0 zeroRoot) 0 pp zz)) (by kernel_rfl) SA (fun hH0 => ?_)
  refine wpAnyH_take (i := 0) (oi := ⟨some 74, .fieldAddr 31 (.tmp 14) 0, 0, "outright.go:51", #[], none⟩) (v := ?_) rfl (by kernel_rfl) (by kernel_rfl) (by kernel_rfl) (fun _ _ _ h => HP _ _ _ _ _ h) (Or.inl ⟨by rfl, fun w hSw => ?_⟩) hH0 ?_
  rotate_left 1
  · (try simp only [S27] at hSw); go_simp; (try with_reducible rfl)
  try simp only [Act.put, List.setIfInBounds_toArray, List.set_cons_zero, List.set_cons_succ]
  refine wpAnyH_take (i := 1) (oi := ⟨some 75, .load 25 (.tmp 74), 25, "outright.go:51", #[⟨0, .data⟩], none⟩) (v := .agg (H).toArray) rfl (by kernel_rfl) (by kernel_rfl) (by kernel_rfl) (fun _ _ _ h => HP _ _ _ _ _ h) (yieldsIf_load_mid (by rfl) _ _ rfl (sb) (0) rfl (H) _ (fun w q => q.2.1) Tryd.underlying25 rfl HIh.out) hH0 ?_
  try simp only [Act.put, List.setIfInBounds_toArray, List.set_cons_zero, List.set_cons_succ]
  refine wpAnyH_take (i := 2) (oi := ⟨some 76, .load 25 (.tmp 12), 25, "outright.go:51", #[], none⟩) (v := .agg (H).toArray) rfl (by kernel_rfl) (by kernel_rfl) (by kernel_rfl) (fun _ _ _ h => HP _ _ _ _ _ h) (yieldsIf_load_mid (by rfl) _ _ rfl (hb) (0) rfl (H) _ (fun w q => q.2.2.1) Tryd.underlying25 rfl HIh.out) hH0 ?_
  try simp only [Act.put, List.setIfInBounds_toArray, List.set_cons_zero, List.set_cons_succ]
  refine wpAnyH_take (i := 3) (oi := ⟨some 77, .binOp .neq 25 (.tmp 75) (.tmp 76) 25, 4, "outright.go:51", #[⟨1, .data⟩, ⟨2, .data⟩], none⟩) (v := ?_) rfl (by kernel_rfl) (by kernel_rfl) (by kernel_rfl) (fun _ _ _ h => HP _ _ _ _ _ h) (Or.inl ⟨by rfl, fun w hSw => ?_⟩) hH0 ?_
  rotate_left 1
  · (try simp only [S27] at hSw); go_simp; (try with_reducible rfl)
  try simp only [Act.put, List.setIfInBounds_toArray, List.set_cons_zero, List.set_cons_succ]
  refine wpAnyH_take (i := 4) (oi := ⟨some 78, .move (.tmp 77), 4, "outright.go:51", #[⟨3, .data⟩], none⟩) (v := ?_) rfl (by kernel_rfl) (by kernel_rfl) (by kernel_rfl) (fun _ _ _ h => HP _ _ _ _ _ h) (Or.inl ⟨by rfl, fun w hSw => ?_⟩) hH0 ?_
  rotate_left 1
  · (try simp only [S27] at hSw); go_simp; (try with_reducible rfl)
  try simp only [Act.put, List.setIfInBounds_toArray, List.set_cons_zero, List.set_cons_succ]
  refine wpAnyH_take (i := 5) (oi := ⟨some 79, .load 23 (.tmp 7), 23, "outright.go:51", #[⟨4, .guard⟩], some (4, false)⟩) (v := .agg (C).toArray) rfl (by kernel_rfl) (by kernel_rfl) (by kernel_rfl) (fun _ _ _ h => HP _ _ _ _ _ h) (yieldsIf_load_mid (by rfl) _ _ rfl (kb) (0) rfl (C) _ (fun w q => q.2.2.2.1) Tryd.underlying23 rfl HIk.out) hH0 ?_
  try simp only [Act.put, List.setIfInBounds_toArray, List.set_cons_zero, List.set_cons_succ]
  refine wpAnyH_take (i := 6) (oi := ⟨some 80, .load 31 (.tmp 14), 31, "outright.go:51", #[⟨4, .guard⟩], some (4, false)⟩) (v := .agg (Y).toArray) rfl (by kernel_rfl) (by kernel_rfl) (by kernel_rfl) (fun _ _ _ h => HP _ _ _ _ _ h) (yieldsIf_load_mid (by rfl) _ _ rfl (sb) (0) rfl (Y) _ (fun w q => q.1) Tryd.underlying31 rfl HIy.out) hH0 ?_
  try simp only [Act.put, List.setIfInBounds_toArray, List.set_cons_zero, List.set_cons_succ]
  refine wpAnyH_ready (rs := [7]) (by kernel_rfl) (by simp) ?_
  refine AllReadyH.cons (o := ⟨some 81, .call { callee := .value (.func 15), args := #[.tmp 79, .tmp 80], argTypes := #[23, 31] }, 32, "outright.go:51", #[⟨5, .data⟩, ⟨6, .data⟩, ⟨4, .chain⟩, ⟨4, .guard⟩], some (4, false)⟩) rfl (fun K hK => ?_) AllReadyH.nil
  go_simp
  refine (HCK.out _ hH0.2.2.2.2.2.2.2.2).mono ?_
  rintro e w12 ⟨rfl, hk12⟩
  refine hK.out _ _ (s27_next hH0 HL4.out hk12) (fun hH1 => ?_)
  clear hK K
  try simp only [Act.put, List.setIfInBounds_toArray, List.set_cons_zero, List.set_cons_succ]
  refine wpAnyH_take (i := 8) (oi := ⟨some 82, .binOp .neq 32 (.tmp 81) (.const (.int .i64 0)) 32, 4, "outright.go:51", #[⟨7, .data⟩, ⟨4, .guard⟩], some (4, false)⟩) (v := ?_) rfl (by kernel_rfl) (by kernel_rfl) (by kernel_rfl) (fun _ _ _ h => HP _ _ _ _ _ h) (Or.inl ⟨by rfl, fun w hSw => ?_⟩) hH1 ?_
  rotate_left 1
  · (try simp only [S27] at hSw); go_simp; (try with_reducible rfl)
  try simp only [Act.put, List.setIfInBounds_toArray, List.set_cons_zero, List.set_cons_succ]
  refine wpAnyH_take (i := 9) (oi := ⟨some 83, .pick (.tmp 78) (.const (.bool true)) (.tmp 82), 4, "outright.go:51", #[⟨4, .data⟩, ⟨8, .data⟩], none⟩) (v := ?_) rfl (by kernel_rfl) (by kernel_rfl) (by kernel_rfl) (fun _ _ _ h => HP _ _ _ _ _ h) (Or.inl ⟨by rfl, fun w hSw => ?_⟩) hH1 ?_
  rotate_left 1
  · (try simp only [S27] at hSw); go_simp; (try with_reducible rfl)
  try simp only [Act.put, List.setIfInBounds_toArray, List.set_cons_zero, List.set_cons_succ]
  refine wpAnyH_take (i := 10) (oi := ⟨some 84, .move (.tmp 83), 4, "outright.go:51", #[⟨9, .data⟩, ⟨7, .chain⟩], none⟩) (v := ?_) rfl (by kernel_rfl) (by kernel_rfl) (by kernel_rfl) (fun _ _ _ h => HP _ _ _ _ _ h) (Or.inl ⟨by rfl, fun w hSw => ?_⟩) hH1 ?_
  rotate_left 1
  · (try simp only [S27] at hSw); go_simp; (try with_reducible rfl)
  try simp only [Act.put, List.setIfInBounds_toArray, List.set_cons_zero, List.set_cons_succ]
  refine wpAnyH_take (i := 11) (oi := ⟨some 85, .move (.tmp 15), 3, "outright.go:51", #[⟨10, .guard⟩], some (10, false)⟩) (v := ?_) rfl (by kernel_rfl) (by kernel_rfl) (by kernel_rfl) (fun _ _ _ h => HP _ _ _ _ _ h) (Or.inl ⟨by rfl, fun w hSw => ?_⟩) hH1 ?_
  rotate_left 1
  · (try simp only [S27] at hSw); go_simp; (try with_reducible rfl)
  try simp only [Act.put, List.setIfInBounds_toArray, List.set_cons_zero, List.set_cons_succ]
  refine wpAnyH_take (i := 12) (oi := ⟨some 86, .binOp .lss 3 (.tmp 85) (.const (.int .i64 0)) 3, 4, "outright.go:51", #[⟨11, .data⟩, ⟨10, .guard⟩], some (10, false)⟩) (v := ?_) rfl (by kernel_rfl) (by kernel_rfl) (by kernel_rfl) (fun _ _ _ h => HP _ _ _ _ _ h) (Or.inl ⟨by rfl, fun w hSw => ?_⟩) hH1 ?_
  rotate_left 1
  · (try simp only [S27] at hSw); go_simp; (try with_reducible rfl)
  try simp only [Act.put, List.setIfInBounds_toArray, List.set_cons_zero, List.set_cons_succ]
  refine wpAnyH_take (i := 13) (oi := ⟨some 87, .pick (.tmp 84) (.const (.bool true)) (.tmp 86), 4, "outright.go:51", #[⟨10, .data⟩, ⟨12, .data⟩], none⟩) (v := ?_) rfl (by kernel_rfl) (by kernel_rfl) (by kernel_rfl) (fun _ _ _ h => HP _ _ _ _ _ h) (Or.inl ⟨by rfl, fun w hSw => ?_⟩) hH1 ?_
  rotate_left 1
  · (try simp only [S27] at hSw); go_simp; (try with_reducible rfl)
  try simp only [Act.put, List.setIfInBounds_toArray, List.set_cons_zero, List.set_cons_succ]
  refine wpAnyH_take (i := 14) (oi := ⟨some 88, .move (.tmp 87), 4, "outright.go:51", #[⟨13, .data⟩, ⟨10, .chain⟩], none⟩) (v := ?_) rfl (by kernel_rfl) (by kernel_rfl) (by kernel_rfl) (fun _ _ _ h => HP _ _ _ _ _ h) (Or.inl ⟨by rfl, fun w hSw => ?_⟩) hH1 ?_
  rotate_left 1
  · (try simp only [S27] at hSw); go_simp; (try with_reducible rfl)
  try simp only [Act.put, List.setIfInBounds_toArray, List.set_cons_zero, List.set_cons_succ]
  refine wpAnyH_take (i := 15) (oi := ⟨some 89, .move (.tmp 15), 3, "outright.go:51", #[⟨14, .guard⟩], some (14, false)⟩) (v := ?_) rfl (by kernel_rfl) (by kernel_rfl) (by kernel_rfl) (fun _ _ _ h => HP _ _ _ _ _ h) (Or.inl ⟨by rfl, fun w hSw => ?_⟩) hH1 ?_
  rotate_left 1
  · (try simp only [S27] at hSw); go_simp; (try with_reducible rfl)
  try simp only [Act.put, List.setIfInBounds_toArray, List.set_cons_zero, List.set_cons_succ]
  refine wpAnyH_take (i := 16) (oi := ⟨some 90, .binOp .geq 3 (.tmp 89) (.const (.int .i64 8)) 3, 4, "outright.go:51", #[⟨15, .data⟩, ⟨14, .guard⟩], some (14, false)⟩) (v := ?_) rfl (by kernel_rfl) (by kernel_rfl) (by kernel_rfl) (fun _ _ _ h => HP _ _ _ _ _ h) (Or.inl ⟨by rfl, fun w hSw => ?_⟩) hH1 ?_
  rotate_left 1
  · (try simp only [S27] at hSw); go_simp; (try with_reducible rfl)
  try simp only [Act.put, List.setIfInBounds_toArray, List.set_cons_zero, List.set_cons_succ]
  refine wpAnyH_take (i := 17) (oi := ⟨some 91, .pick (.tmp 88) (.const (.bool true)) (.tmp 90), 4, "outright.go:51", #[⟨14, .data⟩, ⟨16, .data⟩], none⟩) (v := ?_) rfl (by kernel_rfl) (by kernel_rfl) (by kernel_rfl) (fun _ _ _ h => HP _ _ _ _ _ h) (Or.inl ⟨by rfl, fun w hSw => ?_⟩) hH1 ?_
  rotate_left 1
  · (try simp only [S27] at hSw); go_simp; (try with_reducible rfl)
  try simp only [Act.put, List.setIfInBounds_toArray, List.set_cons_zero, List.set_cons_succ]
  refine wpAnyH_take (i := 18) (oi := ⟨some 92, .move (.tmp 91), 4, "outright.go:51", #[⟨17, .data⟩, ⟨14, .chain⟩], none⟩) (v := ?_) rfl (by kernel_rfl) (by kernel_rfl) (by kernel_rfl) (fun _ _ _ h => HP _ _ _ _ _ h) (Or.inl ⟨by rfl, fun w hSw => ?_⟩) hH1 ?_
  rotate_left 1
  · (try simp only [S27] at hSw); go_simp; (try with_reducible rfl)
  try simp only [Act.put, List.setIfInBounds_toArray, List.set_cons_zero, List.set_cons_succ]
  refine wpAnyH_take (i := 19) (oi := ⟨some 93, .move (.tmp 15), 3, "outright.go:51", #[⟨18, .guard⟩], some (18, false)⟩) (v := ?_) rfl (by kernel_rfl) (by kernel_rfl) (by kernel_rfl) (fun _ _ _ h => HP _ _ _ _ _ h) (Or.inl ⟨by rfl, fun w hSw => ?_⟩) hH1 ?_
  rotate_left 1
  · (try simp only [S27] at hSw); go_simp; (try with_reducible rfl)
  try simp only [Act.put, List.setIfInBounds_toArray, List.set_cons_zero, List.set_cons_succ]
  refine wpAnyH_take (i := 20) (oi := ⟨some 94, .indexAddr 57 (.tmp 8) (.tmp 93), 0, "outright.go:51", #[⟨19, .data⟩, ⟨18, .guard⟩], some (18, false)⟩) (v := ?_) rfl (by kernel_rfl) (by kernel_rfl) (by kernel_rfl) (fun _ _ _ h => HP _ _ _ _ _ h) (Or.inl ⟨by rfl, fun w hSw => ?_⟩) hH1 ?_
  rotate_left 1
  · (try simp only [S27] at hSw); go_simp; (try with_reducible rfl)
  try simp only [Act.put, List.setIfInBounds_toArray, List.set_cons_zero, List.set_cons_succ]
  refine wpAnyH_take (i := 21) (oi := ⟨some 95, .fieldAddr 25 (.tmp 94) 0, 0, "outright.go:51", #[⟨20, .data⟩, ⟨18, .guard⟩], some (18, false)⟩) (v := ?_) rfl (by kernel_rfl) (by kernel_rfl) (by kernel_rfl) (fun _ _ _ h => HP _ _ _ _ _ h) (Or.inl ⟨by rfl, fun w hSw => ?_⟩) hH1 ?_
  rotate_left 1
  · (try simp only [S27] at hSw); go_simp; (try with_reducible rfl)
  try simp only [Act.put, List.setIfInBounds_toArray, List.set_cons_zero, List.set_cons_succ]
  refine wpAnyH_take (i := 22) (oi := ⟨some 96, .load 3 (.tmp 95), 3, "outright.go:51", #[⟨21, .data⟩, ⟨18, .guard⟩], some (18, false)⟩) (v := ?_) rfl (by kernel_rfl) (by kernel_rfl) (by kernel_rfl) (fun _ _ _ h => HP _ _ _ _ _ h) (Or.inl ⟨by rfl, fun w hSw => ?_⟩) hH1 ?_
  rotate_left 1
  · (try simp only [S27] at hSw); go_simp; (try with_reducible rfl)
  try simp only [Act.put, List.setIfInBounds_toArray, List.set_cons_zero, List.set_cons_succ]
  refine wpAnyH_take (i := 23) (oi := ⟨some 97, .binOp .neq 3 (.tmp 96) (.const (.int .i64 0)) 3, 4, "outright.go:51", #[⟨22, .data⟩, ⟨18, .guard⟩], some (18, false)⟩) (v := ?_) rfl (by kernel_rfl) (by kernel_rfl) (by kernel_rfl) (fun _ _ _ h => HP _ _ _ _ _ h) (Or.inl ⟨by rfl, fun w hSw => ?_⟩) hH1 ?_
  rotate_left 1
  · (try simp only [S27] at hSw); go_simp; (try with_reducible rfl)
  try simp only [Act.put, List.setIfInBounds_toArray, List.set_cons_zero, List.set_cons_succ]
  refine wpAnyH_take (i := 24) (oi := ⟨some 98, .move (.tmp 97), 4, "outright.go:51", #[⟨23, .data⟩, ⟨18, .chain⟩, ⟨18, .guard⟩], some (18, false)⟩) (v := ?_) rfl (by kernel_rfl) (by kernel_rfl) (by kernel_rfl) (fun _ _ _ h => HP _ _ _ _ _ h) (Or.inl ⟨by rfl, fun w hSw => ?_⟩) hH1 ?_
  rotate_left 1
  · (try simp only [S27] at hSw); go_simp; (try with_reducible rfl)
  try simp only [Act.put, List.setIfInBounds_toArray, List.set_cons_zero, List.set_cons_succ]
  refine wpAnyH_take (i := 25) (oi := ⟨some 99, .move (.tmp 15), 3, "outright.go:51", #[⟨24, .guard⟩], some (24, true)⟩) (v := undef) rfl (by kernel_rfl) (by kernel_rfl) (by kernel_rfl) (fun _ _ _ h => HP _ _ _ _ _ h) (Or.inr ⟨by rfl, rfl⟩) hH1 ?_
  try simp only [Act.put, List.setIfInBounds_toArray, List.set_cons_zero, List.set_cons_succ]
  refine wpAnyH_take (i := 26) (oi := ⟨some 100, .indexAddr 57 (.tmp 8) (.tmp 99), 0, "outright.go:51", #[⟨25, .data⟩, ⟨24, .guard⟩], some (24, true)⟩) (v := undef) rfl (by kernel_rfl) (by kernel_rfl) (by kernel_rfl) (fun _ _ _ h => HP _ _ _ _ _ h) (Or.inr ⟨by rfl, rfl⟩) hH1 ?_
  try simp only [Act.put, List.setIfInBounds_toArray, List.set_cons_zero, List.set_cons_succ]
  refine wpAnyH_take (i := 27) (oi := ⟨some 101, .load 25 (.tmp 100), 25, "outright.go:51", #[⟨26, .data⟩, ⟨24, .guard⟩], some (24, true)⟩) (v := undef) rfl (by kernel_rfl) (by kernel_rfl) (by kernel_rfl) (fun _ _ _ h => HP _ _ _ _ _ h) (Or.inr ⟨by rfl, rfl⟩) hH1 ?_
  try simp only [Act.put, List.setIfInBounds_toArray, List.set_cons_zero, List.set_cons_succ]
  refine wpAnyH_take (i := 28) (oi := ⟨some 102, .load 25 (.tmp 12), 25, "outright.go:51", #[⟨24, .guard⟩], some (24, true)⟩) (v := undef) rfl (by kernel_rfl) (by kernel_rfl) (by kernel_rfl) (fun _ _ _ h => HP _ _ _ _ _ h) (Or.inr ⟨by rfl, rfl⟩) hH1 ?_
  try simp only [Act.put, List.setIfInBounds_toArray, List.set_cons_zero, List.set_cons_succ]
  refine wpAnyH_take (i := 29) (oi := ⟨some 103, .binOp .neq 25 (.tmp 101) (.tmp 102) 25, 4, "outright.go:51", #[⟨27, .data⟩, ⟨28, .data⟩, ⟨24, .guard⟩], some (24, true)⟩) (v := undef) rfl (by kernel_rfl) (by kernel_rfl) (by kernel_rfl) (fun _ _ _ h => HP _ _ _ _ _ h) (Or.inr ⟨by rfl, rfl⟩) hH1 ?_
  try simp only [Act.put, List.setIfInBounds_toArray, List.set_cons_zero, List.set_cons_succ]
  refine wpAnyH_take (i := 30) (oi := ⟨some 104, .pick (.tmp 98) (.tmp 103) (.const (.bool false)), 4, "outright.go:51", #[⟨24, .data⟩, ⟨29, .data⟩, ⟨18, .guard⟩], some (18, false)⟩) (v := ?_) rfl (by kernel_rfl) (by kernel_rfl) (by kernel_rfl) (fun _ _ _ h => HP _ _ _ _ _ h) (Or.inl ⟨by rfl, fun w hSw => ?_⟩) hH1 ?_
  rotate_left 1
  · (try simp only [S27] at hSw); go_simp; (try with_reducible rfl)
  try simp only [Act.put, List.setIfInBounds_toArray, List.set_cons_zero, List.set_cons_succ]
  refine wpAnyH_take (i := 31) (oi := ⟨some 105, .pick (.tmp 92) (.const (.bool true)) (.tmp 104), 4, "outright.go:51", #[⟨18, .data⟩, ⟨30, .data⟩], none⟩) (v := ?_) rfl (by kernel_rfl) (by kernel_rfl) (by kernel_rfl) (fun _ _ _ h => HP _ _ _ _ _ h) (Or.inl ⟨by rfl, fun w hSw => ?_⟩) hH1 ?_
  rotate_left 1
  · (try simp only [S27] at hSw); go_simp; (try with_reducible rfl)
  try simp only [Act.put, List.setIfInBounds_toArray, List.set_cons_zero, List.set_cons_succ]
  refine wpAnyH_take (i := 32) (oi := ⟨some 106, .move (.tmp 105), 4, "outright.go:51", #[⟨31, .data⟩, ⟨24, .chain⟩], none⟩) (v := ?_) rfl (by kernel_rfl) (by kernel_rfl) (by kernel_rfl) (fun _ _ _ h => HP _ _ _ _ _ h) (Or.inl ⟨by rfl, fun w hSw => ?_⟩) hH1 ?_
  rotate_left 1
  · (try simp only [S27] at hSw); go_simp; (try with_reducible rfl)
  try simp only [Act.put, List.setIfInBounds_toArray, List.set_cons_zero, List.set_cons_succ]
  refine wpAnyH_take (i := 33) (oi := ⟨some 107, .move (.tmp 15), 3, "outright.go:51", #[⟨32, .guard⟩], some (32, false)⟩) (v := ?_) rfl (by kernel_rfl) (by kernel_rfl) (by kernel_rfl) (fun _ _ _ h => HP _ _ _ _ _ h) (Or.inl ⟨by rfl, fun w hSw => ?_⟩) hH1 ?_
  rotate_left 1
  · (try simp only [S27] at hSw); go_simp; (try with_reducible rfl)
  try simp only [Act.put, List.setIfInBounds_toArray, List.set_cons_zero, List.set_cons_succ]
  refine wpAnyH_take (i := 34) (oi := ⟨some 108, .binOp .gtr 3 (.tmp 107) (.const (.int .i64 0)) 3, 4, "outright.go:51", #[⟨33, .data⟩, ⟨32, .guard⟩], some (32, false)⟩) (v := ?_) rfl (by kernel_rfl) (by kernel_rfl) (by kernel_rfl) (fun _ _ _ h => HP _ _ _ _ _ h) (Or.inl ⟨by rfl, fun w hSw => ?_⟩) hH1 ?_
  rotate_left 1
  · (try simp only [S27] at hSw); go_simp; (try with_reducible rfl)
  try simp only [Act.put, List.setIfInBounds_toArray, List.set_cons_zero, List.set_cons_succ]
  refine wpAnyH_take (i := 35) (oi := ⟨some 109, .move (.tmp 108), 4, "outright.go:51", #[⟨34, .data⟩, ⟨32, .chain⟩, ⟨32, .guard⟩], some (32, false)⟩) (v := ?_) rfl (by kernel_rfl) (by kernel_rfl) (by kernel_rfl) (fun _ _ _ h => HP _ _ _ _ _ h) (Or.inl ⟨by rfl, fun w hSw => ?_⟩) hH1 ?_
  rotate_left 1
  · (try simp only [S27] at hSw); go_simp; (try with_reducible rfl)
  try simp only [Act.put, List.setIfInBounds_toArray, List.set_cons_zero, List.set_cons_succ]
  refine wpAnyH_take (i := 36) (oi := ⟨some 110, .move (.tmp 15), 3, "outright.go:51", #[⟨35, .guard⟩], some (35, true)⟩) (v := undef) rfl (by kernel_rfl) (by kernel_rfl) (by kernel_rfl) (fun _ _ _ h => HP _ _ _ _ _ h) (Or.inr ⟨by rfl, rfl⟩) hH1 ?_
  try simp only [Act.put, List.setIfInBounds_toArray, List.set_cons_zero, List.set_cons_succ]
  refine wpAnyH_take (i := 37) (oi := ⟨some 111, .binOp .sub 3 (.tmp 110) (.const (.int .i64 1)) 3, 3, "outright.go:51", #[⟨36, .data⟩, ⟨35, .guard⟩], some (35, true)⟩) (v := undef) rfl (by kernel_rfl) (by kernel_rfl) (by kernel_rfl) (fun _ _ _ h => HP _ _ _ _ _ h) (Or.inr ⟨by rfl, rfl⟩) hH1 ?_
  try simp only [Act.put, List.setIfInBounds_toArray, List.set_cons_zero, List.set_cons_succ]
  refine wpAnyH_take (i := 38) (oi := ⟨some 112, .indexAddr 57 (.tmp 8) (.tmp 111), 0, "outright.go:51", #[⟨37, .data⟩, ⟨35, .guard⟩], some (35, true)⟩) (v := undef) rfl (by kernel_rfl) (by kernel_rfl) (by kernel_rfl) (fun _ _ _ h => HP _ _ _ _ _ h) (Or.inr ⟨by rfl, rfl⟩) hH1 ?_
  try simp only [Act.put, List.setIfInBounds_toArray, List.set_cons_zero, List.set_cons_succ]
  refine wpAnyH_take (i := 39) (oi := ⟨some 113, .fieldAddr 25 (.tmp 112) 0, 0, "outright.go:51", #[⟨38, .data⟩, ⟨35, .guard⟩], some (35, true)⟩) (v := undef) rfl (by kernel_rfl) (by kernel_rfl) (by kernel_rfl) (fun _ _ _ h => HP _ _ _ _ _ h) (Or.inr ⟨by rfl, rfl⟩) hH1 ?_
  try simp only [Act.put, List.setIfInBounds_toArray, List.set_cons_zero, List.set_cons_succ]
  refine wpAnyH_take (i := 40) (oi := ⟨some 114, .load 3 (.tmp 113), 3, "outright.go:51", #[⟨39, .data⟩, ⟨35, .guard⟩], some (35, true)⟩) (v := undef) rfl (by kernel_rfl) (by kernel_rfl) (by kernel_rfl) (fun _ _ _ h => HP _ _ _ _ _ h) (Or.inr ⟨by rfl, rfl⟩) hH1 ?_
  try simp only [Act.put, List.setIfInBounds_toArray, List.set_cons_zero, List.set_cons_succ]
  refine wpAnyH_take (i := 41) (oi := ⟨some 115, .fieldAddr 25 (.tmp 12) 0, 0, "outright.go:51", #[⟨35, .guard⟩], some (35, true)⟩) (v := undef) rfl (by kernel_rfl) (by kernel_rfl) (by kernel_rfl) (fun _ _ _ h => HP _ _ _ _ _ h) (Or.inr ⟨by rfl, rfl⟩) hH1 ?_
  try simp only [Act.put, List.setIfInBounds_toArray, List.set_cons_zero, List.set_cons_succ]
  refine wpAnyH_take (i := 42) (oi := ⟨some 116, .load 3 (.tmp 115), 3, "outright.go:51", #[⟨41, .data⟩, ⟨35, .guard⟩], some (35, true)⟩) (v := undef) rfl (by kernel_rfl) (by kernel_rfl) (by kernel_rfl) (fun _ _ _ h => HP _ _ _ _ _ h) (Or.inr ⟨by rfl, rfl⟩) hH1 ?_
  try simp only [Act.put, List.setIfInBounds_toArray, List.set_cons_zero, List.set_cons_succ]
  refine wpAnyH_take (i := 43) (oi := ⟨some 117, .binOp .geq 3 (.tmp 114) (.tmp 116) 3, 4, "outright.go:51", #[⟨40, .data⟩, ⟨42, .data⟩, ⟨35, .guard⟩], some (35, true)⟩) (v := undef) rfl (by kernel_rfl) (by kernel_rfl) (by kernel_rfl) (fun _ _ _ h => HP _ _ _ _ _ h) (Or.inr ⟨by rfl, rfl⟩) hH1 ?_
  try simp only [Act.put, List.setIfInBounds_toArray, List.set_cons_zero, List.set_cons_succ]
  refine wpAnyH_take (i := 44) (oi := ⟨some 118, .pick (.tmp 109) (.tmp 117) (.const (.bool false)), 4, "outright.go:51", #[⟨35, .data⟩, ⟨43, .data⟩, ⟨32, .guard⟩], some (32, false)⟩) (v := ?_) rfl (by kernel_rfl) (by kernel_rfl) (by kernel_rfl) (fun _ _ _ h => HP _ _ _ _ _ h) (Or.inl ⟨by rfl, fun w hSw => ?_⟩) hH1 ?_
  rotate_left 1
  · (try simp only [S27] at hSw); go_simp; (try with_reducible rfl)
  try simp only [Act.put, List.setIfInBounds_toArray, List.set_cons_zero, List.set_cons_succ]
  refine wpAnyH_take (i := 45) (oi := ⟨some 119, .pick (.tmp 106) (.const (.bool true)) (.tmp 118), 4, "outright.go:51", #[⟨32, .data⟩, ⟨44, .data⟩], none⟩) (v := ?_) rfl (by kernel_rfl) (by kernel_rfl) (by kernel_rfl) (fun _ _ _ h => HP _ _ _ _ _ h) (Or.inl ⟨by rfl, fun w hSw => ?_⟩) hH1 ?_
  rotate_left 1
  · (try simp only [S27] at hSw); go_simp; (try with_reducible rfl)
  try simp only [Act.put, List.setIfInBounds_toArray, List.set_cons_zero, List.set_cons_succ]
  refine wpAnyH_take (i := 46) (oi := ⟨some 120, .move (.tmp 119), 4, "outright.go:51", #[⟨45, .data⟩, ⟨35, .chain⟩], none⟩) (v := ?_) rfl (by kernel_rfl) (by kernel_rfl) (by kernel_rfl) (fun _ _ _ h => HP _ _ _ _ _ h) (Or.inl ⟨by rfl, fun w hSw => ?_⟩) hH1 ?_
  rotate_left 1
  · (try simp only [S27] at hSw); go_simp; (try with_reducible rfl)
  try simp only [Act.put, List.setIfInBounds_toArray, List.set_cons_zero, List.set_cons_succ]
  refine wpAnyH_take (i := 47) (oi := ⟨some 121, .move (.tmp 15), 3, "outright.go:51", #[⟨46, .guard⟩], some (46, false)⟩) (v := ?_) rfl (by kernel_rfl) (by kernel_rfl) (by kernel_rfl) (fun _ _ _ h => HP _ _ _ _ _ h) (Or.inl ⟨by rfl, fun w hSw => ?_⟩) hH1 ?_
  rotate_left 1
  · (try simp only [S27] at hSw); go_simp; (try with_reducible rfl)
  try simp only [Act.put, List.setIfInBounds_toArray, List.set_cons_zero, List.set_cons_succ]
  refine wpAnyH_take (i := 48) (oi := ⟨some 122, .move (.tmp 5), 26, "outright.go:51", #[⟨46, .guard⟩], some (46, false)⟩) (v := ?_) rfl (by kernel_rfl) (by kernel_rfl) (by kernel_rfl) (fun _ _ _ h => HP _ _ _ _ _ h) (Or.inl ⟨by rfl, fun w hSw => ?_⟩) hH1 ?_
  rotate_left 1
  · (try simp only [S27] at hSw); go_simp; (try with_reducible rfl)
  try simp only [Act.put, List.setIfInBounds_toArray, List.set_cons_zero, List.set_cons_succ]
  refine wpAnyH_ready (rs := [49]) (by kernel_rfl) (by simp) ?_
  refine AllReadyH.cons (o := ⟨some 123, .call { callee := .value (.func 7), args := #[.tmp 122], argTypes := #[26] }, 3, "outright.go:51", #[⟨48, .data⟩, ⟨46, .chain⟩, ⟨46, .guard⟩], some (46, false)⟩) rfl (fun K hK => ?_) AllReadyH.nil
  go_simp
  refine (HUS.out _ hH1.2.2.2.2.2.2.2.2).mono ?_
  rintro e w' ⟨rfl, rfl⟩
  refine hK.out _ _ (hH1) (fun hH2 => ?_)
  clear hK K
  try simp only [Act.put, List.setIfInBounds_toArray, List.set_cons_zero, List.set_cons_succ]
  refine wpAnyH_take (i := 50) (oi := ⟨some 124, .binOp .sub 3 (.tmp 123) (.const (.int .i64 1)) 3, 3, "outright.go:51", #[⟨49, .data⟩, ⟨46, .guard⟩], some (46, false)⟩) (v := ?_) rfl (by kernel_rfl) (by kernel_rfl) (by kernel_rfl) (fun _ _ _ h => HP _ _ _ _ _ h) (Or.inl ⟨by rfl, fun w hSw => ?_⟩) hH2 ?_
  rotate_left 1
  · (try simp only [S27] at hSw); go_simp; (try with_reducible rfl)
  try simp only [Act.put, List.setIfInBounds_toArray, List.set_cons_zero, List.set_cons_succ]
  refine wpAnyH_take (i := 51) (oi := ⟨some 125, .binOp .neq 3 (.tmp 121) (.tmp 124) 3, 4, "outright.go:51", #[⟨47, .data⟩, ⟨50, .data⟩, ⟨46, .guard⟩], some (46, false)⟩) (v := ?_) rfl (by kernel_rfl) (by kernel_rfl) (by kernel_rfl) (fun _ _ _ h => HP _ _ _ _ _ h) (Or.inl ⟨by rfl, fun w hSw => ?_⟩) hH2 ?_
  rotate_left 1
  · (try simp only [S27] at hSw); go_simp; (try with_reducible rfl)
  try simp only [Act.put, List.setIfInBounds_toArray, List.set_cons_zero, List.set_cons_succ]
  refine wpAnyH_take (i := 52) (oi := ⟨some 126, .pick (.tmp 120) (.const (.bool true)) (.tmp 125), 4, "outright.go:51", #[⟨46, .data⟩, ⟨51, .data⟩], none⟩) (v := ?_) rfl (by kernel_rfl) (by kernel_rfl) (by kernel_rfl) (fun _ _ _ h => HP _ _ _ _ _ h) (Or.inl ⟨by rfl, fun w hSw => ?_⟩) hH2 ?_
  rotate_left 1
  · (try simp only [S27] at hSw); go_simp; (try with_reducible rfl)
  try simp only [Act.put, List.setIfInBounds_toArray, List.set_cons_zero, List.set_cons_succ]
  refine wpAnyH_done (by kernel_rfl) ?_ _
  exact HQ.out _ _ _ _ _ _ _ _ _ _ _ _ _ _ _ _ _ _ _ _ _ _ _ _ _ _ _ _ _ _ _ _ _ _ _ _ _ _ _ _ _ _ _ _ _ _ _ _ _ _ _ _ _ hH2
set_option maxRecDepth 100000 in
set_option maxHeartbeats 4000000 in
theorem once27F1 {w11 : World} {sb hb kb bb m q r : Nat} {Y H C : List Value} {zz pp : Int} {Q : Exit → Act → World → Prop} {u0 u1 u2 u3 u4 u6 u9 u10 u11 u13 u16 u17 u18 u19 u20 u21 u22 u23 u24 u25 u26 u27 u28 u29 u30 u31 u32 u33 u34 u35 u36 u37 u38 u39 u40 u41 u42 u43 u44 u45 u46 u47 u48 u49 u50 u51 u52 u53 u54 u55 u56 u57 u58 u59 u60 u61 u62 u63 u64 u65 u66 u67 u68 u69 u70 u71 u72 u73 u74 u75 u76 u77 u78 u79 u80 u81 u82 u83 u84 u85 u86 u87 u88 u89 u90 u91 u92 u93 u94 u95 u96 u97 u98 u99 u100 u101 u102 u103 u104 u105 u106 u107 u108 u109 u110 u111 u112 u113 u114 u115 u116 u117 u118 u119 u120 u121 u122 u123 u124 u125 u126 u127 u128 u129 u130 u131 u132 u133 u134 u135 u136 u137 u138 u139 u140 u141 u142 u143 u144 u145 u146 u147 u148 u149 u150 u151 u152 u153 u154 u155 u156 u157 u158 u159 u160 u161 u162 u163 u164 u165 u166 u167 u168 u169 u170 u171 u172 u173 u174 u175 u176 u177 u178 u179 u180 u181 u182 u183 u184 u185 u186 u187 u188 u189 u190 u191 u192 u193 u194 u195 u196 u197 u198 u199 u200 u201 u202 u203 u204 u205 u206 u207 u208 u209 u210 u211 u212 u213 u214 u215 u216 u217 u218 u219 u220 u221 u222 u223 u224 u225 u226 u227 u228 u229 u230 u231 u232 u233 u234 u235 u236 u237 u238 u239 u240 u241 u242 u243 u244 u245 : Value} (HCK : Hid (∀ w', Kept (fun _ => False) w11 w' → Calls Tryd.prog 15 #[.agg C.toArray, .agg Y.toArray] w' fun e w2 => e = .returned (.int .i64 0) ∧ Kept (fun _ => False) w' w2)) (HUS : Hid (∀ w', Kept (fun _ => False) w11 w' → Calls Tryd.prog 7 #[.pointer (some ⟨r, 0, none⟩)] w' fun e w2 => e = .returned (.int .i64 ((m : Int) + 1)) ∧ w' = w2)) (HL4 : Hid (sb < w11.heap.size ∧ hb < w11.heap.size ∧ kb < w11.heap.size ∧ bb < w11.heap.size)) (HIh : Hid ((Tryd.prog.info? 25).map (·.size) = some H.length)) (HIk : Hid ((Tryd.prog.info? 23).map (·.size) = some C.length)) (HIy : Hid ((Tryd.prog.info? 31).map (·.size) = some Y.length)) (hneq : ∀ w', (binOp .neq 25 (.agg H.toArray) (.agg H.toArray)).run Tryd.prog w' = .ok (.bool false) w') (i0 : decide ((m : Int) < 0) = false) (i1 : decide ((8 : Int) ≤ (m : Int)) = false) (i2 : (m : Int) < 8) (i3 : (q : Int) < 8) (i4 : wrap64 ((m : Int) + 1) = (m : Int) + 1) (i5 : IntKind.i64.wrap ((m : Int) + 1) = (m : Int) + 1) (i6 : IntKind.i64.wrap (m : Int) = (m : Int)) (i7 : wrap64 (m : Int) = (m : Int)) (i8 : decide ((0 : Int) < (m : Int)) = true) (i12 : decide (0 < m) = true) (i10 : IntKind.i64.wrap ((m : Int) - 1) = (q : Int)) (i11 : wrap64 ((m : Int) - 1) = (q : Int)) (j5 : decide (zz ≤ pp) = false) (SA : (fun w' => S27 w11 w' sb hb kb bb m q Y H C (headC 0 zeroRoot) 0 pp zz) w11.drew)
    (HP : ∀ c a (k : Nat) v w, Q (.panic c) (Act.put a (some k) v) w → Q (.panic c) a w) (HQ : ∀ (v74 v75 v76 v77 v78 v79 v80 v81 v82 v83 v84 v85 v86 v87 v88 v89 v90 v91 v92 v93 v94 v95 v96 v97 v98 v99 v100 v101 v102 v103 v104 v105 v106 v107 v108 v109 v110 v111 v112 v113 v114 v115 v116 v117 v118 v119 v120 v121 v122 v123 v124 v125 : Value) (w' : World), (fun w' => S27 w11 w' sb hb kb bb m q Y H C (headC 0 zeroRoot) 0 pp zz) w' → Q .normal ⟨List.toArray (u0 :: u1 :: u2 :: u3 :: u4 :: (.pointer (some ⟨r, 0, none⟩)) :: u6 :: (.pointer (some ⟨kb, 0, none⟩)) :: (.pointer (some ⟨bb, 0, none⟩)) :: u9 :: u10 :: u11 :: (.pointer (some ⟨hb, 0, none⟩)) :: u13 :: (.pointer (some ⟨sb, 0, none⟩)) :: (.int .i64 (m : Int)) :: u16 :: u17 :: u18 :: u19 :: u20 :: u21 :: u22 :: u23 :: u24 :: u25 :: u26 :: u27 :: u28 :: u29 :: u30 :: u31 :: u32 :: u33 :: u34 :: u35 :: u36 :: u37 :: u38 :: u39 :: u40 :: u41 :: u42 :: u43 :: u44 :: u45 :: u46 :: u47 :: u48 :: u49 :: u50 :: u51 :: u52 :: u53 :: u54 :: u55 :: u56 :: u57 :: u58 :: u59 :: u60 :: u61 :: u62 :: u63 :: u64 :: u65 :: u66 :: u67 :: u68 :: u69 :: u70 :: u71 :: u72 :: u73 :: v74 :: v75 :: v76 :: v77 :: v78 :: v79 :: v80 :: v81 :: v82 :: v83 :: v84 :: v85 :: v86 :: v87 :: v88 :: v89 :: v90 :: v91 :: v92 :: v93 :: v94 :: v95 :: v96 :: v97 :: v98 :: v99 :: v100 :: v101 :: v102 :: v103 :: v104 :: v105 :: v106 :: v107 :: v108 :: v109 :: v110 :: v111 :: v112 :: v113 :: v114 :: v115 :: v116 :: v117 :: v118 :: v119 :: v120 :: v121 :: v122 :: v123 :: v124 :: v125 :: (.bool false) :: u127 :: u128 :: u129 :: u130 :: u131 :: u132 :: u133 :: u134 :: u135 :: u136 :: u137 :: u138 :: u139 :: u140 :: u141 :: u142 :: u143 :: u144 :: u145 :: u146 :: u147 :: u148 :: u149 :: u150 :: u151 :: u152 :: u153 :: u154 :: u155 :: u156 :: u157 :: u158 :: u159 :: u160 :: u161 :: u162 :: u163 :: u164 :: u165 :: u166 :: u167 :: u168 :: u169 :: u170 :: u171 :: u172 :: u173 :: u174 :: u175 :: u176 :: u177 :: u178 :: u179 :: u180 :: u181 :: u182 :: u183 :: u184 :: u185 :: u186 :: u187 :: u188 :: u189 :: u190 :: u191 :: u192 :: u193 :: u194 :: u195 :: u196 :: u197 :: u198 :: u199 :: u200 :: u201 :: u202 :: u203 :: u204 :: u205 :: u206 :: u207 :: u208 :: u209 :: u210 :: u211 :: u212 :: u213 :: u214 :: u215 :: u216 :: u217 :: u218 :: u219 :: u220 :: u221 :: u222 :: u223 :: u224 :: u225 :: u226 :: u227 :: u228 :: u229 :: u230 :: u231 :: u232 :: u233 :: u234 :: u235 :: u236 :: u237 :: u238 :: u239 :: u240 :: u241 :: u242 :: u243 :: u244 :: u245 :: []), []⟩ w') :
    Code.wp Tryd.prog (Code.region 27 ops27 true) Q ⟨List.toArray (u0 :: u1 :: u2 :: u3 :: u4 :: (.pointer (some ⟨r, 0, none⟩)) :: u6 :: (.pointer (some ⟨kb, 0, none⟩)) :: (.pointer (some ⟨bb, 0, none⟩)) :: u9 :: u10 :: u11 :: (.pointer (some ⟨hb, 0, none⟩)) :: u13 :: (.pointer (some ⟨sb, 0, none⟩)) :: (.int .i64 (m : Int)) :: u16 :: u17 :: u18 :: u19 :: u20 :: u21 :: u22 :: u23 :: u24 :: u25 :: u26 :: u27 :: u28 :: u29 :: u30 :: u31 :: u32 :: u33 :: u34 :: u35 :: u36 :: u37 :: u38 :: u39 :: u40 :: u41 :: u42 :: u43 :: u44 :: u45 :: u46 :: u47 :: u48 :: u49 :: u50 :: u51 :: u52 :: u53 :: u54 :: u55 :: u56 :: u57 :: u58 :: u59 :: u60 :: u61 :: u62 :: u63 :: u64 :: u65 :: u66 :: u67 :: u68 :: u69 :: u70 :: u71 :: u72 :: u73 :: u74 :: u75 :: u76 :: u77 :: u78 :: u79 :: u80 :: u81 :: u82 :: u83 :: u84 :: u85 :: u86 :: u87 :: u88 :: u89 :: u90 :: u91 :: u92 :: u93 :: u94 :: u95 :: u96 :: u97 :: u98 :: u99 :: u100 :: u101 :: u102 :: u103 :: u104 :: u105 :: u106 :: u107 :: u108 :: u109 :: u110 :: u111 :: u112 :: u113 :: u114 :: u115 :: u116 :: u117 :: u118 :: u119 :: u120 :: u121 :: u122 :: u123 :: u124 :: u125 :: u126 :: u127 :: u128 :: u129 :: u130 :: u131 :: u132 :: u133 :: u134 :: u135 :: u136 :: u137 :: u138 :: u139 :: u140 :: u141 :: u142 :: u143 :: u144 :: u145 :: u146 :: u147 :: u148 :: u149 :: u150 :: u151 :: u152 :: u153 :: u154 :: u155 :: u156 :: u157 :: u158 :: u159 :: u160 :: u161 :: u162 :: u163 :: u164 :: u165 :: u166 :: u167 :: u168 :: u169 :: u170 :: u171 :: u172 :: u173 :: u174 :: u175 :: u176 :: u177 :: u178 :: u179 :: u180 :: u181 :: u182 :: u183 :: u184 :: u185 :: u186 :: u187 :: u188 :: u189 :: u190 :: u191 :: u192 :: u193 :: u194 :: u195 :: u196 :: u197 :: u198 :: u199 :: u200 :: u201 :: u202 :: u203 :: u204 :: u205 :: u206 :: u207 :: u208 :: u209 :: u210 :: u211 :: u212 :: u213 :: u214 :: u215 :: u216 :: u217 :: u218 :: u219 :: u220 :: u221 :: u222 :: u223 :: u224 :: u225 :: u226 :: u227 :: u228 :: u229 :: u230 :: u231 :: u232 :: u233 :: u234 :: u235 :: u236 :: u237 :: u238 :: u239 :: u240 :: u241 :: u242 :: u243 :: u244 :: u245 :: []), []⟩ w11 := by
  have HQ := Lib.hid HQ
  unfold ops27
  refine wp_region_held_drew (S := (fun w' => S27 w11 w' sb hb kb bb m q Y H C (headC 0 zeroRoot) 0 pp zz)) (by kernel_rfl) SA (fun hH0 => ?_)
  refine wpAnyH_take (i := 0) (oi := ⟨some 74, .fieldAddr 31 (.tmp 14) 0, 0, "outright.go:51", #[], none⟩) (v := ?_) rfl (by kernel_rfl) (by kernel_rfl) (by kernel_rfl) (fun _ _ _ h => HP _ _ _ _ _ h) (Or.inl ⟨by rfl, fun w hSw => ?_⟩) hH0 ?_
  rotate_left 1
  · (try simp only [S27] at hSw); go_simp; (try with_reducible rfl)
  try simp only [Act.put, List.setIfInBounds_toArray, List.set_cons_zero, List.set_cons_succ]
  refine wpAnyH_take (i := 1) (oi := ⟨some 75, .load 25 (.tmp 74), 25, "outright.go:51", #[⟨0, .data⟩], none⟩) (v := .agg (H).toArray) rfl (by kernel_rfl) (by kernel_rfl) (by kernel_rfl) (fun _ _ _ h => HP _ _ _ _ _ h) (yieldsIf_load_mid (by rfl) _ _ rfl (sb) (0) rfl (H) _ (fun w q => q.2.1) Tryd.underlying25 rfl HIh.out) hH0 ?_
  try simp only [Act.put, List.setIfInBounds_toArray, List.set_cons_zero, List.set_cons_succ]
  refine wpAnyH_take (i := 2) (oi := ⟨some 76, .load 25 (.tmp 12), 25, "outright.go:51", #[], none⟩) (v := .agg (H).toArray) rfl (by kernel_rfl) (by kernel_rfl) (by kernel_rfl) (fun _ _ _ h => HP _ _ _ _ _ h) (yieldsIf_load_mid (by rfl) _ _ rfl (hb) (0) rfl (H) _ (fun w q => q.2.2.1) Tryd.underlying25 rfl HIh.out) hH0 ?_
  try simp only [Act.put, List.setIfInBounds_toArray, List.set_cons_zero, List.set_cons_succ]
  refine wpAnyH_take (i := 3) (oi := ⟨some 77, .binOp .neq 25 (.tmp 75) (.tmp 76) 25, 4, "outright.go:51", #[⟨1, .data⟩, ⟨2, .data⟩], none⟩) (v := ?_) rfl (by kernel_rfl) (by kernel_rfl) (by kernel_rfl) (fun _ _ _ h => HP _ _ _ _ _ h) (Or.inl ⟨by rfl, fun w hSw => ?_⟩) hH0 ?_
  rotate_left 1
  · (try simp only [S27] at hSw); go_simp; (try with_reducible rfl)
  try simp only [Act.put, List.setIfInBounds_toArray, List.set_cons_zero, List.set_cons_succ]
  refine wpAnyH_take (i := 4) (oi := ⟨some 78, .move (.tmp 77), 4, "outright.go:51", #[⟨3, .data⟩], none⟩) (v := ?_) rfl (by kernel_rfl) (by kernel_rfl) (by kernel_rfl) (fun _ _ _ h => HP _ _ _ _ _ h) (Or.inl ⟨by rfl, fun w hSw => ?_⟩) hH0 ?_
  rotate_left 1
  · (try simp only [S27] at hSw); go_simp; (try with_reducible rfl)
  try simp only [Act.put, List.setIfInBounds_toArray, List.set_cons_zero, List.set_cons_succ]
  refine wpAnyH_take (i := 5) (oi := ⟨some 79, .load 23 (.tmp 7), 23, "outright.go:51", #[⟨4, .guard⟩], some (4, false)⟩) (v := .agg (C).toArray) rfl (by kernel_rfl) (by kernel_rfl) (by kernel_rfl) (fun _ _ _ h => HP _ _ _ _ _ h) (yieldsIf_load_mid (by rfl) _ _ rfl (kb) (0) rfl (C) _ (fun w q => q.2.2.2.1) Tryd.underlying23 rfl HIk.out) hH0 ?_
  try simp only [Act.put, List.setIfInBounds_toArray, List.set_cons_zero, List.set_cons_succ]
  refine wpAnyH_take (i := 6) (oi := ⟨some 80, .load 31 (.tmp 14), 31, "outright.go:51", #[⟨4, .guard⟩], some (4, false)⟩) (v := .agg (Y).toArray) rfl (by kernel_rfl) (by kernel_rfl) (by kernel_rfl) (fun _ _ _ h => HP _ _ _ _ _ h) (yieldsIf_load_mid (by rfl) _ _ rfl (sb) (0) rfl (Y) _ (fun w q => q.1) Tryd.underlying31 rfl HIy.out) hH0 ?_
  try simp only [Act.put, List.setIfInBounds_toArray, List.set_cons_zero, List.set_cons_succ]
  refine wpAnyH_ready (rs := [7]) (by kernel_rfl) (by simp) ?_
  refine AllReadyH.cons (o := ⟨some 81, .call { callee := .value (.func 15), args := #[.tmp 79, .tmp 80], argTypes := #[23, 31] }, 32, "outright.go:51", #[⟨5, .data⟩, ⟨6, .data⟩, ⟨4, .chain⟩, ⟨4, .guard⟩], some (4, false)⟩) rfl (fun K hK => ?_) AllReadyH.nil
  go_simp
  refine (HCK.out _ hH0.2.2.2.2.2.2.2.2).mono ?_
  rintro e w12 ⟨rfl, hk12⟩
  refine hK.out _ _ (s27_next hH0 HL4.out hk12) (fun hH1 => ?_)
  clear hK K
  try simp only [Act.put, List.setIfInBounds_toArray, List.set_cons_zero, List.set_cons_succ]
  refine wpAnyH_take (i := 8) (oi := ⟨some 82, .binOp .neq 32 (.tmp 81) (.const (.int .i64 0)) 32, 4, "outright.go:51", #[⟨7, .data⟩, ⟨4, .guard⟩], some (4, false)⟩) (v := ?_) rfl (by kernel_rfl) (by kernel_rfl) (by kernel_rfl) (fun _ _ _ h => HP _ _ _ _ _ h) (Or.inl ⟨by rfl, fun w hSw => ?_⟩) hH1 ?_
  rotate_left 1
  · (try simp only [S27] at hSw); go_simp; (try with_reducible rfl)
  try simp only [Act.put, List.setIfInBounds_toArray, List.set_cons_zero, List.set_cons_succ]
  refine wpAnyH_take (i := 9) (oi := ⟨some 83, .pick (.tmp 78) (.const (.bool true)) (.tmp 82), 4, "outright.go:51", #[⟨4, .data⟩, ⟨8, .data⟩], none⟩) (v := ?_) rfl (by kernel_rfl) (by kernel_rfl) (by kernel_rfl) (fun _ _ _ h => HP _ _ _ _ _ h) (Or.inl ⟨by rfl, fun w hSw => ?_⟩) hH1 ?_
  rotate_left 1
  · (try simp only [S27] at hSw); go_simp; (try with_reducible rfl)
  try simp only [Act.put, List.setIfInBounds_toArray, List.set_cons_zero, List.set_cons_succ]
  refine wpAnyH_take (i := 10) (oi := ⟨some 84, .move (.tmp 83), 4, "outright.go:51", #[⟨9, .data⟩, ⟨7, .chain⟩], none⟩) (v := ?_) rfl (by kernel_rfl) (by kernel_rfl) (by kernel_rfl) (fun _ _ _ h => HP _ _ _ _ _ h) (Or.inl ⟨by rfl, fun w hSw => ?_⟩) hH1 ?_
  rotate_left 1
  · (try simp only [S27] at hSw); go_simp; (try with_reducible rfl)
  try simp only [Act.put, List.setIfInBounds_toArray, List.set_cons_zero, List.set_cons_succ]
  refine wpAnyH_take (i := 11) (oi := ⟨some 85, .move (.tmp 15), 3, "outright.go:51", #[⟨10, .guard⟩], some (10, false)⟩) (v := ?_) rfl (by kernel_rfl) (by kernel_rfl) (by kernel_rfl) (fun _ _ _ h => HP _ _ _ _ _ h) (Or.inl ⟨by rfl, fun w hSw => ?_⟩) hH1 ?_
  rotate_left 1
  · (try simp only [S27] at hSw); go_simp; (try with_reducible rfl)
  try simp only [Act.put, List.setIfInBounds_toArray, List.set_cons_zero, List.set_cons_succ]
  refine wpAnyH_take (i := 12) (oi := ⟨some 86, .binOp .lss 3 (.tmp 85) (.const (.int .i64 0)) 3, 4, "outright.go:51", #[⟨11, .data⟩, ⟨10, .guard⟩], some (10, false)⟩) (v := ?_) rfl (by kernel_rfl) (by kernel_rfl) (by kernel_rfl) (fun _ _ _ h => HP _ _ _ _ _ h) (Or.inl ⟨by rfl, fun w hSw => ?_⟩) hH1 ?_
  rotate_left 1
  · (try simp only [S27] at hSw); go_simp; (try with_reducible rfl)
  try simp only [Act.put, List.setIfInBounds_toArray, List.set_cons_zero, List.set_cons_succ]
  refine wpAnyH_take (i := 13) (oi := ⟨some 87, .pick (.tmp 84) (.const (.bool true)) (.tmp 86), 4, "outright.go:51", #[⟨10, .data⟩, ⟨12, .data⟩], none⟩) (v := ?_) rfl (by kernel_rfl) (by kernel_rfl) (by kernel_rfl) (fun _ _ _ h => HP _ _ _ _ _ h) (Or.inl ⟨by rfl, fun w hSw => ?_⟩) hH1 ?_
  rotate_left 1
  · (try simp only [S27] at hSw); go_simp; (try with_reducible rfl)
  try simp only [Act.put, List.setIfInBounds_toArray, List.set_cons_zero, List.set_cons_succ]
  refine wpAnyH_take (i := 14) (oi := ⟨some 88, .move (.tmp 87), 4, "outright.go:51", #[⟨13, .data⟩, ⟨10, .chain⟩], none⟩) (v := ?_) rfl (by kernel_rfl) (by kernel_rfl) (by kernel_rfl) (fun _ _ _ h => HP _ _ _ _ _ h) (Or.inl ⟨by rfl, fun w hSw => ?_⟩) hH1 ?_
  rotate_left 1
  · (try simp only [S27] at hSw); go_simp; (try with_reducible rfl)
  try simp only [Act.put, List.setIfInBounds_toArray, List.set_cons_zero, List.set_cons_succ]
  refine wpAnyH_take (i := 15) (oi := ⟨some 89, .move (.tmp 15), 3, "outright.go:51", #[⟨14, .guard⟩], some (14, false)⟩) (v := ?_) rfl (by kernel_rfl) (by kernel_rfl) (by kernel_rfl) (fun _ _ _ h => HP _ _ _ _ _ h) (Or.inl ⟨by rfl, fun w hSw => ?_⟩) hH1 ?_
  rotate_left 1
  · (try simp only [S27] at hSw); go_simp; (try with_reducible rfl)
  try simp only [Act.put, List.setIfInBounds_toArray, List.set_cons_zero, List.set_cons_succ]
  refine wpAnyH_take (i := 16) (oi := ⟨some 90, .binOp .geq 3 (.tmp 89) (.const (.int .i64 8)) 3, 4, "outright.go:51", #[⟨15, .data⟩, ⟨14, .guard⟩], some (14, false)⟩) (v := ?_) rfl (by kernel_rfl) (by kernel_rfl) (by kernel_rfl) (fun _ _ _ h => HP _ _ _ _ _ h) (Or.inl ⟨by rfl, fun w hSw => ?_⟩) hH1 ?_
  rotate_left 1
  · (try simp only [S27] at hSw); go_simp; (try with_reducible rfl)
  try simp only [Act.put, List.setIfInBounds_toArray, List.set_cons_zero, List.set_cons_succ]
  refine wpAnyH_take (i := 17) (oi := ⟨some 91, .pick (.tmp 88) (.const (.bool true)) (.tmp 90), 4, "outright.go:51", #[⟨14, .data⟩, ⟨16, .data⟩], none⟩) (v := ?_) rfl (by kernel_rfl) (by kernel_rfl) (by kernel_rfl) (fun _ _ _ h => HP _ _ _ _ _ h) (Or.inl ⟨by rfl, fun w hSw => ?_⟩) hH1 ?_
  rotate_left 1
  · (try simp only [S27] at hSw); go_simp; (try with_reducible rfl)
  try simp only [Act.put, List.setIfInBounds_toArray, List.set_cons_zero, List.set_cons_succ]
  refine wpAnyH_take (i := 18) (oi := ⟨some 92, .move (.tmp 91), 4, "outright.go:51", #[⟨17, .data⟩, ⟨14, .chain⟩], none⟩) (v := ?_) rfl (by kernel_rfl) (by kernel_rfl) (by kernel_rfl) (fun _ _ _ h => HP _ _ _ _ _ h) (Or.inl ⟨by rfl, fun w hSw => ?_⟩) hH1 ?_
  rotate_left 1
  · (try simp only [S27] at hSw); go_simp; (try with_reducible rfl)
  try simp only [Act.put, List.setIfInBounds_toArray, List.set_cons_zero, List.set_cons_succ]
  refine wpAnyH_take (i := 19) (oi := ⟨some 93, .move (.tmp 15), 3, "outright.go:51", #[⟨18, .guard⟩], some (18, false)⟩) (v := ?_) rfl (by kernel_rfl) (by kernel_rfl) (by kernel_rfl) (fun _ _ _ h => HP _ _ _ _ _ h) (Or.inl ⟨by rfl, fun w hSw => ?_⟩) hH1 ?_
  rotate_left 1
  · (try simp only [S27] at hSw); go_simp; (try with_reducible rfl)
  try simp only [Act.put, List.setIfInBounds_toArray, List.set_cons_zero, List.set_cons_succ]
  refine wpAnyH_take (i := 20) (oi := ⟨some 94, .indexAddr 57 (.tmp 8) (.tmp 93), 0, "outright.go:51", #[⟨19, .data⟩, ⟨18, .guard⟩], some (18, false)⟩) (v := ?_) rfl (by kernel_rfl) (by kernel_rfl) (by kernel_rfl) (fun _ _ _ h => HP _ _ _ _ _ h) (Or.inl ⟨by rfl, fun w hSw => ?_⟩) hH1 ?_
  rotate_left 1
  · (try simp only [S27] at hSw); go_simp; (try with_reducible rfl)
  try simp only [Act.put, List.setIfInBounds_toArray, List.set_cons_zero, List.set_cons_succ]
  refine wpAnyH_take (i := 21) (oi := ⟨some 95, .fieldAddr 25 (.tmp 94) 0, 0, "outright.go:51", #[⟨20, .data⟩, ⟨18, .guard⟩], some (18, false)⟩) (v := ?_) rfl (by kernel_rfl) (by kernel_rfl) (by kernel_rfl) (fun _ _ _ h => HP _ _ _ _ _ h) (Or.inl ⟨by rfl, fun w hSw => ?_⟩) hH1 ?_
  rotate_left 1
  · (try simp only [S27] at hSw); go_simp; (try with_reducible rfl)
  try simp only [Act.put, List.setIfInBounds_toArray, List.set_cons_zero, List.set_cons_succ]
  refine wpAnyH_take (i := 22) (oi := ⟨some 96, .load 3 (.tmp 95), 3, "outright.go:51", #[⟨21, .data⟩, ⟨18, .guard⟩], some (18, false)⟩) (v := ?_) rfl (by kernel_rfl) (by kernel_rfl) (by kernel_rfl) (fun _ _ _ h => HP _ _ _ _ _ h) (Or.inl ⟨by rfl, fun w hSw => ?_⟩) hH1 ?_
  rotate_left 1
  · (try simp only [S27] at hSw); go_simp; (try with_reducible rfl)
  try simp only [Act.put, List.setIfInBounds_toArray, List.set_cons_zero, List.set_cons_succ]
  refine wpAnyH_take (i := 23) (oi := ⟨some 97, .binOp .neq 3 (.tmp 96) (.const (.int .i64 0)) 3, 4, "outright.go:51", #[⟨22, .data⟩, ⟨18, .guard⟩], some (18, false)⟩) (v := ?_) rfl (by kernel_rfl) (by kernel_rfl) (by kernel_rfl) (fun _ _ _ h => HP _ _ _ _ _ h) (Or.inl ⟨by rfl, fun w hSw => ?_⟩) hH1 ?_
  rotate_left 1
  · (try simp only [S27] at hSw); go_simp; (try with_reducible rfl)
  try simp only [Act.put, List.setIfInBounds_toArray, List.set_cons_zero, List.set_cons_succ]
  refine wpAnyH_take (i := 24) (oi := ⟨some 98, .move (.tmp 97), 4, "outright.go:51", #[⟨23, .data⟩, ⟨18, .chain⟩, ⟨18, .guard⟩], some (18, false)⟩) (v := ?_) rfl (by kernel_rfl) (by kernel_rfl) (by kernel_rfl) (fun _ _ _ h => HP _ _ _ _ _ h) (Or.inl ⟨by rfl, fun w hSw => ?_⟩) hH1 ?_
  rotate_left 1
  · (try simp only [S27] at hSw); go_simp; (try with_reducible rfl)
  try simp only [Act.put, List.setIfInBounds_toArray, List.set_cons_zero, List.set_cons_succ]
  refine wpAnyH_take (i := 25) (oi := ⟨some 99, .move (.tmp 15), 3, "outright.go:51", #[⟨24, .guard⟩], some (24, true)⟩) (v := undef) rfl (by kernel_rfl) (by kernel_rfl) (by kernel_rfl) (fun _ _ _ h => HP _ _ _ _ _ h) (Or.inr ⟨by rfl, rfl⟩) hH1 ?_
  try simp only [Act.put, List.setIfInBounds_toArray, List.set_cons_zero, List.set_cons_succ]
  refine wpAnyH_take (i := 26) (oi := ⟨some 100, .indexAddr 57 (.tmp 8) (.tmp 99), 0, "outright.go:51", #[⟨25, .data⟩, ⟨24, .guard⟩], some (24, true)⟩) (v := undef) rfl (by kernel_rfl) (by kernel_rfl) (by kernel_rfl) (fun _ _ _ h => HP _ _ _ _ _ h) (Or.inr ⟨by rfl, rfl⟩) hH1 ?_
  try simp only [Act.put, List.setIfInBounds_toArray, List.set_cons_zero, List.set_cons_succ]
  refine wpAnyH_take (i := 27) (oi := ⟨some 101, .load 25 (.tmp 100), 25, "outright.go:51", #[⟨26, .data⟩, ⟨24, .guard⟩], some (24, true)⟩) (v := undef) rfl (by kernel_rfl) (by kernel_rfl) (by kernel_rfl) (fun _ _ _ h => HP _ _ _ _ _ h) (Or.inr ⟨by rfl, rfl⟩) hH1 ?_
  try simp only [Act.put, List.setIfInBounds_toArray, List.set_cons_zero, List.set_cons_succ]
  refine wpAnyH_take (i := 28) (oi := ⟨some 102, .load 25 (.tmp 12), 25, "outright.go:51", #[⟨24, .guard⟩], some (24, true)⟩) (v := undef) rfl (by kernel_rfl) (by kernel_rfl) (by kernel_rfl) (fun _ _ _ h => HP _ _ _ _ _ h) (Or.inr ⟨by rfl, rfl⟩) hH1 ?_
  try simp only [Act.put, List.setIfInBounds_toArray, List.set_cons_zero, List.set_cons_succ]
  refine wpAnyH_take (i := 29) (oi := ⟨some 103, .binOp .neq 25 (.tmp 101) (.tmp 102) 25, 4, "outright.go:51", #[⟨27, .data⟩, ⟨28, .data⟩, ⟨24, .guard⟩], some (24, true)⟩) (v := undef) rfl (by kernel_rfl) (by kernel_rfl) (by kernel_rfl) (fun _ _ _ h => HP _ _ _ _ _ h) (Or.inr ⟨by rfl, rfl⟩) hH1 ?_
  try simp only [Act.put, List.setIfInBounds_toArray, List.set_cons_zero, List.set_cons_succ]
  refine wpAnyH_take (i := 30) (oi := ⟨some 104, .pick (.tmp 98) (.tmp 103) (.const (.bool false)), 4, "outright.go:51", #[⟨24, .data⟩, ⟨29, .data⟩, ⟨18, .guard⟩], some (18, false)⟩) (v := ?_) rfl (by kernel_rfl) (by kernel_rfl) (by kernel_rfl) (fun _ _ _ h => HP _ _ _ _ _ h) (Or.inl ⟨by rfl, fun w hSw => ?_⟩) hH1 ?_
  rotate_left 1
  · (try simp only [S27] at hSw); go_simp; (try with_reducible rfl)
  try simp only [Act.put, List.setIfInBounds_toArray, List.set_cons_zero, List.set_cons_succ]
  refine wpAnyH_take (i := 31) (oi := ⟨some 105, .pick (.tmp 92) (.const (.bool true)) (.tmp 104), 4, "outright.go:51", #[⟨18, .data⟩, ⟨30, .data⟩], none⟩) (v := ?_) rfl (by kernel_rfl) (by kernel_rfl) (by kernel_rfl) (fun _ _ _ h => HP _ _ _ _ _ h) (Or.inl ⟨by rfl, fun w hSw => ?_⟩) hH1 ?_
  rotate_left 1
  · (try simp only [S27] at hSw); go_simp; (try with_reducible rfl)
  try simp only [Act.put, List.setIfInBounds_toArray, List.set_cons_zero, List.set_cons_succ]
  refine wpAnyH_take (i := 32) (oi := ⟨some 106, .move (.tmp 105), 4, "outright.go:51", #[⟨31, .data⟩, ⟨24, .chain⟩], none⟩) (v := ?_) rfl (by kernel_rfl) (by kernel_rfl) (by kernel_rfl) (fun _ _ _ h => HP _ _ _ _ _ h) (Or.inl ⟨by rfl, fun w hSw => ?_⟩) hH1 ?_
  rotate_left 1
  · (try simp only [S27] at hSw); go_simp; (try with_reducible rfl)
  try simp only [Act.put, List.setIfInBounds_toArray, List.set_cons_zero, List.set_cons_succ]
  refine wpAnyH_take (i := 33) (oi := ⟨some 107, .move (.tmp 15), 3, "outright.go:51", #[⟨32, .guard⟩], some (32, false)⟩) (v := ?_) rfl (by kernel_rfl) (by kernel_rfl) (by kernel_rfl) (fun _ _ _ h => HP _ _ _ _ _ h) (Or.inl ⟨by rfl, fun w hSw => ?_⟩) hH1 ?_
  rotate_left 1
  · (try simp only [S27] at hSw); go_simp; (try with_reducible rfl)
  try simp only [Act.put, List.setIfInBounds_toArray, List.set_cons_zero, List.set_cons_succ]
  refine wpAnyH_take (i := 34) (oi := ⟨some 108, .binOp .gtr 3 (.tmp 107) (.const (.int .i64 0)) 3, 4, "outright.go:51", #[⟨33, .data⟩, ⟨32, .guard⟩], some (32, false)⟩) (v := ?_) rfl (by kernel_rfl) (by kernel_rfl) (by kernel_rfl) (fun _ _ _ h => HP _ _ _ _ _ h) (Or.inl ⟨by rfl, fun w hSw => ?_⟩) hH1 ?_
  rotate_left 1
  · (try simp only [S27] at hSw); go_simp; (try with_reducible rfl)
  try simp only [Act.put, List.setIfInBounds_toArray, List.set_cons_zero, List.set_cons_succ]
  refine wpAnyH_take (i := 35) (oi := ⟨some 109, .move (.tmp 108), 4, "outright.go:51", #[⟨34, .data⟩, ⟨32, .chain⟩, ⟨32, .guard⟩], some (32, false)⟩) (v := ?_) rfl (by kernel_rfl) (by kernel_rfl) (by kernel_rfl) (fun _ _ _ h => HP _ _ _ _ _ h) (Or.inl ⟨by rfl, fun w hSw => ?_⟩) hH1 ?_
  rotate_left 1
  · (try simp only [S27] at hSw); go_simp; (try with_reducible rfl)
  try simp only [Act.put, List.setIfInBounds_toArray, List.set_cons_zero, List.set_cons_succ]
  refine wpAnyH_take (i := 36) (oi := ⟨some 110, .move (.tmp 15), 3, "outright.go:51", #[⟨35, .guard⟩], some (35, true)⟩) (v := ?_) rfl (by kernel_rfl) (by kernel_rfl) (by kernel_rfl) (fun _ _ _ h => HP _ _ _ _ _ h) (Or.inl ⟨by rfl, fun w hSw => ?_⟩) hH1 ?_
  rotate_left 1
  · (try simp only [S27] at hSw); go_simp; (try with_reducible rfl)
  try simp only [Act.put, List.setIfInBounds_toArray, List.set_cons_zero, List.set_cons_succ]
  refine wpAnyH_take (i := 37) (oi := ⟨some 111, .binOp .sub 3 (.tmp 110) (.const (.int .i64 1)) 3, 3, "outright.go:51", #[⟨36, .data⟩, ⟨35, .guard⟩], some (35, true)⟩) (v := ?_) rfl (by kernel_rfl) (by kernel_rfl) (by kernel_rfl) (fun _ _ _ h => HP _ _ _ _ _ h) (Or.inl ⟨by rfl, fun w hSw => ?_⟩) hH1 ?_
  rotate_left 1
  · (try simp only [S27] at hSw); go_simp; (try with_reducible rfl)
  try simp only [Act.put, List.setIfInBounds_toArray, List.set_cons_zero, List.set_cons_succ]
  refine wpAnyH_take (i := 38) (oi := ⟨some 112, .indexAddr 57 (.tmp 8) (.tmp 111), 0, "outright.go:51", #[⟨37, .data⟩, ⟨35, .guard⟩], some (35, true)⟩) (v := ?_) rfl (by kernel_rfl) (by kernel_rfl) (by kernel_rfl) (fun _ _ _ h => HP _ _ _ _ _ h) (Or.inl ⟨by rfl, fun w hSw => ?_⟩) hH1 ?_
  rotate_left 1
  · (try simp only [S27] at hSw); go_simp; (try with_reducible rfl)
  try simp only [Act.put, List.setIfInBounds_toArray, List.set_cons_zero, List.set_cons_succ]
  refine wpAnyH_take (i := 39) (oi := ⟨some 113, .fieldAddr 25 (.tmp 112) 0, 0, "outright.go:51", #[⟨38, .data⟩, ⟨35, .guard⟩], some (35, true)⟩) (v := ?_) rfl (by kernel_rfl) (by kernel_rfl) (by kernel_rfl) (fun _ _ _ h => HP _ _ _ _ _ h) (Or.inl ⟨by rfl, fun w hSw => ?_⟩) hH1 ?_
  rotate_left 1
  · (try simp only [S27] at hSw); go_simp; (try with_reducible rfl)
  try simp only [Act.put, List.setIfInBounds_toArray, List.set_cons_zero, List.set_cons_succ]
  refine wpAnyH_take (i := 40) (oi := ⟨some 114, .load 3 (.tmp 113), 3, "outright.go:51", #[⟨39, .data⟩, ⟨35, .guard⟩], some (35, true)⟩) (v := ?_) rfl (by kernel_rfl) (by kernel_rfl) (by kernel_rfl) (fun _ _ _ h => HP _ _ _ _ _ h) (Or.inl ⟨by rfl, fun w hSw => ?_⟩) hH1 ?_
  rotate_left 1
  · (try simp only [S27] at hSw); go_simp; (try with_reducible rfl)
  try simp only [Act.put, List.setIfInBounds_toArray, List.set_cons_zero, List.set_cons_succ]
  refine wpAnyH_take (i := 41) (oi := ⟨some 115, .fieldAddr 25 (.tmp 12) 0, 0, "outright.go:51", #[⟨35, .guard⟩], some (35, true)⟩) (v := ?_) rfl (by kernel_rfl) (by kernel_rfl) (by kernel_rfl) (fun _ _ _ h => HP _ _ _ _ _ h) (Or.inl ⟨by rfl, fun w hSw => ?_⟩) hH1 ?_
  rotate_left 1
  · (try simp only [S27] at hSw); go_simp; (try with_reducible rfl)
  try simp only [Act.put, List.setIfInBounds_toArray, List.set_cons_zero, List.set_cons_succ]
  refine wpAnyH_take (i := 42) (oi := ⟨some 116, .load 3 (.tmp 115), 3, "outright.go:51", #[⟨41, .data⟩, ⟨35, .guard⟩], some (35, true)⟩) (v := ?_) rfl (by kernel_rfl) (by kernel_rfl) (by kernel_rfl) (fun _ _ _ h => HP _ _ _ _ _ h) (Or.inl ⟨by rfl, fun w hSw => ?_⟩) hH1 ?_
  rotate_left 1
  · (try simp only [S27] at hSw); go_simp; (try with_reducible rfl)
  try simp only [Act.put, List.setIfInBounds_toArray, List.set_cons_zero, List.set_cons_succ]
  refine wpAnyH_take (i := 43) (oi := ⟨some 117, .binOp .geq 3 (.tmp 114) (.tmp 116) 3, 4, "outright.go:51", #[⟨40, .data⟩, ⟨42, .data⟩, ⟨35, .guard⟩], some (35, true)⟩) (v := ?_) rfl (by kernel_rfl) (by kernel_rfl) (by kernel_rfl) (fun _ _ _ h => HP _ _ _ _ _ h) (Or.inl ⟨by rfl, fun w hSw => ?_⟩) hH1 ?_
  rotate_left 1
  · (try simp only [S27] at hSw); go_simp; (try with_reducible rfl)
  try simp only [Act.put, List.setIfInBounds_toArray, List.set_cons_zero, List.set_cons_succ]
  refine wpAnyH_take (i := 44) (oi := ⟨some 118, .pick (.tmp 109) (.tmp 117) (.const (.bool false)), 4, "outright.go:51", #[⟨35, .data⟩, ⟨43, .data⟩, ⟨32, .guard⟩], some (32, false)⟩) (v := ?_) rfl (by kernel_rfl) (by kernel_rfl) (by kernel_rfl) (fun _ _ _ h => HP _ _ _ _ _ h) (Or.inl ⟨by rfl, fun w hSw => ?_⟩) hH1 ?_
  rotate_left 1
  · (try simp only [S27] at hSw); go_simp; (try with_reducible rfl)
  try simp only [Act.put, List.setIfInBounds_toArray, List.set_cons_zero, List.set_cons_succ]
  refine wpAnyH_take (i := 45) (oi := ⟨some 119, .pick (.tmp 106) (.const (.bool true)) (.tmp 118), 4, "outright.go:51", #[⟨32, .data⟩, ⟨44, .data⟩], none⟩) (v := ?_) rfl (by kernel_rfl) (by kernel_rfl) (by kernel_rfl) (fun _ _ _ h => HP _ _ _ _ _ h) (Or.inl ⟨by rfl, fun w hSw => ?_⟩) hH1 ?_
  rotate_left 1
  · (try simp only [S27] at hSw); go_simp; (try with_reducible rfl)
  try simp only [Act.put, List.setIfInBounds_toArray, List.set_cons_zero, List.set_cons_succ]
  refine wpAnyH_take (i := 46) (oi := ⟨some 120, .move (.tmp 119), 4, "outright.go:51", #[⟨45, .data⟩, ⟨35, .chain⟩], none⟩) (v := ?_) rfl (by kernel_rfl) (by kernel_rfl) (by kernel_rfl) (fun _ _ _ h => HP _ _ _ _ _ h) (Or.inl ⟨by rfl, fun w hSw => ?_⟩) hH1 ?_
  rotate_left 1
  · (try simp only [S27] at hSw); go_simp; (try with_reducible rfl)
  try simp only [Act.put, List.setIfInBounds_toArray, List.set_cons_zero, List.set_cons_succ]
  refine wpAnyH_take (i := 47) (oi := ⟨some 121, .move (.tmp 15), 3, "outright.go:51", #[⟨46, .guard⟩], some (46, false)⟩) (v := ?_) rfl (by kernel_rfl) (by kernel_rfl) (by kernel_rfl) (fun _ _ _ h => HP _ _ _ _ _ h) (Or.inl ⟨by rfl, fun w hSw => ?_⟩) hH1 ?_
  rotate_left 1
  · (try simp only [S27] at hSw); go_simp; (try with_reducible rfl)
  try simp only [Act.put, List.setIfInBounds_toArray, List.set_cons_zero, List.set_cons_succ]
  refine wpAnyH_take (i := 48) (oi := ⟨some 122, .move (.tmp 5), 26, "outright.go:51", #[⟨46, .guard⟩], some (46, false)⟩) (v := ?_) rfl (by kernel_rfl) (by kernel_rfl) (by kernel_rfl) (fun _ _ _ h => HP _ _ _ _ _ h) (Or.inl ⟨by rfl, fun w hSw => ?_⟩) hH1 ?_
  rotate_left 1
  · (try simp only [S27] at hSw); go_simp; (try with_reducible rfl)
  try simp only [Act.put, List.setIfInBounds_toArray, List.set_cons_zero, List.set_cons_succ]
  refine wpAnyH_ready (rs := [49]) (by kernel_rfl) (by simp) ?_
  refine AllReadyH.cons (o := ⟨some 123, .call { callee := .value (.func 7), args := #[.tmp 122], argTypes := #[26] }, 3, "outright.go:51", #[⟨48, .data⟩, ⟨46, .chain⟩, ⟨46, .guard⟩], some (46, false)⟩) rfl (fun K hK => ?_) AllReadyH.nil
  go_simp
  refine (HUS.out _ hH1.2.2.2.2.2.2.2.2).mono ?_
  rintro e w' ⟨rfl, rfl⟩
  refine hK.out _ _ (hH1) (fun hH2 => ?_)
  clear hK K
  try simp only [Act.put, List.setIfInBounds_toArray, List.set_cons_zero, List.set_cons_succ]
  refine wpAnyH_take (i := 50) (oi := ⟨some 124, .binOp .sub 3 (.tmp 123) (.const (.int .i64 1)) 3, 3, "outright.go:51", #[⟨49, .data⟩, ⟨46, .guard⟩], some (46, false)⟩) (v := ?_) rfl (by kernel_rfl) (by kernel_rfl) (by kernel_rfl) (fun _ _ _ h => HP _ _ _ _ _ h) (Or.inl ⟨by rfl, fun w hSw => ?_⟩) hH2 ?_
  rotate_left 1
  · (try simp only [S27] at hSw); go_simp; (try with_reducible rfl)
  try simp only [Act.put, List.setIfInBounds_toArray, List.set_cons_zero, List.set_cons_succ]
  refine wpAnyH_take (i := 51) (oi := ⟨some 125, .binOp .neq 3 (.tmp 121) (.tmp 124) 3, 4, "outright.go:51", #[⟨47, .data⟩, ⟨50, .data⟩, ⟨46, .guard⟩], some (46, false)⟩) (v := ?_) rfl (by kernel_rfl) (by kernel_rfl) (by kernel_rfl) (fun _ _ _ h => HP _ _ _ _ _ h) (Or.inl ⟨by rfl, fun w hSw => ?_⟩) hH2 ?_
  rotate_left 1
  · (try simp only [S27] at hSw); go_simp; (try with_reducible rfl)
  try simp only [Act.put, List.setIfInBounds_toArray, List.set_cons_zero, List.set_cons_succ]
  refine wpAnyH_take (i := 52) (oi := ⟨some 126, .pick (.tmp 120) (.const (.bool true)) (.tmp 125), 4, "outright.go:51", #[⟨46, .data⟩, ⟨51, .data⟩], none⟩) (v := ?_) rfl (by kernel_rfl) (by kernel_rfl) (by kernel_rfl) (fun _ _ _ h => HP _ _ _ _ _ h) (Or.inl ⟨by rfl, fun w hSw => ?_⟩) hH2 ?_
  rotate_left 1
  · (try simp only [S27] at hSw); go_simp; (try with_reducible rfl)
  try simp only [Act.put, List.setIfInBounds_toArray, List.set_cons_zero, List.set_cons_succ]
  refine wpAnyH_done (by kernel_rfl) ?_ _
  exact HQ.out _ _ _ _ _ _ _ _ _ _ _ _ _ _ _ _ _ _ _ _ _ _ _ _ _ _ _ _ _ _ _ _ _ _ _ _ _ _ _ _ _ _ _ _ _ _ _ _ _ _ _ _ _ hH2
set_option maxRecDepth 100000 in
set_option maxHeartbeats 4000000 in
theorem once27 {w11 : World} {sb hb kb bb m q r : Nat} {Y H C : List Value} {zz pp : Int} {Q : Exit → Act → World → Prop} {u0 u1 u2 u3 u4 u6 u9 u10 u11 u13 u16 u17 u18 u19 u20 u21 u22 u23 u24 u25 u26 u27 u28 u29 u30 u31 u32 u33 u34 u35 u36 u37 u38 u39 u40 u41 u42 u43 u44 u45 u46 u47 u48 u49 u50 u51 u52 u53 u54 u55 u56 u57 u58 u59 u60 u61 u62 u63 u64 u65 u66 u67 u68 u69 u70 u71 u72 u73 u74 u75 u76 u77 u78 u79 u80 u81 u82 u83 u84 u85 u86 u87 u88 u89 u90 u91 u92 u93 u94 u95 u96 u97 u98 u99 u100 u101 u102 u103 u104 u105 u106 u107 u108 u109 u110 u111 u112 u113 u114 u115 u116 u117 u118 u119 u120 u121 u122 u123 u124 u125 u126 u127 u128 u129 u130 u131 u132 u133 u134 u135 u136 u137 u138 u139 u140 u141 u142 u143 u144 u145 u146 u147 u148 u149 u150 u151 u152 u153 u154 u155 u156 u157 u158 u159 u160 u161 u162 u163 u164 u165 u166 u167 u168 u169 u170 u171 u172 u173 u174 u175 u176 u177 u178 u179 u180 u181 u182 u183 u184 u185 u186 u187 u188 u189 u190 u191 u192 u193 u194 u195 u196 u197 u198 u199 u200 u201 u202 u203 u204 u205 u206 u207 u208 u209 u210 u211 u212 u213 u214 u215 u216 u217 u218 u219 u220 u221 u222 u223 u224 u225 u226 u227 u228 u229 u230 u231 u232 u233 u234 u235 u236 u237 u238 u239 u240 u241 u242 u243 u244 u245 : Value} (HCK : Hid (∀ w', Kept (fun _ => False) w11 w' → Calls Tryd.prog 15 #[.agg C.toArray, .agg Y.toArray] w' fun e w2 => e = .returned (.int .i64 0) ∧ Kept (fun _ => False) w' w2)) (HUS : Hid (∀ w', Kept (fun _ => False) w11 w' → Calls Tryd.prog 7 #[.pointer (some ⟨r, 0, none⟩)] w' fun e w2 => e = .returned (.int .i64 ((m : Int) + 1)) ∧ w' = w2)) (HL4 : Hid (sb < w11.heap.size ∧ hb < w11.heap.size ∧ kb < w11.heap.size ∧ bb < w11.heap.size)) (HIh : Hid ((Tryd.prog.info? 25).map (·.size) = some H.length)) (HIk : Hid ((Tryd.prog.info? 23).map (·.size) = some C.length)) (HIy : Hid ((Tryd.prog.info? 31).map (·.size) = some Y.length)) (hneq : ∀ w', (binOp .neq 25 (.agg H.toArray) (.agg H.toArray)).run Tryd.prog w' = .ok (.bool false) w') (i0 : decide ((m : Int) < 0) = false) (i1 : decide ((8 : Int) ≤ (m : Int)) = false) (i2 : (m : Int) < 8) (i3 : (q : Int) < 8) (i4 : wrap64 ((m : Int) + 1) = (m : Int) + 1) (i5 : IntKind.i64.wrap ((m : Int) + 1) = (m : Int) + 1) (i6 : IntKind.i64.wrap (m : Int) = (m : Int)) (i7 : wrap64 (m : Int) = (m : Int)) (j1 : (zz != 0) = true) (j2 : (zz == 0) = false) (j3 : decide (zz = 0) = false) (HCASE : Hid ((m = 0 ∧ decide ((0 : Int) < (m : Int)) = false ∧ decide (0 < m) = false) ∨ (decide ((0 : Int) < (m : Int)) = true ∧ decide (0 < m) = true ∧ IntKind.i64.wrap ((m : Int) - 1) = (q : Int) ∧ wrap64 ((m : Int) - 1) = (q : Int) ∧ decide (zz ≤ pp) = false))) (HSA : Hid (S27 w11 w11.drew sb hb kb bb m q Y H C H zz pp zz ∨ S27 w11 w11.drew sb hb kb bb m q Y H C (headC 0 zeroRoot) 0 pp zz))
    (HP : ∀ c a (k : Nat) v w, Q (.panic c) (Act.put a (some k) v) w → Q (.panic c) a w) (HQ : ∀ (v74 v75 v76 v77 v78 v79 v80 v81 v82 v83 v84 v85 v86 v87 v88 v89 v90 v91 v92 v93 v94 v95 v96 v97 v98 v99 v100 v101 v102 v103 v104 v105 v106 v107 v108 v109 v110 v111 v112 v113 v114 v115 v116 v117 v118 v119 v120 v121 v122 v123 v124 v125 : Value) (w' : World), (fun w' => Kept (fun _ => False) w11 w') w' → Q .normal ⟨List.toArray (u0 :: u1 :: u2 :: u3 :: u4 :: (.pointer (some ⟨r, 0, none⟩)) :: u6 :: (.pointer (some ⟨kb, 0, none⟩)) :: (.pointer (some ⟨bb, 0, none⟩)) :: u9 :: u10 :: u11 :: (.pointer (some ⟨hb, 0, none⟩)) :: u13 :: (.pointer (some ⟨sb, 0, none⟩)) :: (.int .i64 (m : Int)) :: u16 :: u17 :: u18 :: u19 :: u20 :: u21 :: u22 :: u23 :: u24 :: u25 :: u26 :: u27 :: u28 :: u29 :: u30 :: u31 :: u32 :: u33 :: u34 :: u35 :: u36 :: u37 :: u38 :: u39 :: u40 :: u41 :: u42 :: u43 :: u44 :: u45 :: u46 :: u47 :: u48 :: u49 :: u50 :: u51 :: u52 :: u53 :: u54 :: u55 :: u56 :: u57 :: u58 :: u59 :: u60 :: u61 :: u62 :: u63 :: u64 :: u65 :: u66 :: u67 :: u68 :: u69 :: u70 :: u71 :: u72 :: u73 :: v74 :: v75 :: v76 :: v77 :: v78 :: v79 :: v80 :: v81 :: v82 :: v83 :: v84 :: v85 :: v86 :: v87 :: v88 :: v89 :: v90 :: v91 :: v92 :: v93 :: v94 :: v95 :: v96 :: v97 :: v98 :: v99 :: v100 :: v101 :: v102 :: v103 :: v104 :: v105 :: v106 :: v107 :: v108 :: v109 :: v110 :: v111 :: v112 :: v113 :: v114 :: v115 :: v116 :: v117 :: v118 :: v119 :: v120 :: v121 :: v122 :: v123 :: v124 :: v125 :: (.bool false) :: u127 :: u128 :: u129 :: u130 :: u131 :: u132 :: u133 :: u134 :: u135 :: u136 :: u137 :: u138 :: u139 :: u140 :: u141 :: u142 :: u143 :: u144 :: u145 :: u146 :: u147 :: u148 :: u149 :: u150 :: u151 :: u152 :: u153 :: u154 :: u155 :: u156 :: u157 :: u158 :: u159 :: u160 :: u161 :: u162 :: u163 :: u164 :: u165 :: u166 :: u167 :: u168 :: u169 :: u170 :: u171 :: u172 :: u173 :: u174 :: u175 :: u176 :: u177 :: u178 :: u179 :: u180 :: u181 :: u182 :: u183 :: u184 :: u185 :: u186 :: u187 :: u188 :: u189 :: u190 :: u191 :: u192 :: u193 :: u194 :: u195 :: u196 :: u197 :: u198 :: u199 :: u200 :: u201 :: u202 :: u203 :: u204 :: u205 :: u206 :: u207 :: u208 :: u209 :: u210 :: u211 :: u212 :: u213 :: u214 :: u215 :: u216 :: u217 :: u218 :: u219 :: u220 :: u221 :: u222 :: u223 :: u224 :: u225 :: u226 :: u227 :: u228 :: u229 :: u230 :: u231 :: u232 :: u233 :: u234 :: u235 :: u236 :: u237 :: u238 :: u239 :: u240 :: u241 :: u242 :: u243 :: u244 :: u245 :: []), []⟩ w') :
    Code.wp Tryd.prog (Code.region 27 ops27 true) Q ⟨List.toArray (u0 :: u1 :: u2 :: u3 :: u4 :: (.pointer (some ⟨r, 0, none⟩)) :: u6 :: (.pointer (some ⟨kb, 0, none⟩)) :: (.pointer (some ⟨bb, 0, none⟩)) :: u9 :: u10 :: u11 :: (.pointer (some ⟨hb, 0, none⟩)) :: u13 :: (.pointer (some ⟨sb, 0, none⟩)) :: (.int .i64 (m : Int)) :: u16 :: u17 :: u18 :: u19 :: u20 :: u21 :: u22 :: u23 :: u24 :: u25 :: u26 :: u27 :: u28 :: u29 :: u30 :: u31 :: u32 :: u33 :: u34 :: u35 :: u36 :: u37 :: u38 :: u39 :: u40 :: u41 :: u42 :: u43 :: u44 :: u45 :: u46 :: u47 :: u48 :: u49 :: u50 :: u51 :: u52 :: u53 :: u54 :: u55 :: u56 :: u57 :: u58 :: u59 :: u60 :: u61 :: u62 :: u63 :: u64 :: u65 :: u66 :: u67 :: u68 :: u69 :: u70 :: u71 :: u72 :: u73 :: u74 :: u75 :: u76 :: u77 :: u78 :: u79 :: u80 :: u81 :: u82 :: u83 :: u84 :: u85 :: u86 :: u87 :: u88 :: u89 :: u90 :: u91 :: u92 :: u93 :: u94 :: u95 :: u96 :: u97 :: u98 :: u99 :: u100 :: u101 :: u102 :: u103 :: u104 :: u105 :: u106 :: u107 :: u108 :: u109 :: u110 :: u111 :: u112 :: u113 :: u114 :: u115 :: u116 :: u117 :: u118 :: u119 :: u120 :: u121 :: u122 :: u123 :: u124 :: u125 :: u126 :: u127 :: u128 :: u129 :: u130 :: u131 :: u132 :: u133 :: u134 :: u135 :: u136 :: u137 :: u138 :: u139 :: u140 :: u141 :: u142 :: u143 :: u144 :: u145 :: u146 :: u147 :: u148 :: u149 :: u150 :: u151 :: u152 :: u153 :: u154 :: u155 :: u156 :: u157 :: u158 :: u159 :: u160 :: u161 :: u162 :: u163 :: u164 :: u165 :: u166 :: u167 :: u168 :: u169 :: u170 :: u171 :: u172 :: u173 :: u174 :: u175 :: u176 :: u177 :: u178 :: u179 :: u180 :: u181 :: u182 :: u183 :: u184 :: u185 :: u186 :: u187 :: u188 :: u189 :: u190 :: u191 :: u192 :: u193 :: u194 :: u195 :: u196 :: u197 :: u198 :: u199 :: u200 :: u201 :: u202 :: u203 :: u204 :: u205 :: u206 :: u207 :: u208 :: u209 :: u210 :: u211 :: u212 :: u213 :: u214 :: u215 :: u216 :: u217 :: u218 :: u219 :: u220 :: u221 :: u222 :: u223 :: u224 :: u225 :: u226 :: u227 :: u228 :: u229 :: u230 :: u231 :: u232 :: u233 :: u234 :: u235 :: u236 :: u237 :: u238 :: u239 :: u240 :: u241 :: u242 :: u243 :: u244 :: u245 :: []), []⟩ w11 := by
  have HP := Lib.hid HP
  have HQ := Lib.hid HQ
  rcases HCASE.out with ⟨-, i8, i12⟩ | ⟨i8, i12, i10, i11, j5⟩
  all_goals rcases HSA.out with SA | SA
  · exact once27A0 HCK HUS HL4 HIh HIk HIy hneq i0 i1 i2 i3 i4 i5 i6 i7 i8 i12 j1 j2 j3 SA HP.out (fun v74 v75 v76 v77 v78 v79 v80 v81 v82 v83 v84 v85 v86 v87 v88 v89 v90 v91 v92 v93 v94 v95 v96 v97 v98 v99 v100 v101 v102 v103 v104 v105 v106 v107 v108 v109 v110 v111 v112 v113 v114 v115 v116 v117 v118 v119 v120 v121 v122 v123 v124 v125 w' hS => HQ.out v74 v75 v76 v77 v78 v79 v80 v81 v82 v83 v84 v85 v86 v87 v88 v89 v90 v91 v92 v93 v94 v95 v96 v97 v98 v99 v100 v101 v102 v103 v104 v105 v106 v107 v108 v109 v110 v111 v112 v113 v114 v115 v116 v117 v118 v119 v120 v121 v122 v123 v124 v125 w' hS.2.2.2.2.2.2.2.2)
  · exact once27F0 HCK HUS HL4 HIh HIk HIy hneq i0 i1 i2 i3 i4 i5 i6 i7 i8 i12 SA HP.out (fun v74 v75 v76 v77 v78 v79 v80 v81 v82 v83 v84 v85 v86 v87 v88 v89 v90 v91 v92 v93 v94 v95 v96 v97 v98 v99 v100 v101 v102 v103 v104 v105 v106 v107 v108 v109 v110 v111 v112 v113 v114 v115 v116 v117 v118 v119 v120 v121 v122 v123 v124 v125 w' hS => HQ.out v74 v75 v76 v77 v78 v79 v80 v81 v82 v83 v84 v85 v86 v87 v88 v89 v90 v91 v92 v93 v94 v95 v96 v97 v98 v99 v100 v101 v102 v103 v104 v105 v106 v107 v108 v109 v110 v111 v112 v113 v114 v115 v116 v117 v118 v119 v120 v121 v122 v123 v124 v125 w' hS.2.2.2.2.2.2.2.2)
  · exact once27A1 HCK HUS HL4 HIh HIk HIy hneq i0 i1 i2 i3 i4 i5 i6 i7 i8 i12 i10 i11 j5 j1 j2 j3 SA HP.out (fun v74 v75 v76 v77 v78 v79 v80 v81 v82 v83 v84 v85 v86 v87 v88 v89 v90 v91 v92 v93 v94 v95 v96 v97 v98 v99 v100 v101 v102 v103 v104 v105 v106 v107 v108 v109 v110 v111 v112 v113 v114 v115 v116 v117 v118 v119 v120 v121 v122 v123 v124 v125 w' hS => HQ.out v74 v75 v76 v77 v78 v79 v80 v81 v82 v83 v84 v85 v86 v87 v88 v89 v90 v91 v92 v93 v94 v95 v96 v97 v98 v99 v100 v101 v102 v103 v104 v105 v106 v107 v108 v109 v110 v111 v112 v113 v114 v115 v116 v117 v118 v119 v120 v121 v122 v123 v124 v125 w' hS.2.2.2.2.2.2.2.2)
  · exact once27F1 HCK HUS HL4 HIh HIk HIy hneq i0 i1 i2 i3 i4 i5 i6 i7 i8 i12 i10 i11 j5 SA HP.out (fun v74 v75 v76 v77 v78 v79 v80 v81 v82 v83 v84 v85 v86 v87 v88 v89 v90 v91 v92 v93 v94 v95 v96 v97 v98 v99 v100 v101 v102 v103 v104 v105 v106 v107 v108 v109 v110 v111 v112 v113 v114 v115 v116 v117 v118 v119 v120 v121 v122 v123 v124 v125 w' hS => HQ.out v74 v75 v76 v77 v78 v79 v80 v81 v82 v83 v84 v85 v86 v87 v88 v89 v90 v91 v92 v93 v94 v95 v96 v97 v98 v99 v100 v101 v102 v103 v104 v105 v106 v107 v108 v109 v110 v111 v112 v113 v114 v115 v116 v117 v118 v119 v120 v121 v122 v123 v124 v125 w' hS.2.2.2.2.2.2.2.2)

end Go.Proofs.YtaimokclhcfohaaDoor
