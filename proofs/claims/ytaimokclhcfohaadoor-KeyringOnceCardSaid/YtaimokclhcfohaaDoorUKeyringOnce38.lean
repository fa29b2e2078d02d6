/- The law KeyringOnce: the second test. -/
import Derived.Test.YtaimokclhcfohaaDoorUKeyringOnce37
set_option linter.unusedVariables false
set_option linter.unusedSimpArgs false
namespace Go.Proofs.YtaimokclhcfohaaDoor
open Go.RowKit

def ops47 : Array Oper := #[
  ⟨some 199, .move (.tmp 20), 4, "outright.go:77", #[], none⟩,
  ⟨some 200, .move (.tmp 17), 26, "outright.go:77", #[], none⟩,
  ⟨some 201, .call { callee := .value (.func 7), args := #[.tmp 200], argTypes := #[26] }, 3, "outright.go:77", #[⟨1, .data⟩], none⟩,
  ⟨some 202, .binOp .gtr 3 (.tmp 201) (.const (.int .i64 0)) 3, 4, "outright.go:77", #[⟨2, .data⟩], none⟩,
  ⟨some 203, .binOp .neq 4 (.tmp 199) (.tmp 202) 4, 4, "outright.go:77", #[⟨0, .data⟩, ⟨3, .data⟩], none⟩,
  ⟨some 204, .move (.tmp 203), 4, "outright.go:77", #[⟨4, .data⟩, ⟨2, .chain⟩], none⟩,
  ⟨some 205, .move (.tmp 20), 4, "outright.go:77", #[⟨5, .guard⟩], some (5, false)⟩,
  ⟨some 206, .move (.tmp 205), 4, "outright.go:77", #[⟨6, .data⟩, ⟨5, .chain⟩, ⟨5, .guard⟩], some (5, false)⟩,
  ⟨some 207, .move (.tmp 17), 26, "outright.go:77", #[⟨7, .guard⟩], some (7, true)⟩,
  ⟨some 208, .call { callee := .value (.func 7), args := #[.tmp 207], argTypes := #[26] }, 3, "outright.go:77", #[⟨8, .data⟩, ⟨7, .chain⟩, ⟨7, .guard⟩], some (7, true)⟩,
  ⟨some 209, .move (.tmp 9), 3, "outright.go:77", #[⟨7, .guard⟩], some (7, true)⟩,
  ⟨some 210, .binOp .eql 3 (.tmp 208) (.tmp 209) 3, 4, "outright.go:77", #[⟨9, .data⟩, ⟨10, .data⟩, ⟨7, .guard⟩], some (7, true)⟩,
  ⟨some 211, .pick (.tmp 206) (.tmp 210) (.const (.bool false)), 4, "outright.go:77", #[⟨7, .data⟩, ⟨11, .data⟩, ⟨5, .guard⟩], some (5, false)⟩,
  ⟨some 212, .move (.tmp 211), 4, "outright.go:77", #[⟨12, .data⟩, ⟨9, .chain⟩, ⟨5, .guard⟩], some (5, false)⟩,
  ⟨some 213, .load 25 (.tmp 19), 25, "outright.go:77", #[⟨13, .guard⟩], some (13, true)⟩,
  ⟨some 214, .move (.tmp 9), 3, "outright.go:77", #[⟨13, .guard⟩], some (13, true)⟩,
  ⟨some 215, .binOp .sub 3 (.tmp 214) (.const (.int .i64 1)) 3, 3, "outright.go:77", #[⟨15, .data⟩, ⟨13, .guard⟩], some (13, true)⟩,
  ⟨some 216, .indexAddr 57 (.tmp 8) (.tmp 215), 0, "outright.go:77", #[⟨16, .data⟩, ⟨13, .guard⟩], some (13, true)⟩,
  ⟨some 217, .load 25 (.tmp 216), 25, "outright.go:77", #[⟨17, .data⟩, ⟨13, .guard⟩], some (13, true)⟩,
  ⟨some 218, .binOp .neq 25 (.tmp 213) (.tmp 217) 25, 4, "outright.go:77", #[⟨14, .data⟩, ⟨18, .data⟩, ⟨13, .guard⟩], some (13, true)⟩,
  ⟨some 219, .pick (.tmp 212) (.tmp 218) (.const (.bool false)), 4, "outright.go:77", #[⟨13, .data⟩, ⟨19, .data⟩, ⟨5, .guard⟩], some (5, false)⟩,
  ⟨some 220, .pick (.tmp 204) (.const (.bool true)) (.tmp 219), 4, "outright.go:77", #[⟨5, .data⟩, ⟨20, .data⟩], none⟩,
  ⟨some 221, .move (.tmp 220), 4, "outright.go:77", #[⟨21, .data⟩, ⟨13, .chain⟩], none⟩,
  ⟨some 222, .move (.tmp 17), 26, "outright.go:77", #[⟨22, .guard⟩], some (22, false)⟩,
  ⟨some 223, .call { callee := .value (.func 7), args := #[.tmp 222], argTypes := #[26] }, 3, "outright.go:77", #[⟨23, .data⟩, ⟨22, .chain⟩, ⟨22, .guard⟩], some (22, false)⟩,
  ⟨some 224, .move (.tmp 9), 3, "outright.go:77", #[⟨22, .guard⟩], some (22, false)⟩,
  ⟨some 225, .binOp .gtr 3 (.tmp 223) (.tmp 224) 3, 4, "outright.go:77", #[⟨24, .data⟩, ⟨25, .data⟩, ⟨22, .guard⟩], some (22, false)⟩,
  ⟨some 226, .move (.tmp 225), 4, "outright.go:77", #[⟨26, .data⟩, ⟨24, .chain⟩, ⟨22, .guard⟩], some (22, false)⟩,
  ⟨some 227, .load 25 (.tmp 19), 25, "outright.go:77", #[⟨27, .guard⟩], some (27, true)⟩,
  ⟨some 228, .load 25 (.tmp 12), 25, "outright.go:77", #[⟨27, .guard⟩], some (27, true)⟩,
  ⟨some 229, .binOp .neq 25 (.tmp 227) (.tmp 228) 25, 4, "outright.go:77", #[⟨28, .data⟩, ⟨29, .data⟩, ⟨27, .guard⟩], some (27, true)⟩,
  ⟨some 230, .pick (.tmp 226) (.tmp 229) (.const (.bool false)), 4, "outright.go:77", #[⟨27, .data⟩, ⟨30, .data⟩, ⟨22, .guard⟩], some (22, false)⟩,
  ⟨some 231, .pick (.tmp 221) (.const (.bool true)) (.tmp 230), 4, "outright.go:77", #[⟨22, .data⟩, ⟨31, .data⟩], none⟩]
set_option maxRecDepth 100000 in
set_option maxHeartbeats 4000000 in
theorem once47_1 {w8 : World} {lb hb bb q r : Nat} {HL H HB : List Value} {U T : Int} {Q : Exit → Act → World → Prop} {u0 u1 u2 u3 u4 u5 u6 u7 u10 u11 u13 u14 u15 u16 u18 u21 u22 u23 u24 u25 u26 u27 u28 u29 u30 u31 u32 u33 u34 u35 u36 u37 u38 u39 u40 u41 u42 u43 u44 u45 u46 u47 u48 u49 u50 u51 u52 u53 u54 u55 u56 u57 u58 u59 u60 u61 u62 u63 u64 u65 u66 u67 u68 u69 u70 u71 u72 u73 u74 u75 u76 u77 u78 u79 u80 u81 u82 u83 u84 u85 u86 u87 u88 u89 u90 u91 u92 u93 u94 u95 u96 u97 u98 u99 u100 u101 u102 u103 u104 u105 u106 u107 u108 u109 u110 u111 u112 u113 u114 u115 u116 u117 u118 u119 u120 u121 u122 u123 u124 u125 u126 u127 u128 u129 u130 u131 u132 u133 u134 u135 u136 u137 u138 u139 u140 u141 u142 u143 u144 u145 u146 u147 u148 u149 u150 u151 u152 u153 u154 u155 u156 u157 u158 u159 u160 u161 u162 u163 u164 u165 u166 u167 u168 u169 u170 u171 u172 u173 u174 u175 u176 u177 u178 u179 u180 u181 u182 u183 u184 u185 u186 u187 u188 u189 u190 u191 u192 u193 u194 u195 u196 u197 u198 u199 u200 u201 u202 u203 u204 u205 u206 u207 u208 u209 u210 u211 u212 u213 u214 u215 u216 u217 u218 u219 u220 u221 u222 u223 u224 u225 u226 u227 u228 u229 u230 u231 u232 u233 u234 u235 u236 u237 u238 u239 u240 u241 u242 u243 u244 u245 : Value} (HUS : Hid (∀ w', Kept (fun _ => False) w8 w' → Calls Tryd.prog 7 #[.pointer (some ⟨r, 0, none⟩)] w' fun e w2 => e = .returned (.int .i64 U) ∧ w' = w2)) (HIl : Hid ((Tryd.prog.info? 25).map (·.size) = some HL.length)) (hneq : ∀ w', (binOp .neq 25 (.agg HL.toArray) (.agg HL.toArray)).run Tryd.prog w' = .ok (.bool false) w') (i0 : decide (0 < U) = false) (i1 : (U == T) = true) (i2 : decide (U = T) = true) (i3 : decide (T < U) = false) (SA : (fun w' => S47 w8 w' lb hb bb q HL H HB) w8.drew)
    (HP : ∀ c a (k : Nat) v w, Q (.panic c) (Act.put a (some k) v) w → Q (.panic c) a w) (HQ : ∀ (v199 v200 v201 v202 v203 v204 v205 v206 v207 v208 v209 v210 v211 v212 v213 v214 v215 v216 v217 v218 v219 v220 v221 v222 v223 v224 v225 v226 v227 v228 v229 v230 : Value) (w' : World), (fun w' => S47 w8 w' lb hb bb q HL H HB) w' → Q .normal ⟨List.toArray (u0 :: u1 :: u2 :: u3 :: u4 :: u5 :: u6 :: u7 :: (.pointer (some ⟨bb, 0, none⟩)) :: (.int .i64 T) :: u10 :: u11 :: (.pointer (some ⟨hb, 0, none⟩)) :: u13 :: u14 :: u15 :: u16 :: (.pointer (some ⟨r, 0, none⟩)) :: u18 :: (.pointer (some ⟨lb, 0, none⟩)) :: (.bool false) :: u21 :: u22 :: u23 :: u24 :: u25 :: u26 :: u27 :: u28 :: u29 :: u30 :: u31 :: u32 :: u33 :: u34 :: u35 :: u36 :: u37 :: u38 :: u39 :: u40 :: u41 :: u42 :: u43 :: u44 :: u45 :: u46 :: u47 :: u48 :: u49 :: u50 :: u51 :: u52 :: u53 :: u54 :: u55 :: u56 :: u57 :: u58 :: u59 :: u60 :: u61 :: u62 :: u63 :: u64 :: u65 :: u66 :: u67 :: u68 :: u69 :: u70 :: u71 :: u72 :: u73 :: u74 :: u75 :: u76 :: u77 :: u78 :: u79 :: u80 :: u81 :: u82 :: u83 :: u84 :: u85 :: u86 :: u87 :: u88 :: u89 :: u90 :: u91 :: u92 :: u93 :: u94 :: u95 :: u96 :: u97 :: u98 :: u99 :: u100 :: u101 :: u102 :: u103 :: u104 :: u105 :: u106 :: u107 :: u108 :: u109 :: u110 :: u111 :: u112 :: u113 :: u114 :: u115 :: u116 :: u117 :: u118 :: u119 :: u120 :: u121 :: u122 :: u123 :: u124 :: u125 :: u126 :: u127 :: u128 :: u129 :: u130 :: u131 :: u132 :: u133 :: u134 :: u135 :: u136 :: u137 :: u138 :: u139 :: u140 :: u141 :: u142 :: u143 :: u144 :: u145 :: u146 :: u147 :: u148 :: u149 :: u150 :: u151 :: u152 :: u153 :: u154 :: u155 :: u156 :: u157 :: u158 :: u159 :: u160 :: u161 :: u162 :: u163 :: u164 :: u165 :: u166 :: u167 :: u168 :: u169 :: u170 :: u171 :: u172 :: u173 :: u174 :: u175 :: u176 :: u177 :: u178 :: u179 :: u180 :: u181 :: u182 :: u183 :: u184 :: u185 :: u186 :: u187 :: u188 :: u189 :: u190 :: u191 :: u192 :: u193 :: u194 :: u195 :: u196 :: u197 :: u198 :: v199 :: v200 :: v201 :: v202 :: v203 :: v204 :: v205 :: v206 :: v207 :: v208 :: v209 :: v210 :: v211 :: v212 :: v213 :: v214 :: v215 :: v216 :: v217 :: v218 :: v219 :: v220 :: v221 :: v222 :: v223 :: v224 :: v225 :: v226 :: v227 :: v228 :: v229 :: v230 :: (.bool false) :: u232 :: u233 :: u234 :: u235 :: u236 :: u237 :: u238 :: u239 :: u240 :: u241 :: u242 :: u243 :: u244 :: u245 :: []), []⟩ w') :
    Code.wp Tryd.prog (Code.region 47 ops47 true) Q ⟨List.toArray (u0 :: u1 :: u2 :: u3 :: u4 :: u5 :: u6 :: u7 :: (.pointer (some ⟨bb, 0, none⟩)) :: (.int .i64 T) :: u10 :: u11 :: (.pointer (some ⟨hb, 0, none⟩)) :: u13 :: u14 :: u15 :: u16 :: (.pointer (some ⟨r, 0, none⟩)) :: u18 :: (.pointer (some ⟨lb, 0, none⟩)) :: (.bool false) :: u21 :: u22 :: u23 :: u24 :: u25 :: u26 :: u27 :: u28 :: u29 :: u30 :: u31 :: u32 :: u33 :: u34 :: u35 :: u36 :: u37 :: u38 :: u39 :: u40 :: u41 :: u42 :: u43 :: u44 :: u45 :: u46 :: u47 :: u48 :: u49 :: u50 :: u51 :: u52 :: u53 :: u54 :: u55 :: u56 :: u57 :: u58 :: u59 :: u60 :: u61 :: u62 :: u63 :: u64 :: u65 :: u66 :: u67 :: u68 :: u69 :: u70 :: u71 :: u72 :: u73 :: u74 :: u75 :: u76 :: u77 :: u78 :: u79 :: u80 :: u81 :: u82 :: u83 :: u84 :: u85 :: u86 :: u87 :: u88 :: u89 :: u90 :: u91 :: u92 :: u93 :: u94 :: u95 :: u96 :: u97 :: u98 :: u99 :: u100 :: u101 :: u102 :: u103 :: u104 :: u105 :: u106 :: u107 :: u108 :: u109 :: u110 :: u111 :: u112 :: u113 :: u114 :: u115 :: u116 :: u117 :: u118 :: u119 :: u120 :: u121 :: u122 :: u123 :: u124 :: u125 :: u126 :: u127 :: u128 :: u129 :: u130 :: u131 :: u132 :: u133 :: u134 :: u135 :: u136 :: u137 :: u138 :: u139 :: u140 :: u141 :: u142 :: u143 :: u144 :: u145 :: u146 :: u147 :: u148 :: u149 :: u150 :: u151 :: u152 :: u153 :: u154 :: u155 :: u156 :: u157 :: u158 :: u159 :: u160 :: u161 :: u162 :: u163 :: u164 :: u165 :: u166 :: u167 :: u168 :: u169 :: u170 :: u171 :: u172 :: u173 :: u174 :: u175 :: u176 :: u177 :: u178 :: u179 :: u180 :: u181 :: u182 :: u183 :: u184 :: u185 :: u186 :: u187 :: u188 :: u189 :: u190 :: u191 :: u192 :: u193 :: u194 :: u195 :: u196 :: u197 :: u198 :: u199 :: u200 :: u201 :: u202 :: u203 :: u204 :: u205 :: u206 :: u207 :: u208 :: u209 :: u210 :: u211 :: u212 :: u213 :: u214 :: u215 :: u216 :: u217 :: u218 :: u219 :: u220 :: u221 :: u222 :: u223 :: u224 :: u225 :: u226 :: u227 :: u228 :: u229 :: u230 :: u231 :: u232 :: u233 :: u234 :: u235 :: u236 :: u237 :: u238 :: u239 :: u240 :: u241 :: u242 :: u243 :: u244 :: u245 :: []), []⟩ w8 := by
  have HQ := Lib.hid HQ
  unfold ops47
  refine wp_region_held_drew (S := (fun w' => S47 w8 w' lb hb bb q HL H HB)) (by kernel_rfl) SA (fun hH0 => ?_)
  refine wpAnyH_take (i := 0) (oi := ⟨some 199, .move (.tmp 20), 4, "outright.go:77", #[], none⟩) (v := ?_) rfl (by kernel_rfl) (by kernel_rfl) (by kernel_rfl) (fun _ _ _ h => HP _ _ _ _ _ h) (Or.inl ⟨by rfl, fun w hSw => ?_⟩) hH0 ?_
  rotate_left 1
  · (try simp only [S47] at hSw); go_simp; (try with_reducible rfl)
  try simp only [Act.put, List.setIfInBounds_toArray, List.set_cons_zero, List.set_cons_succ]
  refine wpAnyH_take (i := 1) (oi := ⟨some 200, .move (.tmp 17), 26, "outright.go:77", #[], none⟩) (v := ?_) rfl (by kernel_rfl) (by kernel_rfl) (by kernel_rfl) (fun _ _ _ h => HP _ _ _ _ _ h) (Or.inl ⟨by rfl, fun w hSw => ?_⟩) hH0 ?_
  rotate_left 1
  · (try simp only [S47] at hSw); go_simp; (try with_reducible rfl)
  try simp only [Act.put, List.setIfInBounds_toArray, List.set_cons_zero, List.set_cons_succ]
  refine wpAnyH_ready (rs := [2]) (by kernel_rfl) (by simp) ?_
  refine AllReadyH.cons (o := ⟨some 201, .call { callee := .value (.func 7), args := #[.tmp 200], argTypes := #[26] }, 3, "outright.go:77", #[⟨1, .data⟩], none⟩) rfl (fun K hK => ?_) AllReadyH.nil
  go_simp
  refine (HUS.out _ hH0.2.2.2).mono ?_
  rintro e w' ⟨rfl, rfl⟩
  refine hK.out _ _ (hH0) (fun hH1 => ?_)
  clear hK K
  try simp only [Act.put, List.setIfInBounds_toArray, List.set_cons_zero, List.set_cons_succ]
  refine wpAnyH_take (i := 3) (oi := ⟨some 202, .binOp .gtr 3 (.tmp 201) (.const (.int .i64 0)) 3, 4, "outright.go:77", #[⟨2, .data⟩], none⟩) (v := ?_) rfl (by kernel_rfl) (by kernel_rfl) (by kernel_rfl) (fun _ _ _ h => HP _ _ _ _ _ h) (Or.inl ⟨by rfl, fun w hSw => ?_⟩) hH1 ?_
  rotate_left 1
  · (try simp only [S47] at hSw); go_simp; (try with_reducible rfl)
  try simp only [Act.put, List.setIfInBounds_toArray, List.set_cons_zero, List.set_cons_succ]
  refine wpAnyH_take (i := 4) (oi := ⟨some 203, .binOp .neq 4 (.tmp 199) (.tmp 202) 4, 4, "outright.go:77", #[⟨0, .data⟩, ⟨3, .data⟩], none⟩) (v := ?_) rfl (by kernel_rfl) (by kernel_rfl) (by kernel_rfl) (fun _ _ _ h => HP _ _ _ _ _ h) (Or.inl ⟨by rfl, fun w hSw => ?_⟩) hH1 ?_
  rotate_left 1
  · (try simp only [S47] at hSw); go_simp; (try with_reducible rfl)
  try simp only [Act.put, List.setIfInBounds_toArray, List.set_cons_zero, List.set_cons_succ]
  refine wpAnyH_take (i := 5) (oi := ⟨some 204, .move (.tmp 203), 4, "outright.go:77", #[⟨4, .data⟩, ⟨2, .chain⟩], none⟩) (v := ?_) rfl (by kernel_rfl) (by kernel_rfl) (by kernel_rfl) (fun _ _ _ h => HP _ _ _ _ _ h) (Or.inl ⟨by rfl, fun w hSw => ?_⟩) hH1 ?_
  rotate_left 1
  · (try simp only [S47] at hSw); go_simp; (try with_reducible rfl)
  try simp only [Act.put, List.setIfInBounds_toArray, List.set_cons_zero, List.set_cons_succ]
  refine wpAnyH_take (i := 6) (oi := ⟨some 205, .move (.tmp 20), 4, "outright.go:77", #[⟨5, .guard⟩], some (5, false)⟩) (v := ?_) rfl (by kernel_rfl) (by kernel_rfl) (by kernel_rfl) (fun _ _ _ h => HP _ _ _ _ _ h) (Or.inl ⟨by rfl, fun w hSw => ?_⟩) hH1 ?_
  rotate_left 1
  · (try simp only [S47] at hSw); go_simp; (try with_reducible rfl)
  try simp only [Act.put, List.setIfInBounds_toArray, List.set_cons_zero, List.set_cons_succ]
  refine wpAnyH_take (i := 7) (oi := ⟨some 206, .move (.tmp 205), 4, "outright.go:77", #[⟨6, .data⟩, ⟨5, .chain⟩, ⟨5, .guard⟩], some (5, false)⟩) (v := ?_) rfl (by kernel_rfl) (by kernel_rfl) (by kernel_rfl) (fun _ _ _ h => HP _ _ _ _ _ h) (Or.inl ⟨by rfl, fun w hSw => ?_⟩) hH1 ?_
  rotate_left 1
  · (try simp only [S47] at hSw); go_simp; (try with_reducible rfl)
  try simp only [Act.put, List.setIfInBounds_toArray, List.set_cons_zero, List.set_cons_succ]
  refine wpAnyH_take (i := 8) (oi := ⟨some 207, .move (.tmp 17), 26, "outright.go:77", #[⟨7, .guard⟩], some (7, true)⟩) (v := undef) rfl (by kernel_rfl) (by kernel_rfl) (by kernel_rfl) (fun _ _ _ h => HP _ _ _ _ _ h) (Or.inr ⟨by rfl, rfl⟩) hH1 ?_
  try simp only [Act.put, List.setIfInBounds_toArray, List.set_cons_zero, List.set_cons_succ]
  refine wpAnyH_take (i := 9) (oi := ⟨some 208, .call { callee := .value (.func 7), args := #[.tmp 207], argTypes := #[26] }, 3, "outright.go:77", #[⟨8, .data⟩, ⟨7, .chain⟩, ⟨7, .guard⟩], some (7, true)⟩) (v := undef) rfl (by kernel_rfl) (by kernel_rfl) (by kernel_rfl) (fun _ _ _ h => HP _ _ _ _ _ h) (Or.inr ⟨by rfl, rfl⟩) hH1 ?_
  try simp only [Act.put, List.setIfInBounds_toArray, List.set_cons_zero, List.set_cons_succ]
  refine wpAnyH_take (i := 10) (oi := ⟨some 209, .move (.tmp 9), 3, "outright.go:77", #[⟨7, .guard⟩], some (7, true)⟩) (v := undef) rfl (by kernel_rfl) (by kernel_rfl) (by kernel_rfl) (fun _ _ _ h => HP _ _ _ _ _ h) (Or.inr ⟨by rfl, rfl⟩) hH1 ?_
  try simp only [Act.put, List.setIfInBounds_toArray, List.set_cons_zero, List.set_cons_succ]
  refine wpAnyH_take (i := 11) (oi := ⟨some 210, .binOp .eql 3 (.tmp 208) (.tmp 209) 3, 4, "outright.go:77", #[⟨9, .data⟩, ⟨10, .data⟩, ⟨7, .guard⟩], some (7, true)⟩) (v := undef) rfl (by kernel_rfl) (by kernel_rfl) (by kernel_rfl) (fun _ _ _ h => HP _ _ _ _ _ h) (Or.inr ⟨by rfl, rfl⟩) hH1 ?_
  try simp only [Act.put, List.setIfInBounds_toArray, List.set_cons_zero, List.set_cons_succ]
  refine wpAnyH_take (i := 12) (oi := ⟨some 211, .pick (.tmp 206) (.tmp 210) (.const (.bool false)), 4, "outright.go:77", #[⟨7, .data⟩, ⟨11, .data⟩, ⟨5, .guard⟩], some (5, false)⟩) (v := ?_) rfl (by kernel_rfl) (by kernel_rfl) (by kernel_rfl) (fun _ _ _ h => HP _ _ _ _ _ h) (Or.inl ⟨by rfl, fun w hSw => ?_⟩) hH1 ?_
  rotate_left 1
  · (try simp only [S47] at hSw); go_simp; (try with_reducible rfl)
  try simp only [Act.put, List.setIfInBounds_toArray, List.set_cons_zero, List.set_cons_succ]
  refine wpAnyH_take (i := 13) (oi := ⟨some 212, .move (.tmp 211), 4, "outright.go:77", #[⟨12, .data⟩, ⟨9, .chain⟩, ⟨5, .guard⟩], some (5, false)⟩) (v := ?_) rfl (by kernel_rfl) (by kernel_rfl) (by kernel_rfl) (fun _ _ _ h => HP _ _ _ _ _ h) (Or.inl ⟨by rfl, fun w hSw => ?_⟩) hH1 ?_
  rotate_left 1
  · (try simp only [S47] at hSw); go_simp; (try with_reducible rfl)
  try simp only [Act.put, List.setIfInBounds_toArray, List.set_cons_zero, List.set_cons_succ]
  refine wpAnyH_take (i := 14) (oi := ⟨some 213, .load 25 (.tmp 19), 25, "outright.go:77", #[⟨13, .guard⟩], some (13, true)⟩) (v := undef) rfl (by kernel_rfl) (by kernel_rfl) (by kernel_rfl) (fun _ _ _ h => HP _ _ _ _ _ h) (Or.inr ⟨by rfl, rfl⟩) hH1 ?_
  try simp only [Act.put, List.setIfInBounds_toArray, List.set_cons_zero, List.set_cons_succ]
  refine wpAnyH_take (i := 15) (oi := ⟨some 214, .move (.tmp 9), 3, "outright.go:77", #[⟨13, .guard⟩], some (13, true)⟩) (v := undef) rfl (by kernel_rfl) (by kernel_rfl) (by kernel_rfl) (fun _ _ _ h => HP _ _ _ _ _ h) (Or.inr ⟨by rfl, rfl⟩) hH1 ?_
  try simp only [Act.put, List.setIfInBounds_toArray, List.set_cons_zero, List.set_cons_succ]
  refine wpAnyH_take (i := 16) (oi := ⟨some 215, .binOp .sub 3 (.tmp 214) (.const (.int .i64 1)) 3, 3, "outright.go:77", #[⟨15, .data⟩, ⟨13, .guard⟩], some (13, true)⟩) (v := undef) rfl (by kernel_rfl) (by kernel_rfl) (by kernel_rfl) (fun _ _ _ h => HP _ _ _ _ _ h) (Or.inr ⟨by rfl, rfl⟩) hH1 ?_
  try simp only [Act.put, List.setIfInBounds_toArray, List.set_cons_zero, List.set_cons_succ]
  refine wpAnyH_take (i := 17) (oi := ⟨some 216, .indexAddr 57 (.tmp 8) (.tmp 215), 0, "outright.go:77", #[⟨16, .data⟩, ⟨13, .guard⟩], some (13, true)⟩) (v := undef) rfl (by kernel_rfl) (by kernel_rfl) (by kernel_rfl) (fun _ _ _ h => HP _ _ _ _ _ h) (Or.inr ⟨by rfl, rfl⟩) hH1 ?_
  try simp only [Act.put, List.setIfInBounds_toArray, List.set_cons_zero, List.set_cons_succ]
  refine wpAnyH_take (i := 18) (oi := ⟨some 217, .load 25 (.tmp 216), 25, "outright.go:77", #[⟨17, .data⟩, ⟨13, .guard⟩], some (13, true)⟩) (v := undef) rfl (by kernel_rfl) (by kernel_rfl) (by kernel_rfl) (fun _ _ _ h => HP _ _ _ _ _ h) (Or.inr ⟨by rfl, rfl⟩) hH1 ?_
  try simp only [Act.put, List.setIfInBounds_toArray, List.set_cons_zero, List.set_cons_succ]
  refine wpAnyH_take (i := 19) (oi := ⟨some 218, .binOp .neq 25 (.tmp 213) (.tmp 217) 25, 4, "outright.go:77", #[⟨14, .data⟩, ⟨18, .data⟩, ⟨13, .guard⟩], some (13, true)⟩) (v := undef) rfl (by kernel_rfl) (by kernel_rfl) (by kernel_rfl) (fun _ _ _ h => HP _ _ _ _ _ h) (Or.inr ⟨by rfl, rfl⟩) hH1 ?_
  try simp only [Act.put, List.setIfInBounds_toArray, List.set_cons_zero, List.set_cons_succ]
  refine wpAnyH_take (i := 20) (oi := ⟨some 219, .pick (.tmp 212) (.tmp 218) (.const (.bool false)), 4, "outright.go:77", #[⟨13, .data⟩, ⟨19, .data⟩, ⟨5, .guard⟩], some (5, false)⟩) (v := ?_) rfl (by kernel_rfl) (by kernel_rfl) (by kernel_rfl) (fun _ _ _ h => HP _ _ _ _ _ h) (Or.inl ⟨by rfl, fun w hSw => ?_⟩) hH1 ?_
  rotate_left 1
  · (try simp only [S47] at hSw); go_simp; (try with_reducible rfl)
  try simp only [Act.put, List.setIfInBounds_toArray, List.set_cons_zero, List.set_cons_succ]
  refine wpAnyH_take (i := 21) (oi := ⟨some 220, .pick (.tmp 204) (.const (.bool true)) (.tmp 219), 4, "outright.go:77", #[⟨5, .data⟩, ⟨20, .data⟩], none⟩) (v := ?_) rfl (by kernel_rfl) (by kernel_rfl) (by kernel_rfl) (fun _ _ _ h => HP _ _ _ _ _ h) (Or.inl ⟨by rfl, fun w hSw => ?_⟩) hH1 ?_
  rotate_left 1
  · (try simp only [S47] at hSw); go_simp; (try with_reducible rfl)
  try simp only [Act.put, List.setIfInBounds_toArray, List.set_cons_zero, List.set_cons_succ]
  refine wpAnyH_take (i := 22) (oi := ⟨some 221, .move (.tmp 220), 4, "outright.go:77", #[⟨21, .data⟩, ⟨13, .chain⟩], none⟩) (v := ?_) rfl (by kernel_rfl) (by kernel_rfl) (by kernel_rfl) (fun _ _ _ h => HP _ _ _ _ _ h) (Or.inl ⟨by rfl, fun w hSw => ?_⟩) hH1 ?_
  rotate_left 1
  · (try simp only [S47] at hSw); go_simp; (try with_reducible rfl)
  try simp only [Act.put, List.setIfInBounds_toArray, List.set_cons_zero, List.set_cons_succ]
  refine wpAnyH_take (i := 23) (oi := ⟨some 222, .move (.tmp 17), 26, "outright.go:77", #[⟨22, .guard⟩], some (22, false)⟩) (v := ?_) rfl (by kernel_rfl) (by kernel_rfl) (by kernel_rfl) (fun _ _ _ h => HP _ _ _ _ _ h) (Or.inl ⟨by rfl, fun w hSw => ?_⟩) hH1 ?_
  rotate_left 1
  · (try simp only [S47] at hSw); go_simp; (try with_reducible rfl)
  try simp only [Act.put, List.setIfInBounds_toArray, List.set_cons_zero, List.set_cons_succ]
  refine wpAnyH_take (i := 25) (oi := ⟨some 224, .move (.tmp 9), 3, "outright.go:77", #[⟨22, .guard⟩], some (22, false)⟩) (v := ?_) rfl (by kernel_rfl) (by kernel_rfl) (by kernel_rfl) (fun _ _ _ h => HP _ _ _ _ _ h) (Or.inl ⟨by rfl, fun w hSw => ?_⟩) hH1 ?_
  rotate_left 1
  · (try simp only [S47] at hSw); go_simp; (try with_reducible rfl)
  try simp only [Act.put, List.setIfInBounds_toArray, List.set_cons_zero, List.set_cons_succ]
  refine wpAnyH_ready (rs := [24]) (by kernel_rfl) (by simp) ?_
  refine AllReadyH.cons (o := ⟨some 223, .call { callee := .value (.func 7), args := #[.tmp 222], argTypes := #[26] }, 3, "outright.go:77", #[⟨23, .data⟩, ⟨22, .chain⟩, ⟨22, .guard⟩], some (22, false)⟩) rfl (fun K hK => ?_) AllReadyH.nil
  go_simp
  refine (HUS.out _ hH1.2.2.2).mono ?_
  rintro e w' ⟨rfl, rfl⟩
  refine hK.out _ _ (hH1) (fun hH2 => ?_)
  clear hK K
  try simp only [Act.put, List.setIfInBounds_toArray, List.set_cons_zero, List.set_cons_succ]
  refine wpAnyH_take (i := 26) (oi := ⟨some 225, .binOp .gtr 3 (.tmp 223) (.tmp 224) 3, 4, "outright.go:77", #[⟨24, .data⟩, ⟨25, .data⟩, ⟨22, .guard⟩], some (22, false)⟩) (v := ?_) rfl (by kernel_rfl) (by kernel_rfl) (by kernel_rfl) (fun _ _ _ h => HP _ _ _ _ _ h) (Or.inl ⟨by rfl, fun w hSw => ?_⟩) hH2 ?_
  rotate_left 1
  · (try simp only [S47] at hSw); go_simp; (try with_reducible rfl)
  try simp only [Act.put, List.setIfInBounds_toArray, List.set_cons_zero, List.set_cons_succ]
  refine wpAnyH_take (i := 27) (oi := ⟨some 226, .move (.tmp 225), 4, "outright.go:77", #[⟨26, .data⟩, ⟨24, .chain⟩, ⟨22, .guard⟩], some (22, false)⟩) (v := ?_) rfl (by kernel_rfl) (by kernel_rfl) (by kernel_rfl) (fun _ _ _ h => HP _ _ _ _ _ h) (Or.inl ⟨by rfl, fun w hSw => ?_⟩) hH2 ?_
  rotate_left 1
  · (try simp only [S47] at hSw); go_simp; (try with_reducible rfl)
  try simp only [Act.put, List.setIfInBounds_toArray, List.set_cons_zero, List.set_cons_succ]
  refine wpAnyH_take (i := 28) (oi := ⟨some 227, .load 25 (.tmp 19), 25, "outright.go:77", #[⟨27, .guard⟩], some (27, true)⟩) (v := undef) rfl (by kernel_rfl) (by kernel_rfl) (by kernel_rfl) (fun _ _ _ h => HP _ _ _ _ _ h) (Or.inr ⟨by rfl, rfl⟩) hH2 ?_
  try simp only [Act.put, List.setIfInBounds_toArray, List.set_cons_zero, List.set_cons_succ]
  refine wpAnyH_take (i := 29) (oi := ⟨some 228, .load 25 (.tmp 12), 25, "outright.go:77", #[⟨27, .guard⟩], some (27, true)⟩) (v := undef) rfl (by kernel_rfl) (by kernel_rfl) (by kernel_rfl) (fun _ _ _ h => HP _ _ _ _ _ h) (Or.inr ⟨by rfl, rfl⟩) hH2 ?_
  try simp only [Act.put, List.setIfInBounds_toArray, List.set_cons_zero, List.set_cons_succ]
  refine wpAnyH_take (i := 30) (oi := ⟨some 229, .binOp .neq 25 (.tmp 227) (.tmp 228) 25, 4, "outright.go:77", #[⟨28, .data⟩, ⟨29, .data⟩, ⟨27, .guard⟩], some (27, true)⟩) (v := undef) rfl (by kernel_rfl) (by kernel_rfl) (by kernel_rfl) (fun _ _ _ h => HP _ _ _ _ _ h) (Or.inr ⟨by rfl, rfl⟩) hH2 ?_
  try simp only [Act.put, List.setIfInBounds_toArray, List.set_cons_zero, List.set_cons_succ]
  refine wpAnyH_take (i := 31) (oi := ⟨some 230, .pick (.tmp 226) (.tmp 229) (.const (.bool false)), 4, "outright.go:77", #[⟨27, .data⟩, ⟨30, .data⟩, ⟨22, .guard⟩], some (22, false)⟩) (v := ?_) rfl (by kernel_rfl) (by kernel_rfl) (by kernel_rfl) (fun _ _ _ h => HP _ _ _ _ _ h) (Or.inl ⟨by rfl, fun w hSw => ?_⟩) hH2 ?_
  rotate_left 1
  · (try simp only [S47] at hSw); go_simp; (try with_reducible rfl)
  try simp only [Act.put, List.setIfInBounds_toArray, List.set_cons_zero, List.set_cons_succ]
  refine wpAnyH_take (i := 32) (oi := ⟨some 231, .pick (.tmp 221) (.const (.bool true)) (.tmp 230), 4, "outright.go:77", #[⟨22, .data⟩, ⟨31, .data⟩], none⟩) (v := ?_) rfl (by kernel_rfl) (by kernel_rfl) (by kernel_rfl) (fun _ _ _ h => HP _ _ _ _ _ h) (Or.inl ⟨by rfl, fun w hSw => ?_⟩) hH2 ?_
  rotate_left 1
  · (try simp only [S47] at hSw); go_simp; (try with_reducible rfl)
  try simp only [Act.put, List.setIfInBounds_toArray, List.set_cons_zero, List.set_cons_succ]
  refine wpAnyH_done (by kernel_rfl) ?_ _
  exact HQ.out _ _ _ _ _ _ _ _ _ _ _ _ _ _ _ _ _ _ _ _ _ _ _ _ _ _ _ _ _ _ _ _ _ hH2
set_option maxRecDepth 100000 in
set_option maxHeartbeats 4000000 in
theorem once47_2 {w8 : World} {lb hb bb q r : Nat} {HL H HB : List Value} {U T : Int} {Q : Exit → Act → World → Prop} {u0 u1 u2 u3 u4 u5 u6 u7 u10 u11 u13 u14 u15 u16 u18 u21 u22 u23 u24 u25 u26 u27 u28 u29 u30 u31 u32 u33 u34 u35 u36 u37 u38 u39 u40 u41 u42 u43 u44 u45 u46 u47 u48 u49 u50 u51 u52 u53 u54 u55 u56 u57 u58 u59 u60 u61 u62 u63 u64 u65 u66 u67 u68 u69 u70 u71 u72 u73 u74 u75 u76 u77 u78 u79 u80 u81 u82 u83 u84 u85 u86 u87 u88 u89 u90 u91 u92 u93 u94 u95 u96 u97 u98 u99 u100 u101 u102 u103 u104 u105 u106 u107 u108 u109 u110 u111 u112 u113 u114 u115 u116 u117 u118 u119 u120 u121 u122 u123 u124 u125 u126 u127 u128 u129 u130 u131 u132 u133 u134 u135 u136 u137 u138 u139 u140 u141 u142 u143 u144 u145 u146 u147 u148 u149 u150 u151 u152 u153 u154 u155 u156 u157 u158 u159 u160 u161 u162 u163 u164 u165 u166 u167 u168 u169 u170 u171 u172 u173 u174 u175 u176 u177 u178 u179 u180 u181 u182 u183 u184 u185 u186 u187 u188 u189 u190 u191 u192 u193 u194 u195 u196 u197 u198 u199 u200 u201 u202 u203 u204 u205 u206 u207 u208 u209 u210 u211 u212 u213 u214 u215 u216 u217 u218 u219 u220 u221 u222 u223 u224 u225 u226 u227 u228 u229 u230 u231 u232 u233 u234 u235 u236 u237 u238 u239 u240 u241 u242 u243 u244 u245 : Value} (HUS : Hid (∀ w', Kept (fun _ => False) w8 w' → Calls Tryd.prog 7 #[.pointer (some ⟨r, 0, none⟩)] w' fun e w2 => e = .returned (.int .i64 U) ∧ w' = w2)) (HIl : Hid ((Tryd.prog.info? 25).map (·.size) = some HL.length)) (hneq : ∀ w', (binOp .neq 25 (.agg HL.toArray) (.agg HL.toArray)).run Tryd.prog w' = .ok (.bool false) w') (i0 : decide (0 < U) = true) (i1 : (U == T) = true) (i2 : decide (U = T) = true) (i3 : decide (T < U) = false) (i4 : IntKind.i64.wrap (T - 1) = (q : Int)) (i5 : wrap64 (T - 1) = (q : Int)) (i6 : (q : Int) < 8) (SA : (fun w' => S47 w8 w' lb hb bb q HL H HL) w8.drew)
    (HP : ∀ c a (k : Nat) v w, Q (.panic c) (Act.put a (some k) v) w → Q (.panic c) a w) (HQ : ∀ (v199 v200 v201 v202 v203 v204 v205 v206 v207 v208 v209 v210 v211 v212 v213 v214 v215 v216 v217 v218 v219 v220 v221 v222 v223 v224 v225 v226 v227 v228 v229 v230 : Value) (w' : World), (fun w' => S47 w8 w' lb hb bb q HL H HL) w' → Q .normal ⟨List.toArray (u0 :: u1 :: u2 :: u3 :: u4 :: u5 :: u6 :: u7 :: (.pointer (some ⟨bb, 0, none⟩)) :: (.int .i64 T) :: u10 :: u11 :: (.pointer (some ⟨hb, 0, none⟩)) :: u13 :: u14 :: u15 :: u16 :: (.pointer (some ⟨r, 0, none⟩)) :: u18 :: (.pointer (some ⟨lb, 0, none⟩)) :: (.bool true) :: u21 :: u22 :: u23 :: u24 :: u25 :: u26 :: u27 :: u28 :: u29 :: u30 :: u31 :: u32 :: u33 :: u34 :: u35 :: u36 :: u37 :: u38 :: u39 :: u40 :: u41 :: u42 :: u43 :: u44 :: u45 :: u46 :: u47 :: u48 :: u49 :: u50 :: u51 :: u52 :: u53 :: u54 :: u55 :: u56 :: u57 :: u58 :: u59 :: u60 :: u61 :: u62 :: u63 :: u64 :: u65 :: u66 :: u67 :: u68 :: u69 :: u70 :: u71 :: u72 :: u73 :: u74 :: u75 :: u76 :: u77 :: u78 :: u79 :: u80 :: u81 :: u82 :: u83 :: u84 :: u85 :: u86 :: u87 :: u88 :: u89 :: u90 :: u91 :: u92 :: u93 :: u94 :: u95 :: u96 :: u97 :: u98 :: u99 :: u100 :: u101 :: u102 :: u103 :: u104 :: u105 :: u106 :: u107 :: u108 :: u109 :: u110 :: u111 :: u112 :: u113 :: u114 :: u115 :: u116 :: u117 :: u118 :: u119 :: u120 :: u121 :: u122 :: u123 :: u124 :: u125 :: u126 :: u127 :: u128 :: u129 :: u130 :: u131 :: u132 :: u133 :: u134 :: u135 :: u136 :: u137 :: u138 :: u139 :: u140 :: u141 :: u142 :: u143 :: u144 :: u145 :: u146 :: u147 :: u148 :: u149 :: u150 :: u151 :: u152 :: u153 :: u154 :: u155 :: u156 :: u157 :: u158 :: u159 :: u160 :: u161 :: u162 :: u163 :: u164 :: u165 :: u166 :: u167 :: u168 :: u169 :: u170 :: u171 :: u172 :: u173 :: u174 :: u175 :: u176 :: u177 :: u178 :: u179 :: u180 :: u181 :: u182 :: u183 :: u184 :: u185 :: u186 :: u187 :: u188 :: u189 :: u190 :: u191 :: u192 :: u193 :: u194 :: u195 :: u196 :: u197 :: u198 :: v199 :: v200 :: v201 :: v202 :: v203 :: v204 :: v205 :: v206 :: v207 :: v208 :: v209 :: v210 :: v211 :: v212 :: v213 :: v214 :: v215 :: v216 :: v217 :: v218 :: v219 :: v220 :: v221 :: v222 :: v223 :: v224 :: v225 :: v226 :: v227 :: v228 :: v229 :: v230 :: (.bool false) :: u232 :: u233 :: u234 :: u235 :: u236 :: u237 :: u238 :: u239 :: u240 :: u241 :: u242 :: u243 :: u244 :: u245 :: []), []⟩ w') :
    Code.wp Tryd.prog (Code.region 47 ops47 true) Q ⟨List.toArray (u0 :: u1 :: u2 :: u3 :: u4 :: u5 :: u6 :: u7 :: (.pointer (some ⟨bb, 0, none⟩)) :: (.int .i64 T) :: u10 :: u11 :: (.pointer (some ⟨hb, 0, none⟩)) :: u13 :: u14 :: u15 :: u16 :: (.pointer (some ⟨r, 0, none⟩)) :: u18 :: (.pointer (some ⟨lb, 0, none⟩)) :: (.bool true) :: u21 :: u22 :: u23 :: u24 :: u25 :: u26 :: u27 :: u28 :: u29 :: u30 :: u31 :: u32 :: u33 :: u34 :: u35 :: u36 :: u37 :: u38 :: u39 :: u40 :: u41 :: u42 :: u43 :: u44 :: u45 :: u46 :: u47 :: u48 :: u49 :: u50 :: u51 :: u52 :: u53 :: u54 :: u55 :: u56 :: u57 :: u58 :: u59 :: u60 :: u61 :: u62 :: u63 :: u64 :: u65 :: u66 :: u67 :: u68 :: u69 :: u70 :: u71 :: u72 :: u73 :: u74 :: u75 :: u76 :: u77 :: u78 :: u79 :: u80 :: u81 :: u82 :: u83 :: u84 :: u85 :: u86 :: u87 :: u88 :: u89 :: u90 :: u91 :: u92 :: u93 :: u94 :: u95 :: u96 :: u97 :: u98 :: u99 :: u100 :: u101 :: u102 :: u103 :: u104 :: u105 :: u106 :: u107 :: u108 :: u109 :: u110 :: u111 :: u112 :: u113 :: u114 :: u115 :: u116 :: u117 :: u118 :: u119 :: u120 :: u121 :: u122 :: u123 :: u124 :: u125 :: u126 :: u127 :: u128 :: u129 :: u130 :: u131 :: u132 :: u133 :: u134 :: u135 :: u136 :: u137 :: u138 :: u139 :: u140 :: u141 :: u142 :: u143 :: u144 :: u145 :: u146 :: u147 :: u148 :: u149 :: u150 :: u151 :: u152 :: u153 :: u154 :: u155 :: u156 :: u157 :: u158 :: u159 :: u160 :: u161 :: u162 :: u163 :: u164 :: u165 :: u166 :: u167 :: u168 :: u169 :: u170 :: u171 :: u172 :: u173 :: u174 :: u175 :: u176 :: u177 :: u178 :: u179 :: u180 :: u181 :: u182 :: u183 :: u184 :: u185 :: u186 :: u187 :: u188 :: u189 :: u190 :: u191 :: u192 :: u193 :: u194 :: u195 :: u196 :: u197 :: u198 :: u199 :: u200 :: u201 :: u202 :: u203 :: u204 :: u205 :: u206 :: u207 :: u208 :: u209 :: u210 :: u211 :: u212 :: u213 :: u214 :: u215 :: u216 :: u217 :: u218 :: u219 :: u220 :: u221 :: u222 :: u223 :: u224 :: u225 :: u226 :: u227 :: u228 :: u229 :: u230 :: u231 :: u232 :: u233 :: u234 :: u235 :: u236 :: u237 :: u238 :: u239 :: u240 :: u241 :: u242 :: u243 :: u244 :: u245 :: []), []⟩ w8 := by
  have HQ := Lib.hid HQ
  unfold ops47
  refine wp_region_held_drew (S := (fun w' => S47 w8 w' lb hb bb q HL H HL)) (by kernel_rfl) SA (fun hH0 => ?_)
  refine wpAnyH_take (i := 0) (oi := ⟨some 199, .move (.tmp 20), 4, "outright.go:77", #[], none⟩) (v := ?_) rfl (by kernel_rfl) (by kernel_rfl) (by kernel_rfl) (fun _ _ _ h => HP _ _ _ _ _ h) (Or.inl ⟨by rfl, fun w hSw => ?_⟩) hH0 ?_
  rotate_left 1
  · (try simp only [S47] at hSw); go_simp; (try with_reducible rfl)
  try simp only [Act.put, List.setIfInBounds_toArray, List.set_cons_zero, List.set_cons_succ]
  refine wpAnyH_take (i := 1) (oi := ⟨some 200, .move (.tmp 17), 26, "outright.go:77", #[], none⟩) (v := ?_) rfl (by kernel_rfl) (by kernel_rfl) (by kernel_rfl) (fun _ _ _ h => HP _ _ _ _ _ h) (Or.inl ⟨by rfl, fun w hSw => ?_⟩) hH0 ?_
  rotate_left 1
  · (try simp only [S47] at hSw); go_simp; (try with_reducible rfl)
  try simp only [Act.put, List.setIfInBounds_toArray, List.set_cons_zero, List.set_cons_succ]
  refine wpAnyH_ready (rs := [2]) (by kernel_rfl) (by simp) ?_
  refine AllReadyH.cons (o := ⟨some 201, .call { callee := .value (.func 7), args := #[.tmp 200], argTypes := #[26] }, 3, "outright.go:77", #[⟨1, .data⟩], none⟩) rfl (fun K hK => ?_) AllReadyH.nil
  go_simp
  refine (HUS.out _ hH0.2.2.2).mono ?_
  rintro e w' ⟨rfl, rfl⟩
  refine hK.out _ _ (hH0) (fun hH1 => ?_)
  clear hK K
  try simp only [Act.put, List.setIfInBounds_toArray, List.set_cons_zero, List.set_cons_succ]
  refine wpAnyH_take (i := 3) (oi := ⟨some 202, .binOp .gtr 3 (.tmp 201) (.const (.int .i64 0)) 3, 4, "outright.go:77", #[⟨2, .data⟩], none⟩) (v := ?_) rfl (by kernel_rfl) (by kernel_rfl) (by kernel_rfl) (fun _ _ _ h => HP _ _ _ _ _ h) (Or.inl ⟨by rfl, fun w hSw => ?_⟩) hH1 ?_
  rotate_left 1
  · (try simp only [S47] at hSw); go_simp; (try with_reducible rfl)
  try simp only [Act.put, List.setIfInBounds_toArray, List.set_cons_zero, List.set_cons_succ]
  refine wpAnyH_take (i := 4) (oi := ⟨some 203, .binOp .neq 4 (.tmp 199) (.tmp 202) 4, 4, "outright.go:77", #[⟨0, .data⟩, ⟨3, .data⟩], none⟩) (v := ?_) rfl (by kernel_rfl) (by kernel_rfl) (by kernel_rfl) (fun _ _ _ h => HP _ _ _ _ _ h) (Or.inl ⟨by rfl, fun w hSw => ?_⟩) hH1 ?_
  rotate_left 1
  · (try simp only [S47] at hSw); go_simp; (try with_reducible rfl)
  try simp only [Act.put, List.setIfInBounds_toArray, List.set_cons_zero, List.set_cons_succ]
  refine wpAnyH_take (i := 5) (oi := ⟨some 204, .move (.tmp 203), 4, "outright.go:77", #[⟨4, .data⟩, ⟨2, .chain⟩], none⟩) (v := ?_) rfl (by kernel_rfl) (by kernel_rfl) (by kernel_rfl) (fun _ _ _ h => HP _ _ _ _ _ h) (Or.inl ⟨by rfl, fun w hSw => ?_⟩) hH1 ?_
  rotate_left 1
  · (try simp only [S47] at hSw); go_simp; (try with_reducible rfl)
  try simp only [Act.put, List.setIfInBounds_toArray, List.set_cons_zero, List.set_cons_succ]
  refine wpAnyH_take (i := 6) (oi := ⟨some 205, .move (.tmp 20), 4, "outright.go:77", #[⟨5, .guard⟩], some (5, false)⟩) (v := ?_) rfl (by kernel_rfl) (by kernel_rfl) (by kernel_rfl) (fun _ _ _ h => HP _ _ _ _ _ h) (Or.inl ⟨by rfl, fun w hSw => ?_⟩) hH1 ?_
  rotate_left 1
  · (try simp only [S47] at hSw); go_simp; (try with_reducible rfl)
  try simp only [Act.put, List.setIfInBounds_toArray, List.set_cons_zero, List.set_cons_succ]
  refine wpAnyH_take (i := 7) (oi := ⟨some 206, .move (.tmp 205), 4, "outright.go:77", #[⟨6, .data⟩, ⟨5, .chain⟩, ⟨5, .guard⟩], some (5, false)⟩) (v := ?_) rfl (by kernel_rfl) (by kernel_rfl) (by kernel_rfl) (fun _ _ _ h => HP _ _ _ _ _ h) (Or.inl ⟨by rfl, fun w hSw => ?_⟩) hH1 ?_
  rotate_left 1
  · (try simp only [S47] at hSw); go_simp; (try with_reducible rfl)
  try simp only [Act.put, List.setIfInBounds_toArray, List.set_cons_zero, List.set_cons_succ]
  refine wpAnyH_take (i := 8) (oi := ⟨some 207, .move (.tmp 17), 26, "outright.go:77", #[⟨7, .guard⟩], some (7, true)⟩) (v := ?_) rfl (by kernel_rfl) (by kernel_rfl) (by kernel_rfl) (fun _ _ _ h => HP _ _ _ _ _ h) (Or.inl ⟨by rfl, fun w hSw => ?_⟩) hH1 ?_
  rotate_left 1
  · (try simp only [S47] at hSw); go_simp; (try with_reducible rfl)
  try simp only [Act.put, List.setIfInBounds_toArray, List.set_cons_zero, List.set_cons_succ]
  refine wpAnyH_take (i := 10) (oi := ⟨some 209, .move (.tmp 9), 3, "outright.go:77", #[⟨7, .guard⟩], some (7, true)⟩) (v := ?_) rfl (by kernel_rfl) (by kernel_rfl) (by kernel_rfl) (fun _ _ _ h => HP _ _ _ _ _ h) (Or.inl ⟨by rfl, fun w hSw => ?_⟩) hH1 ?_
  rotate_left 1
  · (try simp only [S47] at hSw); go_simp; (try with_reducible rfl)
  try simp only [Act.put, List.setIfInBounds_toArray, List.set_cons_zero, List.set_cons_succ]
  refine wpAnyH_ready (rs := [9]) (by kernel_rfl) (by simp) ?_
  refine AllReadyH.cons (o := ⟨some 208, .call { callee := .value (.func 7), args := #[.tmp 207], argTypes := #[26] }, 3, "outright.go:77", #[⟨8, .data⟩, ⟨7, .chain⟩, ⟨7, .guard⟩], some (7, true)⟩) rfl (fun K hK => ?_) AllReadyH.nil
  go_simp
  refine (HUS.out _ hH1.2.2.2).mono ?_
  rintro e w' ⟨rfl, rfl⟩
  refine hK.out _ _ (hH1) (fun hH2 => ?_)
  clear hK K
  try simp only [Act.put, List.setIfInBounds_toArray, List.set_cons_zero, List.set_cons_succ]
  refine wpAnyH_take (i := 11) (oi := ⟨some 210, .binOp .eql 3 (.tmp 208) (.tmp 209) 3, 4, "outright.go:77", #[⟨9, .data⟩, ⟨10, .data⟩, ⟨7, .guard⟩], some (7, true)⟩) (v := ?_) rfl (by kernel_rfl) (by kernel_rfl) (by kernel_rfl) (fun _ _ _ h => HP _ _ _ _ _ h) (Or.inl ⟨by rfl, fun w hSw => ?_⟩) hH2 ?_
  rotate_left 1
  · (try simp only [S47] at hSw); go_simp; (try with_reducible rfl)
  try simp only [Act.put, List.setIfInBounds_toArray, List.set_cons_zero, List.set_cons_succ]
  refine wpAnyH_take (i := 12) (oi := ⟨some 211, .pick (.tmp 206) (.tmp 210) (.const (.bool false)), 4, "outright.go:77", #[⟨7, .data⟩, ⟨11, .data⟩, ⟨5, .guard⟩], some (5, false)⟩) (v := ?_) rfl (by kernel_rfl) (by kernel_rfl) (by kernel_rfl) (fun _ _ _ h => HP _ _ _ _ _ h) (Or.inl ⟨by rfl, fun w hSw => ?_⟩) hH2 ?_
  rotate_left 1
  · (try simp only [S47] at hSw); go_simp; (try with_reducible rfl)
  try simp only [Act.put, List.setIfInBounds_toArray, List.set_cons_zero, List.set_cons_succ]
  refine wpAnyH_take (i := 13) (oi := ⟨some 212, .move (.tmp 211), 4, "outright.go:77", #[⟨12, .data⟩, ⟨9, .chain⟩, ⟨5, .guard⟩], some (5, false)⟩) (v := ?_) rfl (by kernel_rfl) (by kernel_rfl) (by kernel_rfl) (fun _ _ _ h => HP _ _ _ _ _ h) (Or.inl ⟨by rfl, fun w hSw => ?_⟩) hH2 ?_
  rotate_left 1
  · (try simp only [S47] at hSw); go_simp; (try with_reducible rfl)
  try simp only [Act.put, List.setIfInBounds_toArray, List.set_cons_zero, List.set_cons_succ]
  refine wpAnyH_take (i := 14) (oi := ⟨some 213, .load 25 (.tmp 19), 25, "outright.go:77", #[⟨13, .guard⟩], some (13, true)⟩) (v := .agg (HL).toArray) rfl (by kernel_rfl) (by kernel_rfl) (by kernel_rfl) (fun _ _ _ h => HP _ _ _ _ _ h) (yieldsIf_load_mid (by rfl) _ _ rfl (lb) (0) rfl (HL) _ (fun w q => q.1) Tryd.underlying25 rfl HIl.out) hH2 ?_
  try simp only [Act.put, List.setIfInBounds_toArray, List.set_cons_zero, List.set_cons_succ]
  refine wpAnyH_take (i := 15) (oi := ⟨some 214, .move (.tmp 9), 3, "outright.go:77", #[⟨13, .guard⟩], some (13, true)⟩) (v := ?_) rfl (by kernel_rfl) (by kernel_rfl) (by kernel_rfl) (fun _ _ _ h => HP _ _ _ _ _ h) (Or.inl ⟨by rfl, fun w hSw => ?_⟩) hH2 ?_
  rotate_left 1
  · (try simp only [S47] at hSw); go_simp; (try with_reducible rfl)
  try simp only [Act.put, List.setIfInBounds_toArray, List.set_cons_zero, List.set_cons_succ]
  refine wpAnyH_take (i := 16) (oi := ⟨some 215, .binOp .sub 3 (.tmp 214) (.const (.int .i64 1)) 3, 3, "outright.go:77", #[⟨15, .data⟩, ⟨13, .guard⟩], some (13, true)⟩) (v := ?_) rfl (by kernel_rfl) (by kernel_rfl) (by kernel_rfl) (fun _ _ _ h => HP _ _ _ _ _ h) (Or.inl ⟨by rfl, fun w hSw => ?_⟩) hH2 ?_
  rotate_left 1
  · (try simp only [S47] at hSw); go_simp; (try with_reducible rfl)
  try simp only [Act.put, List.setIfInBounds_toArray, List.set_cons_zero, List.set_cons_succ]
  refine wpAnyH_take (i := 17) (oi := ⟨some 216, .indexAddr 57 (.tmp 8) (.tmp 215), 0, "outright.go:77", #[⟨16, .data⟩, ⟨13, .guard⟩], some (13, true)⟩) (v := ?_) rfl (by kernel_rfl) (by kernel_rfl) (by kernel_rfl) (fun _ _ _ h => HP _ _ _ _ _ h) (Or.inl ⟨by rfl, fun w hSw => ?_⟩) hH2 ?_
  rotate_left 1
  · (try simp only [S47] at hSw); go_simp; (try with_reducible rfl)
  try simp only [Act.put, List.setIfInBounds_toArray, List.set_cons_zero, List.set_cons_succ]
  refine wpAnyH_take (i := 18) (oi := ⟨some 217, .load 25 (.tmp 216), 25, "outright.go:77", #[⟨17, .data⟩, ⟨13, .guard⟩], some (13, true)⟩) (v := .agg (HL).toArray) rfl (by kernel_rfl) (by kernel_rfl) (by kernel_rfl) (fun _ _ _ h => HP _ _ _ _ _ h) (yieldsIf_load_mid (by rfl) _ _ rfl (bb) (q * 33) rfl (HL) _ (fun w q => q.2.2.1) Tryd.underlying25 rfl HIl.out) hH2 ?_
  try simp only [Act.put, List.setIfInBounds_toArray, List.set_cons_zero, List.set_cons_succ]
  refine wpAnyH_take (i := 19) (oi := ⟨some 218, .binOp .neq 25 (.tmp 213) (.tmp 217) 25, 4, "outright.go:77", #[⟨14, .data⟩, ⟨18, .data⟩, ⟨13, .guard⟩], some (13, true)⟩) (v := ?_) rfl (by kernel_rfl) (by kernel_rfl) (by kernel_rfl) (fun _ _ _ h => HP _ _ _ _ _ h) (Or.inl ⟨by rfl, fun w hSw => ?_⟩) hH2 ?_
  rotate_left 1
  · (try simp only [S47] at hSw); go_simp; (try with_reducible rfl)
  try simp only [Act.put, List.setIfInBounds_toArray, List.set_cons_zero, List.set_cons_succ]
  refine wpAnyH_take (i := 20) (oi := ⟨some 219, .pick (.tmp 212) (.tmp 218) (.const (.bool false)), 4, "outright.go:77", #[⟨13, .data⟩, ⟨19, .data⟩, ⟨5, .guard⟩], some (5, false)⟩) (v := ?_) rfl (by kernel_rfl) (by kernel_rfl) (by kernel_rfl) (fun _ _ _ h => HP _ _ _ _ _ h) (Or.inl ⟨by rfl, fun w hSw => ?_⟩) hH2 ?_
  rotate_left 1
  · (try simp only [S47] at hSw); go_simp; (try with_reducible rfl)
  try simp only [Act.put, List.setIfInBounds_toArray, List.set_cons_zero, List.set_cons_succ]
  refine wpAnyH_take (i := 21) (oi := ⟨some 220, .pick (.tmp 204) (.const (.bool true)) (.tmp 219), 4, "outright.go:77", #[⟨5, .data⟩, ⟨20, .data⟩], none⟩) (v := ?_) rfl (by kernel_rfl) (by kernel_rfl) (by kernel_rfl) (fun _ _ _ h => HP _ _ _ _ _ h) (Or.inl ⟨by rfl, fun w hSw => ?_⟩) hH2 ?_
  rotate_left 1
  · (try simp only [S47] at hSw); go_simp; (try with_reducible rfl)
  try simp only [Act.put, List.setIfInBounds_toArray, List.set_cons_zero, List.set_cons_succ]
  refine wpAnyH_take (i := 22) (oi := ⟨some 221, .move (.tmp 220), 4, "outright.go:77", #[⟨21, .data⟩, ⟨13, .chain⟩], none⟩) (v := ?_) rfl (by kernel_rfl) (by kernel_rfl) (by kernel_rfl) (fun _ _ _ h => HP _ _ _ _ _ h) (Or.inl ⟨by rfl, fun w hSw => ?_⟩) hH2 ?_
  rotate_left 1
  · (try simp only [S47] at hSw); go_simp; (try with_reducible rfl)
  try simp only [Act.put, List.setIfInBounds_toArray, List.set_cons_zero, List.set_cons_succ]
  refine wpAnyH_take (i := 23) (oi := ⟨some 222, .move (.tmp 17), 26, "outright.go:77", #[⟨22, .guard⟩], some (22, false)⟩) (v := ?_) rfl (by kernel_rfl) (by kernel_rfl) (by kernel_rfl) (fun _ _ _ h => HP _ _ _ _ _ h) (Or.inl ⟨by rfl, fun w hSw => ?_⟩) hH2 ?_
  rotate_left 1
  · (try simp only [S47] at hSw); go_simp; (try with_reducible rfl)
  try simp only [Act.put, List.setIfInBounds_toArray, List.set_cons_zero, List.set_cons_succ]
  refine wpAnyH_take (i := 25) (oi := ⟨some 224, .move (.tmp 9), 3, "outright.go:77", #[⟨22, .guard⟩], some (22, false)⟩) (v := ?_) rfl (by kernel_rfl) (by kernel_rfl) (by kernel_rfl) (fun _ _ _ h => HP _ _ _ _ _ h) (Or.inl ⟨by rfl, fun w hSw => ?_⟩) hH2 ?_
  rotate_left 1
  · (try simp only [S47] at hSw); go_simp; (try with_reducible rfl)
  try simp only [Act.put, List.setIfInBounds_toArray, List.set_cons_zero, List.set_cons_succ]
  refine wpAnyH_ready (rs := [24]) (by kernel_rfl) (by simp) ?_
  refine AllReadyH.cons (o := ⟨some 223, .call { callee := .value (.func 7), args := #[.tmp 222], argTypes := #[26] }, 3, "outright.go:77", #[⟨23, .data⟩, ⟨22, .chain⟩, ⟨22, .guard⟩], some (22, false)⟩) rfl (fun K hK => ?_) AllReadyH.nil
  go_simp
  refine (HUS.out _ hH2.2.2.2).mono ?_
  rintro e w' ⟨rfl, rfl⟩
  refine hK.out _ _ (hH2) (fun hH3 => ?_)
  clear hK K
  try simp only [Act.put, List.setIfInBounds_toArray, List.set_cons_zero, List.set_cons_succ]
  refine wpAnyH_take (i := 26) (oi := ⟨some 225, .binOp .gtr 3 (.tmp 223) (.tmp 224) 3, 4, "outright.go:77", #[⟨24, .data⟩, ⟨25, .data⟩, ⟨22, .guard⟩], some (22, false)⟩) (v := ?_) rfl (by kernel_rfl) (by kernel_rfl) (by kernel_rfl) (fun _ _ _ h => HP _ _ _ _ _ h) (Or.inl ⟨by rfl, fun w hSw => ?_⟩) hH3 ?_
  rotate_left 1
  · (try simp only [S47] at hSw); go_simp; (try with_reducible rfl)
  try simp only [Act.put, List.setIfInBounds_toArray, List.set_cons_zero, List.set_cons_succ]
  refine wpAnyH_take (i := 27) (oi := ⟨some 226, .move (.tmp 225), 4, "outright.go:77", #[⟨26, .data⟩, ⟨24, .chain⟩, ⟨22, .guard⟩], some (22, false)⟩) (v := ?_) rfl (by kernel_rfl) (by kernel_rfl) (by kernel_rfl) (fun _ _ _ h => HP _ _ _ _ _ h) (Or.inl ⟨by rfl, fun w hSw => ?_⟩) hH3 ?_
  rotate_left 1
  · (try simp only [S47] at hSw); go_simp; (try with_reducible rfl)
  try simp only [Act.put, List.setIfInBounds_toArray, List.set_cons_zero, List.set_cons_succ]
  refine wpAnyH_take (i := 28) (oi := ⟨some 227, .load 25 (.tmp 19), 25, "outright.go:77", #[⟨27, .guard⟩], some (27, true)⟩) (v := undef) rfl (by kernel_rfl) (by kernel_rfl) (by kernel_rfl) (fun _ _ _ h => HP _ _ _ _ _ h) (Or.inr ⟨by rfl, rfl⟩) hH3 ?_
  try simp only [Act.put, List.setIfInBounds_toArray, List.set_cons_zero, List.set_cons_succ]
  refine wpAnyH_take (i := 29) (oi := ⟨some 228, .load 25 (.tmp 12), 25, "outright.go:77", #[⟨27, .guard⟩], some (27, true)⟩) (v := undef) rfl (by kernel_rfl) (by kernel_rfl) (by kernel_rfl) (fun _ _ _ h => HP _ _ _ _ _ h) (Or.inr ⟨by rfl, rfl⟩) hH3 ?_
  try simp only [Act.put, List.setIfInBounds_toArray, List.set_cons_zero, List.set_cons_succ]
  refine wpAnyH_take (i := 30) (oi := ⟨some 229, .binOp .neq 25 (.tmp 227) (.tmp 228) 25, 4, "outright.go:77", #[⟨28, .data⟩, ⟨29, .data⟩, ⟨27, .guard⟩], some (27, true)⟩) (v := undef) rfl (by kernel_rfl) (by kernel_rfl) (by kernel_rfl) (fun _ _ _ h => HP _ _ _ _ _ h) (Or.inr ⟨by rfl, rfl⟩) hH3 ?_
  try simp only [Act.put, List.setIfInBounds_toArray, List.set_cons_zero, List.set_cons_succ]
  refine wpAnyH_take (i := 31) (oi := ⟨some 230, .pick (.tmp 226) (.tmp 229) (.const (.bool false)), 4, "outright.go:77", #[⟨27, .data⟩, ⟨30, .data⟩, ⟨22, .guard⟩], some (22, false)⟩) (v := ?_) rfl (by kernel_rfl) (by kernel_rfl) (by kernel_rfl) (fun _ _ _ h => HP _ _ _ _ _ h) (Or.inl ⟨by rfl, fun w hSw => ?_⟩) hH3 ?_
  rotate_left 1
  · (try simp only [S47] at hSw); go_simp; (try with_reducible rfl)
  try simp only [Act.put, List.setIfInBounds_toArray, List.set_cons_zero, List.set_cons_succ]
  refine wpAnyH_take (i := 32) (oi := ⟨some 231, .pick (.tmp 221) (.const (.bool true)) (.tmp 230), 4, "outright.go:77", #[⟨22, .data⟩, ⟨31, .data⟩], none⟩) (v := ?_) rfl (by kernel_rfl) (by kernel_rfl) (by kernel_rfl) (fun _ _ _ h => HP _ _ _ _ _ h) (Or.inl ⟨by rfl, fun w hSw => ?_⟩) hH3 ?_
  rotate_left 1
  · (try simp only [S47] at hSw); go_simp; (try with_reducible rfl)
  try simp only [Act.put, List.setIfInBounds_toArray, List.set_cons_zero, List.set_cons_succ]
  refine wpAnyH_done (by kernel_rfl) ?_ _
  exact HQ.out _ _ _ _ _ _ _ _ _ _ _ _ _ _ _ _ _ _ _ _ _ _ _ _ _ _ _ _ _ _ _ _ _ hH3
set_option maxRecDepth 100000 in
set_option maxHeartbeats 4000000 in
theorem once47_3 {w8 : World} {lb hb bb q r : Nat} {HL H HB : List Value} {U T : Int} {Q : Exit → Act → World → Prop} {u0 u1 u2 u3 u4 u5 u6 u7 u10 u11 u13 u14 u15 u16 u18 u21 u22 u23 u24 u25 u26 u27 u28 u29 u30 u31 u32 u33 u34 u35 u36 u37 u38 u39 u40 u41 u42 u43 u44 u45 u46 u47 u48 u49 u50 u51 u52 u53 u54 u55 u56 u57 u58 u59 u60 u61 u62 u63 u64 u65 u66 u67 u68 u69 u70 u71 u72 u73 u74 u75 u76 u77 u78 u79 u80 u81 u82 u83 u84 u85 u86 u87 u88 u89 u90 u91 u92 u93 u94 u95 u96 u97 u98 u99 u100 u101 u102 u103 u104 u105 u106 u107 u108 u109 u110 u111 u112 u113 u114 u115 u116 u117 u118 u119 u120 u121 u122 u123 u124 u125 u126 u127 u128 u129 u130 u131 u132 u133 u134 u135 u136 u137 u138 u139 u140 u141 u142 u143 u144 u145 u146 u147 u148 u149 u150 u151 u152 u153 u154 u155 u156 u157 u158 u159 u160 u161 u162 u163 u164 u165 u166 u167 u168 u169 u170 u171 u172 u173 u174 u175 u176 u177 u178 u179 u180 u181 u182 u183 u184 u185 u186 u187 u188 u189 u190 u191 u192 u193 u194 u195 u196 u197 u198 u199 u200 u201 u202 u203 u204 u205 u206 u207 u208 u209 u210 u211 u212 u213 u214 u215 u216 u217 u218 u219 u220 u221 u222 u223 u224 u225 u226 u227 u228 u229 u230 u231 u232 u233 u234 u235 u236 u237 u238 u239 u240 u241 u242 u243 u244 u245 : Value} (HUS : Hid (∀ w', Kept (fun _ => False) w8 w' → Calls Tryd.prog 7 #[.pointer (some ⟨r, 0, none⟩)] w' fun e w2 => e = .returned (.int .i64 U) ∧ w' = w2)) (HIl : Hid ((Tryd.prog.info? 25).map (·.size) = some HL.length)) (hneq : ∀ w', (binOp .neq 25 (.agg HL.toArray) (.agg HL.toArray)).run Tryd.prog w' = .ok (.bool false) w') (i0 : decide (0 < U) = true) (i1 : (U == T) = false) (i2 : decide (U = T) = false) (i3 : decide (T < U) = true) (SA : (fun w' => S47 w8 w' lb hb bb q HL HL HB) w8.drew)
    (HP : ∀ c a (k : Nat) v w, Q (.panic c) (Act.put a (some k) v) w → Q (.panic c) a w) (HQ : ∀ (v199 v200 v201 v202 v203 v204 v205 v206 v207 v208 v209 v210 v211 v212 v213 v214 v215 v216 v217 v218 v219 v220 v221 v222 v223 v224 v225 v226 v227 v228 v229 v230 : Value) (w' : World), (fun w' => S47 w8 w' lb hb bb q HL HL HB) w' → Q .normal ⟨List.toArray (u0 :: u1 :: u2 :: u3 :: u4 :: u5 :: u6 :: u7 :: (.pointer (some ⟨bb, 0, none⟩)) :: (.int .i64 T) :: u10 :: u11 :: (.pointer (some ⟨hb, 0, none⟩)) :: u13 :: u14 :: u15 :: u16 :: (.pointer (some ⟨r, 0, none⟩)) :: u18 :: (.pointer (some ⟨lb, 0, none⟩)) :: (.bool true) :: u21 :: u22 :: u23 :: u24 :: u25 :: u26 :: u27 :: u28 :: u29 :: u30 :: u31 :: u32 :: u33 :: u34 :: u35 :: u36 :: u37 :: u38 :: u39 :: u40 :: u41 :: u42 :: u43 :: u44 :: u45 :: u46 :: u47 :: u48 :: u49 :: u50 :: u51 :: u52 :: u53 :: u54 :: u55 :: u56 :: u57 :: u58 :: u59 :: u60 :: u61 :: u62 :: u63 :: u64 :: u65 :: u66 :: u67 :: u68 :: u69 :: u70 :: u71 :: u72 :: u73 :: u74 :: u75 :: u76 :: u77 :: u78 :: u79 :: u80 :: u81 :: u82 :: u83 :: u84 :: u85 :: u86 :: u87 :: u88 :: u89 :: u90 :: u91 :: u92 :: u93 :: u94 :: u95 :: u96 :: u97 :: u98 :: u99 :: u100 :: u101 :: u102 :: u103 :: u104 :: u105 :: u106 :: u107 :: u108 :: u109 :: u110 :: u111 :: u112 :: u113 :: u114 :: u115 :: u116 :: u117 :: u118 :: u119 :: u120 :: u121 :: u122 :: u123 :: u124 :: u125 :: u126 :: u127 :: u128 :: u129 :: u130 :: u131 :: u132 :: u133 :: u134 :: u135 :: u136 :: u137 :: u138 :: u139 :: u140 :: u141 :: u142 :: u143 :: u144 :: u145 :: u146 :: u147 :: u148 :: u149 :: u150 :: u151 :: u152 :: u153 :: u154 :: u155 :: u156 :: u157 :: u158 :: u159 :: u160 :: u161 :: u162 :: u163 :: u164 :: u165 :: u166 :: u167 :: u168 :: u169 :: u170 :: u171 :: u172 :: u173 :: u174 :: u175 :: u176 :: u177 :: u178 :: u179 :: u180 :: u181 :: u182 :: u183 :: u184 :: u185 :: u186 :: u187 :: u188 :: u189 :: u190 :: u191 :: u192 :: u193 :: u194 :: u195 :: u196 :: u197 :: u198 :: v199 :: v200 :: v201 :: v202 :: v203 :: v204 :: v205 :: v206 :: v207 :: v208 :: v209 :: v210 :: v211 :: v212 :: v213 :: v214 :: v215 :: v216 :: v217 :: v218 :: v219 :: v220 :: v221 :: v222 :: v223 :: v224 :: v225 :: v226 :: v227 :: v228 :: v229 :: v230 :: (.bool false) :: u232 :: u233 :: u234 :: u235 :: u236 :: u237 :: u238 :: u239 :: u240 :: u241 :: u242 :: u243 :: u244 :: u245 :: []), []⟩ w') :
    Code.wp Tryd.prog (Code.region 47 ops47 true) Q ⟨List.toArray (u0 :: u1 :: u2 :: u3 :: u4 :: u5 :: u6 :: u7 :: (.pointer (some ⟨bb, 0, none⟩)) :: (.int .i64 T) :: u10 :: u11 :: (.pointer (some ⟨hb, 0, none⟩)) :: u13 :: u14 :: u15 :: u16 :: (.pointer (some ⟨r, 0, none⟩)) :: u18 :: (.pointer (some ⟨lb, 0, none⟩)) :: (.bool true) :: u21 :: u22 :: u23 :: u24 :: u25 :: u26 :: u27 :: u28 :: u29 :: u30 :: u31 :: u32 :: u33 :: u34 :: u35 :: u36 :: u37 :: u38 :: u39 :: u40 :: u41 :: u42 :: u43 :: u44 :: u45 :: u46 :: u47 :: u48 :: u49 :: u50 :: u51 :: u52 :: u53 :: u54 :: u55 :: u56 :: u57 :: u58 :: u59 :: u60 :: u61 :: u62 :: u63 :: u64 :: u65 :: u66 :: u67 :: u68 :: u69 :: u70 :: u71 :: u72 :: u73 :: u74 :: u75 :: u76 :: u77 :: u78 :: u79 :: u80 :: u81 :: u82 :: u83 :: u84 :: u85 :: u86 :: u87 :: u88 :: u89 :: u90 :: u91 :: u92 :: u93 :: u94 :: u95 :: u96 :: u97 :: u98 :: u99 :: u100 :: u101 :: u102 :: u103 :: u104 :: u105 :: u106 :: u107 :: u108 :: u109 :: u110 :: u111 :: u112 :: u113 :: u114 :: u115 :: u116 :: u117 :: u118 :: u119 :: u120 :: u121 :: u122 :: u123 :: u124 :: u125 :: u126 :: u127 :: u128 :: u129 :: u130 :: u131 :: u132 :: u133 :: u134 :: u135 :: u136 :: u137 :: u138 :: u139 :: u140 :: u141 :: u142 :: u143 :: u144 :: u145 :: u146 :: u147 :: u148 :: u149 :: u150 :: u151 :: u152 :: u153 :: u154 :: u155 :: u156 :: u157 :: u158 :: u159 :: u160 :: u161 :: u162 :: u163 :: u164 :: u165 :: u166 :: u167 :: u168 :: u169 :: u170 :: u171 :: u172 :: u173 :: u174 :: u175 :: u176 :: u177 :: u178 :: u179 :: u180 :: u181 :: u182 :: u183 :: u184 :: u185 :: u186 :: u187 :: u188 :: u189 :: u190 :: u191 :: u192 :: u193 :: u194 :: u195 :: u196 :: u197 :: u198 :: u199 :: u200 :: u201 :: u202 :: u203 :: u204 :: u205 :: u206 :: u207 :: u208 :: u209 :: u210 :: u211 :: u212 :: u213 :: u214 :: u215 :: u216 :: u217 :: u218 :: u219 :: u220 :: u221 :: u222 :: u223 :: u224 :: u225 :: u226 :: u227 :: u228 :: u229 :: u230 :: u231 :: u232 :: u233 :: u234 :: u235 :: u236 :: u237 :: u238 :: u239 :: u240 :: u241 :: u242 :: u243 :: u244 :: u245 :: []), []⟩ w8 := by
  have HQ := Lib.hid HQ
  unfold ops47
  refine wp_region_held_drew (S := (fun w' => S47 w8 w' lb hb bb q HL HL HB)) (by kernel_rfl) SA (fun hH0 => ?_)
  refine wpAnyH_take (i := 0) (oi := ⟨some 199, .move (.tmp 20), 4, "outright.go:77", #[], none⟩) (v := ?_) rfl (by kernel_rfl) (by kernel_rfl) (by kernel_rfl) (fun _ _ _ h => HP _ _ _ _ _ h) (Or.inl ⟨by rfl, fun w hSw => ?_⟩) hH0 ?_
  rotate_left 1
  · (try simp only [S47] at hSw); go_simp; (try with_reducible rfl)
  try simp only [Act.put, List.setIfInBounds_toArray, List.set_cons_zero, List.set_cons_succ]
  refine wpAnyH_take (i := 1) (oi := ⟨some 200, .move (.tmp 17), 26, "outright.go:77", #[], none⟩) (v := ?_) rfl (by kernel_rfl) (by kernel_rfl) (by kernel_rfl) (fun _ _ _ h => HP _ _ _ _ _ h) (Or.inl ⟨by rfl, fun w hSw => ?_⟩) hH0 ?_
  rotate_left 1
  · (try simp only [S47] at hSw); go_simp; (try with_reducible rfl)
  try simp only [Act.put, List.setIfInBounds_toArray, List.set_cons_zero, List.set_cons_succ]
  refine wpAnyH_ready (rs := [2]) (by kernel_rfl) (by simp) ?_
  refine AllReadyH.cons (o := ⟨some 201, .call { callee := .value (.func 7), args := #[.tmp 200], argTypes := #[26] }, 3, "outright.go:77", #[⟨1, .data⟩], none⟩) rfl (fun K hK => ?_) AllReadyH.nil
  go_simp
  refine (HUS.out _ hH0.2.2.2).mono ?_
  rintro e w' ⟨rfl, rfl⟩
  refine hK.out _ _ (hH0) (fun hH1 => ?_)
  clear hK K
  try simp only [Act.put, List.setIfInBounds_toArray, List.set_cons_zero, List.set_cons_succ]
  refine wpAnyH_take (i := 3) (oi := ⟨some 202, .binOp .gtr 3 (.tmp 201) (.const (.int .i64 0)) 3, 4, "outright.go:77", #[⟨2, .data⟩], none⟩) (v := ?_) rfl (by kernel_rfl) (by kernel_rfl) (by kernel_rfl) (fun _ _ _ h => HP _ _ _ _ _ h) (Or.inl ⟨by rfl, fun w hSw => ?_⟩) hH1 ?_
  rotate_left 1
  · (try simp only [S47] at hSw); go_simp; (try with_reducible rfl)
  try simp only [Act.put, List.setIfInBounds_toArray, List.set_cons_zero, List.set_cons_succ]
  refine wpAnyH_take (i := 4) (oi := ⟨some 203, .binOp .neq 4 (.tmp 199) (.tmp 202) 4, 4, "outright.go:77", #[⟨0, .data⟩, ⟨3, .data⟩], none⟩) (v := ?_) rfl (by kernel_rfl) (by kernel_rfl) (by kernel_rfl) (fun _ _ _ h => HP _ _ _ _ _ h) (Or.inl ⟨by rfl, fun w hSw => ?_⟩) hH1 ?_
  rotate_left 1
  · (try simp only [S47] at hSw); go_simp; (try with_reducible rfl)
  try simp only [Act.put, List.setIfInBounds_toArray, List.set_cons_zero, List.set_cons_succ]
  refine wpAnyH_take (i := 5) (oi := ⟨some 204, .move (.tmp 203), 4, "outright.go:77", #[⟨4, .data⟩, ⟨2, .chain⟩], none⟩) (v := ?_) rfl (by kernel_rfl) (by kernel_rfl) (by kernel_rfl) (fun _ _ _ h => HP _ _ _ _ _ h) (Or.inl ⟨by rfl, fun w hSw => ?_⟩) hH1 ?_
  rotate_left 1
  · (try simp only [S47] at hSw); go_simp; (try with_reducible rfl)
  try simp only [Act.put, List.setIfInBounds_toArray, List.set_cons_zero, List.set_cons_succ]
  refine wpAnyH_take (i := 6) (oi := ⟨some 205, .move (.tmp 20), 4, "outright.go:77", #[⟨5, .guard⟩], some (5, false)⟩) (v := ?_) rfl (by kernel_rfl) (by kernel_rfl) (by kernel_rfl) (fun _ _ _ h => HP _ _ _ _ _ h) (Or.inl ⟨by rfl, fun w hSw => ?_⟩) hH1 ?_
  rotate_left 1
  · (try simp only [S47] at hSw); go_simp; (try with_reducible rfl)
  try simp only [Act.put, List.setIfInBounds_toArray, List.set_cons_zero, List.set_cons_succ]
  refine wpAnyH_take (i := 7) (oi := ⟨some 206, .move (.tmp 205), 4, "outright.go:77", #[⟨6, .data⟩, ⟨5, .chain⟩, ⟨5, .guard⟩], some (5, false)⟩) (v := ?_) rfl (by kernel_rfl) (by kernel_rfl) (by kernel_rfl) (fun _ _ _ h => HP _ _ _ _ _ h) (Or.inl ⟨by rfl, fun w hSw => ?_⟩) hH1 ?_
  rotate_left 1
  · (try simp only [S47] at hSw); go_simp; (try with_reducible rfl)
  try simp only [Act.put, List.setIfInBounds_toArray, List.set_cons_zero, List.set_cons_succ]
  refine wpAnyH_take (i := 8) (oi := ⟨some 207, .move (.tmp 17), 26, "outright.go:77", #[⟨7, .guard⟩], some (7, true)⟩) (v := ?_) rfl (by kernel_rfl) (by kernel_rfl) (by kernel_rfl) (fun _ _ _ h => HP _ _ _ _ _ h) (Or.inl ⟨by rfl, fun w hSw => ?_⟩) hH1 ?_
  rotate_left 1
  · (try simp only [S47] at hSw); go_simp; (try with_reducible rfl)
  try simp only [Act.put, List.setIfInBounds_toArray, List.set_cons_zero, List.set_cons_succ]
  refine wpAnyH_take (i := 10) (oi := ⟨some 209, .move (.tmp 9), 3, "outright.go:77", #[⟨7, .guard⟩], some (7, true)⟩) (v := ?_) rfl (by kernel_rfl) (by kernel_rfl) (by kernel_rfl) (fun _ _ _ h => HP _ _ _ _ _ h) (Or.inl ⟨by rfl, fun w hSw => ?_⟩) hH1 ?_
  rotate_left 1
  · (try simp only [S47] at hSw); go_simp; (try with_reducible rfl)
  try simp only [Act.put, List.setIfInBounds_toArray, List.set_cons_zero, List.set_cons_succ]
  refine wpAnyH_ready (rs := [9]) (by kernel_rfl) (by simp) ?_
  refine AllReadyH.cons (o := ⟨some 208, .call { callee := .value (.func 7), args := #[.tmp 207], argTypes := #[26] }, 3, "outright.go:77", #[⟨8, .data⟩, ⟨7, .chain⟩, ⟨7, .guard⟩], some (7, true)⟩) rfl (fun K hK => ?_) AllReadyH.nil
  go_simp
  refine (HUS.out _ hH1.2.2.2).mono ?_
  rintro e w' ⟨rfl, rfl⟩
  refine hK.out _ _ (hH1) (fun hH2 => ?_)
  clear hK K
  try simp only [Act.put, List.setIfInBounds_toArray, List.set_cons_zero, List.set_cons_succ]
  refine wpAnyH_take (i := 11) (oi := ⟨some 210, .binOp .eql 3 (.tmp 208) (.tmp 209) 3, 4, "outright.go:77", #[⟨9, .data⟩, ⟨10, .data⟩, ⟨7, .guard⟩], some (7, true)⟩) (v := ?_) rfl (by kernel_rfl) (by kernel_rfl) (by kernel_rfl) (fun _ _ _ h => HP _ _ _ _ _ h) (Or.inl ⟨by rfl, fun w hSw => ?_⟩) hH2 ?_
  rotate_left 1
  · (try simp only [S47] at hSw); go_simp; (try with_reducible rfl)
  try simp only [Act.put, List.setIfInBounds_toArray, List.set_cons_zero, List.set_cons_succ]
  refine wpAnyH_take (i := 12) (oi := ⟨some 211, .pick (.tmp 206) (.tmp 210) (.const (.bool false)), 4, "outright.go:77", #[⟨7, .data⟩, ⟨11, .data⟩, ⟨5, .guard⟩], some (5, false)⟩) (v := ?_) rfl (by kernel_rfl) (by kernel_rfl) (by kernel_rfl) (fun _ _ _ h => HP _ _ _ _ _ h) (Or.inl ⟨by rfl, fun w hSw => ?_⟩) hH2 ?_
  rotate_left 1
  · (try simp only [S47] at hSw); go_simp; (try with_reducible rfl)
  try simp only [Act.put, List.setIfInBounds_toArray, List.set_cons_zero, List.set_cons_succ]
  refine wpAnyH_take (i := 13) (oi := ⟨some 212, .move (.tmp 211), 4, "outright.go:77", #[⟨12, .data⟩, ⟨9, .chain⟩, ⟨5, .guard⟩], some (5, false)⟩) (v := ?_) rfl (by kernel_rfl) (by kernel_rfl) (by kernel_rfl) (fun _ _ _ h => HP _ _ _ _ _ h) (Or.inl ⟨by rfl, fun w hSw => ?_⟩) hH2 ?_
  rotate_left 1
  · (try simp only [S47] at hSw); go_simp; (try with_reducible rfl)
  try simp only [Act.put, List.setIfInBounds_toArray, List.set_cons_zero, List.set_cons_succ]
  refine wpAnyH_take (i := 14) (oi := ⟨some 213, .load 25 (.tmp 19), 25, "outright.go:77", #[⟨13, .guard⟩], some (13, true)⟩) (v := undef) rfl (by kernel_rfl) (by kernel_rfl) (by kernel_rfl) (fun _ _ _ h => HP _ _ _ _ _ h) (Or.inr ⟨by rfl, rfl⟩) hH2 ?_
  try simp only [Act.put, List.setIfInBounds_toArray, List.set_cons_zero, List.set_cons_succ]
  refine wpAnyH_take (i := 15) (oi := ⟨some 214, .move (.tmp 9), 3, "outright.go:77", #[⟨13, .guard⟩], some (13, true)⟩) (v := undef) rfl (by kernel_rfl) (by kernel_rfl) (by kernel_rfl) (fun _ _ _ h => HP _ _ _ _ _ h) (Or.inr ⟨by rfl, rfl⟩) hH2 ?_
  try simp only [Act.put, List.setIfInBounds_toArray, List.set_cons_zero, List.set_cons_succ]
  refine wpAnyH_take (i := 16) (oi := ⟨some 215, .binOp .sub 3 (.tmp 214) (.const (.int .i64 1)) 3, 3, "outright.go:77", #[⟨15, .data⟩, ⟨13, .guard⟩], some (13, true)⟩) (v := undef) rfl (by kernel_rfl) (by kernel_rfl) (by kernel_rfl) (fun _ _ _ h => HP _ _ _ _ _ h) (Or.inr ⟨by rfl, rfl⟩) hH2 ?_
  try simp only [Act.put, List.setIfInBounds_toArray, List.set_cons_zero, List.set_cons_succ]
  refine wpAnyH_take (i := 17) (oi := ⟨some 216, .indexAddr 57 (.tmp 8) (.tmp 215), 0, "outright.go:77", #[⟨16, .data⟩, ⟨13, .guard⟩], some (13, true)⟩) (v := undef) rfl (by kernel_rfl) (by kernel_rfl) (by kernel_rfl) (fun _ _ _ h => HP _ _ _ _ _ h) (Or.inr ⟨by rfl, rfl⟩) hH2 ?_
  try simp only [Act.put, List.setIfInBounds_toArray, List.set_cons_zero, List.set_cons_succ]
  refine wpAnyH_take (i := 18) (oi := ⟨some 217, .load 25 (.tmp 216), 25, "outright.go:77", #[⟨17, .data⟩, ⟨13, .guard⟩], some (13, true)⟩) (v := undef) rfl (by kernel_rfl) (by kernel_rfl) (by kernel_rfl) (fun _ _ _ h => HP _ _ _ _ _ h) (Or.inr ⟨by rfl, rfl⟩) hH2 ?_
  try simp only [Act.put, List.setIfInBounds_toArray, List.set_cons_zero, List.set_cons_succ]
  refine wpAnyH_take (i := 19) (oi := ⟨some 218, .binOp .neq 25 (.tmp 213) (.tmp 217) 25, 4, "outright.go:77", #[⟨14, .data⟩, ⟨18, .data⟩, ⟨13, .guard⟩], some (13, true)⟩) (v := undef) rfl (by kernel_rfl) (by kernel_rfl) (by kernel_rfl) (fun _ _ _ h => HP _ _ _ _ _ h) (Or.inr ⟨by rfl, rfl⟩) hH2 ?_
  try simp only [Act.put, List.setIfInBounds_toArray, List.set_cons_zero, List.set_cons_succ]
  refine wpAnyH_take (i := 20) (oi := ⟨some 219, .pick (.tmp 212) (.tmp 218) (.const (.bool false)), 4, "outright.go:77", #[⟨13, .data⟩, ⟨19, .data⟩, ⟨5, .guard⟩], some (5, false)⟩) (v := ?_) rfl (by kernel_rfl) (by kernel_rfl) (by kernel_rfl) (fun _ _ _ h => HP _ _ _ _ _ h) (Or.inl ⟨by rfl, fun w hSw => ?_⟩) hH2 ?_
  rotate_left 1
  · (try simp only [S47] at hSw); go_simp; (try with_reducible rfl)
  try simp only [Act.put, List.setIfInBounds_toArray, List.set_cons_zero, List.set_cons_succ]
  refine wpAnyH_take (i := 21) (oi := ⟨some 220, .pick (.tmp 204) (.const (.bool true)) (.tmp 219), 4, "outright.go:77", #[⟨5, .data⟩, ⟨20, .data⟩], none⟩) (v := ?_) rfl (by kernel_rfl) (by kernel_rfl) (by kernel_rfl) (fun _ _ _ h => HP _ _ _ _ _ h) (Or.inl ⟨by rfl, fun w hSw => ?_⟩) hH2 ?_
  rotate_left 1
  · (try simp only [S47] at hSw); go_simp; (try with_reducible rfl)
  try simp only [Act.put, List.setIfInBounds_toArray, List.set_cons_zero, List.set_cons_succ]
  refine wpAnyH_take (i := 22) (oi := ⟨some 221, .move (.tmp 220), 4, "outright.go:77", #[⟨21, .data⟩, ⟨13, .chain⟩], none⟩) (v := ?_) rfl (by kernel_rfl) (by kernel_rfl) (by kernel_rfl) (fun _ _ _ h => HP _ _ _ _ _ h) (Or.inl ⟨by rfl, fun w hSw => ?_⟩) hH2 ?_
  rotate_left 1
  · (try simp only [S47] at hSw); go_simp; (try with_reducible rfl)
  try simp only [Act.put, List.setIfInBounds_toArray, List.set_cons_zero, List.set_cons_succ]
  refine wpAnyH_take (i := 23) (oi := ⟨some 222, .move (.tmp 17), 26, "outright.go:77", #[⟨22, .guard⟩], some (22, false)⟩) (v := ?_) rfl (by kernel_rfl) (by kernel_rfl) (by kernel_rfl) (fun _ _ _ h => HP _ _ _ _ _ h) (Or.inl ⟨by rfl, fun w hSw => ?_⟩) hH2 ?_
  rotate_left 1
  · (try simp only [S47] at hSw); go_simp; (try with_reducible rfl)
  try simp only [Act.put, List.setIfInBounds_toArray, List.set_cons_zero, List.set_cons_succ]
  refine wpAnyH_take (i := 25) (oi := ⟨some 224, .move (.tmp 9), 3, "outright.go:77", #[⟨22, .guard⟩], some (22, false)⟩) (v := ?_) rfl (by kernel_rfl) (by kernel_rfl) (by kernel_rfl) (fun _ _ _ h => HP _ _ _ _ _ h) (Or.inl ⟨by rfl, fun w hSw => ?_⟩) hH2 ?_
  rotate_left 1
  · (try simp only [S47] at hSw); go_simp; (try with_reducible rfl)
  try simp only [Act.put, List.setIfInBounds_toArray, List.set_cons_zero, List.set_cons_succ]
  refine wpAnyH_ready (rs := [24]) (by kernel_rfl) (by simp) ?_
  refine AllReadyH.cons (o := ⟨some 223, .call { callee := .value (.func 7), args := #[.tmp 222], argTypes := #[26] }, 3, "outright.go:77", #[⟨23, .data⟩, ⟨22, .chain⟩, ⟨22, .guard⟩], some (22, false)⟩) rfl (fun K hK => ?_) AllReadyH.nil
  go_simp
  refine (HUS.out _ hH2.2.2.2).mono ?_
  rintro e w' ⟨rfl, rfl⟩
  refine hK.out _ _ (hH2) (fun hH3 => ?_)
  clear hK K
  try simp only [Act.put, List.setIfInBounds_toArray, List.set_cons_zero, List.set_cons_succ]
  refine wpAnyH_take (i := 26) (oi := ⟨some 225, .binOp .gtr 3 (.tmp 223) (.tmp 224) 3, 4, "outright.go:77", #[⟨24, .data⟩, ⟨25, .data⟩, ⟨22, .guard⟩], some (22, false)⟩) (v := ?_) rfl (by kernel_rfl) (by kernel_rfl) (by kernel_rfl) (fun _ _ _ h => HP _ _ _ _ _ h) (Or.inl ⟨by rfl, fun w hSw => ?_⟩) hH3 ?_
  rotate_left 1
  · (try simp only [S47] at hSw); go_simp; (try with_reducible rfl)
  try simp only [Act.put, List.setIfInBounds_toArray, List.set_cons_zero, List.set_cons_succ]
  refine wpAnyH_take (i := 27) (oi := ⟨some 226, .move (.tmp 225), 4, "outright.go:77", #[⟨26, .data⟩, ⟨24, .chain⟩, ⟨22, .guard⟩], some (22, false)⟩) (v := ?_) rfl (by kernel_rfl) (by kernel_rfl) (by kernel_rfl) (fun _ _ _ h => HP _ _ _ _ _ h) (Or.inl ⟨by rfl, fun w hSw => ?_⟩) hH3 ?_
  rotate_left 1
  · (try simp only [S47] at hSw); go_simp; (try with_reducible rfl)
  try simp only [Act.put, List.setIfInBounds_toArray, List.set_cons_zero, List.set_cons_succ]
  refine wpAnyH_take (i := 28) (oi := ⟨some 227, .load 25 (.tmp 19), 25, "outright.go:77", #[⟨27, .guard⟩], some (27, true)⟩) (v := .agg (HL).toArray) rfl (by kernel_rfl) (by kernel_rfl) (by kernel_rfl) (fun _ _ _ h => HP _ _ _ _ _ h) (yieldsIf_load_mid (by rfl) _ _ rfl (lb) (0) rfl (HL) _ (fun w q => q.1) Tryd.underlying25 rfl HIl.out) hH3 ?_
  try simp only [Act.put, List.setIfInBounds_toArray, List.set_cons_zero, List.set_cons_succ]
  refine wpAnyH_take (i := 29) (oi := ⟨some 228, .load 25 (.tmp 12), 25, "outright.go:77", #[⟨27, .guard⟩], some (27, true)⟩) (v := .agg (HL).toArray) rfl (by kernel_rfl) (by kernel_rfl) (by kernel_rfl) (fun _ _ _ h => HP _ _ _ _ _ h) (yieldsIf_load_mid (by rfl) _ _ rfl (hb) (0) rfl (HL) _ (fun w q => q.2.1) Tryd.underlying25 rfl HIl.out) hH3 ?_
  try simp only [Act.put, List.setIfInBounds_toArray, List.set_cons_zero, List.set_cons_succ]
  refine wpAnyH_take (i := 30) (oi := ⟨some 229, .binOp .neq 25 (.tmp 227) (.tmp 228) 25, 4, "outright.go:77", #[⟨28, .data⟩, ⟨29, .data⟩, ⟨27, .guard⟩], some (27, true)⟩) (v := ?_) rfl (by kernel_rfl) (by kernel_rfl) (by kernel_rfl) (fun _ _ _ h => HP _ _ _ _ _ h) (Or.inl ⟨by rfl, fun w hSw => ?_⟩) hH3 ?_
  rotate_left 1
  · (try simp only [S47] at hSw); go_simp; (try with_reducible rfl)
  try simp only [Act.put, List.setIfInBounds_toArray, List.set_cons_zero, List.set_cons_succ]
  refine wpAnyH_take (i := 31) (oi := ⟨some 230, .pick (.tmp 226) (.tmp 229) (.const (.bool false)), 4, "outright.go:77", #[⟨27, .data⟩, ⟨30, .data⟩, ⟨22, .guard⟩], some (22, false)⟩) (v := ?_) rfl (by kernel_rfl) (by kernel_rfl) (by kernel_rfl) (fun _ _ _ h => HP _ _ _ _ _ h) (Or.inl ⟨by rfl, fun w hSw => ?_⟩) hH3 ?_
  rotate_left 1
  · (try simp only [S47] at hSw); go_simp; (try with_reducible rfl)
  try simp only [Act.put, List.setIfInBounds_toArray, List.set_cons_zero, List.set_cons_succ]
  refine wpAnyH_take (i := 32) (oi := ⟨some 231, .pick (.tmp 221) (.const (.bool true)) (.tmp 230), 4, "outright.go:77", #[⟨22, .data⟩, ⟨31, .data⟩], none⟩) (v := ?_) rfl (by kernel_rfl) (by kernel_rfl) (by kernel_rfl) (fun _ _ _ h => HP _ _ _ _ _ h) (Or.inl ⟨by rfl, fun w hSw => ?_⟩) hH3 ?_
  rotate_left 1
  · (try simp only [S47] at hSw); go_simp; (try with_reducible rfl)
  try simp only [Act.put, List.setIfInBounds_toArray, List.set_cons_zero, List.set_cons_succ]
  refine wpAnyH_done (by kernel_rfl) ?_ _
  exact HQ.out _ _ _ _ _ _ _ _ _ _ _ _ _ _ _ _ _ _ _ _ _ _ _ _ _ _ _ _ _ _ _ _ _ hH3
end Go.Proofs.YtaimokclhcfohaaDoor
