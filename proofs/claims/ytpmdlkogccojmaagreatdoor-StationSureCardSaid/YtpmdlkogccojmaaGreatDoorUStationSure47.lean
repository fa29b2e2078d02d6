/- SuS2 SuS3 SuS -/
import Derived.Test.YtpmdlkogccojmaaGreatDoorUStationSure46
import Derived.Test.YtpmdlkogccojmaaGreatDoorUStationSure44
set_option linter.unusedVariables false
set_option linter.unusedSimpArgs false
set_option maxRecDepth 100000
set_option maxHeartbeats 16000000
namespace Go.Proofs.YtpmdlkogccojmaaGreatDoor
open Go.RowKit
section
variable {w0 w w' W : World} {d s r g kb bb xb sb sc : Nat} {M M' : DiskM} {Os P : List Ob} {R : RingM} {G : SegM} {Sr Sg : Nat → Prop} {lv v8 v12 : Value} {sd : ByteArray} {L : List Hd} {E : List By} {p : By} {st : Int} {fl : Bool} {X i : Nat} {C XC Y : List Value} {b : List Hd} {sa : Option Addr}
theorem sus_put (h : Ows w0 w d M Os) (hY : Y.length = 36) (hW : (w.alloc (.cells signed0C.toArray 51)).setCells w.heap.size 0 Y = W) : Ows w0 W d M (.blk w.heap.size Y 51::Os):=by
 rw [← hW]
 exact ((h.new signed0C 51).whole (vs:=Y) (by rw [hY, signed0_len])).2
theorem sus_told {y : Hd} {m : Nat} {H : List Value} (h : Ows w0 w d M (staO s r g lv R G Sr Sg (P ++ keepO kb bb C b))) (h32 : ∀ x ∈ b, x.2.length = 32) (hy : y.2.length = 32) (h8 : b.length = 8) (hm : m < 8) (hH : H = headC (y.1 : Int) y.2) :
  w.there bb (m * 33) H.toArray.size∧∀ W, w.setCells bb (m * 33) H = W → Ows w0 W d M (staO s r g lv R G Sr Sg (P ++ keepO kb bb C (b.set m y))):=by
 have e : ∀ b', staO s r g lv R G Sr Sg (P ++ keepO kb bb C b') = ([.blk s (staC r g lv) 66, .ring r R Sr, .seg g G Sg] ++ P ++ [.blk kb C 24]) ++ .blk bb (hdC b') 72::[]:=fun b'=>by simp
 rw [e] at h
 have h1:=h.mv
 obtain ⟨h2, h3⟩:=h1.put (vs:=H) (m * 33) (by rw [hdC_len h32, h8, hH, headC_len hy]; omega)
 refine ⟨h2, fun W hW=>?_⟩
 rw [hW, hH, hdC_set h32 hy (by omega)] at h3
 rw [e]
 exact h3.mv'
theorem su_up (hq : StaW w0 w d s sd L E st fl X (.row v8 E::.blk xb XC 74::keepO kb bb C b)) (hX : X ≤ 212 * (i + 1)) (hl : LogOk b L E (i + 1)) : SuQ w0 w d s kb bb xb sd C XC i st v8 E.length v8 E.length :=
 ⟨L, E, E, b, [.row v8 E], rfl, rfl, by simp, by simp, hl.len, hl.len, Or.inl ⟨fl, hl, hq.sub (List.Sublist.refl _) hX⟩⟩
theorem su_dn (hq : DnW w0 w d L E st X (.row v8 E::.blk xb XC 74::keepO kb bb C b)) (hX : X ≤ 212 * (i + 1)) (hl : LogOk b L E (i + 1)) : SuQ w0 w d s kb bb xb sd C XC i st v8 E.length v8 E.length:=by
 obtain ⟨M, h1, h2⟩:=hq
 exact ⟨L, E, E, b, [.row v8 E], rfl, rfl, by simp, by simp, hl.len, hl.len, Or.inr ⟨E, Or.inl rfl, hl, M, h1.more hX, h2⟩⟩
theorem su_app1 (hM : UpS 20000 L (E ++ [p]) st fl X M') (h : Ows w0 w d M' (staO s r g lv ⟨sd, L, st, false⟩ ⟨E ++ [p], st, false⟩ Sr Sg (.row v12 (E ++ [p])::.row v8 E::.blk xb XC 74::keepO kb bb C b))) (hX : X ≤ 212 * (i + 1)) (hl : LogOk b L E i) : SuQ w0 w d s kb bb xb sd C XC i st v12 (E.length + 1) v12 (E.length + 1):=by
 have hl2:=hl.entry (p:=p) (Or.inr rfl)
 have e : E.length + 1 = (E ++ [p]).length:=by simp
 rw [e]
 exact su_up ⟨r, g, lv, Sr, Sg, M', hM, h.sub (((((List.sublist_cons_self _ _).cons_cons _).cons_cons _).cons_cons _).cons_cons _)⟩ hX hl2
theorem su_app2 (hM : UpS 20000 L E st fl X M') (h : Ows w0 w d M' (staO s r g lv ⟨sd, L, st, false⟩ ⟨E, st, false⟩ Sr Sg (.row v12 (E ++ [p])::.row v8 E::.blk xb XC 74::keepO kb bb C b))) (hX : X ≤ 212 * (i + 1)) (hl : LogOk b L E i) : SuQ w0 w d s kb bb xb sd C XC i st v8 E.length v12 (E.length + 1) :=
 ⟨L, E, E ++ [p], b, [.row v12 (E ++ [p]), .row v8 E], rfl, by simp, by simp, by simp, by have:=hl.len; omega, by have:=hl.len; simp; omega, Or.inl ⟨fl, hl.up (by omega), r, g, lv, Sr, Sg, M', hM.more hX, h⟩⟩
theorem su_app3 {E' : List By} (hE : E' = E ∨ E' = E ++ [p]) (hM : DnS 20000 L E' st X M') (h : Ows w0 w d M' (staO s r g lv R G Sr Sg (.row v12 (E ++ [p])::.row v8 E::.blk xb XC 74::keepO kb bb C b))) (hX : X ≤ 212 * (i + 1)) (hl : LogOk b L E i) : SuQ w0 w d s kb bb xb sd C XC i st v8 E.length v12 (E.length + 1) :=
 ⟨L, E, E ++ [p], b, [.row v12 (E ++ [p]), .row v8 E], rfl, by simp, by simp, by simp, by have:=hl.len; omega, by have:=hl.len; simp; omega, Or.inr ⟨E', hE, hl.entry hE, M', hM.more hX, h.drop.drop.drop⟩⟩
theorem sus_also {a2 : Option Addr} {c2 : Nat} (h : Ows w0 w d M (staO s r g lv R G Sr Sg Os)) (hr : Row w' 9 1 (.slice a2 (E.length + 1) c2) (strV (E ++ [p]))∧Kept (fun _=>False) w w'∧∀ k, (Value.slice a2 (E.length + 1) c2).ownBlock = some k → w.heap.size ≤ k) : Ows w0 w' d M (staO s r g lv R G Sr Sg (.row (.slice a2 (E.length + 1) c2) (E ++ [p])::Os)) :=
 Ows.mv' (A:=[.blk s (staC r g lv) 66, .ring r R Sr, .seg g G Sg]) (h.add (x:=.row (.slice a2 (E.length + 1) c2) (E ++ [p])) hr.2.1 hr.1 hr.2.2)
theorem su_and7 (x : Int) : ∃ q : Int, bits .and .i64 x 7 = q∧wrap64 q = q∧(0 ≤ q∧q ≤ 9223372036854775807):=⟨x % 8, i64_mask 3 (by decide) x, IntWalk.wrap64_in _ (by omega), by omega⟩
theorem su_and3 (x : Int) : ∃ q : Int, bits .and .i64 x 3 = q∧wrap64 q = q∧(0 ≤ q∧q ≤ 9223372036854775807):=⟨x % 4, i64_mask 2 (by decide) x, IntWalk.wrap64_in _ (by omega), by omega⟩
def PubQ (w0 w : World) (d s kb bb xb : Nat) (sd : ByteArray) (C XC : List Value) (i : Nat) (st : Int) (v8 : Value) (E : List By) (b : List Hd) (e : Ending) (w' : World) : Prop :=
  ∃ x, x ≠ 0 ∧ e = .returned (.tuple #[.agg signed0C.toArray, .int .i64 x]) ∧
    ((∃ L fl, LogOk b L E (i + 1) ∧ StaW w0 w' d s sd L E st fl (212 * (i + 1)) (.row v8 E :: .blk xb XC 74 :: keepO kb bb C b)) ∨
     (∃ L, LogOk b L E (i + 1) ∧ DnW w0 w' d L E st (212 * (i + 1)) (.row v8 E :: .blk xb XC 74 :: keepO kb bb C b)))
theorem su_pub (hq : StaW w0 w d s sd L E st fl (212 * i) (.row v8 E::.blk xb XC 74::keepO kb bb C b)) (hl : LogOk b L E i) (hi : i ≤ 20) :
  Calls Tryz.prog 13 #[.pointer (some ⟨s, 0, none⟩)] w (PubQ w0 w d s kb bb xb sd C XC i st v8 E b) ∨
  ∃ r g Sg m L', m < 8∧0 < E.length∧E.length ≤ 4096∧L'[m]? = some (E.length, rootE E)∧LogOk b L' E (i + 1) ∧
   Calls Tryz.prog 13 #[.pointer (some ⟨s, 0, none⟩)] w fun e w'=>∃ M', UpS 20000 L' E st fl (212 * i) M'∧PubYes w0 d s r g ⟨E, st, false⟩ Sg (.row v8 E::.blk xb XC 74::keepO kb bb C b) E.length (rootE E) m ⟨sd, L', st, false⟩ M' e w':=by
 obtain ⟨r, g, lv, Sr, Sg, M, hM, h⟩:=hq
 by_cases hE : E = []
 ·refine Or.inl ((publish_empty h hE).mono fun e w' q=>?_)
  exact ⟨4, by decide, q.1, Or.inl ⟨L, fl, hl.up (by omega), r, g, lv, Sr, Sg, M, hM.more (by omega), q.2⟩⟩
 ·have hne : 0 < E.length:=List.length_pos_iff.2 hE
  rcases publish_cases h hM hne hl.rises hl.few (by omega) with hc | ⟨m, L', m8, hlen, hm, hr, hLL, hc⟩
  ·refine Or.inl (hc.mono fun e w' q=>?_)
   obtain ⟨x, hx, he, ⟨M', h1, h2⟩ | ⟨_, L', M', hLL, hr, h8, h1, h2⟩⟩:=q
   ·exact ⟨x, hx, he, Or.inl ⟨L, fl, hl.up (by omega), r, g, lv, Sr, Sg, M', h1.more (by omega), h2⟩⟩
   ·exact ⟨x, hx, he, Or.inr ⟨L', hl.sign hLL hr h8, M', h1.more (by omega), h2⟩⟩
  ·exact Or.inr ⟨r, g, Sg, m, L', m8, hne, hM.up.2.2.2.1, hm, hl.sign (hLL.imp id And.left) hr (by omega), hc⟩
end
theorem nums28 {m : Nat} (h : m < 8) : decide ((m : Int) < 0) = false∧decide ((8 : Int) ≤ (m : Int)) = false∧(m : Int) < 8∧IntKind.i64.wrap (m : Int) = (m : Int)∧wrap64 (m : Int) = (m : Int):=⟨by simp, by simp; omega, by omega, IntWalk.i64_in _ (by omega), IntWalk.wrap64_in _ (by omega)⟩
theorem nums28z {z : Nat} (h : 0 < z) : ((z : Int) == (z : Int)) = true∧((z : Int) != (z : Int)) = false∧((z : Int) != 0) = true∧((z : Int) == 0) = false∧decide ((z : Int) = 0) = false:=⟨beq_self_eq_true _, by simp, by simp; omega, by simp; omega, decide_eq_false (by omega)⟩
theorem sus_act {w0 w : World} {d s kb bb xb sc i : Nat} {sa : Option Addr} {sd : ByteArray} {L b : List Hd} {E : List By} {p : By} {st k kk Nx Mx : Int} {fl : Bool} {C XC : List Value} {Q : Exit → Act → World → Prop} {g0 g1 g2 g4 g6 g10 g13 g14 g15 g16 g17 g18 g19 g20 g21 g22 g23 g24 g25 g26 g27 g28 g29 g30 g31 g32 g33 g34 g35 g36 g37 g38 g39 g40 g41 g42 g43 g44 g45 g46 g47 g48 g49 g50 g51 g52 g53 g54 g56 g57 g58 g59 g60 g61 g62 g63 g64 g65 g66 g67 g68 g69 g70 g71 g72 g73 g74 g75 g76 g77 g78 g79 g80 g81 g82 g83 g84 g85 g86 g87 g88 g89 g90 g91 g92 g93 g94 g95 g96 g97 g98 g99 g100 g101 g102 g103 g104 g105 g106 g107 g108 g109 g110 g111 g112 g113 g114 g115 g116 g117 g118 g119 g120 g121 g122 g123 g124 g125 g126 g127 g128 g129 g130 g131 g132 g133 g134 g135 g136 g137 g138 g139 g140 g141 g142 g143 g144 g145 g146 g147 g148 g149 g150 g151 g152 g153 g154 g155 g156 g157 g158 g159 g160 g161 g162 g163 g164 g165 g166 g167 g168 g169 g170 g171 g172 g173 g174 g175 g176 g177 g178 g179 g180 g181 g182 g183 g184 g185 g186 g187 g188 g189 g190 g191 g192 g193 g194 g195 g196 g197 g198 g199 g200 g201 g202 g203 g204 g205 g206 g207 g208 g209 g210 g211 g212 g213 g214 g215 g216 g217 g218 g219 g220 g221 g222 g223 g224 g225 g226 g227 g228 g229 g230 g231 g232 g233 g234 g235 g236 g237 g238 g239 g240 g241 g242 g243 g244 : Value} {code : Code} (hcode : codeBlock 2 (Tryz.f5.body.getD .skip) = some code) (HC : Hid (C = bytes8 (rootF (leavesF sd.data.toList))∧C.length = 32)) (hq : StaW w0 w d s sd L E st fl (212 * i) (.row (.slice sa E.length sc) E::.blk xb XC 74::keepO kb bb C b)) (hl : LogOk b L E i) (hi : i ≤ 14) (hX : XC = [.int .u8 k, .int .i64 Nx, .int .i64 Mx, .string ⟨p.toArray⟩]) (n0 : -9223372036854775808 ≤ Nx∧Nx ≤ 9223372036854775807) (m0 : -9223372036854775808 ≤ Mx∧Mx ≤ 9223372036854775807)
  (HP : ∀ c a (k : Nat) v w, Q (.panic c) (Act.put a (some k) v) w → Q (.panic c) a w) (HEND : ∀ (a8 : Option Addr) (m8 c8 : Nat) (a12 : Option Addr) (m12 c12 : Nat) (v2 v13 v14 v15 v56 v57 v58 v59 v60 v61 v62 v63 v64 v65 v66 v67 v68 v69 v70 v71 v72 v73 v74 v75 v76 v77 v78 v79 v80 v81 v82 v83 v84 v85 v86 v87 v88 v89 v90 v91 v92 v93 v94 v95 v96 v97 v98 v99 v100 v101 v102 v103 v104 v105 v106 v107 v108 v109 v110 v111 v112 v113 v114 v115 v116 v117 v118 v119 v120 v121 v122 v123 v124 v125 v126 v127 v128 v129 v130 v131 v132 v133 v134 v135 v136 v137 v138 v139 : Value) (w' : World), Hid (SuQ w0 w' d s kb bb xb sd C XC i st (.slice a8 m8 c8) m8 (.slice a12 m12 c12) m12) → Q .normal ⟨List.toArray (g0::g1::v2::(.pointer (some ⟨d, 0, none⟩))::g4::(.pointer (some ⟨s, 0, none⟩))::g6::(.pointer (some ⟨kb, 0, none⟩))::(.slice a8 m8 c8)::(.pointer (some ⟨bb, 0, none⟩))::g10::(.pointer (some ⟨xb, 0, none⟩))::(.slice a12 m12 c12)::v13::v14::v15::g16::g17::g18::g19::g20::g21::g22::g23::g24::g25::g26::g27::g28::g29::g30::g31::g32::g33::g34::g35::g36::g37::g38::g39::g40::g41::g42::g43::g44::g45::g46::g47::g48::g49::g50::g51::g52::g53::g54::(.int .u8 kk)::v56::v57::v58::v59::v60::v61::v62::v63::v64::v65::v66::v67::v68::v69::v70::v71::v72::v73::v74::v75::v76::v77::v78::v79::v80::v81::v82::v83::v84::v85::v86::v87::v88::v89::v90::v91::v92::v93::v94::v95::v96::v97::v98::v99::v100::v101::v102::v103::v104::v105::v106::v107::v108::v109::v110::v111::v112::v113::v114::v115::v116::v117::v118::v119::v120::v121::v122::v123::v124::v125::v126::v127::v128::v129::v130::v131::v132::v133::v134::v135::v136::v137::v138::v139::g140::g141::g142::g143::g144::g145::g146::g147::g148::g149::g150::g151::g152::g153::g154::g155::g156::g157::g158::g159::g160::g161::g162::g163::g164::g165::g166::g167::g168::g169::g170::g171::g172::g173::g174::g175::g176::g177::g178::g179::g180::g181::g182::g183::g184::g185::g186::g187::g188::g189::g190::g191::g192::g193::g194::g195::g196::g197::g198::g199::g200::g201::g202::g203::g204::g205::g206::g207::g208::g209::g210::g211::g212::g213::g214::g215::g216::g217::g218::g219::g220::g221::g222::g223::g224::g225::g226::g227::g228::g229::g230::g231::g232::g233::g234::g235::g236::g237::g238::g239::g240::g241::g242::g243::g244::[]), []⟩ w') :
  Code.wp Tryz.prog code Q ⟨List.toArray (g0::g1::g2::(.pointer (some ⟨d, 0, none⟩))::g4::(.pointer (some ⟨s, 0, none⟩))::g6::(.pointer (some ⟨kb, 0, none⟩))::(.slice sa E.length sc)::(.pointer (some ⟨bb, 0, none⟩))::g10::(.pointer (some ⟨xb, 0, none⟩))::(.slice sa E.length sc)::g13::g14::g15::g16::g17::g18::g19::g20::g21::g22::g23::g24::g25::g26::g27::g28::g29::g30::g31::g32::g33::g34::g35::g36::g37::g38::g39::g40::g41::g42::g43::g44::g45::g46::g47::g48::g49::g50::g51::g52::g53::g54::(.int .u8 kk)::g56::g57::g58::g59::g60::g61::g62::g63::g64::g65::g66::g67::g68::g69::g70::g71::g72::g73::g74::g75::g76::g77::g78::g79::g80::g81::g82::g83::g84::g85::g86::g87::g88::g89::g90::g91::g92::g93::g94::g95::g96::g97::g98::g99::g100::g101::g102::g103::g104::g105::g106::g107::g108::g109::g110::g111::g112::g113::g114::g115::g116::g117::g118::g119::g120::g121::g122::g123::g124::g125::g126::g127::g128::g129::g130::g131::g132::g133::g134::g135::g136::g137::g138::g139::g140::g141::g142::g143::g144::g145::g146::g147::g148::g149::g150::g151::g152::g153::g154::g155::g156::g157::g158::g159::g160::g161::g162::g163::g164::g165::g166::g167::g168::g169::g170::g171::g172::g173::g174::g175::g176::g177::g178::g179::g180::g181::g182::g183::g184::g185::g186::g187::g188::g189::g190::g191::g192::g193::g194::g195::g196::g197::g198::g199::g200::g201::g202::g203::g204::g205::g206::g207::g208::g209::g210::g211::g212::g213::g214::g215::g216::g217::g218::g219::g220::g221::g222::g223::g224::g225::g226::g227::g228::g229::g230::g231::g232::g233::g234::g235::g236::g237::g238::g239::g240::g241::g242::g243::g244::[]), []⟩ w:=by
 have HP:=Lib.hid HP
 have HEND:=Lib.hid HEND
 simp only [Tryz.f5, Option.getD_some, codeSeq, codeBlock, codeCond, Nat.reduceEqDiff, ↓reduceIte, Option.none_or, Option.or_none, Option.some_or, Option.some.injEq] at hcode
 subst hcode
 have HX:=Lib.hid hX
 have HQ:=Lib.hid hq
 have HL:=Lib.hid (And.intro hl hi)
 obtain ⟨r, g, lv, Sr, Sg, M, hM, h⟩:=hq
 have HW:=Lib.hid (And.intro hM h)
 have hb : Blk w xb XC 74:=h.has (x:=.blk xb XC 74) (by simp)
 have c1 : w.cell? ⟨xb, 1, none⟩ = some (.int .i64 Nx):=hb.cell (by rw [hX]; rfl)
 have c2 : w.cell? ⟨xb, 2, none⟩ = some (.int .i64 Mx):=hb.cell (by rw [hX]; rfl)
 have c3 : w.cell? ⟨xb, 3, none⟩ = some (.string ⟨p.toArray⟩):=hb.cell (by rw [hX]; rfl)
 clear hb hl hi hM h hX
 by_cases h3 : kk = 0 ∨ kk = 1 ∨ kk = 2 ∨ kk = 3
 ·clear c1 c2
  rcases h3 with rfl | rfl | rfl | rfl
  all_goals
   go_upto_region 20 with fail
   refine sus_reg20 (HW.out.2.has (x:=.row (.slice sa E.length sc) E) (by simp)) c3 (by have:=HL.out.1.len; have:=HL.out.2; omega) (fun _ _ _ _ _ h=>HP.out _ _ _ _ _ h) ?_
   intro a2 c2 w2
   intros
   rename_i HR2
   have h2:=sus_also HW.out.2 HR2.out
   have c3b : w2.cell? ⟨xb, 3, none⟩ = some (.string ⟨p.toArray⟩):=(show Blk w2 xb XC 74 from h2.has (x:=.blk xb XC 74) (by simp)).cell (by rw [HX.out]; rfl)
   have hup:=HW.out.1.up
   clear c3 HR2
   rcases HW.out.1.append h2.ok HL.out.1.rises HL.out.1.few p (by have:=HL.out.1.len; have:=HL.out.2; omega) (by have:=HL.out.2; omega) with ⟨_, M', he, hM'⟩ | ⟨_, he⟩ | ⟨_, E', M', he, hE', hM'⟩
   ·have HAP:=Lib.hid (station_append h2 p (by omega) he)
    have HM':=Lib.hid hM'
    clear h2 he hM' hup
    go_wp2_with (go_at_call 15; refine HAP.out.mono ?_; rintro e w3 ⟨rfl, Sg', h3⟩; have H3:=Lib.hid h3; clear h3)
    exact Lib.hid (su_app1 HM'.out H3.out (by omega) HL.out.1)
   ·have HAP:=Lib.hid (station_append h2 p (by omega) he)
    clear h2 he hup
    go_wp2_with (go_at_call 15; refine HAP.out.mono ?_; rintro e w3 ⟨rfl, Sg', h3⟩; have H3:=Lib.hid h3; clear h3)
    exact Lib.hid (su_app2 HW.out.1 H3.out (by omega) HL.out.1)
   ·have HAP:=Lib.hid (station_append h2 p (by omega) he)
    have HM':=Lib.hid (And.intro hE' hM')
    clear h2 he hM' hE' hup
    go_wp2_with (go_at_call 15; refine HAP.out.mono ?_; rintro e w3 ⟨rfl, Sg', h3⟩; have H3:=Lib.hid h3; clear h3)
    exact Lib.hid (su_app3 HM'.out.1 HM'.out.2 H3.out (by omega) HL.out.1)
 ·have f0 : (kk == 0) = false:=by simp; omega
  have f1 : (kk == 1) = false:=by simp; omega
  have f2 : (kk == 2) = false:=by simp; omega
  have f3 : (kk == 3) = false:=by simp; omega
  by_cases h5 : kk = 4 ∨ kk = 5
  ·clear c1 c2
   rcases h5 with rfl | rfl
   all_goals
    rcases su_pub HQ.out HL.out.1 (by have:=HL.out.2; omega) with hc | ⟨r', g', Sg', m, L', m8, hne, h4, hm, hl', hc⟩
    ·have HC2:=Lib.hid hc
     clear hc c3
     go_upto_region 26 with (first
      | (go_at_call 13; refine HC2.out.mono ?_; rintro e w3 ⟨x, hx, rfl, h3⟩; have H3:=Lib.hid h3; clear h3)
      | ((with_reducible show wpList _ _ _ (⟨none, .store _ (.tmp 13) _, _, _, _, _⟩::_) _ _); refine wpList_store_mid rfl 51 _ _ rfl w3.heap.size 0 signed0C.toArray rfl rfl ?hta ?hia ?h1a ?_))
     case hta=>exact (store_signed w3 signed0_len).1
     case hia=>exact (by rw [List.size_toArray, signed0_len]; exact info_signed)
     case h1a=>exact signed0_one
     generalize hW4 : World.setCells _ w3.heap.size 0 _ = w4
     have f0 : (x == 0) = false:=by simpa using hx
     have f1 : decide (x = 0) = false:=decide_eq_false hx
     have HF : Hid (SuQ w0 w4 d s kb bb xb sd C XC i st (.slice sa E.length sc) E.length (.slice sa E.length sc) E.length):=Lib.hid (by
      rcases H3.out with ⟨L2, fl2, hl2, r2, g2, lv2, Sr2, Sg2, M2, hM2, h2⟩ | ⟨L2, hl2, M2, hM2, h2⟩
      ·exact su_up ⟨r2, g2, lv2, Sr2, Sg2, M2, hM2, (sus_put h2 signed0_len hW4).drop⟩ (by omega) hl2
      ·exact su_dn ⟨M2, hM2, (sus_put h2 signed0_len hW4).drop⟩ (by omega) hl2)
     clear hW4 H3 HC2 hx
     go_wp2_with fail
     exact HF
    ·have HC2:=Lib.hid hc
     have HM8:=Lib.hid (show m < 8∧0 < E.length∧E.length ≤ 4096∧L'[m]? = some (E.length, rootE E)∧LogOk b L' E (i + 1) from ⟨m8, hne, h4, hm, hl'⟩)
     clear hc c3 m8 hne h4 hm hl'
     go_upto_region 26 with (first
      | (go_at_call 13; refine HC2.out.mono ?_; rintro e w3 ⟨M3, hM3, n3, a3, c3, Y, S3, rfl, HY⟩; have HM3:=Lib.hid hM3; clear hM3)
      | ((with_reducible show wpList _ _ _ (⟨none, .store _ (.tmp 13) _, _, _, _, _⟩::_) _ _); refine wpList_store_mid rfl 51 _ _ rfl w3.heap.size 0 Y.toArray rfl rfl ?hta ?hia ?h1a ?_))
     case hta=>exact (store_signed w3 HY.out.2.1).1
     case hia=>exact (by rw [List.size_toArray, HY.out.2.1]; exact info_signed)
     case h1a=>exact all_oneCell_toArray HY.out.2.2.1
     generalize hW4 : World.setCells _ w3.heap.size 0 _ = w4
     have H4:=Lib.hid (sus_put HY.out.2.2.2 HY.out.2.1 hW4)
     clear hW4 HC2
     generalize w3.heap.size = sb at *
     obtain ⟨rt, hrt⟩ : ∃ rt, rt = rootE E:=⟨_, rfl⟩
     have hrt32 : rt.length = 32:=by rw [hrt]; exact rootE_len E
     obtain ⟨H, hH⟩ : ∃ H : List Value, H = headC (E.length : Int) rt:=⟨_, rfl⟩
     have HHC:=Lib.hid (show H = headC (E.length : Int) rt∧H.length = 33∧rt.length = 32∧rt = rootE E from ⟨hH, by rw [hH]; exact headC_len hrt32, hrt32, hrt⟩)
     have hs : Blk w4 sb Y 51:=H4.out.has (x:=.blk sb Y 51) (by simp)
     have hkb : Blk w4 kb C 24:=H4.out.has (x:=.blk kb C 24) (by simp)
     have hbb : Blk w4 bb (hdC b) 72:=H4.out.has (x:=.blk bb (hdC b) 72) (by simp)
     have hY1 : Y = signedC (E.length : Int) rt (m : Int) ⟨(signF sd.data.toList m (digestF E.length rt)).toArray⟩ (.slice a3 3 c3):=by rw [hrt]; exact HY.out.1
     obtain ⟨y, hy⟩ : ∃ y, b[m]? = some y:=⟨_, List.getElem?_eq_getElem (by rw [HM8.out.2.2.2.2.by8.1]; exact HM8.out.1)⟩
     have SA:=s28_of hs hkb hbb (HM8.out.2.2.2.2.by8.h32 HM8.out.2.2.2.2.rises) hY1 hH hy
     have HSA : Hid (S28 w4 w4.drew sb kb bb m Y H C H (E.length : Int) (E.length : Int) ∨ S28 w4 w4.drew sb kb bb m Y H C (headC 0 zeroRoot) 0 (E.length : Int)):=Lib.hid (by
      rcases HM8.out.2.2.2.2.by8.2 m y hy with rfl | q
      ·exact Or.inr SA
      ·rw [HM8.out.2.2.2.1] at q
       cases q
       rw [← hrt, ← hH] at SA
       exact Or.inl SA)
     have c33 : w4.cell? ⟨sb, 33, none⟩ = some (.int .i64 (m : Int)):=hs.cell (by rw [hY1]; exact (signed_at hrt32).2.1)
     have HCK : Hid (∀ w', Kept (fun _=>False) w4 w' → Calls Tryz.prog 22 #[.agg C.toArray, .agg Y.toArray] w' fun e w2=>e = .returned (.int .i64 0)∧Kept (fun _=>False) w' w2):=Lib.hid (fun w' hk=>by
      have h:=check_of (w:=w') hY1 HM8.out.2.2.1 hrt32 HM8.out.1 ((H4.out.same hk).has (x:=.hrow (.slice a3 3 c3) (pathF (leavesF sd.data.toList) m)) (by simp)) (H4.out.same hk).tab
      rw [HC.out.1]
      exact h)
     have HL3:=Lib.hid (show sb < w4.heap.size∧kb < w4.heap.size∧bb < w4.heap.size from ⟨hs.lt, hkb.lt, hbb.lt⟩)
     have HIh:=Lib.hid (show (Tryz.prog.info? 46).map (·.size) = some H.length by rw [HHC.out.2.1]; exact info_head)
     have HIk:=Lib.hid (show (Tryz.prog.info? 24).map (·.size) = some C.length by rw [HC.out.2]; exact info_h32)
     have HIy:=Lib.hid (show (Tryz.prog.info? 51).map (·.size) = some Y.length by rw [HY.out.2.1]; exact info_signed)
     have hneq : ∀ w', (binOp .neq 46 (.agg H.toArray) (.agg H.toArray)).run Tryz.prog w' = .ok (.bool false) w':=fun w'=>by
      have h:=neq_head w' (E.length : Int) (E.length : Int) rt rt hrt32 hrt32
      simp only [true_and, decide_true, Bool.not_true, and_self] at h
      rw [hH]
      exact h
     obtain ⟨i0, i1, i2, i6, i7⟩:=nums28 HM8.out.1
     obtain ⟨z1, z2, j1, j2, j3⟩:=nums28z HM8.out.2.1
     clear hs hkb hbb hY1 hy SA hH hrt hrt32
     go_upto_region 27 with fail
     go_upto_region 28 with fail
     clear c33
     refine sus_reg28 HCK HL3 HIh HIk HIy hneq i0 i1 i2 i6 i7 z1 z2 j1 j2 j3 HSA (fun _ _ _ _ _ h=>HP.out _ _ _ _ _ h) ?_
     intros
     rename_i w5 hk5
     have H5:=Lib.hid (H4.out.same hk5)
     obtain ⟨pt1, pt2⟩:=sus_told (y:=(E.length, rt)) (m:=m) (P:=[.blk n3 Y 51, .hrow (.slice a3 3 c3) (pathF (leavesF sd.data.toList) m), .row (.slice sa E.length sc) E, .blk xb XC 74]) H5.out.drop (HM8.out.2.2.2.2.by8.h32 HM8.out.2.2.2.2.rises) HHC.out.2.2.1 HM8.out.2.2.2.2.by8.1 HM8.out.1 HHC.out.1
     have HPT:=Lib.hid (And.intro pt1 pt2)
     have HR5:=Lib.hid (show w5.rangeAt sb 0 H from by
      have h:=(show Blk w5 sb Y 51 from H5.out.has (x:=.blk sb Y 51) (by simp)).range0
      rw [HY.out.1, ← HHC.out.2.2.2] at h
      rw [HHC.out.1]
      exact sus_pre h)
     clear hk5 pt1 pt2
     go_wp2_with (first
      | ((with_reducible show wpList _ _ _ (⟨some 123, _, _, _, _, _⟩::_) _ _); refine wpList_load_mid rfl 46 _ rfl sb 0 rfl H _ HR5.out Tryz.underlying46 rfl HIh.out ?_)
      | ((with_reducible show wpList _ _ _ (⟨none, .store _ (.tmp 124) _, _, _, _, _⟩::_) _ _); refine wpList_store_mid rfl 46 _ _ rfl bb (m * 33) H.toArray rfl rfl ?htg ?hig ?h1g ?_))
     case htg=>simpa using HPT.out.1
     case hig=>simpa using HIh.out
     case h1g=>exact (by rw [HHC.out.1]; exact head_oneCell)
     have h6:=HPT.out.2 _ rfl
     have hl6:=HM8.out.2.2.2.2.told HM8.out.2.2.2.1
     rw [← HHC.out.2.2.2] at hl6
     exact Lib.hid (su_up ⟨r', g', _, S3, Sg', M3, HM3.out, h6.sub (((((List.sublist_append_right [_, _] _).cons_cons _).cons_cons _).cons_cons _))⟩ (by omega) hl6)
  ·have f4 : (kk == 4) = false:=by simp; omega
   have f5 : (kk == 5) = false:=by simp; omega
   clear c3
   by_cases h6 : kk = 6
   ·subst h6
    obtain ⟨M', he, hM'⟩:=HW.out.1.crash Nx
    have HCR:=Lib.hid (HW.out.2.crash Nx n0 he)
    have HM':=Lib.hid hM'
    clear he hM' c2 h3 h5
    go_wp2_with (go_at_call 9; refine HCR.out.mono ?_; rintro e w2 ⟨rfl, hu2⟩; have HU2:=Lib.hid hu2; clear hu2)
    exact Lib.hid (su_dn ⟨_, HM'.out, HU2.out.drop.drop.drop⟩ (by omega) (HL.out.1.up (by omega)))
   ·have f6 : (kk == 6) = false:=by simpa using h6
    by_cases h9 : kk = 9
    ·subst h9
     obtain ⟨q, hq, hqw, hq2⟩:=su_and7 Nx
     obtain ⟨M', he, hM'⟩:=HW.out.1.fail (n:=q) hq2.1 Mx
     have HFA:=Lib.hid (HW.out.2.fail q Mx (by omega) m0 he)
     have HM':=Lib.hid hM'
     clear he hM' h3 h5 h6 hq2
     go_wp2_with (go_at_call 23; refine HFA.out.mono ?_; rintro e w2 ⟨rfl, hu2⟩; have HU2:=Lib.hid hu2; clear hu2)
     exact Lib.hid (su_up ⟨r, g, lv, Sr, Sg, _, HM'.out, HU2.out⟩ (by omega) (HL.out.1.up (by omega)))
    ·have f9 : (kk == 9) = false:=by simpa using h9
     clear c1 c2 h3 h5 h6 h9
     go_wp2_with fail
     exact Lib.hid (su_up HQ.out (by omega) (HL.out.1.up (by omega)))
section
variable {w0 w w' : World} {d s t kb bb xb i n8 n12 n : Nat} {M : DiskM} {Rs Os : List Ob} {v8 v12 v : Value} {sd : ByteArray} {L b : List Hd} {E E8 E12 : List By} {st : Int} {fl : Bool} {X : Nat} {C XC : List Value}
structure SuR (E8 E12 : List By) (v8 : Value) (n8 : Nat) (v12 : Value) (n12 : Nat) (Rs : List Ob) (i : Nat) : Prop where
 n8 : n8 = E8.length
 n12 : n12 = E12.length
 r8 : Ob.row v8 E8 ∈ Rs
 r12 : Ob.row v12 E12 ∈ Rs
 l8 : E8.length ≤ i + 1
 l12 : E12.length ≤ i + 1
def SuD (w0 w : World) (d kb bb xb : Nat) (C XC : List Value) (i : Nat) (st : Int) (v8 : Value) (n8 : Nat) (v12 : Value) (n12 : Nat) : Prop :=
 ∃ L E8 E12 b Rs E', SuR E8 E12 v8 n8 v12 n12 Rs i∧(E' = E8 ∨ E' = E12)∧LogOk b L E' (i + 1)∧DnW w0 w d L E' st (212 * (i + 1)) (Rs ++ .blk xb XC 74::keepO kb bb C b)
def SuL (w0 w : World) (d s kb bb xb : Nat) (sd : ByteArray) (C XC : List Value) (i : Nat) (st : Int) (v8 : Value) (n8 : Nat) (v12 : Value) (n12 : Nat) (x5 x8 : Value) (n : Nat) : Prop :=
 (n ≤ 3∧x5 = .pointer (some ⟨s, 0, none⟩)∧x8 = v8∧SuD w0 w d kb bb xb C XC i (st + (n : Int)) v8 n8 v12 n12) ∨
 (n ≤ 4∧∃ t a7 n7 c7, x5 = .pointer (some ⟨t, 0, none⟩)∧x8 = .slice a7 n7 c7∧SuE w0 w d t kb bb xb sd C XC i st x8 n7)
theorem suL_of {a8 : Option Addr} {c8 : Nat} (h : SuQ w0 w d s kb bb xb sd C XC i st (.slice a8 n8 c8) n8 v12 n12) : SuL w0 w d s kb bb xb sd C XC i st (.slice a8 n8 c8) n8 v12 n12 (.pointer (some ⟨s, 0, none⟩)) (.slice a8 n8 c8) 0:=by
 obtain ⟨L, E8, E12, b, Rs, h1, h2, h3, h4, h5, h6, ⟨fl, h7, h8⟩ | ⟨E', hE, h7, h8⟩⟩:=h
 ·exact Or.inr ⟨by omega, s, a8, n8, c8, rfl, rfl, L, E8, b, st, fl, h1, h7, by omega, h8.sub ((List.singleton_sublist.2 h3).append (List.Sublist.refl _)) (Nat.le_refl _)⟩
 ·refine Or.inl ⟨by omega, rfl, rfl, L, E8, E12, b, Rs, E', ⟨h1, h2, h3, h4, h5, h6⟩, hE, h7, ?_⟩
  rw [show st + ((0 : Nat) : Int) = st by omega]
  exact h8
theorem sus_open (hsd : sd = ⟨#[115, 116, 97, 116, 105, 111, 110]⟩) (h : Ows w0 w d M Os) (hM : MdS 20000 L E st fl X M) (hl : LogOk b L E i) :
  Calls Tryz.prog 20 #[.pointer (some ⟨d, 0, none⟩), .string ⟨#[115, 116, 97, 116, 105, 111, 110]⟩] w (StaOpen w0 d Os sd 20000 L E st fl X):=by
 have h1:=station_open h hM hl.rises hl.few hl.good (sd:=sd) (by rw [hsd]; decide)
 have e : (Value.string ⟨#[115, 116, 97, 116, 105, 111, 110]⟩) = .string sd:=by rw [hsd]
 rw [e]
 exact h1
theorem suE_of {r g : Nat} {lv : Value} {Sr Sg : Nat → Prop} {a : Option Addr} {c : Nat} {st' : Int} (hM : UpS 20000 L E st' fl (212 * (i + 1)) M) (h : Ows w0 w d M (.row (.slice a E.length c) E::staO t r g lv ⟨sd, L, st', false⟩ ⟨E, st', false⟩ Sr Sg (Rs ++ .blk xb XC 74::keepO kb bb C b))) (hl : LogOk b L E (i + 1)) (hs : st ≤ st'∧st' ≤ st + 20) :
  SuE w0 w d t kb bb xb sd C XC i st (.slice a E.length c) E.length:=by
 have h2:=Ows.mv' (A:=[.blk t (staC r g lv) 66, .ring r ⟨sd, L, st', false⟩ Sr, .seg g ⟨E, st', false⟩ Sg]) h
 exact ⟨L, E, b, st', fl, rfl, hl, hs, r, g, lv, Sr, Sg, M, hM, h2.sub (((((List.sublist_append_right Rs _).cons_cons _).cons_cons _).cons_cons _).cons_cons _)⟩
end
theorem sus_loop {w0 w : World} {d s kb bb xb n8 sc n12 ac i : Nat} {sa aa : Option Addr} {sd : ByteArray} {p : By} {st k Nx Mx : Int} {C XC : List Value} {Q : Exit → Act → World → Prop} {g0 g1 g2 g4 g6 g9 g10 g13 g14 g15 g17 g18 g19 g20 g21 g22 g23 g24 g25 g26 g27 g28 g29 g30 g31 g32 g33 g34 g35 g36 g37 g38 g39 g40 g41 g42 g43 g44 g45 g46 g47 g48 g49 g50 g51 g52 g53 g54 g55 g56 g57 g58 g59 g60 g61 g62 g63 g64 g65 g66 g67 g68 g69 g70 g71 g72 g73 g74 g75 g76 g77 g78 g79 g80 g81 g82 g83 g84 g85 g86 g87 g88 g89 g90 g91 g92 g93 g94 g95 g96 g97 g98 g99 g100 g101 g102 g103 g104 g105 g106 g107 g108 g109 g110 g111 g112 g113 g114 g115 g116 g117 g118 g119 g120 g121 g122 g123 g124 g125 g126 g127 g128 g129 g130 g131 g132 g133 g134 g135 g136 g137 g138 g139 g140 g141 g142 g143 g144 g145 g146 g147 g148 g149 g150 g151 g152 g153 g154 g155 g156 g157 g158 g159 g160 g161 g162 g163 g164 g165 g166 g167 g168 g169 g170 g171 g172 g173 g174 g175 g176 g177 g178 g179 g180 g181 g182 g183 g184 g185 g186 g187 g188 g189 g190 g191 g192 g193 g194 g195 g196 g197 g198 g199 g200 g201 g202 g203 g204 g205 g206 g207 g208 g209 g210 g211 g212 g213 g214 g215 g216 g217 g218 g219 g220 g221 g222 g223 g224 g225 g226 g227 g228 g229 g230 g231 g232 g233 g234 g235 g236 g237 g238 g239 g240 g241 g242 g243 g244 : Value} {code : Code} (hcode : codeBlock 3 (Tryz.f5.body.getD .skip) = some code) (HC : Hid (C = bytes8 (rootF (leavesF sd.data.toList))∧C.length = 32)) (HSD : Hid (sd = ⟨#[115, 116, 97, 116, 105, 111, 110]⟩)) (hX : XC = [.int .u8 k, .int .i64 Nx, .int .i64 Mx, .string ⟨p.toArray⟩]) (hq : SuQ w0 w d s kb bb xb sd C XC i st (.slice sa n8 sc) n8 (.slice aa n12 ac) n12) (hs : 0 ≤ st∧st ≤ 1000000) (n0 : -9223372036854775808 ≤ Nx∧Nx ≤ 9223372036854775807) (m0 : -9223372036854775808 ≤ Mx∧Mx ≤ 9223372036854775807)
  (HP : ∀ c a (k : Nat) v w, Q (.panic c) (Act.put a (some k) v) w → Q (.panic c) a w) (HEND : ∀ (t : Nat) (a7 : Option Addr) (n7 c7 : Nat) (v2 v16 v17 v18 v140 v141 v142 v143 v144 v145 v146 v147 v148 v149 v150 v151 v152 v153 v154 v155 v156 v157 v158 v159 v160 v161 v162 v163 v164 v165 v166 v167 v168 v169 v170 v171 v172 v173 v174 v175 v176 v177 v178 v179 v180 v181 v182 v183 v184 v185 v186 v187 v188 v189 v190 v191 v192 v193 v194 : Value) (w' : World), Hid (SuE w0 w' d t kb bb xb sd C XC i st (.slice a7 n7 c7) n7) → Q .normal ⟨List.toArray (g0::g1::v2::(.pointer (some ⟨d, 0, none⟩))::g4::(.pointer (some ⟨t, 0, none⟩))::g6::(.pointer (some ⟨kb, 0, none⟩))::(.slice a7 n7 c7)::g9::g10::(.pointer (some ⟨xb, 0, none⟩))::(.slice aa n12 ac)::g13::g14::g15::v16::v17::v18::g19::g20::g21::g22::g23::g24::g25::g26::g27::g28::g29::g30::g31::g32::g33::g34::g35::g36::g37::g38::g39::g40::g41::g42::g43::g44::g45::g46::g47::g48::g49::g50::g51::g52::g53::g54::g55::g56::g57::g58::g59::g60::g61::g62::g63::g64::g65::g66::g67::g68::g69::g70::g71::g72::g73::g74::g75::g76::g77::g78::g79::g80::g81::g82::g83::g84::g85::g86::g87::g88::g89::g90::g91::g92::g93::g94::g95::g96::g97::g98::g99::g100::g101::g102::g103::g104::g105::g106::g107::g108::g109::g110::g111::g112::g113::g114::g115::g116::g117::g118::g119::g120::g121::g122::g123::g124::g125::g126::g127::g128::g129::g130::g131::g132::g133::g134::g135::g136::g137::g138::g139::v140::v141::v142::v143::v144::v145::v146::v147::v148::v149::v150::v151::v152::v153::v154::v155::v156::v157::v158::v159::v160::v161::v162::v163::v164::v165::v166::v167::v168::v169::v170::v171::v172::v173::v174::v175::v176::v177::v178::v179::v180::v181::v182::v183::v184::v185::v186::v187::v188::v189::v190::v191::v192::v193::v194::g195::g196::g197::g198::g199::g200::g201::g202::g203::g204::g205::g206::g207::g208::g209::g210::g211::g212::g213::g214::g215::g216::g217::g218::g219::g220::g221::g222::g223::g224::g225::g226::g227::g228::g229::g230::g231::g232::g233::g234::g235::g236::g237::g238::g239::g240::g241::g242::g243::g244::[]), []⟩ w') :
  Code.wp Tryz.prog code Q ⟨List.toArray (g0::g1::g2::(.pointer (some ⟨d, 0, none⟩))::g4::(.pointer (some ⟨s, 0, none⟩))::g6::(.pointer (some ⟨kb, 0, none⟩))::(.slice sa n8 sc)::g9::g10::(.pointer (some ⟨xb, 0, none⟩))::(.slice aa n12 ac)::g13::g14::g15::(.int .i64 0)::g17::g18::g19::g20::g21::g22::g23::g24::g25::g26::g27::g28::g29::g30::g31::g32::g33::g34::g35::g36::g37::g38::g39::g40::g41::g42::g43::g44::g45::g46::g47::g48::g49::g50::g51::g52::g53::g54::g55::g56::g57::g58::g59::g60::g61::g62::g63::g64::g65::g66::g67::g68::g69::g70::g71::g72::g73::g74::g75::g76::g77::g78::g79::g80::g81::g82::g83::g84::g85::g86::g87::g88::g89::g90::g91::g92::g93::g94::g95::g96::g97::g98::g99::g100::g101::g102::g103::g104::g105::g106::g107::g108::g109::g110::g111::g112::g113::g114::g115::g116::g117::g118::g119::g120::g121::g122::g123::g124::g125::g126::g127::g128::g129::g130::g131::g132::g133::g134::g135::g136::g137::g138::g139::g140::g141::g142::g143::g144::g145::g146::g147::g148::g149::g150::g151::g152::g153::g154::g155::g156::g157::g158::g159::g160::g161::g162::g163::g164::g165::g166::g167::g168::g169::g170::g171::g172::g173::g174::g175::g176::g177::g178::g179::g180::g181::g182::g183::g184::g185::g186::g187::g188::g189::g190::g191::g192::g193::g194::g195::g196::g197::g198::g199::g200::g201::g202::g203::g204::g205::g206::g207::g208::g209::g210::g211::g212::g213::g214::g215::g216::g217::g218::g219::g220::g221::g222::g223::g224::g225::g226::g227::g228::g229::g230::g231::g232::g233::g234::g235::g236::g237::g238::g239::g240::g241::g242::g243::g244::[]), []⟩ w:=by
 have HP:=Lib.hid HP
 have HEND:=Lib.hid HEND
 simp only [Tryz.f5, Option.getD_some, codeSeq, codeBlock, codeCond, Nat.reduceEqDiff, ↓reduceIte, Option.none_or, Option.or_none, Option.some_or, Option.some.injEq] at hcode
 subst hcode
 have HX:=Lib.hid hX
 have HRG:=Lib.hid (And.intro n0 (And.intro m0 hs))
 have HI:=Lib.hid (suL_of hq)
 clear hq hX hs n0 m0
 go_wp2_with fail
 go_loopw [5, 8, 16] (fun x5 x8 x16 wr=>∃ n : Nat, x16 = .int .i64 (n : Int)∧Hid (SuL w0 wr d s kb bb xb sd C XC i st (.slice sa n8 sc) n8 (.slice aa n12 ac) n12 x5 x8 n)) (fun _ _ x16 _=>20 - (intOf x16).toNat)
 case atStart=>exact ⟨0, rfl, HI⟩
 case round =>
  clear HI
  obtain ⟨n, rfl, HL⟩:=hrel
  rcases HL.out with ⟨hn, rfl, rfl, hD⟩ | ⟨hn, t, a7, n7, c7, rfl, rfl, hE7⟩
  ·have x1 : decide ((n : Int) < 20) = true:=decide_eq_true (by omega)
   obtain ⟨L, E8, E12, b, Rs, E', hr1, hr2, hr3, M1, hT1, hD1⟩:=hD
   have HR:=Lib.hid (And.intro hr1 (And.intro hr2 hr3))
   obtain ⟨d1, d2⟩:=hT1.down
   have hup:=hD1.isup (b:=false) (by rw [d1]; rfl)
   have hb : Blk wr xb XC 74:=hD1.has (x:=.blk xb XC 74) (by simp)
   obtain ⟨M2, he2, hT2⟩:=hT1.start
   have HST:=Lib.hid (hD1.start (by rw [d2]; have:=HRG.out.2.2; omega) he2)
   clear d1 d2 he2 hT1 hD1 hb hr1 hr2 hr3 HL
   by_cases h3 : n < 3
   ·have x2 : decide ((n : Int) < 3) = true:=decide_eq_true (by omega)
    obtain ⟨q, hq, hqw, hq2⟩:=su_and3 (wrap64 (Nx + (n : Int)))
    obtain ⟨M4, he4, hT4⟩:=hT2.fail (n:=q) hq2.1 Mx
    have HFA:=Lib.hid (fun w2 (h : Ows w0 w2 d M2 (Rs ++ .blk xb XC 74::keepO kb bb C b))=>h.fail q Mx (by omega) HRG.out.2.1 he4)
    have HOP:=Lib.hid (fun w3 (h : Ows w0 w3 d M4 (Rs ++ .blk xb XC 74::keepO kb bb C b))=>sus_open HSD.out h hT4 HR.out.2.2)
    clear he4 hT2 hT4 hq2
    go_upto_region 42 with (first
     | (go_at_call 24; refine hup.mono ?_; rintro e w' ⟨rfl, rfl⟩)
     | (go_at_call 25; refine HST.out.mono ?_; rintro e w1 ⟨rfl, h1⟩; have H1:=Lib.hid h1; clear h1; have hb1 : Blk w1 xb XC 74:=H1.out.has (x:=.blk xb XC 74) (by simp); have c1 : w1.cell? ⟨xb, 1, none⟩ = some (.int .i64 Nx):=hb1.cell (by rw [HX.out]; rfl); have c2 : w1.cell? ⟨xb, 2, none⟩ = some (.int .i64 Mx):=hb1.cell (by rw [HX.out]; rfl); clear hb1)
     | (go_at_call 23; refine (HFA.out _ H1.out).mono ?_; clear c1 c2; rintro e w2 ⟨rfl, h2⟩; have H2:=Lib.hid h2; clear h2))
    clear HST HFA x2 hq hqw
    go_upto_region 43 with (go_at_call 20; refine (HOP.out _ H2.out).mono ?_; clear HOP; intro e w3 ho; rcases ho with ⟨-, rfl, M', hT3, hD3⟩ | ⟨t, rfl, hU3⟩)
    ·have HMD:=Lib.hid hT3
     clear hT3
     have HW3:=Lib.hid hD3
     clear hD3
     go_wp2_with fail
     go_roundw
     case rel=>exact ⟨n + 1, by go_num, Lib.hid (Or.inl ⟨by omega, rfl, rfl, L, E8, E12, b, Rs, E', HR.out.1, HR.out.2.1, HR.out.2.2, _, by have:=HMD.out; rwa [show st + (n : Int) + 1 = st + ((n + 1 : Nat) : Int) by omega] at this, HW3.out⟩)⟩
     case measure=>simp [intOf]; omega
    ·obtain ⟨r, g, lv, Sr, Sg, M3, hM3, h3⟩:=hU3.sta (cp:=0)
     clear hU3
     have HW3:=Lib.hid (And.intro hM3 h3)
     clear hM3 h3
     have hmem : Ob.blk kb C 24 ∈ (Rs ++ .blk xb XC 74::keepO kb bb C b)∧Ob.row (.slice sa n8 sc) E8 ∈ (Rs ++ .blk xb XC 74::keepO kb bb C b)∧Ob.row (.slice aa n12 ac) E12 ∈ (Rs ++ .blk xb XC 74::keepO kb bb C b):=⟨by simp, List.mem_append_left _ HR.out.1.r8, List.mem_append_left _ HR.out.1.r12⟩
     have HIk:=Lib.hid (show (Tryz.prog.info? 24).map (·.size) = some C.length by rw [HC.out.2]; exact info_h32)
     have hneq : ∀ w', (binOp .neq 24 (.agg C.toArray) (.agg C.toArray)).run Tryz.prog w' = .ok (.bool false) w':=fun w'=>by
      have h:=neq_hash w' (rootF (leavesF sd.data.toList)) (rootF (leavesF sd.data.toList)) (rootF_len (leaves_32 _)) (rootF_len (leaves_32 _))
      simp only [decide_true, Bool.not_true] at h
      rw [HC.out.1]
      exact h
     by_cases hEE : E' = E8
     ·go_upto_region 44 with fail
      refine sus_reg44A HW3.out.2 HC.out.1 hmem HIk hneq (decide_eq_true hEE) (fun _ _ _ _ _ h=>HP.out _ _ _ _ _ h) ?_
      intros
      rename_i w4 H4
      have HLOG:=Lib.hid (sta_log H4.out)
      have HM3:=Lib.hid HW3.out.1
      clear hmem hneq HIk hEE HW3
      go_wp2_with (go_at_call 18; refine HLOG.out.mono ?_; rintro e w5 ⟨xa, xc, rfl, h5⟩; have H5:=Lib.hid h5; clear h5)
      go_roundw
      case rel=>exact ⟨n + 1, by go_num, Lib.hid (Or.inr ⟨by omega, t, xa, E'.length, xc, rfl, rfl, suE_of (st:=st) (st':=st + (n : Int) + 1) HM3.out H5.out HR.out.2.2 ⟨by omega, by omega⟩⟩)⟩
      case measure=>simp [intOf]; omega
     ·have hE12 : E' = E12:=HR.out.2.1.resolve_left hEE
      go_upto_region 44 with fail
      refine sus_reg44B HW3.out.2 HC.out.1 hmem HIk hneq (decide_eq_false hEE) (decide_eq_true hE12) (fun _ _ _ _ _ h=>HP.out _ _ _ _ _ h) ?_
      intros
      rename_i w4 H4
      clear hE12
      have HLOG:=Lib.hid (sta_log H4.out)
      have HM3:=Lib.hid HW3.out.1
      clear hmem hneq HIk hEE HW3
      go_wp2_with (go_at_call 18; refine HLOG.out.mono ?_; rintro e w5 ⟨xa, xc, rfl, h5⟩; have H5:=Lib.hid h5; clear h5)
      go_roundw
      case rel=>exact ⟨n + 1, by go_num, Lib.hid (Or.inr ⟨by omega, t, xa, E'.length, xc, rfl, rfl, suE_of (st:=st) (st':=st + (n : Int) + 1) HM3.out H5.out HR.out.2.2 ⟨by omega, by omega⟩⟩)⟩
      case measure=>simp [intOf]; omega
   ·have x2 : decide ((n : Int) < 3) = false:=decide_eq_false (by omega)
    have HOP:=Lib.hid (fun w3 (h : Ows w0 w3 d M2 (Rs ++ .blk xb XC 74::keepO kb bb C b))=>sus_open HSD.out h hT2 HR.out.2.2)
    clear hT2
    go_upto_region 42 with (first
     | (go_at_call 24; refine hup.mono ?_; rintro e w' ⟨rfl, rfl⟩)
     | (go_at_call 25; refine HST.out.mono ?_; rintro e w1 ⟨rfl, h1⟩; have H1:=Lib.hid h1; clear h1))
    clear HST x2
    go_upto_region 43 with (go_at_call 20; refine (HOP.out _ H1.out).mono ?_; clear HOP; intro e w3 ho; rcases ho with ⟨hff, _⟩ | ⟨t, rfl, hU3⟩)
    ·obtain ⟨r, g, lv, Sr, Sg, M3, hM3, h3⟩:=hU3.sta (cp:=0)
     clear hU3
     have HW3:=Lib.hid (And.intro hM3 h3)
     clear hM3 h3
     have hmem : Ob.blk kb C 24 ∈ (Rs ++ .blk xb XC 74::keepO kb bb C b)∧Ob.row (.slice sa n8 sc) E8 ∈ (Rs ++ .blk xb XC 74::keepO kb bb C b)∧Ob.row (.slice aa n12 ac) E12 ∈ (Rs ++ .blk xb XC 74::keepO kb bb C b):=⟨by simp, List.mem_append_left _ HR.out.1.r8, List.mem_append_left _ HR.out.1.r12⟩
     have HIk:=Lib.hid (show (Tryz.prog.info? 24).map (·.size) = some C.length by rw [HC.out.2]; exact info_h32)
     have hneq : ∀ w', (binOp .neq 24 (.agg C.toArray) (.agg C.toArray)).run Tryz.prog w' = .ok (.bool false) w':=fun w'=>by
      have h:=neq_hash w' (rootF (leavesF sd.data.toList)) (rootF (leavesF sd.data.toList)) (rootF_len (leaves_32 _)) (rootF_len (leaves_32 _))
      simp only [decide_true, Bool.not_true] at h
      rw [HC.out.1]
      exact h
     by_cases hEE : E' = E8
     ·go_upto_region 44 with fail
      refine sus_reg44A HW3.out.2 HC.out.1 hmem HIk hneq (decide_eq_true hEE) (fun _ _ _ _ _ h=>HP.out _ _ _ _ _ h) ?_
      intros
      rename_i w4 H4
      have HLOG:=Lib.hid (sta_log H4.out)
      have HM3:=Lib.hid HW3.out.1
      clear hmem hneq HIk hEE HW3
      go_wp2_with (go_at_call 18; refine HLOG.out.mono ?_; rintro e w5 ⟨xa, xc, rfl, h5⟩; have H5:=Lib.hid h5; clear h5)
      go_roundw
      case rel=>exact ⟨n + 1, by go_num, Lib.hid (Or.inr ⟨by omega, t, xa, E'.length, xc, rfl, rfl, suE_of (st:=st) (st':=st + (n : Int) + 1) HM3.out H5.out HR.out.2.2 ⟨by omega, by omega⟩⟩)⟩
      case measure=>simp [intOf]; omega
     ·have hE12 : E' = E12:=HR.out.2.1.resolve_left hEE
      go_upto_region 44 with fail
      refine sus_reg44B HW3.out.2 HC.out.1 hmem HIk hneq (decide_eq_false hEE) (decide_eq_true hE12) (fun _ _ _ _ _ h=>HP.out _ _ _ _ _ h) ?_
      intros
      rename_i w4 H4
      clear hE12
      have HLOG:=Lib.hid (sta_log H4.out)
      have HM3:=Lib.hid HW3.out.1
      clear hmem hneq HIk hEE HW3
      go_wp2_with (go_at_call 18; refine HLOG.out.mono ?_; rintro e w5 ⟨xa, xc, rfl, h5⟩; have H5:=Lib.hid h5; clear h5)
      go_roundw
      case rel=>exact ⟨n + 1, by go_num, Lib.hid (Or.inr ⟨by omega, t, xa, E'.length, xc, rfl, rfl, suE_of (st:=st) (st':=st + (n : Int) + 1) HM3.out H5.out HR.out.2.2 ⟨by omega, by omega⟩⟩)⟩
      case measure=>simp [intOf]; omega
  ·have x1 : decide ((n : Int) < 20) = true:=decide_eq_true (by omega)
   obtain ⟨L, E', b, st', fl', q1, q2, q3, q4⟩:=hE7
   have hup:=q4.isup
   have HF:=Lib.hid (show SuE w0 wr d t kb bb xb sd C XC i st (.slice a7 n7 c7) n7 from ⟨L, E', b, st', fl', q1, q2, q3, q4⟩)
   clear q1 q2 q3 q4 HL
   go_wp2_with (go_at_call 24; refine hup.mono ?_; rintro e w' ⟨rfl, rfl⟩)
   first | exact HF | exact HEND.out t a7 n7 c7 _ _ _ _ _ _ _ _ _ _ _ _ _ _ _ _ _ _ _ _ _ _ _ _ _ _ _ _ _ _ _ _ _ _ _ _ _ _ _ _ _ _ _ _ _ _ _ _ _ _ _ _ _ _ _ _ _ _ _ _ HF
theorem c_act39' : (Tryz.prog.info? 74).map (·.size) = some 4:=by kernel_rfl
abbrev act39Z : List Value:=[.int .u8 0, .int .i64 0, .int .i64 0, .string ⟨#[]⟩]
theorem act39_one (x : Act39) : ∀ u ∈ x.cells, u.oneCell' = true:=by
 intro u hu
 simp only [Act39.cells, List.mem_cons, List.not_mem_nil, or_false] at hu
 rcases hu with rfl | rfl | rfl | rfl <;> rfl
theorem kind12 {k kk : Int} (hk : 0 ≤ k∧k ≤ 255) (h : kk = k % 12) : Int.tmod k 12 = kk∧k % 12 = kk∧IntKind.u8.wrap kk = kk∧kk % 256 = kk:=by
 refine ⟨by rw [Int.tmod_eq_emod_of_nonneg hk.1]; exact h.symm, h.symm, IntWalk.u8_in _ (by omega), by omega⟩
theorem sus_store (w : World) (Z vs : List Value) (t : TypeId) (hl : vs.length = Z.length) : (w.alloc (.cells Z.toArray t)).there w.heap.size 0 vs.toArray.size∧Blk ((w.alloc (.cells Z.toArray t)).setCells w.heap.size 0 vs) w.heap.size vs t∧Kept (fun _=>False) w ((w.alloc (.cells Z.toArray t)).setCells w.heap.size 0 vs):=by
 have hb:=Blk.new w Z t
 have h2:=hb.setCells 0 vs (by omega)
 rw [splice_whole hl] at h2
 exact ⟨hb.there 0 _ (by rw [List.size_toArray]; omega), h2, ((Kept.refl (fun _=>False) w).alloc _).then_ (kept_setCells _ w.heap.size 0 _) (fun i hi e=>by omega)⟩
section
variable {w0 w w' : World} {d s t kb bb xb i n : Nat} {sd : ByteArray} {C XC : List Value} {st : Int} {v : Value} {L b : List Hd} {E : List By} {fl : Bool} {X : Nat} {Os : List Ob}
theorem suO_of (h : SuE w0 w d t kb bb xb sd C XC i st v n) (hs : 0 ≤ st∧st ≤ 20 * (i : Int)) : SuO w0 w d t kb bb sd C (i + 1) v n:=by
 obtain ⟨L, E, b, st', fl, h1, h2, h3, h4⟩:=h
 exact ⟨L, E, b, st', fl, h1, h2, by omega, h4.sub ((List.sublist_cons_self _ _).cons_cons _) (Nat.le_refl _)⟩
theorem suO_same (h : SuO w0 w d t kb bb sd C i v n) (hk : Kept (fun _=>False) w w') : SuO w0 w' d t kb bb sd C i v n:=by
 obtain ⟨L, E, b, st', fl, h1, h2, h3, h4⟩:=h
 exact ⟨L, E, b, st', fl, h1, h2, h3, h4.same hk⟩
theorem sus_enter (h : StaW w0 w d s sd L E st fl X (.row v E::Os)) (hk : Kept (fun _=>False) w w') (hb : Blk w' w.heap.size XC 74) : StaW w0 w' d s sd L E st fl X (.row v E::.blk w.heap.size XC 74::Os):=by
 obtain ⟨r, g, lv, Sr, Sg, M, h1, h2⟩:=h
 exact ⟨r, g, lv, Sr, Sg, M, h1, Ows.mv' (A:=[_, _, _, _]) (h2.add (x:=.blk w.heap.size XC 74) hk hb (fun k e=>by have : k = w.heap.size:=e; omega))⟩
theorem sus_first {wk w4 w5 : World} {cp : Int} (h : StaUp w0 w d s [] sd cp [] [] 0 false 0) (hcp : cp = 20000) (hk : Kept (fun _=>False) w wk) (hk4 : Kept (fun _=>False) wk w4∧Blk w4 wk.heap.size C 24) (hk5 : Kept (fun _=>False) w4 w5∧Blk w5 w4.heap.size (hdC (List.replicate 8 (0, zeroRoot))) 72) :
  SuO w0 w5 d s wk.heap.size w4.heap.size sd C 0 (.slice none 0 0) 0:=by
 subst hcp
 have h1:=StaUp.sta (cp:=0) h
 have h2:=(h1.same hk).add (x:=.blk wk.heap.size C 24) hk4.1 hk4.2 (fun k e=>by have : k = wk.heap.size:=e; omega)
 have h3:=h2.add (x:=.blk w4.heap.size (hdC (List.replicate 8 (0, zeroRoot))) 72) hk5.1 hk5.2 (fun k e=>by have : k = w4.heap.size:=e; omega)
 have h4:=h3.add (x:=.row (.slice none 0 0) []) (Kept.refl _ _) (Row.nil _ _ _) (fun k e=>by
  have : (Value.slice none 0 0).ownBlock = some k:=e
  simp [Value.ownBlock] at this)
 obtain ⟨r, g, lv, Sr, Sg, M, q1, q2⟩:=h4
 exact ⟨[], [], _, 0, false, rfl, ⟨by trivial, by simp, GoodL.nil _, by8_new, by simp⟩, by omega, r, g, lv, Sr, Sg, M, q1, q2.perm (List.Perm.cons _ (List.Perm.cons _ (List.Perm.cons _ (List.Perm.cons _ (List.Perm.swap _ _ _)))))⟩
end
theorem sus_walk0 (w : World) (ht : Tab w) (ad : Option Addr) (A : List Act39) (cap : Nat) (hl : A.length ≤ maxLen) (hA : Acts39 w ad A) :
  Calls Tryz.prog 5 #[.slice ad A.length cap] w fun e w'=>e = .returned (.bool true)∧Kept (fun _=>False) w w':=by
 have HT:=Lib.hid ht
 have HAA:=Lib.hid hA
 have hl2 : A.length ≤ 9223372036854775807:=hl
 have HG:=Lib.hid (great39 w ad A cap 14 (by omega) hl hA)
 have HLD:=Lib.hid (fun w1 (hk : Kept (fun _=>False) w w1)=>stationed_any w1 (HT.out.same hk))
 clear ht hA hl
 go_enter Tryz.func5, Tryz.ntmps5
 go_upto_if 23 with (go_at_call 21; refine HG.out.mono ?_; rintro e w' ⟨b, rfl, hb, rfl⟩; have HB:=Lib.hid hb; clear hb; rcases b)
 rotate_left 1
 ·have hld:=HLD.out w (Kept.refl _ _)
  go_wp2_with (go_at_call 12; refine hld.mono ?_; rintro e w1 ⟨rfl, hk1⟩)
  go_ret
  exact ⟨rfl, hk1⟩
 ·obtain ⟨sd, hsd⟩ : ∃ sd : ByteArray, sd = ⟨#[115, 116, 97, 116, 105, 111, 110]⟩:=⟨_, rfl⟩
  have HSD:=Lib.hid hsd
  clear hsd HG
  go_upto_region 4 with (go_at_call 7; refine (new_ok _ 20000 (by omega) (by omega)).mono ?_; rintro e w1 hnew; obtain ⟨d, rfl, hA1, k1⟩:=Apart.made _ hnew; have HO1:=Lib.hid (Ows.made hA1 HT.out k1); clear hnew hA1 k1)
  have hop : Calls Tryz.prog 20 #[.pointer (some ⟨d, 0, none⟩), .string ⟨#[115, 116, 97, 116, 105, 111, 110]⟩] w1 fun e w'=>∃ s, e = .returned (.tuple #[.pointer (some ⟨s, 0, none⟩), .int .i64 0])∧StaUp w w' d s [] sd 20000 [] [] 0 false 0:=by
   have h:=station_new (sd:=sd) (cp:=20000) HO1.out (by omega) (by rw [HSD.out]; decide)
   have e : (Value.string ⟨#[115, 116, 97, 116, 105, 111, 110]⟩) = .string sd:=by rw [HSD.out]
   rw [e]
   exact h
  have HOP:=Lib.hid hop
  clear hop
  go_upto_region 7 with (go_at_call 20; refine HOP.out.mono ?_; rintro e w2 ⟨s, rfl, hu⟩; have HU:=Lib.hid hu; clear hu)
  clear HOP HO1
  obtain ⟨C, hC⟩ : ∃ C : List Value, C = bytes8 (rootF (leavesF sd.data.toList)):=⟨_, rfl⟩
  have HC:=Lib.hid (show C = bytes8 (rootF (leavesF sd.data.toList))∧C.length = 32 from ⟨hC, by rw [hC, bytes8_len]; exact rootF_len (leaves_32 _)⟩)
  clear hC
  have hky : Calls Tryz.prog 16 #[.pointer (some ⟨s, 0, none⟩)] w2 fun e w'=>e = .returned (.agg C.toArray)∧StaUp w w' d s [] sd 20000 [] [] 0 false 0:=by
   obtain ⟨r, g, lv, Sr, Sg, M, Ls, h1, h2, h3⟩:=HU.out
   exact (sus_key h2 HC.out.1).mono fun e w' q=>⟨q.1, r, g, lv, Sr, Sg, M, Ls, h1, q.2, h3⟩
  have HKY:=Lib.hid hky
  clear hky HU
  go_upto_region 8 with (first | (go_at_call 16; refine HKY.out.mono ?_; rintro e w3 ⟨rfl, hu3⟩; have HU3:=Lib.hid hu3; clear hu3) | ((with_reducible show wpList _ _ _ (⟨none, .store _ (.tmp 7) _, _, _, _, _⟩::_) _ _); refine wpList_store_mid rfl 24 _ _ rfl w3.heap.size 0 C.toArray rfl rfl ?hta ?hia ?h1a ?_))
  case hta=>exact (sus_store w3 (zeros 32) C 24 (by rw [HC.out.2, zeros_len])).1
  case hia=>exact (by rw [List.size_toArray, HC.out.2]; exact info_h32)
  case h1a=>exact all_oneCell_toArray (by rw [HC.out.1]; exact fun y hy=>u8_oneCell y hy)
  generalize hw4 : World.setCells _ w3.heap.size 0 _ = w4
  have HK4:=Lib.hid (show Kept (fun _=>False) w3 w4∧Blk w4 w3.heap.size C 24 by rw [← hw4]; exact (sus_store w3 (zeros 32) C 24 (by rw [HC.out.2, zeros_len])).2.symm)
  clear hw4 HKY
  go_upto_region 10 with fail
  generalize hw5 : World.alloc w4 _ = w5
  have HO : Hid (SuO w w5 d s w3.heap.size w4.heap.size sd C 0 (.slice none 0 0) 0):=Lib.hid (sus_first HU3.out rfl (Kept.refl _ _) HK4.out (by
   rw [← hw5]
   exact ⟨(Kept.refl _ _).alloc _, Blk.new w4 (hdC (List.replicate 8 (0, zeroRoot))) 72⟩))
  clear hw5 HU3 HK4
  generalize w3.heap.size = kb at *
  generalize w4.heap.size = bb at *
  clear w4 w3 w2 w1
  go_wp2_with fail
  go_loopw [5, 8, 10] (fun x5 x8 x10 wr=>∃ (i s n : Nat) (a : Option Addr) (c : Nat), x5 = .pointer (some ⟨s, 0, none⟩)∧x8 = .slice a n c∧x10 = .int .i64 (i : Int)∧i ≤ A.length∧Hid (SuO w wr d s kb bb sd C i (.slice a n c) n)) (fun _ _ x10 _=>A.length - (intOf x10).toNat)
  case atStart=>exact ⟨0, s, 0, none, 0, rfl, rfl, rfl, Nat.zero_le _, HO⟩
  case round =>
   clear HO
   obtain ⟨i, s, n, sa, sc, rfl, rfl, rfl, hi, HO⟩:=hrel
   by_cases hlt : i < A.length
   ·obtain ⟨y1, y2⟩:=dec_gt39 hlt
    obtain ⟨x, hx⟩ : ∃ x, A[i]? = some x:=⟨_, List.getElem?_eq_getElem hlt⟩
    have hact:=HAA.out i x hx
    have h14:=(HB.out trivial).1
    obtain ⟨L, E, b, st, fl, rfl, hlog, hst, hW⟩:=HO.out
    have hk:=hW.old
    obtain ⟨ab, off, rfl, hbb, hc⟩:=hact.cells
    obtain ⟨XC, hXC⟩ : ∃ XC, XC = x.cells:=⟨_, rfl⟩
    have hrg : wr.rangeAt ab (off + i * 4) XC:=by
     rw [hXC]
     exact fun j v hv=>hk.cell (hc j v hv) id
    have HRG:=Lib.hid (And.intro hrg (show (Tryz.prog.info? 74).map (·.size) = some XC.length by rw [hXC]; exact c_act39'))
    have HXC:=Lib.hid (show XC = x.cells∧(∀ u ∈ XC, u.oneCell' = true)∧XC = [.int .u8 x.k, .int .i64 x.N, .int .i64 x.M, .string ⟨x.s.data.toList.toArray⟩]∧XC.length = 4 from ⟨hXC, by rw [hXC]; exact act39_one x, by rw [hXC], by rw [hXC]; rfl⟩)
    have HAC:=Lib.hid (And.intro hact.n0 (And.intro hact.m0 hact.k0))
    have HS:=Lib.hid (show LogOk b L E i∧(0 ≤ st∧st ≤ 20 * (i : Int))∧i ≤ 14∧i < A.length∧StaW w wr d s sd L E st fl (212 * i) (.row (.slice sa E.length sc) E::keepO kb bb C b) from ⟨hlog, hst, by omega, hlt, hW⟩)
    clear hx hact h14 hlog hst hW hk hbb hc hXC hrg HO hi
    go_upto_region 14 with (first
     | ((with_reducible show wpList _ _ _ (⟨some 51, _, _, _, _, _⟩::_) _ _); refine wpList_load_mid rfl 74 _ rfl ab (off + i * 4) rfl XC _ HRG.out.1 Tryz.underlying74 rfl HRG.out.2 ?_)
     | ((with_reducible show wpList _ _ _ (⟨none, .store _ (.tmp 11) _, _, _, _, _⟩::_) _ _); refine wpList_store_mid rfl 74 _ _ rfl wr.heap.size 0 XC.toArray rfl rfl ?htc ?hic ?h1c ?_))
    case htc=>exact (sus_store wr act39Z XC 74 HXC.out.2.2.2).1
    case hic=>exact (by rw [List.size_toArray]; exact HRG.out.2)
    case h1c=>exact all_oneCell_toArray HXC.out.2.1
    generalize hw1 : World.setCells _ wr.heap.size 0 _ = w1
    have hw1' : Blk w1 wr.heap.size XC 74∧Kept (fun _=>False) wr w1:=by rw [← hw1]; exact (sus_store wr act39Z XC 74 HXC.out.2.2.2).2
    have HU1:=Lib.hid (sus_enter HS.out.2.2.2.2 hw1'.2 hw1'.1)
    have c0 : w1.cell? ⟨wr.heap.size, 0, none⟩ = some (.int .u8 x.k):=hw1'.1.cell (by rw [HXC.out.1]; rfl)
    clear hw1 hw1' HRG
    generalize wr.heap.size = xb at *
    obtain ⟨kk, hkk⟩ : ∃ kk, kk = x.k % 12:=⟨_, rfl⟩
    obtain ⟨n1, n2, n3, n4⟩:=kind12 HAC.out.2.2 hkk
    clear hkk
    go_upto_block 2 with fail
    refine sus_act (code:=_) (by kernel_rfl) HC HU1.out HS.out.1 HS.out.2.2.1 HXC.out.2.2.1 HAC.out.1 HAC.out.2.1 (fun _ _ _ _ _ h=>h) ?_
    intro a8 m8 c8 a12 m12 c12
    intros
    rename_i w3 HQ
    clear n1 n2 n3 n4 c0 HU1
    go_upto_block 3 with fail
    refine sus_loop (code:=_) (by kernel_rfl) HC HSD HXC.out.2.2.1 HQ.out (by have h1:=HS.out.2.1; have h2:=HS.out.2.2.1; omega) HAC.out.1 HAC.out.2.1 (fun _ _ _ _ _ h=>h) ?_
    intro t a7 n7 c7
    intros
    rename_i w5 HE
    clear HQ
    have HF:=Lib.hid (suO_of HE.out HS.out.2.1)
    obtain ⟨L5, E5, b5, st5, fl5, rfl, hlog5, -, hW5⟩:=HE.out
    have hup5:=hW5.isup
    have HV5:=Lib.hid (show Row w5 9 1 (.slice a7 E5.length c7) (strV E5) from hW5.has (x:=.row (.slice a7 E5.length c7) E5) (by simp))
    have HB5:=Lib.hid (show Blk w5 bb (hdC b5) 72 from hW5.has (x:=.blk bb (hdC b5) 72) (by simp))
    have HSH:=Lib.hid (show (∀ p ∈ E5, p.length ≤ 900000)∧E5.length ≤ 100000∧Tab w5 from by
     have ht:=hW5.tab
     obtain ⟨r, g, lv, Sr, Sg, M, q1, -⟩:=hW5
     exact ⟨fun p hp=>by have:=q1.up.2.2.2.2 p hp; omega, by have:=q1.up.2.2.2.1; omega, ht⟩)
    have HLOG:=Lib.hid hlog5
    clear hlog5 hW5 HE
    go_upto_block 5 with (go_at_call 24; refine hup5.mono ?_; rintro e w' ⟨rfl, rfl⟩)
    refine sus_leaves (code:=_) (by kernel_rfl) HV5.out.view HSH.out.2.1 HSH.out.1 HSH.out.2.2 (fun _ _ _ _ _ h=>h) ?_
    intro la lc
    intros
    rename_i w6 H6
    clear hup5
    go_upto_block 7 with fail
    refine sus_heads (code:=_) (by kernel_rfl) rfl (HB5.out.kept H6.out.2.1 id) H6.out.1 HLOG.out.by8 HLOG.out.good HLOG.out.rises HSH.out.2.1 (HSH.out.2.2.same H6.out.2.1) (fun _ _ _ _ _ h=>h) ?_
    intros
    rename_i w7 H7
    have HF7:=Lib.hid (suO_same HF.out (H6.out.2.1.trans H7.out))
    have hlt:=HS.out.2.2.2.1
    clear HF HV5 HB5 HSH HLOG H6 H7
    go_wp2_with fail
    go_roundw
    case rel=>exact ⟨i + 1, t, E5.length, a7, c7, rfl, rfl, by go_num, hlt, HF7⟩
    case measure=>simp [intOf]; omega
   ·obtain rfl : i = A.length:=by omega
    obtain ⟨y1, y2⟩:=dec_le39 hlt
    have hK : Kept (fun _=>False) w wr:=by obtain ⟨L, E, b, st, fl, -, -, -, hW⟩:=HO.out; exact hW.old
    have hld:=HLD.out wr hK
    clear hi hlt
    go_wp2_with (go_at_call 12; refine hld.mono ?_; rintro e w1 ⟨rfl, hk1⟩)
    go_ret
    exact ⟨rfl, hK.trans hk1⟩
open Go.WideShapes Go.ChangeShapes Go.Joins in
theorem stationSure_walk (v : Value) (W : World) (ht : Tab W) {base : Nat} {H : Type} {enc : TypeId × Value → H} {dd : DataW H} {pp : List MemPlace} (hv : Value.okWide Tryz.prog W .any base 70 v) (h : DataW.Trod enc Tryz.prog W 0 (fun _=>true) true 70 v dd pp) :
  Calls Tryz.prog 5 #[v] W fun e w'=>e = .returned (.bool true)∧Below W.heap.size W w':=by
 obtain ⟨a, A, c, rfl, h1, h2⟩:=acts39_of hv h
 exact (sus_walk0 W ht a A c h1 h2).mono (fun e w' ⟨he, hk⟩=>⟨he, hk.below (fun _ _=>id) (Nat.le_refl _)⟩)
end Go.Proofs.YtpmdlkogccojmaaGreatDoor
