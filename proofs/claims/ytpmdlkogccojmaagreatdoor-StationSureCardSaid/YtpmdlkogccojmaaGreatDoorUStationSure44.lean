/- Sta9 StaD Stationed -/
import Derived.Test.YtpmdlkogccojmaaGreatDoorUStationSure01
import Derived.Test.YtpmdlkogccojmaaGreatDoorUStationSure43
import Derived.Test.YtpmdlkogccojmaaGreatDoorUStationSure38
import Derived.Test.YtpmdlkogccojmaaGreatDoorUStationSure32
set_option linter.unusedVariables false
set_option linter.unusedSimpArgs false
set_option maxRecDepth 100000
set_option maxHeartbeats 16000000
namespace Go.Proofs.YtpmdlkogccojmaaGreatDoor
open Go.RowKit
section
variable {w0 w w' : World} {d s r g b nb sz : Nat} {M M' : DiskM} {Os Os1 : List Ob} {R R' : RingM} {G : SegM} {Sr Sg S' : Nat → Prop} {lv : Value} {x : Ob} {Y : List Value}
theorem info_signed3 : (Tryz.prog.info? 51).map (fun i=>(i.zero, i.size, i.bytes)) = some (some (.agg signed0C.toArray), 36, 88):=by kernel_rfl
abbrev SrcS (w' : World) (s r g nb sz : Nat) : Prop:=w'.cell? ⟨s, 0, none⟩ = some (.pointer (some ⟨r, 0, none⟩))∧w'.cell? ⟨s, 1, none⟩ = some (.pointer (some ⟨g, 0, none⟩))∧w'.cell? ⟨s, 2, none⟩ = some (.slice (some ⟨nb, 0, none⟩) 1 1)∧w'.cell? ⟨nb, 0, none⟩ = some (.int .i64 (sz : Int))
theorem srcS (h : Ows w0 w d M (staO s r g (.slice (some ⟨nb, 0, none⟩) 1 1) R G Sr Sg Os)) (hm : Ob.blk nb Y 51 ∈ Os) (h0 : Y[0]? = some (.int .i64 (sz : Int))) : SrcS w s r g nb sz :=
 ⟨sta_cell (i:=0) h rfl, sta_cell (i:=1) h rfl, sta_cell (i:=2) h rfl, (show Blk w nb Y 51 from h.has (x:=.blk nb Y 51) (by simp [hm])).cell h0⟩
theorem src_app (h : Ows w0 w d M Os) (hm : Ob.blk nb Y 51 ∈ Os) (lY : Y.length = 36) (oY : ∀ v ∈ Y, v.oneCell' = true) :
  ∃ (hb hc : Nat) (rest : List Value) (w' : World), (Builtin.append_ #[55, 55] 55 #[.slice none 0 0, .slice (some ⟨nb, 0, none⟩) 1 1]).run Tryz.prog w = .ok (.slice (some ⟨hb, 0, none⟩) 1 hc) w'∧Hid (Ows w0 w' d M (.blk hb (Y ++ rest) 51::Os)):=by
 obtain ⟨i0, hi, hz0, hz1, hz3⟩:=info_parts info_signed3
 have hb : Blk w nb Y 51:=h.has (x:=.blk nb Y 51) hm
 have hrow : Row w 51 36 (.slice (some ⟨nb, 0, none⟩) 1 1) Y:=Or.inr ⟨nb, 1, 1, [], rfl, by omega, by rw [List.append_nil]; exact hb, Nat.le_refl _, by simp; omega, by unfold maxLen; omega⟩
 obtain ⟨v', w', hr, hrow2, hk, ho⟩:=(Row.nil w 51 36).append_view (P:=Tryz.prog) (t:=55) hrow.view Tryz.underlying55 hi hz0 hz1 (by show signed0C.toArray.size = 36; rw [List.size_toArray, signed0_len]) (by omega) (by rw [hz3]; decide) oY (by simp; omega) 55
 rw [List.nil_append] at hrow2
 have hk2 : Kept (fun _=>False) w w':=hk.mono (fun k _ q=>by simp [Value.ownBlock] at q)
 have hown : ∀ k, v'.ownBlock = some k → w.heap.size ≤ k:=fun k q=>by
  rcases ho k q with z | z
  ·simp [Value.ownBlock] at z
  ·exact z
 rcases hrow2 with ⟨_, q⟩ | ⟨hb2, n, cap, rest, rfl, q1, q2, q3, q4, q5⟩
 ·rw [q] at lY; cases lY
 ·have hn : n = 1:=by omega
  subst hn
  refine ⟨hb2, cap, rest, w', hr, Lib.hid (h.add (x:=.blk hb2 (Y ++ rest) 51) hk2 q2 (fun k q=>?_))⟩
  have e : k = hb2:=q
  rw [e]
  exact hown hb2 (by simp [Value.ownBlock])
def SrcTo (w0 : World) (d s r g nb sz : Nat) (M : DiskM) (R : RingM) (G : SegM) (Sr Sg : Nat → Prop) (Y : List Value) (Os : List Ob) (e : Ending) (w' : World) : Prop :=
 ∃ (ea la : Option Addr) (ec lc hb hc : Nat) (rest : List Value), e = .returned (.agg #[.slice ea sz ec, .slice la sz lc, .slice (some ⟨hb, 0, none⟩) 1 hc, .slice none 0 0])∧Hid (Ows w0 w' d M (.row (.slice ea sz ec) (G.entries.take sz)::.blk hb (Y ++ rest) 51::staO s r g (.slice (some ⟨nb, 0, none⟩) 1 1) R G Sr Sg Os))
theorem src_get (h : Ows w0 w d M (staO s r g lv R G Sr Sg Os)) (hz : sz ≤ G.entries.length) : Calls Tryz.prog 47 #[.pointer (some ⟨g, 0, none⟩), .int .i64 0, .int .i64 (sz : Int)] w fun e w'=>∃ a c, e = .returned (.tuple #[.slice a sz c, .int .i64 0])∧Ows w0 w' d M (staO s r g lv R G Sr Sg (.row (.slice a sz c) (G.entries.take sz)::Os)):=by
 refine (h.get (s:=g) (G:=G) (S:=Sg) (by simp) 0 sz (by omega)).mono ?_
 rintro e w2 ⟨xa, xm, xc, rfl, h2⟩
 rw [List.drop_zero] at h2
 have hrow : Row w2 9 1 (.slice xa xm xc) (strV (G.entries.take sz)):=h2.has (x:=.row (.slice xa xm xc) (G.entries.take sz)) (by simp)
 obtain rfl : xm = sz:=by have:=hrow.view.len1.1; rw [List.length_take] at this; omega
 exact ⟨xa, xc, rfl, sta_rear h2⟩
theorem src_leaves {ea : Option Addr} {ec : Nat} {l : List By} (h : Ows w0 w d M (staO s r g lv R G Sr Sg Os)) (hx : Ob.row (.slice ea l.length ec) l ∈ Os) (hf : l.length ≤ 4096) (hs : ∀ p ∈ l, p.length ≤ 200) :
  Calls Tryz.prog 48 #[.slice ea l.length ec] w fun e w'=>∃ a c, e = .returned (.slice a l.length c)∧Ows w0 w' d M (staO s r g lv R G Sr Sg Os):=by
 have hv : View w 1 (.slice ea l.length ec) (strV l):=(show Row w 9 1 (.slice ea l.length ec) (strV l) from h.has (x:=.row (.slice ea l.length ec) l) (by simp [hx])).view
 refine (leaves_any w ea ec l hv (by omega) (fun p hp=>by have:=hs p hp; omega) h.tab).mono ?_
 rintro e w' ⟨a, c, rfl, _, hk, _⟩
 exact ⟨a, c, rfl, h.same hk⟩
theorem src_end {hb res ec : Nat} {ea : Option Addr} {l : List By} {rest C vs : List Value} (h : Ows w0 w d M (.blk hb (Y ++ rest) 51::staO s r g lv R G Sr Sg (.row (.slice ea l.length ec) l::.blk res C 57::Os))) (hC : C.length = vs.length) :
  w.there res 0 vs.toArray.size∧Blk (w.setCells res 0 vs) res vs 57∧Ows w0 (w.setCells res 0 vs) d M (.row (.slice ea l.length ec) l::.blk hb (Y ++ rest) 51::staO s r g lv R G Sr Sg Os):=by
 have h1:=Ows.mv (A:=[.blk hb (Y ++ rest) 51, .blk s (staC r g lv) 66, .ring r R Sr, .seg g G Sg, .row (.slice ea l.length ec) l]) h
 obtain ⟨h2, h3⟩:=h1.whole (vs:=vs) hC.symm
 refine ⟨h2, h3.blk1, ?_⟩
 exact Ows.mv (A:=[.blk hb (Y ++ rest) 51, .blk s (staC r g lv) 66, .ring r R Sr, .seg g G Sg]) h3.drop
theorem four_one (a b : Option Addr) (m n c e hb hc : Nat) : (#[.slice a m c, .slice b n e, .slice (some ⟨hb, 0, none⟩) 1 hc, .slice none 0 0] : Array Value).all (·.oneCell') = true :=
 all_oneCell_toArray (show ∀ v ∈ ([.slice a m c, .slice b n e, .slice (some ⟨hb, 0, none⟩) 1 hc, .slice none 0 0] : List Value), v.oneCell' = true from fun v hv=>by
  simp only [List.mem_cons, List.not_mem_nil, or_false] at hv
  rcases hv with rfl | rfl | rfl | rfl <;> rfl)
theorem sta_source (h : Ows w0 w d M (staO s r g (.slice (some ⟨nb, 0, none⟩) 1 1) R G Sr Sg Os)) (hm : Ob.blk nb Y 51 ∈ Os) (h0 : Y[0]? = some (.int .i64 (sz : Int))) (lY : Y.length = 36) (oY : ∀ v ∈ Y, v.oneCell' = true) (hz : sz ≤ G.entries.length) :
  Calls Tryz.prog 14 #[.pointer (some ⟨s, 0, none⟩)] w (SrcTo w0 d s r g nb sz M R G Sr Sg Y Os):=by
 have hseg : IsSeg w g d G Sg:=(h.has (x:=.seg g G Sg) (by simp)).1
 obtain ⟨E, hE⟩ : ∃ E, E = G.entries.take sz:=⟨_, rfl⟩
 have hEl : E.length = sz:=by rw [hE, List.length_take]; omega
 have HE:=Lib.hid (show E.length ≤ 4096∧(∀ p ∈ E, p.length ≤ 200)∧E = G.entries.take sz∧E.length = sz from ⟨by have:=hseg.few; omega, fun p hp=>hseg.short p (by rw [hE] at hp; exact List.mem_of_mem_take hp), hE, hEl⟩)
 have HY:=Lib.hid (And.intro h0 (And.intro lY (And.intro oY hz)))
 have HM:=Lib.hid hm
 have HU:=Lib.hid h
 clear hseg hE hEl h h0 lY oY hz hm
 go_enter Tryz.func14, Tryz.ntmps14
 go_upto_region 1 with fail
 generalize hW : World.alloc w _ = W
 have HO:=Lib.hid (show Ows w0 W d M (staO s r g (.slice (some ⟨nb, 0, none⟩) 1 1) R G Sr Sg (.blk w.heap.size [.slice none 0 0, .slice none 0 0, .slice none 0 0, .slice none 0 0] 57::Os)) from by rw [← hW]; exact sta_rear (HU.out.new [.slice none 0 0, .slice none 0 0, .slice none 0 0, .slice none 0 0] 57))
 clear hW HU
 generalize w.heap.size = res at *
 have c2:=sta_cell (i:=2) HO.out rfl
 have hn:=sta_none HO.out
 go_upto_region 3 with (go_at_call 43; refine hn.mono ?_; rintro e w' ⟨rfl, rfl⟩)
 clear hn c2
 have HO:=Lib.hid (HO.out.same (Kept.refl _ _).drew)
 refine wp_region_held_drew (S:=(fun w'=>SrcS w' s r g nb sz)) (by kernel_rfl) (srcS HO.out (by simp [HM.out]) HY.out.1) (fun hH0=>?_)
 generalize World.drew W = Wd at HO hH0 ⊢
 refine tk 0 rfl (fun _ _ _ h=>h) hH0 ?_
 refine tk 1 rfl (fun _ _ _ h=>h) hH0 ?_
 refine tk 2 rfl (fun _ _ _ h=>h) hH0 ?_
 refine tk 3 rfl (fun _ _ _ h=>h) hH0 ?_
 refine tk 4 rfl (fun _ _ _ h=>h) hH0 ?_
 refine tk 5 rfl (fun _ _ _ h=>h) hH0 ?_
 refine tk 6 rfl (fun _ _ _ h=>h) hH0 ?_
 refine tk 7 rfl (fun _ _ _ h=>h) hH0 ?_
 refine tk 8 rfl (fun _ _ _ h=>h) hH0 ?_
 refine tk 9 rfl (fun _ _ _ h=>h) hH0 ?_
 refine tk 10 rfl (fun _ _ _ h=>h) hH0 ?_
 refine tk 11 rfl (fun _ _ _ h=>h) hH0 ?_
 refine rd1 12 (fun K hK=>?_)
 go_simp
 refine (src_get HO.out HY.out.2.2.2).mono ?_
 rintro e wg ⟨ea, ec, rfl, hg⟩
 have HO:=Lib.hid hg
 clear hg
 refine hK.out _ _ (srcS HO.out (by simp [HM.out]) HY.out.1) (fun hH1=>?_)
 clear hK K
 try simp only [lyA, lyB, lyC, lyD]
 refine tk 13 rfl (fun _ _ _ h=>h) hH1 ?_
 refine tk 14 rfl (fun _ _ _ h=>h) hH1 ?_
 refine tk 15 rfl (fun _ _ _ h=>h) hH1 ?_
 refine tk 16 rfl (fun _ _ _ h=>h) hH1 ?_
 refine tk 17 rfl (fun _ _ _ h=>h) hH1 ?_
 refine wpAnyH_done (by kernel_rfl) ?_ _
 have HO4:=Lib.hid (show Ows w0 wg d M (staO s r g (.slice (some ⟨nb, 0, none⟩) 1 1) R G Sr Sg (.row (.slice ea E.length ec) E::.blk res [.slice none 0 0, .slice none 0 0, .slice none 0 0, .slice none 0 0] 57::Os)) from by rw [HE.out.2.2.1, List.length_take, Nat.min_eq_left HY.out.2.2.2]; exact HO.out)
 clear HO
 have hsz : sz = E.length:=HE.out.2.2.2.symm
 subst hsz
 go_upto_region 4 with fail
 have HO:=Lib.hid (HO4.out.same (Kept.refl _ _).drew)
 refine wp_region_held_drew (S:=(fun w'=>SrcS w' s r g nb E.length)) (by kernel_rfl) (srcS HO.out (by simp [HM.out]) HY.out.1) (fun hH0=>?_)
 generalize World.drew wg = We at HO hH0 ⊢
 refine tk 0 rfl (fun _ _ _ h=>h) hH0 ?_
 refine tk 1 rfl (fun _ _ _ h=>h) hH0 ?_
 refine tk 3 rfl (fun _ _ _ h=>h) hH0 ?_
 refine tk 4 rfl (fun _ _ _ h=>h) hH0 ?_
 refine tk 5 rfl (fun _ _ _ h=>h) hH0 ?_
 refine tk 6 rfl (fun _ _ _ h=>h) hH0 ?_
 refine rd1 2 (fun K hK=>?_)
 go_simp
 refine (src_leaves HO.out (by simp) HE.out.1 HE.out.2.1).mono ?_
 rintro e wl ⟨la, lc, rfl, hg⟩
 have HO:=Lib.hid hg
 clear hg
 refine hK.out _ _ (srcS HO.out (by simp [HM.out]) HY.out.1) (fun hH1=>?_)
 clear hK K
 try simp only [lyA, lyB, lyC, lyD]
 refine rd1 7 (fun K hK=>?_)
 obtain ⟨hb, hc, rest, wp, hr, HP⟩:=src_app HO.out (nb:=nb) (Y:=Y) (by simp [HM.out]) HY.out.2.1 HY.out.2.2.1
 (with_reducible refine step_append_run2 ?_ ?_ ?_ 55 55 ?_ _ _ ?_ ?_ _ _ hr ?_)
 exact rfl
 rotate_left 2
 exact rfl
 exact rfl
 exact rfl
 try simp only [lyA, lyB, lyC, lyD]
 refine hK.out _ _ (srcS (HP.out.drop) (by simp [HM.out]) HY.out.1) (fun hH2=>?_)
 clear hK K
 try simp only [lyA, lyB, lyC, lyD]
 refine tk 8 rfl (fun _ _ _ h=>h) hH2 ?_
 refine rd1 9 (fun K hK=>?_)
 obtain ⟨st1, st2, st3⟩:=src_end (vs:=[.slice ea E.length ec, .slice la E.length lc, .slice (some ⟨hb, 0, none⟩) 1 hc, .slice none 0 0]) HP.out rfl
 have HF:=Lib.hid (And.intro st2 st3)
 clear st2 st3
 rw [if_pos (by rfl)]
 refine wp_store_mid _ _ _ rfl res 0 #[.slice ea E.length ec, .slice la E.length lc, .slice (some ⟨hb, 0, none⟩) 1 hc, .slice none 0 0] rfl rfl st1 (by kernel_rfl) (four_one _ _ _ _ _ _ _ _) ?_
 simp only [Act.put]
 refine hK.out _ _ (srcS (HF.out.2.drop.drop) (by simp [HM.out]) HY.out.1) (fun hH3=>?_)
 clear hK K
 try simp only [lyA, lyB, lyC, lyD]
 refine wpAnyH_done (by kernel_rfl) ?_ _
 go_wp2_with fail
 refine bodyPost_ret (HF.out.1.result rfl rfl Tryz.underlying57 rfl (by kernel_rfl)) rfl ⟨ea, la, ec, lc, hb, hc, rest, rfl, Lib.hid ?_⟩
 have h:=HF.out.2
 have e : G.entries.take E.length = E:=HE.out.2.2.1.symm
 rw [e]
 exact h
end
section
variable {w0 w w' : World} {d s r g b nb sz : Nat} {M M' : DiskM} {Os Os1 : List Ob} {R R' : RingM} {G : SegM} {Sr Sg S' : Nat → Prop} {lv : Value} {x : Ob} {Y : List Value} {L : List Hd} {E : List By} {st cp : Int} {fl : Bool} {X : Nat} {sd : ByteArray}
theorem put_signed {W : World} (h : Ows w0 w d M (staO s r g lv R G Sr Sg Os)) (hY : Y.length = 36) (hW : (w.alloc (.cells signed0C.toArray 51)).setCells w.heap.size 0 Y = W) : Ows w0 W d M (staO s r g lv R G Sr Sg (.blk w.heap.size Y 51::Os)):=open_signed h hY hW
theorem publish_fresh (h : Ows w0 w d M (staO s r g lv ⟨sd, L, st, false⟩ ⟨E, st, false⟩ Sr Sg Os)) (hM : UpS cp L E st false X M) (hne : 0 < E.length) (hr : Rises 0 L) (h8 : L.length < 8) (hX : (X : Int) + 2000 ≤ cp) (hn : nextF L (E.length : Int) (rootE E) = ((L.length : Int), true, 0)) :
  Calls Tryz.prog 13 #[.pointer (some ⟨s, 0, none⟩)] w fun e w'=>∃ M', UpS cp (L ++ [(E.length, rootE E)]) E st false X M'∧PubYes w0 d s r g ⟨E, st, false⟩ Sg Os E.length (rootE E) L.length ⟨sd, L ++ [(E.length, rootE E)], st, false⟩ M' e w':=by
 have hu:=hM.up
 have h32:=rootE_len E
 have hh : HdOk (E.length, rootE E):=⟨hne, hu.2.2.2.1, h32⟩
 have ho : RingM.over ⟨sd, L, st, false⟩ M = false:=by simp [RingM.over, hu.1, hu.2.1]
 rcases hM.keepR hh hr h8 hX with ⟨M', k1, k2⟩ | ⟨hf, _⟩
 ·refine (publish_yes h hne rfl (i:=L.length) (M':=M') (R':=⟨sd, L ++ [(E.length, rootE E)], st, false⟩) (fun w1 Os1 h1=>?_)).mono (fun e w' q=>⟨M', k2, q⟩)
  obtain ⟨B, h1⟩:=h1
  exact (held_fresh h1.held E.length (rootE E) hne hu.2.2.2.1 h32 ho L.length h8 rfl hn M' k1 (by have:=hu.2.2.1; omega)).mono fun e w' q=>sign_st h1 (signed_as h32 q)
 ·cases hf
theorem publish_again (h : Ows w0 w d M (staO s r g lv ⟨sd, L, st, false⟩ ⟨E, st, false⟩ Sr Sg Os)) (hM : UpS cp L E st false X M) (hne : 0 < E.length) {m : Nat} (hm : m < 8) (hn : nextF L (E.length : Int) (rootE E) = ((m : Int), false, 0)) :
  Calls Tryz.prog 13 #[.pointer (some ⟨s, 0, none⟩)] w (PubYes w0 d s r g ⟨E, st, false⟩ Sg Os E.length (rootE E) m ⟨sd, L, st, false⟩ M):=by
 have hu:=hM.up
 have h32:=rootE_len E
 have ho : RingM.over ⟨sd, L, st, false⟩ M = false:=by simp [RingM.over, hu.1, hu.2.1]
 refine publish_yes h hne rfl (i:=m) (M':=M) (R':=⟨sd, L, st, false⟩) (fun w1 Os1 h1=>?_)
 obtain ⟨B, h1⟩:=h1
 exact (held_again h1.held E.length (rootE E) hu.2.2.2.1 h32 ho m hm hn).mono fun e w' q=>sign_st h1 (signed_as h32 q)
theorem append_sure (h : Ows w0 w d M (staO s r g lv ⟨sd, L, st, false⟩ ⟨E, st, false⟩ Sr Sg Os)) (hM : UpS cp L E st false X M) (hr : Rises 0 L) (h8 : L.length ≤ 8) (p : By) (hp : p.length ≤ 200) (hE : E.length ≤ 1000) (hX : (X : Int) + 2000 ≤ cp) :
  Calls Tryz.prog 15 #[.pointer (some ⟨s, 0, none⟩), .string ⟨p.toArray⟩] w fun e w'=>e = .returned (.int .i64 0)∧∃ M' Sg', UpS cp L (E ++ [p]) st false (X + 212) M'∧Ows w0 w' d M' (staO s r g lv ⟨sd, L, st, false⟩ ⟨E ++ [p], st, false⟩ Sr Sg' Os):=by
 rcases hM.append h.ok hr h8 p hE hX with ⟨_, M', e, h1⟩ | ⟨q, _⟩ | ⟨hf, _⟩
 ·refine (station_append h p (by have:=hM.up; omega) e).mono ?_
  rintro e w' ⟨rfl, Sg', q⟩
  exact ⟨rfl, M', Sg', h1, q⟩
 ·omega
 ·cases hf
theorem same_pub {w : World} {i : Int} {rt : By} {sig : ByteArray} {a a' : Option Addr} {c c' : Nat} {P : List By} {Y Y' : List Value} (hY : Y = signedC (sz : Int) rt i sig (.slice a 3 c)) (hY' : Y' = signedC (sz : Int) rt i sig (.slice a' 3 c')) (hr : rt.length = 32) (h1 : Row w 24 32 (.slice a 3 c) (hcells P)) (h2 : Row w 24 32 (.slice a' 3 c') (hcells P)) (h32 : ∀ x ∈ P, x.length = 32) (hP : P.length ≤ 1000) :
  Calls Tryz.prog 42 #[.agg Y.toArray, .agg Y'.toArray] w fun e w'=>e = .returned (.bool true)∧Kept (fun _=>False) w w':=by
 rw [hY, hY']
 exact same_ok w (sz : Int) rt i sig a a' c c' 3 3 P hr h1.view h2.view h32 (by omega) (by omega)
end
section
variable {w0 w w' : World} {d s r g : Nat} {M : DiskM} {Os : List Ob} {R : RingM} {G : SegM} {Sr Sg : Nat → Prop} {lv : Value}
theorem staUp_new {sd : ByteArray} {cp : Int} (h : StaUp w0 w d s Os sd cp [] [] 0 false 0) : ∃ r g Sr Sg M', UpS cp [] [] 0 false 0 M'∧Ows w0 w d M' (staO s r g (.slice none 0 0) ⟨sd, [], 0, false⟩ ⟨[], 0, false⟩ Sr Sg Os):=by
 obtain ⟨r, g, lv, Sr, Sg, M', Ls, h1, h2, h3⟩:=h
 rcases h3 with ⟨_, rfl, rfl⟩ | ⟨nb, a, c, Y, m, x, hx, _⟩
 ·exact ⟨r, g, Sr, Sg, M', h1, h2⟩
 ·simp at hx
theorem staUp_one {sd : ByteArray} {cp : Int} {y : Hd} {E : List By} {st : Int} {fl : Bool} {X : Nat} (h : StaUp w0 w d s Os sd cp [y] E st fl X) : ∃ r g Sr Sg M' nb a c Y, UpS cp [y] E st fl X M'∧(Y = signedC (y.1 : Int) y.2 0 ⟨(signF sd.data.toList 0 (digestF y.1 y.2)).toArray⟩ (.slice a 3 c)∧Y.length = 36∧(∀ v ∈ Y, v.oneCell' = true)) ∧
  Ows w0 w d M' (staO s r g (.slice (some ⟨nb, 0, none⟩) 1 1) ⟨sd, [y], st, false⟩ ⟨E, st, false⟩ Sr Sg (.blk nb Y 51::.hrow (.slice a 3 c) (pathF (leavesF sd.data.toList) 0)::Os)):=by
 obtain ⟨r, g, lv, Sr, Sg, M', Ls, h1, h2, h3⟩:=h
 rcases h3 with ⟨h, _⟩ | ⟨nb, a, c, Y, m, x, hx, hm, rfl, hY, rfl⟩
 ·cases h
 ·have hm0 : m = 0:=by simp at hm; omega
  subst hm0
  simp at hx
  subst hx
  exact ⟨r, g, Sr, Sg, M', nb, a, c, Y, h1, by simpa using hY, h2⟩
end
abbrev EndS (w' : World) (xb hb hc eb eo ec b7 : Nat) (Y1 Y7 : List Value) : Prop:=w'.cell? ⟨xb, 0, none⟩ = some (.slice (some ⟨eb, eo, none⟩) 1 ec)∧w'.cell? ⟨xb, 2, none⟩ = some (.slice (some ⟨hb, 0, none⟩) 1 hc)∧w'.cell? ⟨eb, eo, none⟩ = some (.string ⟨#[97]⟩)∧w'.rangeAt hb 0 Y1∧w'.rangeAt b7 0 Y7
theorem rangeAt_ahead {w : World} {b o : Nat} {A B : List Value} (h : w.rangeAt b o (A ++ B)) : w.rangeAt b o A:=fun j v hv=>h j v (by rw [List.getElem?_append_left (List.getElem?_eq_some_iff.1 hv).1]; exact hv)
theorem stationed_any (w : World) (ht : Tab w) : Calls Tryz.prog 12 #[] w fun e w'=>e = .returned (.bool true)∧Kept (fun _=>False) w w':=by
 obtain ⟨sd, hsd⟩ : ∃ sd : ByteArray, sd = ⟨#[115]⟩:=⟨_, rfl⟩
 have HSD:=Lib.hid (show sd = ⟨#[115]⟩∧sd.size ≤ 1000 from ⟨hsd, by rw [hsd]; decide⟩)
 have HT:=Lib.hid ht
 clear ht
 go_enter Tryz.func12, Tryz.ntmps12
 go_upto_region 2 with (go_at_call 7; refine (new_ok _ 10000 (by omega) (by omega)).mono ?_; rintro e w1 hnew; obtain ⟨d, rfl, hA1, k1⟩:=Apart.made _ hnew; have HO1:=Lib.hid (Ows.made hA1 HT.out k1); clear hnew hA1 k1)
 have hop : Calls Tryz.prog 20 #[.pointer (some ⟨d, 0, none⟩), .string ⟨#[115]⟩] w1 fun e w'=>∃ s, e = .returned (.tuple #[.pointer (some ⟨s, 0, none⟩), .int .i64 0])∧StaUp w w' d s [] sd 10000 [] [] 0 false 0:=by
  have h:=station_new (sd:=sd) (cp:=10000) HO1.out (by omega) HSD.out.2
  have e : (Value.string ⟨#[115]⟩) = .string sd:=by rw [HSD.out.1]
  rw [e]
  exact h
 have HOP:=Lib.hid hop
 clear hop hsd
 go_upto_region 5 with (go_at_call 20; refine HOP.out.mono ?_; rintro e w2 ⟨s, rfl, hu⟩; have HU2:=Lib.hid hu; clear hu)
 obtain ⟨r, g, Sr, Sg, M2, hM2, hu2⟩:=staUp_new HU2.out
 clear HOP HO1 HU2
 have HP:=Lib.hid (publish_empty hu2 rfl)
 have HM2:=Lib.hid hM2
 clear hu2 hM2
 go_upto_region 6 with (first
  | (go_at_call 13; refine HP.out.mono ?_; rintro e w3 ⟨rfl, hu3⟩; have HU3:=Lib.hid hu3; clear hu3)
  | ((with_reducible show wpList _ _ _ (⟨none, .store _ (.tmp 5) _, _, _, _, _⟩::_) _ _); refine wpList_store_mid rfl 51 _ _ rfl w3.heap.size 0 signed0C.toArray rfl rfl ?hta ?hia ?h1a ?_))
 case hta=>exact (store_signed w3 signed0_len).1
 case hia=>exact (by rw [List.size_toArray, signed0_len]; exact info_signed)
 case h1a=>exact signed0_one
 generalize hW : World.setCells _ w3.heap.size 0 _ = w4
 have HU4:=Lib.hid (sta_front (put_signed (Y:=signed0C) HU3.out signed0_len hW)).drop
 clear hW HP HU3
 have hap:=append_sure HU4.out HM2.out (by trivial) (by simp) [97] (by decide) (by simp) (by omega)
 have HAP:=Lib.hid hap
 clear hap
 go_upto_region 7 with (go_at_call 15; refine HAP.out.mono ?_; rintro e w5 ⟨rfl, M5, Sg5, hM5, hu5⟩; have HU5:=Lib.hid (show Ows w w5 d M5 (staO s r g (.slice none 0 0) ⟨sd, [], 0, false⟩ ⟨[[97]], 0, false⟩ Sr Sg5 []) from hu5); have HM5:=Lib.hid (show UpS 10000 [] [[97]] 0 false 212 M5 from hM5); clear hu5 hM5)
 clear HAP HU4 HM2
 obtain ⟨rt, hrt⟩ : ∃ rt, rt = rootE [[97]]:=⟨_, rfl⟩
 have hrt32 : rt.length = 32:=by rw [hrt]; exact rootE_len _
 have HRT:=Lib.hid (show rt = rootE [[97]]∧rt.length = 32∧Rises 0 [((1 : Nat), rt)] from ⟨hrt, hrt32, ⟨Nat.le_refl 1, (by show 1 ≤ 4096; decide), hrt32⟩, (by show 0 < 1; decide), trivial⟩)
 have hp7 : Calls Tryz.prog 13 #[.pointer (some ⟨s, 0, none⟩)] w5 fun e w'=>∃ M', UpS 10000 [(1, rt)] [[97]] 0 false 212 M'∧PubYes w d s r g ⟨[[97]], 0, false⟩ Sg5 [] 1 rt 0 ⟨sd, [(1, rt)], 0, false⟩ M' e w':=by
  rw [hrt]
  exact publish_fresh HU5.out HM5.out (by decide) (by trivial) (by decide) (by omega) (by rfl)
 have HP7:=Lib.hid hp7
 clear hp7 hrt hrt32
 go_upto_region 8 with (first
  | (go_at_call 13; refine HP7.out.mono ?_; rintro e u7 ⟨M7, hM7, n7, a7, c7, Y7, S7, rfl, HY7⟩; have HM7:=Lib.hid hM7; clear hM7)
  | ((with_reducible show wpList _ _ _ (⟨none, .store _ (.tmp 8) _, _, _, _, _⟩::_) _ _); refine wpList_store_mid rfl 51 _ _ rfl u7.heap.size 0 Y7.toArray rfl rfl ?htb ?hib ?h1b ?_))
 case htb=>exact (store_signed u7 HY7.out.2.1).1
 case hib=>exact (by rw [List.size_toArray, HY7.out.2.1]; exact info_signed)
 case h1b=>exact all_oneCell_toArray HY7.out.2.2.1
 generalize hW : World.setCells _ u7.heap.size 0 _ = w7
 have HU7:=Lib.hid (put_signed (Y:=Y7) HY7.out.2.2.2 HY7.out.2.1 hW)
 clear hW HP7 HU5 HM5
 generalize u7.heap.size = b7 at *
 have hp8 : Calls Tryz.prog 13 #[.pointer (some ⟨s, 0, none⟩)] w7 (PubYes w d s r g ⟨[[97]], 0, false⟩ Sg5 [.blk b7 Y7 51, .blk n7 Y7 51, .hrow (.slice a7 3 c7) (pathF (leavesF sd.data.toList) 0)] 1 rt 0 ⟨sd, [(1, rt)], 0, false⟩ M7):=by
  have h:=publish_again HU7.out HM7.out (by decide) (m:=0) (by decide) (by rw [← HRT.out.1]; exact next_same (x:=(1, rt)) HRT.out.2.2 rfl rfl)
  rw [← HRT.out.1] at h
  exact h
 have HP8:=Lib.hid hp8
 clear hp8
 go_upto_region 9 with (first
  | (go_at_call 13; refine HP8.out.mono ?_; rintro e u8 ⟨n8, a8, c8, Y8, S8, rfl, HY8⟩)
  | ((with_reducible show wpList _ _ _ (⟨none, .store _ (.tmp 10) _, _, _, _, _⟩::_) _ _); refine wpList_store_mid rfl 51 _ _ rfl u8.heap.size 0 Y8.toArray rfl rfl ?htc ?hic ?h1c ?_))
 case htc=>exact (store_signed u8 HY8.out.2.1).1
 case hic=>exact (by rw [List.size_toArray, HY8.out.2.1]; exact info_signed)
 case h1c=>exact all_oneCell_toArray HY8.out.2.2.1
 generalize hW : World.setCells _ u8.heap.size 0 _ = w8
 have HU8:=Lib.hid (put_signed (Y:=Y8) HY8.out.2.2.2 HY8.out.2.1 hW).drop.drop.drop
 clear hW HP8 HU7
 generalize u8.heap.size = b8 at *
 have hb7 : Blk w8 b7 Y7 51:=HU8.out.has (x:=.blk b7 Y7 51) (by simp)
 have hb8 : Blk w8 b8 Y8 51:=HU8.out.has (x:=.blk b8 Y8 51) (by simp)
 obtain ⟨s0, s33, _, _⟩:=signed_at (size:=((1 : Nat) : Int)) (i:=((0 : Nat) : Int)) (sig:=⟨(signF sd.data.toList 0 (digestF 1 rt)).toArray⟩) (v:=.slice a7 3 c7) HRT.out.2.1
 have e0 : w8.cell? ⟨b7, 0, none⟩ = some (.int .i64 1):=hb7.cell (by rw [HY7.out.1]; exact s0)
 have e33 : w8.cell? ⟨b7, 33, none⟩ = some (.int .i64 0):=hb7.cell (by rw [HY7.out.1]; exact s33)
 have HR7:=Lib.hid (And.intro hb7.range0 hb8.range0)
 have HI7:=Lib.hid (show (Tryz.prog.info? 51).map (·.size) = some Y7.length by rw [HY7.out.2.1]; exact info_signed)
 have HI8:=Lib.hid (show (Tryz.prog.info? 51).map (·.size) = some Y8.length by rw [HY8.out.2.1]; exact info_signed)
 have HSM8:=Lib.hid (same_pub (sz:=1) HY7.out.1 HY8.out.1 HRT.out.2.1 (HU8.out.has (x:=.hrow (.slice a7 3 c7) (pathF (leavesF sd.data.toList) 0)) (by simp)) (HU8.out.has (x:=.hrow (.slice a8 3 c8) (pathF (leavesF sd.data.toList) 0)) (by simp)) (pathF_32 _ _) (by rw [path_len _ (leavesF_len _) 0 (by decide)]; decide))
 obtain ⟨M9, em9, hM9⟩:=HM7.out.crash 0
 obtain ⟨M10, em10, hM10⟩:=hM9.start
 have HCR:=Lib.hid (fun w1 (h1 : Ows w w1 d M7 _)=>h1.crash (Os:=[.blk b8 Y8 51, .blk n8 Y8 51, .hrow (.slice a8 3 c8) (pathF (leavesF sd.data.toList) 0), .blk b7 Y7 51, .blk n7 Y7 51, .hrow (.slice a7 3 c7) (pathF (leavesF sd.data.toList) 0)]) 0 (by omega) em9)
 have HST:=Lib.hid (fun w1 (h1 : Ows w w1 d M9 _)=>h1.start (Os:=[.blk b8 Y8 51, .blk n8 Y8 51, .hrow (.slice a8 3 c8) (pathF (leavesF sd.data.toList) 0), .blk b7 Y7 51, .blk n7 Y7 51, .hrow (.slice a7 3 c7) (pathF (leavesF sd.data.toList) 0)]) (by have:=hM9.down.2; omega) em10)
 have HM10:=Lib.hid hM10
 clear hb7 hb8 s0 s33 em9 hM9 em10 hM10 HM7
 go_upto_region 11 with (first
  | ((with_reducible show wpList _ _ _ (⟨some 74, _, _, _, _, _⟩::_) _ _); refine wpList_load_wanted (by rfl) 51 _ rfl b7 0 rfl Y7 _ HR7.out.1 Tryz.underlying51 rfl HI7.out ?_)
  | ((with_reducible show wpList _ _ _ (⟨some 75, _, _, _, _, _⟩::_) _ _); refine wpList_load_wanted (by rfl) 51 _ rfl b8 0 rfl Y8 _ HR7.out.2 Tryz.underlying51 rfl HI8.out ?_)
  | (go_at_call 42; refine HSM8.out.mono ?_; rintro e w9 ⟨rfl, hk9⟩; have HU9:=Lib.hid (HU8.out.same hk9); clear hk9)
  | (go_at_call 9; refine (HCR.out _ HU9.out).mono ?_; rintro e w9a ⟨rfl, hu9a⟩; have HU9a:=Lib.hid hu9a; clear hu9a)
  | (go_at_call 25; refine (HST.out _ HU9a.out).mono ?_; rintro e w10 ⟨rfl, hu10⟩; have HU10:=Lib.hid hu10; clear hu10))
 clear e0 e33 HR7 HSM8 HCR HST HU9 HU9a HU8
 have hop : Calls Tryz.prog 20 #[.pointer (some ⟨d, 0, none⟩), .string ⟨#[115]⟩] w10 (StaOpen w d [.blk b8 Y8 51, .blk n8 Y8 51, .hrow (.slice a8 3 c8) (pathF (leavesF sd.data.toList) 0), .blk b7 Y7 51, .blk n7 Y7 51, .hrow (.slice a7 3 c7) (pathF (leavesF sd.data.toList) 0)] sd 10000 [(1, rt)] [[97]] (0 + 1) false 212):=by
  have h:=station_open (sd:=sd) HU10.out HM10.out HRT.out.2.2 (by show 1 ≤ 8; decide) (by rw [HRT.out.1]; exact (GoodL.nil [[97]]).snoc) HSD.out.2
  have e : (Value.string ⟨#[115]⟩) = .string sd:=by rw [HSD.out.1]
  rw [e]
  exact h
 have HOP:=Lib.hid hop
 clear hop
 go_upto_region 14 with (go_at_call 20; refine HOP.out.mono ?_; intro e w11 ho; obtain ⟨s2, rfl, hu⟩ : ∃ s, e = .returned (.tuple #[.pointer (some ⟨s, 0, none⟩), .int .i64 0])∧StaUp w w11 d s [.blk b8 Y8 51, .blk n8 Y8 51, .hrow (.slice a8 3 c8) (pathF (leavesF sd.data.toList) 0), .blk b7 Y7 51, .blk n7 Y7 51, .hrow (.slice a7 3 c7) (pathF (leavesF sd.data.toList) 0)] sd 10000 [(1, rt)] [[97]] (0 + 1) false 212:=(ho.elim (fun q=>Bool.noConfusion q.1) id); have HU11:=Lib.hid hu; clear ho hu)
 clear HOP HU10 HM10
 obtain ⟨r2, g2, Sr2, Sg2, M11, n1, a1, c1, Y1, hM11, hY1, hu11⟩:=staUp_one HU11.out
 have HY1:=Lib.hid hY1
 have hsr:=sta_source (Y:=Y1) (sz:=1) hu11 (by simp) (by rw [hY1.1]; exact (signed_at HRT.out.2.1).1) hY1.2.1 hY1.2.2 (by decide)
 have HSR:=Lib.hid hsr
 clear hsr hu11 hY1 hM11 HU11
 go_upto_region 15 with (first
  | (go_at_call 14; refine HSR.out.mono ?_; rintro e u12 ⟨ea, la, ec, lc, hb, hc, rest, rfl, HU12⟩)
  | ((with_reducible show wpList _ _ _ (⟨none, .store _ (.tmp 14) _, _, _, _, _⟩::_) _ _); refine wpList_store_mid rfl 57 _ _ rfl u12.heap.size 0 #[.slice ea 1 ec, .slice la 1 lc, .slice (some ⟨hb, 0, none⟩) 1 hc, .slice none 0 0] rfl rfl ?htd ?hid ?h1d ?_))
 case htd=>exact ((HU12.out.new [.slice none 0 0, .slice none 0 0, .slice none 0 0, .slice none 0 0] 57).whole (vs:=[.slice ea 1 ec, .slice la 1 lc, .slice (some ⟨hb, 0, none⟩) 1 hc, .slice none 0 0]) rfl).1
 case hid=>kernel_rfl
 case h1d=>exact four_one _ _ _ _ _ _ _ _
 generalize hW : World.setCells _ u12.heap.size 0 _ = w12
 have HO:=Lib.hid (show Ows w w12 d M11 (.blk u12.heap.size [.slice ea 1 ec, .slice la 1 lc, .slice (some ⟨hb, 0, none⟩) 1 hc, .slice none 0 0] 57::.row (.slice ea 1 ec) [[97]]::.blk hb (Y1 ++ rest) 51::staO s2 r2 g2 (.slice (some ⟨n1, 0, none⟩) 1 1) ⟨sd, [(1, rt)], 0 + 1, false⟩ ⟨[[97]], 0 + 1, false⟩ Sr2 Sg2 (.blk n1 Y1 51::.hrow (.slice a1 3 c1) (pathF (leavesF sd.data.toList) 0)::[.blk b8 Y8 51, .blk n8 Y8 51, .hrow (.slice a8 3 c8) (pathF (leavesF sd.data.toList) 0), .blk b7 Y7 51, .blk n7 Y7 51, .hrow (.slice a7 3 c7) (pathF (leavesF sd.data.toList) 0)])) from by rw [← hW]; exact ((HU12.out.new [.slice none 0 0, .slice none 0 0, .slice none 0 0, .slice none 0 0] 57).whole (vs:=[.slice ea 1 ec, .slice la 1 lc, .slice (some ⟨hb, 0, none⟩) 1 hc, .slice none 0 0]) rfl).2)
 clear hW HSR HU12
 generalize u12.heap.size = xb at *
 have hrow : Row w12 9 1 (.slice ea 1 ec) (strV [[97]]):=HO.out.has (x:=.row (.slice ea 1 ec) [[97]]) (by simp)
 obtain ⟨eb, eo, rfl, _⟩:=hrow.view.text1 (i:=0) (p:=[97]) rfl
 have HES:=Lib.hid (fun w1 (h1 : Ows w w1 d M11 (.blk xb [.slice (some ⟨eb, eo, none⟩) 1 ec, .slice la 1 lc, .slice (some ⟨hb, 0, none⟩) 1 hc, .slice none 0 0] 57::.row (.slice (some ⟨eb, eo, none⟩) 1 ec) [[97]]::.blk hb (Y1 ++ rest) 51::staO s2 r2 g2 (.slice (some ⟨n1, 0, none⟩) 1 1) ⟨sd, [(1, rt)], 0 + 1, false⟩ ⟨[[97]], 0 + 1, false⟩ Sr2 Sg2 (.blk n1 Y1 51::.hrow (.slice a1 3 c1) (pathF (leavesF sd.data.toList) 0)::[.blk b8 Y8 51, .blk n8 Y8 51, .hrow (.slice a8 3 c8) (pathF (leavesF sd.data.toList) 0), .blk b7 Y7 51, .blk n7 Y7 51, .hrow (.slice a7 3 c7) (pathF (leavesF sd.data.toList) 0)])))=>show EndS w1 xb hb hc eb eo ec b7 Y1 Y7 from by
  have q1 : Blk w1 xb _ _:=h1.blk1
  have q2 : Row w1 9 1 (.slice (some ⟨eb, eo, none⟩) 1 ec) (strV [[97]]):=h1.has (x:=.row (.slice (some ⟨eb, eo, none⟩) 1 ec) [[97]]) (by simp)
  obtain ⟨gb, go, ev, q3⟩:=q2.view.text1 (i:=0) (p:=[97]) rfl
  cases ev
  have q4 : Blk w1 hb (Y1 ++ rest) 51:=h1.has (x:=.blk hb (Y1 ++ rest) 51) (by simp)
  have q5 : Blk w1 b7 Y7 51:=h1.has (x:=.blk b7 Y7 51) (by simp)
  exact ⟨q1.cell (i:=0) rfl, q1.cell (i:=2) rfl, q3, rangeAt_ahead q4.range0, q5.range0⟩)
 have HSM:=Lib.hid (fun w1 (h1 : Ows w w1 d M11 (.blk xb [.slice (some ⟨eb, eo, none⟩) 1 ec, .slice la 1 lc, .slice (some ⟨hb, 0, none⟩) 1 hc, .slice none 0 0] 57::.row (.slice (some ⟨eb, eo, none⟩) 1 ec) [[97]]::.blk hb (Y1 ++ rest) 51::staO s2 r2 g2 (.slice (some ⟨n1, 0, none⟩) 1 1) ⟨sd, [(1, rt)], 0 + 1, false⟩ ⟨[[97]], 0 + 1, false⟩ Sr2 Sg2 (.blk n1 Y1 51::.hrow (.slice a1 3 c1) (pathF (leavesF sd.data.toList) 0)::[.blk b8 Y8 51, .blk n8 Y8 51, .hrow (.slice a8 3 c8) (pathF (leavesF sd.data.toList) 0), .blk b7 Y7 51, .blk n7 Y7 51, .hrow (.slice a7 3 c7) (pathF (leavesF sd.data.toList) 0)])))=>same_pub (w:=w1) (sz:=1) HY1.out.1 HY7.out.1 HRT.out.2.1 (h1.has (x:=.hrow (.slice a1 3 c1) (pathF (leavesF sd.data.toList) 0)) (by simp)) (h1.has (x:=.hrow (.slice a7 3 c7) (pathF (leavesF sd.data.toList) 0)) (by simp)) (pathF_32 _ _) (by rw [path_len _ (leavesF_len _) 0 (by decide)]; decide))
 have HI1:=Lib.hid (show (Tryz.prog.info? 51).map (·.size) = some Y1.length by rw [HY1.out.2.1]; exact info_signed)
 clear hrow
 have HO:=Lib.hid (HO.out.same (Kept.refl _ _).drew)
 refine wp_region_held_drew (S:=(fun w'=>EndS w' xb hb hc eb eo ec b7 Y1 Y7)) (by kernel_rfl) (HES.out _ HO.out) (fun hH0=>?_)
 generalize World.drew w12 = Wd at HO hH0 ⊢
 refine wpAnyH_take (i := 0) (oi := ⟨some 98, .fieldAddr 57 (.tmp 14) 0, 0, "outright.go:35", #[], none⟩) (v := ?_) rfl (by kernel_rfl) (by kernel_rfl) (by kernel_rfl) (fun _ _ _ h => h) (Or.inl ⟨by rfl, fun w hSw => ?_⟩) hH0 ?_
 rotate_left 1
 ·(try simp only [EndS] at hSw); go_simp; (try with_reducible rfl)
 try simp only [Act.put, List.setIfInBounds_toArray, List.set_cons_zero, List.set_cons_succ]
 refine wpAnyH_take (i := 1) (oi := ⟨some 99, .load 54 (.tmp 98), 54, "outright.go:35", #[⟨0, .data⟩], none⟩) (v := ?_) rfl (by kernel_rfl) (by kernel_rfl) (by kernel_rfl) (fun _ _ _ h => h) (Or.inl ⟨by rfl, fun w hSw => ?_⟩) hH0 ?_
 rotate_left 1
 ·(try simp only [EndS] at hSw); go_simp; (try with_reducible rfl)
 try simp only [Act.put, List.setIfInBounds_toArray, List.set_cons_zero, List.set_cons_succ]
 refine wpAnyH_take (i := 2) (oi := ⟨some 100, .call { callee := .builtin .len, args := #[.tmp 99], argTypes := #[54] }, 3, "outright.go:35", #[⟨1, .data⟩], none⟩) (v := ?_) rfl (by kernel_rfl) (by kernel_rfl) (by kernel_rfl) (fun _ _ _ h => h) (Or.inl ⟨by rfl, fun w hSw => ?_⟩) hH0 ?_
 rotate_left 1
 ·(try simp only [EndS] at hSw); go_simp; (try with_reducible rfl)
 try simp only [Act.put, List.setIfInBounds_toArray, List.set_cons_zero, List.set_cons_succ]
 refine wpAnyH_take (i := 3) (oi := ⟨some 101, .binOp .eql 3 (.tmp 100) (.const (.int .i64 1)) 3, 4, "outright.go:35", #[⟨2, .data⟩], none⟩) (v := ?_) rfl (by kernel_rfl) (by kernel_rfl) (by kernel_rfl) (fun _ _ _ h => h) (Or.inl ⟨by rfl, fun w hSw => ?_⟩) hH0 ?_
 rotate_left 1
 ·(try simp only [EndS] at hSw); go_simp; (try with_reducible rfl)
 try simp only [Act.put, List.setIfInBounds_toArray, List.set_cons_zero, List.set_cons_succ]
 refine wpAnyH_take (i := 4) (oi := ⟨some 102, .move (.tmp 101), 4, "outright.go:35", #[⟨3, .data⟩], none⟩) (v := ?_) rfl (by kernel_rfl) (by kernel_rfl) (by kernel_rfl) (fun _ _ _ h => h) (Or.inl ⟨by rfl, fun w hSw => ?_⟩) hH0 ?_
 rotate_left 1
 ·(try simp only [EndS] at hSw); go_simp; (try with_reducible rfl)
 try simp only [Act.put, List.setIfInBounds_toArray, List.set_cons_zero, List.set_cons_succ]
 refine wpAnyH_take (i := 5) (oi := ⟨some 103, .fieldAddr 57 (.tmp 14) 0, 0, "outright.go:35", #[⟨4, .guard⟩], some (4, true)⟩) (v := ?_) rfl (by kernel_rfl) (by kernel_rfl) (by kernel_rfl) (fun _ _ _ h => h) (Or.inl ⟨by rfl, fun w hSw => ?_⟩) hH0 ?_
 rotate_left 1
 ·(try simp only [EndS] at hSw); go_simp; (try with_reducible rfl)
 try simp only [Act.put, List.setIfInBounds_toArray, List.set_cons_zero, List.set_cons_succ]
 refine wpAnyH_take (i := 6) (oi := ⟨some 104, .load 54 (.tmp 103), 54, "outright.go:35", #[⟨5, .data⟩, ⟨4, .guard⟩], some (4, true)⟩) (v := ?_) rfl (by kernel_rfl) (by kernel_rfl) (by kernel_rfl) (fun _ _ _ h => h) (Or.inl ⟨by rfl, fun w hSw => ?_⟩) hH0 ?_
 rotate_left 1
 ·(try simp only [EndS] at hSw); go_simp; (try with_reducible rfl)
 try simp only [Act.put, List.setIfInBounds_toArray, List.set_cons_zero, List.set_cons_succ]
 refine wpAnyH_take (i := 7) (oi := ⟨some 105, .indexAddr 54 (.tmp 104) (.const (.int .i64 0)), 0, "outright.go:35", #[⟨6, .data⟩, ⟨4, .guard⟩], some (4, true)⟩) (v := ?_) rfl (by kernel_rfl) (by kernel_rfl) (by kernel_rfl) (fun _ _ _ h => h) (Or.inl ⟨by rfl, fun w hSw => ?_⟩) hH0 ?_
 rotate_left 1
 ·(try simp only [EndS] at hSw); go_simp; (try with_reducible rfl)
 try simp only [Act.put, List.setIfInBounds_toArray, List.set_cons_zero, List.set_cons_succ]
 refine wpAnyH_take (i := 8) (oi := ⟨some 106, .load 9 (.tmp 105), 9, "outright.go:35", #[⟨7, .data⟩, ⟨4, .guard⟩], some (4, true)⟩) (v := ?_) rfl (by kernel_rfl) (by kernel_rfl) (by kernel_rfl) (fun _ _ _ h => h) (Or.inl ⟨by rfl, fun w hSw => ?_⟩) hH0 ?_
 rotate_left 1
 ·(try simp only [EndS] at hSw); go_simp; (try with_reducible rfl)
 try simp only [Act.put, List.setIfInBounds_toArray, List.set_cons_zero, List.set_cons_succ]
 refine wpAnyH_take (i := 9) (oi := ⟨some 107, .binOp .eql 9 (.tmp 106) (.const (.string ⟨#[97]⟩)) 9, 4, "outright.go:35", #[⟨8, .data⟩, ⟨4, .guard⟩], some (4, true)⟩) (v := ?_) rfl (by kernel_rfl) (by kernel_rfl) (by kernel_rfl) (fun _ _ _ h => h) (Or.inl ⟨by rfl, fun w hSw => ?_⟩) hH0 ?_
 rotate_left 1
 ·(try simp only [EndS] at hSw); go_simp; (try with_reducible rfl)
 try simp only [Act.put, List.setIfInBounds_toArray, List.set_cons_zero, List.set_cons_succ]
 refine wpAnyH_take (i := 10) (oi := ⟨some 108, .pick (.tmp 102) (.tmp 107) (.const (.bool false)), 4, "outright.go:35", #[⟨4, .data⟩, ⟨9, .data⟩], none⟩) (v := ?_) rfl (by kernel_rfl) (by kernel_rfl) (by kernel_rfl) (fun _ _ _ h => h) (Or.inl ⟨by rfl, fun w hSw => ?_⟩) hH0 ?_
 rotate_left 1
 ·(try simp only [EndS] at hSw); go_simp; (try with_reducible rfl)
 try simp only [Act.put, List.setIfInBounds_toArray, List.set_cons_zero, List.set_cons_succ]
 refine wpAnyH_take (i := 11) (oi := ⟨some 109, .move (.tmp 108), 4, "outright.go:35", #[⟨10, .data⟩, ⟨4, .chain⟩], none⟩) (v := ?_) rfl (by kernel_rfl) (by kernel_rfl) (by kernel_rfl) (fun _ _ _ h => h) (Or.inl ⟨by rfl, fun w hSw => ?_⟩) hH0 ?_
 rotate_left 1
 ·(try simp only [EndS] at hSw); go_simp; (try with_reducible rfl)
 try simp only [Act.put, List.setIfInBounds_toArray, List.set_cons_zero, List.set_cons_succ]
 refine wpAnyH_take (i := 12) (oi := ⟨some 110, .fieldAddr 57 (.tmp 14) 2, 0, "outright.go:35", #[⟨11, .guard⟩], some (11, true)⟩) (v := ?_) rfl (by kernel_rfl) (by kernel_rfl) (by kernel_rfl) (fun _ _ _ h => h) (Or.inl ⟨by rfl, fun w hSw => ?_⟩) hH0 ?_
 rotate_left 1
 ·(try simp only [EndS] at hSw); go_simp; (try with_reducible rfl)
 try simp only [Act.put, List.setIfInBounds_toArray, List.set_cons_zero, List.set_cons_succ]
 refine wpAnyH_take (i := 13) (oi := ⟨some 111, .load 55 (.tmp 110), 55, "outright.go:35", #[⟨12, .data⟩, ⟨11, .guard⟩], some (11, true)⟩) (v := ?_) rfl (by kernel_rfl) (by kernel_rfl) (by kernel_rfl) (fun _ _ _ h => h) (Or.inl ⟨by rfl, fun w hSw => ?_⟩) hH0 ?_
 rotate_left 1
 ·(try simp only [EndS] at hSw); go_simp; (try with_reducible rfl)
 try simp only [Act.put, List.setIfInBounds_toArray, List.set_cons_zero, List.set_cons_succ]
 refine wpAnyH_take (i := 14) (oi := ⟨some 112, .call { callee := .builtin .len, args := #[.tmp 111], argTypes := #[55] }, 3, "outright.go:35", #[⟨13, .data⟩, ⟨11, .guard⟩], some (11, true)⟩) (v := ?_) rfl (by kernel_rfl) (by kernel_rfl) (by kernel_rfl) (fun _ _ _ h => h) (Or.inl ⟨by rfl, fun w hSw => ?_⟩) hH0 ?_
 rotate_left 1
 ·(try simp only [EndS] at hSw); go_simp; (try with_reducible rfl)
 try simp only [Act.put, List.setIfInBounds_toArray, List.set_cons_zero, List.set_cons_succ]
 refine wpAnyH_take (i := 15) (oi := ⟨some 113, .binOp .eql 3 (.tmp 112) (.const (.int .i64 1)) 3, 4, "outright.go:35", #[⟨14, .data⟩, ⟨11, .guard⟩], some (11, true)⟩) (v := ?_) rfl (by kernel_rfl) (by kernel_rfl) (by kernel_rfl) (fun _ _ _ h => h) (Or.inl ⟨by rfl, fun w hSw => ?_⟩) hH0 ?_
 rotate_left 1
 ·(try simp only [EndS] at hSw); go_simp; (try with_reducible rfl)
 try simp only [Act.put, List.setIfInBounds_toArray, List.set_cons_zero, List.set_cons_succ]
 refine wpAnyH_take (i := 16) (oi := ⟨some 114, .pick (.tmp 109) (.tmp 113) (.const (.bool false)), 4, "outright.go:35", #[⟨11, .data⟩, ⟨15, .data⟩], none⟩) (v := ?_) rfl (by kernel_rfl) (by kernel_rfl) (by kernel_rfl) (fun _ _ _ h => h) (Or.inl ⟨by rfl, fun w hSw => ?_⟩) hH0 ?_
 rotate_left 1
 ·(try simp only [EndS] at hSw); go_simp; (try with_reducible rfl)
 try simp only [Act.put, List.setIfInBounds_toArray, List.set_cons_zero, List.set_cons_succ]
 refine wpAnyH_take (i := 17) (oi := ⟨some 115, .move (.tmp 114), 4, "outright.go:35", #[⟨16, .data⟩, ⟨11, .chain⟩], none⟩) (v := ?_) rfl (by kernel_rfl) (by kernel_rfl) (by kernel_rfl) (fun _ _ _ h => h) (Or.inl ⟨by rfl, fun w hSw => ?_⟩) hH0 ?_
 rotate_left 1
 ·(try simp only [EndS] at hSw); go_simp; (try with_reducible rfl)
 try simp only [Act.put, List.setIfInBounds_toArray, List.set_cons_zero, List.set_cons_succ]
 refine wpAnyH_take (i := 18) (oi := ⟨some 116, .fieldAddr 57 (.tmp 14) 2, 0, "outright.go:35", #[⟨17, .guard⟩], some (17, true)⟩) (v := ?_) rfl (by kernel_rfl) (by kernel_rfl) (by kernel_rfl) (fun _ _ _ h => h) (Or.inl ⟨by rfl, fun w hSw => ?_⟩) hH0 ?_
 rotate_left 1
 ·(try simp only [EndS] at hSw); go_simp; (try with_reducible rfl)
 try simp only [Act.put, List.setIfInBounds_toArray, List.set_cons_zero, List.set_cons_succ]
 refine wpAnyH_take (i := 19) (oi := ⟨some 117, .load 55 (.tmp 116), 55, "outright.go:35", #[⟨18, .data⟩, ⟨17, .guard⟩], some (17, true)⟩) (v := ?_) rfl (by kernel_rfl) (by kernel_rfl) (by kernel_rfl) (fun _ _ _ h => h) (Or.inl ⟨by rfl, fun w hSw => ?_⟩) hH0 ?_
 rotate_left 1
 ·(try simp only [EndS] at hSw); go_simp; (try with_reducible rfl)
 try simp only [Act.put, List.setIfInBounds_toArray, List.set_cons_zero, List.set_cons_succ]
 refine wpAnyH_take (i := 20) (oi := ⟨some 118, .indexAddr 55 (.tmp 117) (.const (.int .i64 0)), 0, "outright.go:35", #[⟨19, .data⟩, ⟨17, .guard⟩], some (17, true)⟩) (v := ?_) rfl (by kernel_rfl) (by kernel_rfl) (by kernel_rfl) (fun _ _ _ h => h) (Or.inl ⟨by rfl, fun w hSw => ?_⟩) hH0 ?_
 rotate_left 1
 ·(try simp only [EndS] at hSw); go_simp; (try with_reducible rfl)
 try simp only [Act.put, List.setIfInBounds_toArray, List.set_cons_zero, List.set_cons_succ]
 refine wpAnyH_take (i := 21) (oi := ⟨some 119, .load 51 (.tmp 118), 51, "outright.go:35", #[⟨20, .data⟩, ⟨17, .guard⟩], some (17, true)⟩) (v := .agg (Y1).toArray) rfl (by kernel_rfl) (by kernel_rfl) (by kernel_rfl) (fun _ _ _ h => h) (yieldsIf_load_mid (by rfl) _ _ rfl (hb) (0) rfl (Y1) _ (fun w q => q.2.2.2.1) Tryz.underlying51 rfl HI1.out) hH0 ?_
 try simp only [Act.put, List.setIfInBounds_toArray, List.set_cons_zero, List.set_cons_succ]
 refine wpAnyH_take (i := 22) (oi := ⟨some 120, .load 51 (.tmp 8), 51, "outright.go:35", #[⟨17, .guard⟩], some (17, true)⟩) (v := .agg (Y7).toArray) rfl (by kernel_rfl) (by kernel_rfl) (by kernel_rfl) (fun _ _ _ h => h) (yieldsIf_load_mid (by rfl) _ _ rfl (b7) (0) rfl (Y7) _ (fun w q => q.2.2.2.2) Tryz.underlying51 rfl HI7.out) hH0 ?_
 try simp only [Act.put, List.setIfInBounds_toArray, List.set_cons_zero, List.set_cons_succ]
 refine wpAnyH_ready (rs:=[23]) (by kernel_rfl) (by simp) ?_
 refine AllReadyH.cons (o := ⟨some 121, .call { callee := .value (.func 42), args := #[.tmp 119, .tmp 120], argTypes := #[51, 51] }, 4, "outright.go:35", #[⟨21, .data⟩, ⟨22, .data⟩, ⟨17, .chain⟩, ⟨17, .guard⟩], some (17, true)⟩) rfl (fun K hK => ?_) AllReadyH.nil
 go_simp
 refine (HSM.out _ HO.out).mono ?_
 rintro e wz ⟨rfl, hkz⟩
 have HO:=Lib.hid (HO.out.same hkz)
 clear hkz
 refine hK.out _ _ (HES.out _ HO.out) (fun hH1=>?_)
 clear hK K
 try simp only [Act.put, List.setIfInBounds_toArray, List.set_cons_zero, List.set_cons_succ]
 refine wpAnyH_take (i := 24) (oi := ⟨some 122, .pick (.tmp 115) (.tmp 121) (.const (.bool false)), 4, "outright.go:35", #[⟨17, .data⟩, ⟨23, .data⟩], none⟩) (v := ?_) rfl (by kernel_rfl) (by kernel_rfl) (by kernel_rfl) (fun _ _ _ h => h) (Or.inl ⟨by rfl, fun w hSw => ?_⟩) hH1 ?_
 rotate_left 1
 ·(try simp only [EndS] at hSw); go_simp; (try with_reducible rfl)
 try simp only [Act.put, List.setIfInBounds_toArray, List.set_cons_zero, List.set_cons_succ]
 refine wpAnyH_take (i := 25) (oi := ⟨some 0, .assign (.tmp 122), 4, "outright.go:35", #[⟨24, .data⟩, ⟨23, .chain⟩, ⟨0, .phase⟩, ⟨1, .phase⟩, ⟨2, .phase⟩, ⟨3, .phase⟩, ⟨4, .phase⟩, ⟨5, .phase⟩, ⟨6, .phase⟩, ⟨7, .phase⟩, ⟨8, .phase⟩, ⟨9, .phase⟩, ⟨10, .phase⟩, ⟨11, .phase⟩, ⟨12, .phase⟩, ⟨13, .phase⟩, ⟨14, .phase⟩, ⟨15, .phase⟩, ⟨16, .phase⟩, ⟨17, .phase⟩, ⟨18, .phase⟩, ⟨19, .phase⟩, ⟨20, .phase⟩, ⟨21, .phase⟩, ⟨22, .phase⟩, ⟨23, .phase⟩, ⟨24, .phase⟩], none⟩) (v := ?_) rfl (by kernel_rfl) (by kernel_rfl) (by kernel_rfl) (fun _ _ _ h => h) (Or.inl ⟨by rfl, fun w hSw => ?_⟩) hH1 ?_
 rotate_left 1
 ·(try simp only [EndS] at hSw); go_simp; (try with_reducible rfl)
 try simp only [Act.put, List.setIfInBounds_toArray, List.set_cons_zero, List.set_cons_succ]
 refine wpAnyH_done (by kernel_rfl) ?_ _
 go_wp2_with fail
 go_ret
 exact ⟨rfl, HO.out.old⟩
end Go.Proofs.YtpmdlkogccojmaaGreatDoor
