/- SegPlan3 Seg4 Seg4b -/
import Derived.Deep.CutRange
import Derived.Test.YtpmdlkogccojmaaGreatDoorUStationSure41
set_option linter.unusedVariables false
set_option linter.unusedSimpArgs false
set_option maxRecDepth 100000
set_option maxHeartbeats 16000000
namespace Go.Proofs.YtpmdlkogccojmaaGreatDoor
open Go.RowKit
def PlanPost (w : World) (s d : Nat) (M : DiskM) (E l : List By) (e : Ending) (w' : World) : Prop :=
 ∃ sa sm sc ea em ec, e = .returned (.tuple #[.slice sa sm sc, .slice ea em ec, .int .i64 ((makes (planC (fun n=>(AM.get M.files n).isSome) E.length l) : Nat) : Int), .int .i64 (((framesF l).length : Nat) : Int)]) ∧
  Hid ((∃ zs, StP w s d (.slice sa sm sc) (.slice ea em ec) (planC (fun n=>(AM.get M.files n).isSome) E.length l) zs w')∧Row w' 3 1 (.slice ea em ec) (natsV (endsE (E ++ l)))∧Kept (fun _=>False) w w'∧∀ k, (Value.slice ea em ec).ownBlock = some k → w.heap.size ≤ k)
section
variable {w W W' : World} {s d : Nat} {B S : Nat → Prop} {M : DiskM} {G : SegM} {E l done rest : List By} {cs : List Chg} {sv ev lv hv : Value}
theorem plan_start (h : IsSeg w s d G S) {hv ev lv : Value} (hk : Kept (fun _=>False) (w.alloc (.cells #[.pointer (some ⟨s, 0, none⟩)] 64)) W) (hf : Row W 3 1 hv (icells (M.files.map (·.1)))) (hfo : ∀ k, hv.ownBlock = some k → w.heap.size < k)
  (hk2 : Kept (fun _=>False) W W') (he : Row W' 3 1 ev (natsV (endsE G.entries))) (heo : ∀ k, ev.ownBlock = some k → W.heap.size ≤ k) (hl : View w 1 lv (strV l)) : PlanR w s d M.files G.entries l [] l [] (.slice none 0 0) ev lv hv W':=by
 obtain ⟨⟨x, y, h1, _⟩, _⟩:=h
 have k0 : Kept (fun _=>False) w (w.alloc (.cells #[.pointer (some ⟨s, 0, none⟩)] 64)):=(Kept.refl _ _).alloc _
 have kk:=(k0.trans hk).trans hk2
 have hz:=hk.size
 rw [World.size_alloc] at hz
 refine ⟨PlanS.start _ _ _, hl, ⟨[], StP.start kk.size⟩, by simpa using he, hf.kept hk2 (fun _ _=>id), ((Blk.new w _ _).kept hk id).kept hk2 id, ⟨x, y, _, _, h1.kept kk id⟩, kk, fun k q=>by have:=heo k q; omega, fun k q=>⟨by have:=hfo k q; omega, fun z=>?_⟩, h1.lt⟩
 have h1:=heo k z
 have h2:=hf.lt q
 omega
theorem plan_end (h : PlanR w s d M.files E l done [] cs sv ev lv hv W) {sa ea : Option Addr} {sm sc em ec : Nat} (e1 : sv = .slice sa sm sc) (e2 : ev = .slice ea em ec) : PlanPost w s d M E l (.returned (.tuple #[.slice sa sm sc, .slice ea em ec, .int .i64 ((makes cs : Nat) : Int), .int .i64 (((framesF done).length : Nat) : Int)])) W:=by
 subst e1
 subst e2
 obtain ⟨p1, p2⟩:=h.ps.end_
 subst p2
 refine ⟨sa, sm, sc, ea, em, ec, by rw [p1], Lib.hid ⟨by rw [p1]; exact h.st, h.ends, h.kept, h.owne⟩⟩
theorem seg_plan (h : IsSeg w s d G S) (hd : Apart B d M w) (la : Option Addr) (lc : Nat) (hl : View w 1 (.slice la l.length lc) (strV l)) (hs : ∀ p ∈ l, p.length ≤ 200) (hf : G.entries.length + l.length ≤ 4096) (ht : Tab w) :
  Calls Tryz.prog 86 #[.pointer (some ⟨s, 0, none⟩), .slice la l.length lc] w (PlanPost w s d M G.entries l):=by
 obtain ⟨W0, hW0⟩ : ∃ W0, W0 = w.alloc (.cells #[.pointer (some ⟨s, 0, none⟩)] 64):=⟨_, rfl⟩
 have k0 : Kept (fun _=>False) w W0:=by rw [hW0]; exact (Kept.refl _ _).alloc _
 have hz0 : W0.heap.size = w.heap.size + 1:=by rw [hW0]; simp
 have cb : W0.cell? ⟨w.heap.size, 0, none⟩ = some (.pointer (some ⟨s, 0, none⟩)):=by rw [hW0]; exact (Blk.new w _ _).cell (i:=0) rfl
 have hfiles:=(hd.same k0).files
 obtain ⟨x, y, c0, _, c2, _, _, _, _, _, _, hy, _⟩:=h.cells
 have d0:=k0.cell c0 id
 have d2:=k0.cell c2 id
 have hen : (endsE G.entries).length ≤ 1000000:=by rw [endsE_len]; omega
 have HC:=Lib.hid (fun W (hk : Kept (fun _=>False) W0 W)=>clone_int (l:=endsE G.entries) ((hy.kept k0 (fun _ _=>id)).kept hk (fun _ _=>id)).view hen)
 have HCB:=Lib.hid (fun W (hk : Kept (fun _=>False) W0 W)=>And.intro (hk.cell cb id) (And.intro (hk.cell d0 id) (hk.cell d2 id)))
 have HST:=Lib.hid (fun W W' hv ev hk hf hfo hk2 he heo=>plan_start (M:=M) (l:=l) (lv:=.slice la l.length lc) (W:=W) (W':=W') (hv:=hv) (ev:=ev) h hk hf hfo hk2 he heo hl)
 have HH:=Lib.hid (And.intro hs (And.intro hf (And.intro ht (And.intro hd.ok.rise (And.intro h.short (And.intro h.few (show (M.files.map (·.1)).length ≤ 400000000 from by rw [List.length_map]; have:=hd.ok.count; omega)))))))
 obtain ⟨ya, ym, yc, rfl, _⟩:=hy.shape
 clear hs hf ht hl hen k0 hd h c0 c2 hy
 rw [← hW0] at HST
 subst hW0
 go_enter Tryz.func86, Tryz.ntmps86
 go_wp2_with (first
  | (go_at_call 70; refine hfiles.mono ?_; rintro e W1 ⟨hv, rfl, hrow, hk1, ho1⟩; obtain ⟨ha, hm, hc, rfl, _⟩:=hrow.shape; obtain ⟨cb1, d01, d21⟩:=HCB.out _ hk1)
  | (go_at_call 118; refine (HC.out _ hk1).mono ?_; rintro e W2 ⟨ea, em, ec, rfl, hev, hk2, ho2⟩; have HS2:=Lib.hid (HST.out _ _ _ _ hk1 hrow (fun k q=>by have:=ho1 k q; omega) hk2 hev ho2)))
 clear hrow hev hk1 hk2 ho1 ho2 cb1 d01 d21 hfiles HC HCB cb d0 d2
 go_loopw [1, 4, 5, 6, 7] (fun lv sv ev fi sz wr=>∃ (done rest : List By) (cs : List Chg) (xa : Option Addr) (xc : Nat) (sa : Option Addr) (sm sc : Nat) (ea : Option Addr) (ec : Nat), lv = .slice xa rest.length xc∧sv = .slice sa sm sc∧ev = .slice ea (G.entries.length + done.length) ec∧fi = .int .i64 ((makes cs : Nat) : Int)∧sz = .int .i64 (((framesF done).length : Nat) : Int)∧Hid (PlanR w s d M.files G.entries l done rest cs sv ev lv (.slice ha hm hc) wr)) (fun lv _ _ _ _ _=>sliceLen lv)
 case atStart =>
  obtain ⟨_, _, _, e, he, _⟩:=HS2.out.ends.shape
  cases e
  rw [natsV_len, endsE_len, List.length_append, Nat.mul_one] at he
  subst he
  exact ⟨[], l, [], la, lc, none, 0, 0, ea, ec, rfl, rfl, rfl, rfl, rfl, HS2⟩
 case round =>
  obtain ⟨done, rest, cs, xa, xc, sa, sm, sc, ea, ec, rfl, rfl, rfl, rfl, rfl, HR⟩:=hrel
  by_cases h0 : rest = []
  ·subst h0
   have HE:=Lib.hid (plan_end HR.out rfl rfl)
   clear HR HH
   go_wp2_with fail
   exact bodyPost_ret (v:=.tuple #[.slice sa sm sc, .slice ea (G.entries.length + done.length) ec, .int .i64 ((makes cs : Nat) : Int), .int .i64 (((framesF done).length : Nat) : Int)]) (by simp [results, Tryz.results86, go_sem]) rfl HE.out
  ·have hrl : 0 < rest.length:=List.length_pos_iff.2 h0
   have hall:=congrArg List.length HR.out.ps.all
   rw [List.length_append] at hall
   have hf:=HH.out.2.1
   obtain ⟨K, hK⟩ : ∃ K, K = G.entries.length + done.length:=⟨_, rfl⟩
   rw [← hK] at HR
   rw [← hK]
   obtain ⟨D, hD⟩ : ∃ D, D = K / 64:=⟨_, rfl⟩
   obtain ⟨R, hRm⟩ : ∃ R, R = K % 64:=⟨_, rfl⟩
   obtain ⟨q, hq⟩ : ∃ q, q = min (64 - R) rest.length:=⟨_, rfl⟩
   obtain ⟨n, hn⟩ : ∃ n : Int, n = 1000 + (D : Int):=⟨_, rfl⟩
   have hX : (G.entries ++ done).length = K:=by rw [List.length_append, hK]
   obtain ⟨part, hpart⟩ : ∃ part, part = rest.take q:=⟨_, rfl⟩
   have hpl : part.length = q:=by rw [hpart, List.length_take]; omega
   have hp0 : 0 < part.length:=by omega
   have hple : part.length ≤ rest.length:=by omega
   have hqp : part.length = min (64 - (G.entries.length + done.length) % 64) rest.length:=by omega
   have hK4 : K ≤ 4096:=by omega
   have HN:=Lib.hid (plan_nums hK4 hD hRm hq hn hrl)
   subst hpl
   have hp : rest.take part.length = part:=hpart.symm
   have hBG:=HR.out.begins hp hp0 hple hf HH.out.1 HH.out.2.2.2.2.1 HH.out.2.2.1 n
   obtain ⟨hI, hV, hv0, hnt, hne, hXl, hps, hfr, hT, hto⟩:=hBG
   have hX64 : (G.entries ++ done).length % 64 + part.length ≤ 64:=by rw [hX]; omega
   have hend:=seg_end (rndB wr n) (G.entries ++ done) (a:=ea) (m:=K) (c:=ec) (HR.out.ends.kept (rnd_kept wr n) (fun _ _=>id)) (by omega)
   rw [hX] at hend
   have HB:=Lib.hid (And.intro hI (And.intro hV (And.intro hv0 (And.intro hnt (And.intro hne (And.intro hX64 (And.intro hXl (And.intro hps (And.intro hfr (And.intro hT hto))))))))))
   have HK:=Lib.hid (And.intro hK (And.intro hD (And.intro hn (And.intro h0 (And.intro hf (And.intro hp (And.intro hqp hple)))))))
   have hrun:=fun w0=>HR.out.view.run_head (P:=Tryz.prog) (t:=54) (by kernel_rfl) (fun _=>by kernel_rfl) part.length hple w0
   obtain ⟨fr, hfre⟩ : ∃ fr : Nat, fr = fromE (G.entries ++ done):=⟨_, rfl⟩
   rw [← hfre] at hend
   clear hX hall hf h0 hI hV hv0 hnt hne hXl hps hfr hT hto hX64 hq hqp hpart hp0 hD hRm hn hp hrl hple
   clear hK hK4
   obtain ⟨q1, q2, q3, q4, q5, q6, q7, q8, q9, q10, y1, y2⟩:=HN.out
   go_upto_block 2 with (go_at_call 119; refine hend.mono ?_; rintro e w' ⟨rfl, rfl⟩)
   subst hfre
   refine plan_inner (code:=_) (by kernel_rfl) HB.out.1 HB.out.2.1 HB.out.2.2.1 HB.out.2.2.2.1 HB.out.2.2.2.2.1 HB.out.2.2.2.2.2.1 HB.out.2.2.2.2.2.2.1 HB.out.2.2.2.2.2.2.2.1 HB.out.2.2.2.2.2.2.2.2.1 HB.out.2.2.2.2.2.2.2.2.2.1 HB.out.2.2.2.2.2.2.2.2.2.2 (fun _ _ _ _ _ h=>h) ?_
   intro a2 m2 c2 vb v15 v16 v17 v49 v50 v51 v52 v53 v54 v55 v56 v57 v58 v59 v60 v61 v62 v63 v64 v65 v66 Wc HI
   clear q1 q2 q3 q4 q5 q6 q7 q8 q9 q10 y1 y2 hend hrun
   obtain ⟨hK, hD, hn, h0, hf, hp, hqp, hple⟩:=HK.out
   have hall:=congrArg List.length HR.out.ps.all
   rw [List.length_append] at hall
   have n0 : -9223372036854775808 ≤ n∧n ≤ 9223372036854775807:=by omega
   have hl4 : l.length ≤ 4096:=by omega
   obtain ⟨HS, hb, hrow, hblk, hbox⟩:=HR.out.tail' hp HI.out
   have cn:=hblk.cell (i:=0) rfl
   have hcon:=contains_any hrow.view n HH.out.2.2.2.2.2.2
   obtain ⟨bb, hbb⟩ : ∃ bb, bb = (AM.get M.files n).isSome:=⟨_, rfl⟩
   rw [contains_get HH.out.2.2.2.1, ← hbb] at hcon
   have hps:=HB.out.2.2.2.2.2.2.2.1
   have hrs : ∀ p ∈ rest, p.length ≤ 200:=fun p q=>HH.out.1 p (by rw [HR.out.ps.all]; exact List.mem_append_right _ q)
   have hnn : n = 1000 + (((G.entries.length + done.length) / 64 : Nat) : Int):=by omega
   have hvw:=HR.out.view.tail part.length hple
   have hz:=fun w0=>HR.out.view.run_tail (P:=Tryz.prog) (t:=54) (by kernel_rfl) (fun _=>by kernel_rfl) part.length hple w0
   have hdl : (strV rest).drop (part.length * 1) = strV (rest.drop part.length):=by unfold strV; rw [Nat.mul_one, List.map_drop]
   rw [hdl] at hvw
   have hcl : cs.length ≤ 10000:=by have:=HR.out.ps.len; omega
   have hfl1:=frames_le part hps
   have hfl2:=frames_le done (fun p q=>HH.out.1 p (by rw [HR.out.ps.all]; exact List.mem_append_left _ q))
   cases bb
   ·obtain ⟨a1, m1, c1, W1, r1, H1⟩:=HR.out.make' hp HI.out n0 hl4
    obtain ⟨a3, m3, c3, W3, r2, hb3, HC⟩:=HR.out.close' hp HI.out n0 hl4 h0 hqp hnn hrs (mk:=[.make n]) (by rw [← hbb]; rfl) H1.out
    have HPR:=Lib.hid (HC.out _ hvw)
    rw [Nat.mul_one, ← List.length_drop] at HPR
    have hlen:=len_r hb3 rfl
    obtain ⟨_, _, _, e, he, _⟩:=HPR.out.ends.shape
    cases e
    rw [natsV_len, endsE_len, List.length_append, Nat.mul_one] at he
    subst he
    obtain ⟨cs2, hcs2⟩ : ∃ cs2, cs2 = cs ++ [.make n] ++ [.app n (framesF part)]:=⟨_, rfl⟩
    rw [← hcs2] at HPR
    have HF:=Lib.hid (plan_fin (cs:=cs) (cs2:=cs2) (done:=done) (part:=part) hcl (by omega) (by omega) (by rw [hcs2, makes_append, makes_append]; rfl))
    have HLT:=Lib.hid (show (rest.drop part.length).length < rest.length by rw [List.length_drop]; have:=List.length_pos_iff.2 h0; omega)
    have HDL:=Lib.hid (List.length_drop (i:=part.length) (l:=rest))
    clear hK hD hn h0 hf hp hqp hple n0 hl4 HS hb hrow hblk H1 HC hb3 hps hrs hnn hvw hdl hcl hfl1 hfl2 hall hbb hcs2
    obtain ⟨f1, f2, f3, f4⟩:=HF.out
    go_wp2_with (first
     | (go_at_call 122; refine hcon.mono ?_; rintro e w' ⟨rfl, rfl⟩)
     | (go_at_call 121; refine hlen.mono ?_; rintro e w' ⟨rfl, rfl⟩)
     | ((with_reducible show wpList _ _ _ (⟨some 76, _, _, _, _, _⟩::_) _ _); refine Lib.wpList_append_run _ rfl _ _ 150 150 rfl _ _ rfl rfl _ _ r1 ?_)
     | ((with_reducible show wpList _ _ _ (⟨some 80, _, _, _, _, _⟩::_) _ _); refine Lib.wpList_append_run _ rfl _ _ 150 150 rfl _ _ rfl rfl _ _ r2 ?_))
    go_roundw
    case rel=>exact ⟨done ++ part, rest.drop part.length, cs2, _, _, a3, m3, c3, a2, c2, by rw [HDL.out], rfl, by rw [List.length_append], by first | rfl | rw [HF.out.2.1], by first | rfl | rw [HF.out.2.2.2], (by have q:=HPR; rw [HDL.out] at q; first | exact q | (rw [List.length_append] at q; exact q))⟩
    case measure=>exact HDL.out ▸ HLT.out
   ·obtain ⟨a3, m3, c3, W3, r2, hb3, HC⟩:=HR.out.close' hp HI.out n0 hl4 h0 hqp hnn hrs (mk:=[]) (by rw [← hbb]; rfl) ⟨by rw [List.append_nil]; exact HS.out, Kept.refl _ _⟩
    have HPR:=Lib.hid (HC.out _ hvw)
    rw [Nat.mul_one, ← List.length_drop] at HPR
    have hlen:=len_r hb3 rfl
    obtain ⟨_, _, _, e, he, _⟩:=HPR.out.ends.shape
    cases e
    rw [natsV_len, endsE_len, List.length_append, Nat.mul_one] at he
    subst he
    obtain ⟨cs2, hcs2⟩ : ∃ cs2, cs2 = cs ++ [] ++ [.app n (framesF part)]:=⟨_, rfl⟩
    rw [← hcs2] at HPR
    have HF:=Lib.hid (plan_fin (cs:=cs) (cs2:=[.make 0] ++ cs) (done:=done) (part:=part) hcl (by omega) (by omega) (by rw [makes_append]; simp only [makes]; omega))
    have HMK:=Lib.hid (show makes cs2 = makes cs by rw [hcs2, makes_append, makes_append]; rfl)
    have HLT:=Lib.hid (show (rest.drop part.length).length < rest.length by rw [List.length_drop]; have:=List.length_pos_iff.2 h0; omega)
    have HDL:=Lib.hid (List.length_drop (i:=part.length) (l:=rest))
    clear hK hD hn h0 hf hp hqp hple n0 hl4 HS hb hrow hblk HC hb3 hps hrs hnn hvw hdl hcl hfl1 hfl2 hall hbb hcs2
    obtain ⟨f1, f2, f3, f4⟩:=HF.out
    clear f1 f2
    go_wp2_with (first
     | (go_at_call 122; refine hcon.mono ?_; rintro e w' ⟨rfl, rfl⟩)
     | (go_at_call 121; refine hlen.mono ?_; rintro e w' ⟨rfl, rfl⟩)
     | ((with_reducible show wpList _ _ _ (⟨some 80, _, _, _, _, _⟩::_) _ _); refine Lib.wpList_append_run _ rfl _ _ 150 150 rfl _ _ rfl rfl _ _ r2 ?_))
    go_roundw
    case rel=>exact ⟨done ++ part, rest.drop part.length, cs2, _, _, a3, m3, c3, a2, c2, by rw [HDL.out], rfl, by rw [List.length_append], by rw [HMK.out], by first | rfl | rw [HF.out.2.2.2], (by have q:=HPR; rw [HDL.out] at q; first | exact q | (rw [List.length_append] at q; exact q))⟩
    case measure=>exact HDL.out ▸ HLT.out
end
section
variable {w w1 w' W W' : World} {s d : Nat} {B S : Nat → Prop} {M : DiskM} {G : SegM} {E l : List By} {cs : List Chg} {zs : List Nat} {sv ev lv : Value}
theorem free_ap (h : Apart B d M w) : Calls Tryz.prog 68 #[.pointer (some ⟨d, 0, none⟩)] w fun e w'=>e = .returned (.int .i64 (M.cap - M.total))∧Kept (fun _=>False) w w':=by
 obtain ⟨_, _, fp, h1, _⟩:=h
 exact free_any w h1
def SegDo (B S : Nat → Prop) (s d : Nat) (w : World) (r : Int × SegM × DiskM) (e : Ending) (w' : World) : Prop :=
 e = .returned (.int .i64 r.1)∧∃ S', IsSeg w' s d r.2.1 S'∧(∀ k, S' k → S k ∨ w.heap.size ≤ k)∧Apart (fun k=>B k ∨ S' k) d r.2.2 w'∧Kept (fun k=>¬ B k ∨ S k) w w'
theorem SegDo.since {r : Int × SegM × DiskM} {e : Ending} (h : SegDo B S s d w1 r e w') (hk : Kept (· = s) w w1) (hs : S s) : SegDo B S s d w r e w':=by
 obtain ⟨h1, S', h2, h3, h4, h5⟩:=h
 have hz:=hk.size
 exact ⟨h1, S', h2, fun k q=>(h3 k q).imp id (fun q=>by omega), h4, (hk.mono (fun k _ q=>Or.inr (by rw [q]; exact hs))).then_ h5 (fun _ _ q=>q)⟩
theorem SegDo.stay (h : IsSeg w' s d G S) (hd : Apart B d M w') (hS : ∀ k, S k → B k) (hk : Kept (· = s) w w') (x : Int) : SegDo B S s d w (x, G, M) (.returned (.int .i64 x)) w' :=
 ⟨rfl, S, h, fun _=>Or.inl, hd.fewer (fun k q=>q.elim id (hS k)), hk.mono (fun k _ q=>Or.inr (by rw [q]; exact h.own))⟩
theorem View.kept_nil {size : Nat} {v : Value} (h : View w size v []) (hs : 0 < size) : View w' size v []:=by
 obtain ⟨a, n, cap, rfl, h1, h2, h3, h4, h5⟩:=h
 have h0 : n = 0:=by
  rcases Nat.eq_zero_or_pos n with q | q
  ·exact q
  ·have:=Nat.mul_pos q hs
   rw [h1] at this
   simp at this
 exact ⟨a, n, cap, rfl, h1, h2, h3, h4, fun q=>by omega⟩
theorem app_ready (h : IsSeg w s d G S) (hd : Apart B d M w) (hS : ∀ k, S k → B k) (hl : View w 1 lv (strV l)) (hlB : l ≠ [] → ∀ k, lv.ownBlock = some k → B k∧¬ S k) (ht : Tab w) :
  Calls Tryz.prog 85 #[.pointer (some ⟨s, 0, none⟩)] w fun e w1=>e = .returned (.int .i64 (if G.over M = true then 61 else 0))∧IsSeg w1 s d { G with dead:=G.over M } S∧Apart B d M w1∧Kept (· = s) w w1∧View w1 1 lv (strV l)∧(0 ≠ s → 1 ≠ s → Tab w1):=by
 refine (seg_ready h hd).mono ?_
 rintro e w1 ⟨rfl, h1, hk⟩
 exact ⟨rfl, h1, hd.turn hk (fun k q=>by rw [q]; exact hS s h.own), hk, (by
  by_cases h0 : l = []
  ·subst h0; exact hl.kept_nil (by omega)
  ·exact hl.kept hk (fun g c t f _ q z=>(hlB h0 g q).2 (by rw [z]; exact h.own)) (by omega)), fun n1 n2=>ht.kept hk n1 n2⟩
theorem StP.same (h : StP w s d sv ev cs zs W) (hk : Kept (fun _=>False) W W') (hs : s < W.heap.size) : StP w s d sv ev cs zs W':=by
 obtain ⟨⟨vs, h1, h2⟩, h3, h4⟩:=h
 have hz:=hk.size
 refine ⟨⟨vs, h1.kept hk (fun _ _=>id), (h2.kept (fun k q=>?_)).mono (fun k q=>q.imp id (fun q=>⟨q.1, by omega, q.2.2⟩))⟩, fun z hz'=>⟨(h3 z hz').1, by have:=(h3 z hz').2.1; omega, (h3 z hz').2.2⟩, h4⟩
 rcases q with rfl | q
 ·exact hk.block k hs id
 ·exact hk.block k q.2.1 id
structure AppP (w : World) (s d : Nat) (B S : Nat → Prop) (G : SegM) (M : DiskM) (l : List By) (sv ev : Value) (W : World) : Prop where
 seg : IsSeg W s d G S
 ap : Apart (fun k=>B k ∨ (w.heap.size ≤ k∧k < W.heap.size)) d M W
 st : ∃ zs, StP w s d sv ev (planC (fun n=>(AM.get M.files n).isSome) G.entries.length l) zs W
 ends : Row W 3 1 ev (natsV (endsE (G.entries ++ l)))
 kept : Kept (fun _=>False) w W
 owne : ∀ k, ev.ownBlock = some k → w.heap.size ≤ k
 low : ∀ k, B k → k < w.heap.size
theorem AppP.same (h : AppP w s d B S G M l sv ev W) (hk : Kept (fun _=>False) W W') : AppP w s d B S G M l sv ev W':=by
 obtain ⟨h1, h2, ⟨zs, h3⟩, h4, h5, h6, h7⟩:=h
 have hz:=hk.size
 have hz5:=h5.size
 exact ⟨h1.same hk, h2.grow hk (fun _ _=>False.elim) (fun k q=>by
  rcases q with q | q
  ·exact Or.inl (Or.inl q)
  ·rcases Nat.lt_or_ge k W.heap.size with z | z
   ·exact Or.inl (Or.inr ⟨q.1, z⟩)
   ·exact Or.inr ⟨z, q.2⟩), ⟨zs, h3.same hk h1.lt⟩, h4.kept hk (fun _ _=>id), h5.trans hk, h6, h7⟩
theorem app_plan {e : Ending} (h : IsSeg w s d G S) (hd : Apart B d M w) (hp : PlanPost w s d M G.entries l e W) :
  ∃ sa sm sc ea em ec, e = .returned (.tuple #[.slice sa sm sc, .slice ea em ec, .int .i64 ((makes (planC (fun n=>(AM.get M.files n).isSome) G.entries.length l) : Nat) : Int), .int .i64 (((framesF l).length : Nat) : Int)])∧Hid (AppP w s d B S G M l (.slice sa sm sc) (.slice ea em ec) W):=by
 obtain ⟨sa, sm, sc, ea, em, ec, he, HP⟩:=hp
 obtain ⟨h1, h2, h3, h4⟩:=HP.out
 exact ⟨sa, sm, sc, ea, em, ec, he, Lib.hid ⟨h.same h3, hd.grow h3 (fun _ _=>False.elim) (fun _ q=>q), h1, h2, h3, h4, fun k q=>hd.lt q⟩⟩
def AppE (B S : Nat → Prop) (s d : Nat) (w : World) (G : SegM) (l : List By) (lv ev : Value) (M' : DiskM) (w' : World) : Prop :=
 ∃ xa xm xc a m c W5, w'.cell? ⟨s, 1, none⟩ = some (.slice xa xm xc)∧(Builtin.append_ #[54, 54] 54 #[.slice xa xm xc, lv]).run Tryz.prog w' = .ok (.slice a m c) W5 ∧
  (W5.cell? ⟨s, 1, none⟩ = some (.slice xa xm xc)∧(∃ y, W5.cell? ⟨s, 2, none⟩ = some y)∧W5.frozen? ⟨s, 1, none⟩ = false∧W5.frozen? ⟨s, 2, none⟩ = false) ∧
  Hid (SegDo B S s d w (0, { G with entries:=G.entries ++ l, dead:=false }, M') (.returned (.int .i64 0)) ((W5.setCell ⟨s, 1, none⟩ (.slice a m c)).setCell ⟨s, 2, none⟩ ev))
theorem AppP.last {r : Int × DiskM} {zs : List Nat} {e : Ending} (h : AppP w s d B S G M l sv ev W) (hst : StP w s d sv ev cs zs W) (hS : ∀ k, S k → B k) (hlv : View w 1 lv (strV l)) (hlB : ∀ k, lv.ownBlock = some k → B k∧¬ S k) (hdead : G.dead = false)
  (hf : G.entries.length + l.length ≤ 4096) (hs : ∀ p ∈ l, p.length ≤ 200) (h0 : r.1 = 0) (hd : DonePost (fun k=>B k ∨ (w.heap.size ≤ k∧k < W.heap.size)) s d G S W zs sv r e w') : AppE B S s d w G l lv ev r.2 w':=by
 obtain ⟨_, hseg, hap, hk⟩:=hd
 have hSw : ∀ k, S k → k < w.heap.size:=fun k q=>h.low k (hS k q)
 have hz:=h.kept.size
 have hz2:=hk.size
 have hzs:=hst.frozen
 have hso:=hst.own
 obtain ⟨vs, hrow, _⟩:=hst.ex
 have hd0 : (G.dead || decide (r.1 = 61)) = false:=by rw [hdead, h0]; rfl
 rw [hd0] at hseg
 obtain ⟨⟨x, y, b1, r1, r2, o1, o2⟩, hown, hfew, hshort⟩:=hseg
 have hv1 : View w' 1 lv (strV l):=(hlv.same h.kept (by omega)).kept hk (fun g c t f _ q z=>by
  have hB:=hlB g q
  have hl:=h.low g hB.1
  rcases z with z | z | z | z
  ·exact z (Or.inl hB.1)
  ·have:=(hzs g z).1; omega
  ·exact hB.2 (by rw [z]; exact hown)
  ·have:=hso g z; omega) (by omega)
 have he1 : Row w' 3 1 ev (natsV (endsE (G.entries ++ l))):=h.ends.kept hk (fun k q z=>by
  have h1:=h.owne k q
  have h2:=h.ends.lt q
  rcases z with z | z | z | z
  ·exact z (Or.inr ⟨h1, h2⟩)
  ·exact (hzs k z).2.2.2 q
  ·have:=hSw s hown; omega
  ·exact h.ends.ne_row hrow (by decide) q z)
 obtain ⟨i0, hi, hz0, hz1, hz3⟩:=info_parts info_str
 obtain ⟨v1, W5, run, row1, k1, f1⟩:=r1.append_view (P:=Tryz.prog) (t:=54) hv1 Tryz.underlying54 hi hz0 hz1 rfl (by omega) (by rw [hz3]; decide) (one_str l) (by rw [strV_len, strV_len]; show G.entries.length + _ ≤ _; omega) 54
 have b5:=b1.kept k1 (fun q=>r1.ne_blk q b1 (by decide) rfl)
 have he5:=he1.kept k1 (fun k q z=>he1.ne_row r1 (by decide) q z)
 have hz5:=k1.size
 obtain ⟨xa, xm, xc, rfl, _⟩:=r1.shape
 obtain ⟨a, m, c, rfl, _⟩:=row1.shape
 have n1 : ∀ k, (Value.slice a m c).ownBlock = some k → k ≠ s:=fun k q e=>row1.ne_blk q b5 (by decide) e
 have n2 : ∀ k, ev.ownBlock = some k → k ≠ s:=fun k q e=>he5.ne_blk q b5 (by decide) e
 have kk : Kept (· = s) W5 ((W5.setCell ⟨s, 1, none⟩ (.slice a m c)).setCell ⟨s, 2, none⟩ ev):=(kept_cell W5 s 1 _).trans (kept_cell _ s 2 _)
 refine ⟨xa, xm, xc, a, m, c, W5, b1.cell (i:=1) rfl, run, ⟨b5.cell (i:=1) rfl, ⟨y, b5.cell (i:=2) rfl⟩, b5.free 1, b5.free 2⟩, Lib.hid ⟨rfl, fun k=>k = s ∨ (Value.slice a m c).ownBlock = some k ∨ ev.ownBlock = some k, ⟨⟨.slice a m c, ev, (b5.set 1 _).set 2 _, ?_, ?_, fun k q=>Or.inr (Or.inl q), fun k q=>Or.inr (Or.inr q)⟩, Or.inl rfl, ?_, ?_⟩, ?_, ?_, ?_⟩⟩
 ·show Row _ _ _ _ (strV (G.entries ++ l))
  rw [strV_append]
  exact row1.kept kk (fun k q e=>n1 k q e)
 ·exact he5.kept kk (fun k q e=>n2 k q e)
 ·show (G.entries ++ l).length ≤ 4096
  rw [List.length_append]; exact hf
 ·intro p hp
  rcases List.mem_append.1 hp with q | q
  ·exact hshort p q
  ·exact hs p q
 ·intro k q
  rcases q with rfl | q | q
  ·exact Or.inl hown
  ·rcases f1 k q with z | z
   ·exact Or.inl (o1 k z)
   ·exact Or.inr (by omega)
  ·exact Or.inr (h.owne k q)
 ·refine ((hap.grow k1 (fun k _ q=>Or.inl (hS k (o1 k q))) (B':=fun k=>(B k ∨ (w.heap.size ≤ k∧k < W.heap.size)) ∨ (w'.heap.size ≤ k∧k < W5.heap.size)) (fun k q=>q)).turn kk (fun k q=>by rw [q]; exact Or.inl (Or.inl (hS s hown)))).fewer (fun k q=>?_)
  rcases q with q | rfl | q | q
  ·exact Or.inl (Or.inl q)
  ·exact Or.inl (Or.inl (hS _ hown))
  ·rcases f1 k q with z | z
   ·exact Or.inl (Or.inl (hS k (o1 k z)))
   ·exact Or.inr ⟨z, row1.lt q⟩
  ·exact Or.inl (Or.inr ⟨h.owne k q, h.ends.lt q⟩)
 ·refine (((h.kept.mono (fun _ _=>False.elim)).then_ hk (fun i hi z=>?_)).then_ k1 (fun i _ z=>Or.inr (o1 i z))).then_ kk (fun i _ z=>Or.inr (by rw [z]; exact hown))
  rcases z with z | z | z | z
  ·exact Or.inl (fun q=>z (Or.inl q))
  ·have:=(hzs i z).1; omega
  ·exact Or.inr (by rw [z]; exact hown)
  ·have:=hso i z; omega
theorem AppP.done (h : AppP w s d B S G M l sv ev W) (hS : ∀ k, S k → B k) (hlv : View w 1 lv (strV l)) (hlB : ∀ k, lv.ownBlock = some k → B k∧¬ S k) (hdead : G.dead = false)
  (hf : G.entries.length + l.length ≤ 4096) (hs : ∀ p ∈ l, p.length ≤ 200) (hc : M.files.length + M.loose.length < 200000000) :
  ∃ r : Int × DiskM, Hid (r = runAll (planC (fun n=>(AM.get M.files n).isSome) G.entries.length l ++ [.sync]) M)∧Hid (Calls Tryz.prog 87 #[.pointer (some ⟨s, 0, none⟩), sv] W fun e w'=>e = .returned (.int .i64 r.1) ∧
   ((r.1 ≠ 0∧SegDo B S s d w (r.1, { G with dead:=decide (r.1 = 61) }, r.2) (.returned (.int .i64 r.1)) w') ∨ (r.1 = 0∧AppE B S s d w G l lv ev r.2 w'))):=by
 obtain ⟨zs, hst⟩:=h.st
 obtain ⟨vs, hrow, hsteps⟩:=hst.ex
 have hSw : ∀ k, S k → k < w.heap.size:=fun k q=>h.low k (hS k q)
 have hz:=h.kept.size
 have hzs:=hst.frozen
 have hso:=hst.own
 have hown:=h.seg.own
 have hpl:=planC_len (fun n=>(AM.get M.files n).isSome) l.length G.entries.length l (Nat.le_refl _)
 refine ⟨_, Lib.hid rfl, Lib.hid ?_⟩
 refine (seg_done h.seg h.ap (zs:=zs) (fun k q=>⟨Or.inl (hS k q), fun z=>?_⟩) hrow hsteps (fun k q=>?_) (fun k q=>⟨Or.inr ⟨hso k q, hrow.lt q⟩, fun z=>(hzs k z).2.2.1 q, fun z=>?_, fun z=>?_⟩) (by omega) (fun z q=>(hzs z q).2.1)).mono ?_
 ·have:=hSw k q; have:=(hzs k z).1; omega
 ·rcases q with rfl | q
  ·exact Or.inl (hS _ hown)
  ·exact Or.inr ⟨q.1, q.2.1⟩
 ·have:=hSw k z; have:=hso k q; omega
 ·rcases z with rfl | z
  ·have:=hSw _ hown; have:=hso _ q; omega
  ·exact z.2.2.1 q
 ·intro e w' hd
  refine ⟨hd.1, ?_⟩
  by_cases h0 : (runAll (planC (fun n=>(AM.get M.files n).isSome) G.entries.length l ++ [.sync]) M).1 = 0
  ·exact Or.inr ⟨h0, h.last hst hS hlv hlB hdead hf hs h0 hd⟩
  ·obtain ⟨_, hseg, hap, hk⟩:=hd
   rw [hdead, Bool.false_or] at hseg
   refine Or.inl ⟨h0, rfl, S, hseg, fun _=>Or.inl, hap.fewer (fun k q=>Or.inl (q.elim id (hS k))), (h.kept.mono (fun _ _=>False.elim)).then_ hk (fun i hi z=>?_)⟩
   rcases z with z | z | z | z
   ·exact Or.inl (fun q=>z (Or.inl q))
   ·have:=(hzs i z).1; omega
   ·exact Or.inr (by rw [z]; exact hown)
   ·have:=hso i z; omega
end
section
variable {w : World} {s d : Nat} {B S : Nat → Prop} {M : DiskM} {G : SegM} {l : List By}
theorem append_long (ho : G.over M = false) {i : Nat} {p : By} (hp : l[i]? = some p) (h : 200 < p.length) : G.append M l = (3, G, M):=by
 have hm:=List.mem_of_getElem? hp
 unfold SegM.append
 rw [if_neg (by rw [ho]; simp), if_neg (by rintro rfl; cases hm), if_pos (List.any_eq_true.2 ⟨p, hm, decide_eq_true h⟩)]
theorem append_short (ho : G.over M = false) (h0 : l ≠ []) (hs : ∀ p ∈ l, p.length ≤ 200) : G.append M l =
  if 4096 - G.entries.length < l.length then (60, G, M)
  else if M.cap - M.total < ((framesF l).length : Nat) ∨ 100 < M.files.length + makes (planC (fun n=>(AM.get M.files n).isSome) G.entries.length l) then (60, G, M)
  else ((runAll (planC (fun n=>(AM.get M.files n).isSome) G.entries.length l ++ [.sync]) M).1,
   { G with entries:=if (runAll (planC (fun n=>(AM.get M.files n).isSome) G.entries.length l ++ [.sync]) M).1 = 0 then G.entries ++ l else G.entries, dead:=decide ((runAll (planC (fun n=>(AM.get M.files n).isSome) G.entries.length l ++ [.sync]) M).1 = 61) },
   (runAll (planC (fun n=>(AM.get M.files n).isSome) G.entries.length l ++ [.sync]) M).2):=by
 conv=>lhs; unfold SegM.append
 rw [if_neg (by rw [ho]; simp), if_neg h0, if_neg]
 intro h
 obtain ⟨p, hm, hp⟩:=List.any_eq_true.1 h
 have:=of_decide_eq_true hp
 have:=hs p hm
 omega
theorem seg_nums {a b : Nat} (ha : a ≤ 4096) (hb : b ≤ 9223372036854775807) : wrap64 (4096 - (a : Int)) = 4096 - (a : Int)∧decide (4096 - (a : Int) < (b : Int)) = decide (4096 - a < b):=by
 refine ⟨IntWalk.wrap64_in _ (by omega), ?_⟩
 by_cases h : 4096 - a < b
 ·rw [decide_eq_true h, decide_eq_true (by omega)]
 ·rw [decide_eq_false h, decide_eq_false (by omega)]
theorem seg_nums2 {a b : Nat} (ha : a ≤ 400000000) (hb : b ≤ 400000000) : wrap64 ((a : Int) + (b : Int)) = (a : Int) + (b : Int)∧decide ((100 : Int) < (a : Int) + (b : Int)) = decide (100 < a + b):=by
 refine ⟨IntWalk.wrap64_in _ (by omega), ?_⟩
 by_cases h : 100 < a + b
 ·rw [decide_eq_true h, decide_eq_true (by omega)]
 ·rw [decide_eq_false h, decide_eq_false (by omega)]
theorem AppP.stay {sv ev : Value} {w1 W : World} (h : AppP w1 s d B S G M l sv ev W) (hS : ∀ k, S k → B k) (x : Int) : SegDo B S s d w1 (x, G, M) (.returned (.int .i64 x)) W :=
 ⟨rfl, S, h.seg, fun _=>Or.inl, h.ap.fewer (fun k q=>Or.inl (q.elim id (hS k))), h.kept.mono (fun _ _=>False.elim)⟩
theorem files_row {w : World} {a : Option Addr} {m c : Nat} (h : Row w 3 1 (.slice a m c) (icells (M.files.map (·.1)))) : m = M.files.length:=by
 obtain ⟨_, _, _, e, hm, _⟩:=h.form (by omega)
 cases e
 rw [Nat.mul_one] at hm
 rw [hm]
 unfold icells
 rw [List.length_map, List.length_map]
theorem seg_append (h : IsSeg w s d G S) (hd : Apart B d M w) (hS : ∀ k, S k → B k) (la : Option Addr) (lc : Nat) (hl : View w 1 (.slice la l.length lc) (strV l)) (hlB : l ≠ [] → ∀ k, (Value.slice la l.length lc).ownBlock = some k → B k∧¬ S k) (hc : M.files.length + M.loose.length < 200000000) (ht : Tab w) (hts : 0 ≠ s∧1 ≠ s) :
  Calls Tryz.prog 49 #[.pointer (some ⟨s, 0, none⟩), .slice la l.length lc] w (SegDo B S s d w (G.append M l)):=by
 have hr:=app_ready h hd hS hl hlB ht
 have hown:=h.own
 by_cases ho : G.over M = true
 ·have e : G.append M l = (61, { G with dead:=true }, M):=by unfold SegM.append; rw [if_pos ho]
  rw [e]
  simp only [ho, if_true] at hr
  clear h hd hl hlB ht e ho
  go_enter Tryz.func49, Tryz.ntmps49
  go_wp2_with (go_at_call 85; refine hr.mono ?_; rintro e w1 ⟨rfl, h1, hd1, hk1, hv1, ht1⟩; have HE:=Lib.hid (SegDo.stay h1 hd1 hS hk1 61); clear h1 hd1 hk1 hv1 ht1)
  go_ret
  exact HE.out
 ·have ho : G.over M = false:=by simpa using ho
  have hdead : G.dead = false:=by
   unfold SegM.over at ho
   cases hq : G.dead
   ·rfl
   ·rw [hq] at ho; simp at ho
  simp only [ho, Bool.false_eq_true, if_false] at hr
  have hfew:=h.few
  have hl0:=hl
  obtain ⟨_, n, cap, hv, hn1, hn2, hn3, _⟩:=hl0
  cases hv
  unfold maxLen at hn3
  by_cases h0 : l = []
  ·have e : G.append M l = (0, G, M):=by unfold SegM.append; rw [if_neg (by rw [ho]; simp), if_pos h0]
   rw [e]
   subst h0
   clear h hd hl hlB ht e ho hn1 hn2 hn3 hfew
   go_enter Tryz.func49, Tryz.ntmps49
   go_wp2_with (go_at_call 85; refine hr.mono ?_; rintro e w1 ⟨rfl, h1, hd1, hk1, hv1, ht1⟩; rw [← hdead] at h1; have HE:=Lib.hid (SegDo.stay h1.eta hd1 hS hk1 0); clear h1 hd1 hk1 hv1 ht1)
   go_ret
   exact HE.out
  ·have hpos : 0 < l.length:=List.length_pos_iff.2 h0
   have y1 : ((l.length : Int) == 0) = false:=by simpa using h0
   have y2 : decide ((l.length : Int) = 0) = false:=decide_eq_false (by omega)
   have y3 : decide (l.length = 0) = false:=decide_eq_false (by omega)
   have y4 : (l.length == 0) = false:=by simpa using h0
   have HG:=Lib.hid (And.intro ho (And.intro h0 (And.intro (hlB h0) (And.intro hts (And.intro hdead (And.intro hc (And.intro hfew (show l.length ≤ 9223372036854775807 by omega))))))))
   clear h hd hl hlB ht hn1 hn2 hn3 hfew h0 hpos hts hc
   go_enter Tryz.func49, Tryz.ntmps49
   go_wp2_with (go_at_call 85; refine hr.mono ?_; rintro e w1 ⟨rfl, h1, hd1, hk1, hv1, ht1⟩; rw [← hdead] at h1; have HA : Hid (IsSeg w1 s d G S∧Apart B d M w1∧Kept (· = s) w w1∧View w1 1 (.slice la l.length lc) (strV l)∧Tab w1):=Lib.hid ⟨h1, hd1, hk1, hv1, ht1 HG.out.2.2.2.1.1 HG.out.2.2.2.1.2⟩; clear h1 hd1 hk1 hv1 ht1)
   clear hr y1 y2 y3 y4
   obtain ⟨x, y, c0, c1, _, _, _, _, _, _, hx, _, _, _⟩:=HA.out.1.cells
   obtain ⟨xa, xm, xc, rfl, hxm, _⟩:=hx.shape
   rw [strV_len, Nat.mul_one] at hxm
   subst hxm
   clear hx
   go_loop [25] (fun x=>∃ i : Nat, i ≤ l.length∧x = .int .i64 (i : Int)∧Hid (∀ j p, l[j]? = some p → j < i → p.length ≤ 200)) (fun x=>l.length - (intOf x).toNat)
   case atStart=>exact ⟨0, Nat.zero_le _, rfl, Lib.hid (fun j p _ hj=>by omega)⟩
   case round =>
    obtain ⟨i, hi, rfl, HS⟩:=hrel
    by_cases hlt : i < l.length
    ·have y1 : decide ((i : Int) < (l.length : Int)) = true:=decide_eq_true (by omega)
     have y2 : decide (i < l.length) = true:=decide_eq_true hlt
     obtain ⟨p, hp⟩ : ∃ p, l[i]? = some p:=⟨_, List.getElem?_eq_getElem hlt⟩
     obtain ⟨_, _, _, ev, _, _, _, _, hcv⟩:=HA.out.2.2.2.1
     cases ev
     obtain ⟨g, off, rfl, _, hcv⟩:=hcv (by omega)
     have hc : w1.cell? ⟨g, off + i, none⟩ = some (.string ⟨p.toArray⟩):=hcv i _ (by unfold strV; rw [List.getElem?_map, hp]; rfl)
     by_cases h2 : 200 < p.length
     ·have z1 : decide ((200 : Int) < (p.length : Int)) = true:=decide_eq_true (by omega)
      have z2 : decide (200 < p.length) = true:=decide_eq_true h2
      have HE:=Lib.hid ((append_long HG.out.1 hp h2) ▸ SegDo.stay HA.out.1 HA.out.2.1 hS HA.out.2.2.1 3)
      clear hcv
      go_wp2_with fail
      go_ret
      exact HE.out
     ·have z1 : decide ((200 : Int) < (p.length : Int)) = false:=decide_eq_false (by omega)
      have z2 : decide (200 < p.length) = false:=decide_eq_false h2
      have hs2 : ∀ (j : Nat) (p : By), l[j]? = some p → j < i + 1 → p.length ≤ 200:=by
       intro j q hq hj
       rcases Nat.lt_or_ge j i with z | z
       ·exact HS.out j q hq z
       ·obtain rfl : j = i:=by omega
        rw [hp] at hq
        cases hq
        omega
      have HS2:=Lib.hid hs2
      clear hs2
      have hlm:=HG.out.2.2.2.2.2.2.2
      clear hcv hp
      go_wp2_with fail
      go_round
      case rel=>exact ⟨i + 1, hlt, by go_num, HS2⟩
      case measure=>simp [intOf]; omega
    ·obtain rfl : i = l.length:=by omega
     have hs : ∀ p ∈ l, p.length ≤ 200:=fun p hp=>by
      obtain ⟨j, hj, e⟩:=List.getElem_of_mem hp
      exact HS.out j p (by rw [List.getElem?_eq_getElem hj, e]) hj
     have y1 : decide ((l.length : Int) < (l.length : Int)) = false:=decide_eq_false (by omega)
     have y2 : decide (l.length < l.length) = false:=decide_eq_false (by omega)
     have hap:=append_short HG.out.1 HG.out.2.1 hs
     have HN:=Lib.hid (seg_nums HG.out.2.2.2.2.2.2.1 HG.out.2.2.2.2.2.2.2)
     clear hi hlt HS
     by_cases hf : 4096 - G.entries.length < l.length
     ·rw [if_pos hf] at hap
      have z1 : decide (4096 - G.entries.length < l.length) = true:=decide_eq_true hf
      have HE : Hid (SegDo B S s d w (G.append M l) (.returned (.int .i64 60)) w1):=Lib.hid (by rw [hap]; exact SegDo.stay HA.out.1 HA.out.2.1 hS HA.out.2.2.1 60)
      obtain ⟨n1, n2⟩:=HN.out
      rw [z1] at n2
      clear hap hs hf
      go_wp2_with fail
      go_ret
      exact HE.out
     ·rw [if_neg hf] at hap
      have z1 : decide (4096 - G.entries.length < l.length) = false:=decide_eq_false hf
      have hfew:=HG.out.2.2.2.2.2.2.1
      have hf2 : G.entries.length + l.length ≤ 4096:=by omega
      have hplan:=seg_plan HA.out.1 HA.out.2.1 la lc HA.out.2.2.2.1 hs hf2 HA.out.2.2.2.2
      have HPL:=Lib.hid (fun e W=>app_plan (e:=e) (W:=W) (l:=l) HA.out.1 HA.out.2.1)
      have hmk:=makes_len (planC (fun n=>(AM.get M.files n).isSome) G.entries.length l)
      have hpl:=planC_len (fun n=>(AM.get M.files n).isSome) l.length G.entries.length l (Nat.le_refl _)
      have hcc:=HG.out.2.2.2.2.2.1
      have HN2:=Lib.hid (seg_nums2 (a:=M.files.length) (b:=makes (planC (fun n=>(AM.get M.files n).isSome) G.entries.length l)) (by omega) (by omega))
      have HF:=Lib.hid (And.intro hs hf2)
      clear hs hf hfew hf2 hmk hpl hcc
      obtain ⟨L, hL⟩ : ∃ L, L = (framesF l).length:=⟨_, rfl⟩
      obtain ⟨K, hK⟩ : ∃ K, K = makes (planC (fun n=>(AM.get M.files n).isSome) G.entries.length l):=⟨_, rfl⟩
      rw [← hL, ← hK] at hap
      rw [← hL, ← hK] at HPL
      rw [← hK] at HN2
      clear hL hK
      obtain ⟨n1, n2⟩:=HN.out
      rw [z1] at n2
      by_cases hr1 : M.cap - M.total < (L : Int)
      ·have z2 : decide (M.cap - M.total < (L : Int)) = true:=decide_eq_true hr1
       rw [if_pos (Or.inl hr1)] at hap
       have HAP:=Lib.hid hap
       clear hap hr1 HN2
       go_wp2_with (first
        | (go_at_call 86; refine hplan.mono ?_; intro e w2 hp; obtain ⟨sa, sm, sc, ea, em, ec, rfl, HP⟩:=HPL.out e w2 hp; clear hp; obtain ⟨_, _, c02, _⟩:=HP.out.seg.cells; have hfree:=free_ap HP.out.ap)
        | (go_at_call 68; refine hfree.mono ?_; rintro e w3 ⟨rfl, hk3⟩; have HP3:=Lib.hid (HP.out.same hk3); clear HP hfree c02 hk3; obtain ⟨_, _, c03, _⟩:=HP3.out.seg.cells; have hfiles:=HP3.out.ap.files)
        | (go_at_call 70; refine hfiles.mono ?_; rintro e w4 ⟨hv4, rfl, hrow4, hk4, ho4⟩; obtain ⟨fa, fm, fc, rfl, _⟩:=hrow4.shape; obtain rfl:=files_row hrow4; have HP4:=Lib.hid (HP3.out.same hk4); clear HP3 hk4 ho4 hrow4 hfiles c03))
       go_ret
       exact HAP.out ▸ (HP3.out.stay hS 60).since HA.out.2.2.1 hown
      ·have z2 : decide (M.cap - M.total < (L : Int)) = false:=decide_eq_false hr1
       obtain ⟨n3, n4⟩:=HN2.out
       by_cases hr2 : 100 < M.files.length + K
       ·rw [if_pos (Or.inr hr2)] at hap
        rw [decide_eq_true hr2] at n4
        have HAP:=Lib.hid hap
        clear hap hr1 hr2 HN2
        go_wp2_with (first
         | (go_at_call 86; refine hplan.mono ?_; intro e w2 hp; obtain ⟨sa, sm, sc, ea, em, ec, rfl, HP⟩:=HPL.out e w2 hp; clear hp; obtain ⟨_, _, c02, _⟩:=HP.out.seg.cells; have hfree:=free_ap HP.out.ap)
         | (go_at_call 68; refine hfree.mono ?_; rintro e w3 ⟨rfl, hk3⟩; have HP3:=Lib.hid (HP.out.same hk3); clear HP hfree c02 hk3; obtain ⟨_, _, c03, _⟩:=HP3.out.seg.cells; have hfiles:=HP3.out.ap.files)
         | (go_at_call 70; refine hfiles.mono ?_; rintro e w4 ⟨hv4, rfl, hrow4, hk4, ho4⟩; obtain ⟨fa, fm, fc, rfl, _⟩:=hrow4.shape; obtain rfl:=files_row hrow4; have HP4:=Lib.hid (HP3.out.same hk4); clear HP3 hk4 ho4 hrow4 hfiles c03))
        go_ret
        exact HAP.out ▸ (HP4.out.stay hS 60).since HA.out.2.2.1 hown
       ·rw [if_neg (fun q=>q.elim hr1 hr2)] at hap
        rw [decide_eq_false hr2] at n4
        have HAP:=Lib.hid hap
        have HDN:=Lib.hid (fun W sv ev (q : AppP w1 s d B S G M l sv ev W)=>q.done hS HA.out.2.2.2.1 HG.out.2.2.1 HG.out.2.2.2.2.1 HF.out.2 HF.out.1 HG.out.2.2.2.2.2.1)
        clear hap hr1 hr2 HN2
        go_upto_region 15 with (first
         | (go_at_call 86; refine hplan.mono ?_; intro e w2 hp; obtain ⟨sa, sm, sc, ea, em, ec, rfl, HP⟩:=HPL.out e w2 hp; clear hp; obtain ⟨_, _, c02, _⟩:=HP.out.seg.cells; have hfree:=free_ap HP.out.ap)
         | (go_at_call 68; refine hfree.mono ?_; rintro e w3 ⟨rfl, hk3⟩; have HP3:=Lib.hid (HP.out.same hk3); clear HP hfree c02 hk3; obtain ⟨_, _, c03, _⟩:=HP3.out.seg.cells; have hfiles:=HP3.out.ap.files)
         | (go_at_call 70; refine hfiles.mono ?_; rintro e w4 ⟨hv4, rfl, hrow4, hk4, ho4⟩; obtain ⟨fa, fm, fc, rfl, _⟩:=hrow4.shape; obtain rfl:=files_row hrow4; have HP4:=Lib.hid (HP3.out.same hk4); clear HP3 hk4 ho4 hrow4 hfiles c03))
        obtain ⟨r, Hr, HC⟩:=HDN.out _ _ _ HP4.out
        by_cases h00 : r.1 = 0
        ·have hcc : Calls Tryz.prog 87 #[.pointer (some ⟨s, 0, none⟩), .slice sa sm sc] w4 fun e w'=>e = .returned (.int .i64 0)∧AppE B S s d w1 G l (.slice la l.length lc) (.slice ea em ec) r.2 w' :=
          HC.out.mono (fun e w' q=>⟨by rw [q.1, h00], q.2.elim (fun q=>absurd h00 q.1) (fun q=>q.2)⟩)
         have HR:=Lib.hid (show G.append M l = (0, { G with entries:=G.entries ++ l, dead:=false }, r.2) by
          rw [HAP.out, ← Hr.out, h00, if_pos rfl]
          rfl)
         clear HC HDN HP4 h00
         go_wp2_with (first
          | (go_at_call 87; refine hcc.mono ?_; rintro e w5 ⟨rfl, xa5, xm5, xc5, a5, m5, c5, W5, p1, run5, ⟨p2, ⟨y5, p3⟩, p4, p5⟩, HE⟩)
          | ((with_reducible show wpList _ _ _ (⟨some 80, _, _, _, _, _⟩::_) _ _); refine Lib.wpList_append_run _ rfl _ _ 54 54 rfl _ _ rfl rfl _ _ run5 ?_))
         go_ret
         exact HR.out ▸ HE.out.since HA.out.2.2.1 hown
        ·have z5 : (r.1 == 0) = false:=by simpa using h00
         have z6 : decide (r.1 = 0) = false:=decide_eq_false h00
         have hcc : Calls Tryz.prog 87 #[.pointer (some ⟨s, 0, none⟩), .slice sa sm sc] w4 fun e w'=>e = .returned (.int .i64 r.1)∧SegDo B S s d w1 (r.1, { G with dead:=decide (r.1 = 61) }, r.2) (.returned (.int .i64 r.1)) w' :=
          HC.out.mono (fun e w' q=>⟨q.1, q.2.elim (fun q=>q.2) (fun q=>absurd q.1 h00)⟩)
         have HR:=Lib.hid (show G.append M l = (r.1, { G with dead:=decide (r.1 = 61) }, r.2) by
          rw [HAP.out, ← Hr.out, if_neg h00])
         clear HC HDN HP4 h00
         go_wp2_with (go_at_call 87; refine hcc.mono ?_; rintro e w5 ⟨rfl, HE⟩)
         go_ret
         exact HR.out ▸ HE.since HA.out.2.2.1 hown
end
end Go.Proofs.YtpmdlkogccojmaaGreatDoor
