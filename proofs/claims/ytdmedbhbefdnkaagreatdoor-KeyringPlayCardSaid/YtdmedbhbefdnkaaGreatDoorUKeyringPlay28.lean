/- Frames2 Frames3 FrameP Dec Trees3 AppH RF1 RN1 RN2 RingM RK1 -/
import Derived.Test.YtdmedbhbefdnkaaGreatDoorUKeyringPlay26
import Derived.Test.YtdmedbhbefdnkaaGreatDoorUKeyringPlay20
set_option linter.unusedVariables false
set_option linter.unusedSimpArgs false
set_option maxRecDepth 100000
set_option maxHeartbeats 16000000
namespace Go.Proofs.YtdmedbhbefdnkaaGreatDoor
open Go.RowKit
def cutF (l:List UInt8):Option (List UInt8 × List UInt8) :=
 if l.length<12 then none
 else if 65536<ofBe (l.take 4)\/l.length<ofBe (l.take 4)+12 then none
 else if markF ((l.drop 12).take (ofBe (l.take 4)))=l.take 12 then some ((l.drop 12).take (ofBe (l.take 4)),l.drop (12+ofBe (l.take 4)))
 else none
def CutIs (w':World) (v v1 v2:Value) (ok:Bool):Option (List UInt8 × List UInt8)->Prop
 | some x=>ok=true/\View w' 1 v1 (bytes8 x.1)/\View w' 1 v2 (bytes8 x.2)/\v2.ownBlock=v.ownBlock
 | none=>ok=false
def CutPost (w:World) (v:Value) (l:List UInt8) (e:Ending) (w':World):Prop:=∃ v1 v2 ok,e = .returned (.tuple #[v1,v2,.bool ok])/\CutIs w' v v1 v2 ok (cutF l)/\Kept (fun _=>False) w w'
theorem bytes8_take (l:List UInt8) (n:Nat):(bytes8 l).take n=bytes8 (l.take n):=by simp[bytes8,List.map_take]
theorem bytes8_drop (l:List UInt8) (n:Nat):(bytes8 l).drop n=bytes8 (l.drop n):=by simp[bytes8,List.map_drop]
theorem elem_bytes:Tryz.prog.underlying 72=some (.slice (Tryz.prog.elem 72)):=by kernel_rfl
theorem size_elem (w:World):(sizeOf (Tryz.prog.elem 72)).run Tryz.prog w = .ok 1 w:=by kernel_rfl
theorem bstr_inj {l m:List UInt8} (h:(⟨l.toArray⟩:ByteArray)=⟨m.toArray⟩):l=m:=by
 have:=congrArg (fun s:ByteArray=>s.data.toList) h
 simpa using this
theorem cut_end {N n E:Nat} (hE:E=12+N) (hbad:¬ (65536<N\/n<N+12)):E<=n:=by omega
theorem cut_wrap {N n E:Nat} (hE:E=12+N) (hbad:¬ (65536<N\/n<N+12)):wrap64 (12+(N:Int))=(E:Int):=by rw[IntWalk.wrap64_in _ (by omega)];omega
theorem cut_any (w:World) (v:Value) (l:List UInt8) (hv:View w 1 v (bytes8 l)) (ht:Tab w) :
  Calls Tryz.prog 106 #[v] w (CutPost w v l):=by
 have hml:maxLen=9223372036854775807:=rfl
 have hv0:=hv
 obtain⟨a,n,cap,rfl,h1,h2,h3,h4,h5⟩:=hv
 rw[bytes8_len,Nat.mul_one]at h1
 by_cases hn:n<12
 ·have y1:decide ((n:Int)<12)=true:=by simp;omega
  have hc:cutF l=none:=by unfold cutF;rw[if_pos (by omega)]
  have HC:=Lib.hid hc
  clear hc
  go_enter Tryz.func106,Tryz.ntmps106
  go_wp2
  go_ret3
  exact⟨_,_,false,rfl,by rw[HC.out];rfl,Kept.refl _ _⟩
 ·have y1:decide ((n:Int)<12)=false:=by simp;omega
  obtain⟨g,off,rfl,_,_⟩:=h5 (by omega)
  have hr4:∀ w0,(Instr.slice 72 (.slice (some ⟨g,off,none⟩) n cap) none (some (.int .i64 4)) none).run Tryz.prog w0 = .ok (.slice (some ⟨g,off,none⟩) 4 cap) w0:=fun w0=>hv0.run_head elem_bytes size_elem 4 (by omega) w0
  have hs4:=(hv0.head 4 (by omega))
  rw[Nat.mul_one,bytes8_take]at hs4
  have hs4:=hs4.text
  have hg4:=fun w'=>get_any w' ⟨(l.take 4).toArray⟩ (by show(l.take 4).toArray.size<=4;rw[List.size_toArray,List.length_take];omega)
  have hN:ofBe (⟨(l.take 4).toArray⟩:ByteArray).data.toList=ofBe (l.take 4):=rfl
  rw[hN]at hg4
  obtain⟨N,hN'⟩:∃ N,N=ofBe (l.take 4):=⟨_,rfl⟩
  rw[<- hN']at hg4
  have HG:=Lib.hid hg4
  have HN:=Lib.hid hN'
  clear hg4 hN hN'
  have H1:=Lib.hid h1
  have hnm:n<=9223372036854775807:=by omega
  have A1:=Lib.hid (show wrap64 ((n:Int)-12)=(n:Int)-12 from IntWalk.wrap64_in _ (by omega))
  by_cases hbad:65536<N\/n<N+12
  ·have hc:cutF l=none:=by unfold cutF;rw[if_neg (by omega),if_pos (by rw[<- HN.out,<- h1];exact hbad)]
   have HC:=Lib.hid hc
   clear hc h1 h3 h4 h5 hv0 hml
   by_cases hbig:65536<N
   ·have y2:decide ((65536:Int)<(N:Int))=true:=by simp;omega
    clear hbad
    have a1:=A1.out
    go_enter Tryz.func106,Tryz.ntmps106
    go_wp2_with (go_at_call 131;refine(HG.out _).mono ?_;rintro e w' ⟨rfl,rfl⟩)
    go_ret3
    exact⟨_,_,false,rfl,by rw[HC.out];rfl,Kept.refl _ _⟩
   ·have y2:decide ((65536:Int)<(N:Int))=false:=by simp;omega
    have y3:decide ((n:Int)-12<(N:Int))=true:=by simp;omega
    have a2:IntKind.i64.wrap (N:Int)=(N:Int):=IntWalk.i64_in _ (by omega)
    clear hbad
    have a1:=A1.out
    go_enter Tryz.func106,Tryz.ntmps106
    go_wp2_with (go_at_call 131;refine(HG.out _).mono ?_;rintro e w' ⟨rfl,rfl⟩)
    go_ret3
    exact⟨_,_,false,rfl,by rw[HC.out];rfl,Kept.refl _ _⟩
  ·have y2:decide ((65536:Int)<(N:Int))=false:=by simp;omega
   have y3:decide ((n:Int)-12<(N:Int))=false:=by simp;omega
   have a2:IntKind.i64.wrap (N:Int)=(N:Int):=IntWalk.i64_in _ (by omega)
   obtain⟨E,hE⟩:∃ E:Nat,E=12+N:=⟨_,rfl⟩
   have A3:=Lib.hid (show wrap64 (12+(N:Int))=(E:Int)from cut_wrap hE hbad)
   have e12:12<=E:=by rw[hE];exact Nat.le_add_right _ _
   have eEn:E<=n:=cut_end hE hbad
   obtain⟨v1,hr1,hv1⟩:=hv0.mid3 elem_bytes size_elem 12 E e12 eEn
   obtain⟨v2,hr2,hv2,ho2⟩:∃ v2,(∀ w0,(Instr.slice 72 (.slice (some ⟨g,off,none⟩) n cap) (some (.int .i64 (E:Int))) none none).run Tryz.prog w0 = .ok v2 w0)/\View w 1 v2 ((bytes8 l).drop (E*1))/\v2.ownBlock=some g :=
    ⟨_,fun w0=>hv0.run_tail elem_bytes size_elem E eEn w0,hv0.tail E eEn,by split<;>simp[Value.ownBlock,addr_mid]⟩
   rw[Nat.mul_one,Nat.mul_one,bytes8_drop,bytes8_take,show E-12=N by omega]at hv1
   rw[Nat.mul_one,bytes8_drop]at hv2
   have hr1:∀ w0,(Instr.slice 72 (.slice (some ⟨g,off,none⟩) n cap) (some (.int .i64 12)) (some (.int .i64 (E:Int))) (some (.int .i64 (E:Int)))).run Tryz.prog w0 = .ok v1 w0:=hr1
   have hr12:∀ w0,(Instr.slice 72 (.slice (some ⟨g,off,none⟩) n cap) none (some (.int .i64 12)) none).run Tryz.prog w0 = .ok (.slice (some ⟨g,off,none⟩) 12 cap) w0:=fun w0=>hv0.run_head elem_bytes size_elem 12 (by omega) w0
   have hv12:=hv0.head 12 (by omega)
   rw[Nat.mul_one,bytes8_take]at hv12
   have HV:=Lib.hid (And.intro hv1 (And.intro hv2 (And.intro hv12 ho2)))
   have hcut:cutF l=if markF ((l.drop 12).take N)=l.take 12 then some ((l.drop 12).take N,l.drop E)else none:=by
    unfold cutF;rw[if_neg (by omega),if_neg (by rw[<- HN.out,<- h1];exact hbad),<- HN.out,hE]
   have HC:=Lib.hid hcut
   have hpl:((l.drop 12).take N).length<=65536:=by rw[List.length_take];omega
   generalize(l.drop 12).take N=p at *
   generalize hq:l.take 12=q at *
   have hm:∀ w',Tab w'->Calls Tryz.prog 122 #[.string ⟨p.toArray⟩] w' fun e w''=>e = .returned (.string ⟨(markF p).toArray⟩)/\Kept (fun _=>False) w' w'':=fun w' ht' =>
    mark_any w' ⟨p.toArray⟩ (by show p.toArray.size<=900000;rw[List.size_toArray];omega) ht'
   have HM:=Lib.hid hm
   have c1:∀ m,(convert 72 9 v1).run Tryz.prog (w.drewN m) = .ok (.string ⟨p.toArray⟩) (w.drewN m):=fun m=>(hv1.same ((Kept.refl _ _).drewN m) (by omega)).text
   have c2:∀ m,(convert 72 9 (.slice (some ⟨g,off,none⟩) 12 cap)).run Tryz.prog (w.drewN m) = .ok (.string ⟨q.toArray⟩) (w.drewN m):=fun m=>(hv12.same ((Kept.refl _ _).drewN m) (by omega)).text
   have a1:=A1.out
   have a3:=A3.out
   have HR:=Lib.hid hr12
   clear h1 h3 hml hm hcut hq hv1 hv2 hv12 hpl hbad hE hv0 h4 h5
   go_enter Tryz.func106,Tryz.ntmps106
   go_wp2_with (go_at_call 131;refine(HG.out _).mono ?_;rintro e w' ⟨rfl,rfl⟩)
   go_quiet (fail)
   go_wp2_with fail
   clear hr1 hr2 hr4 hr12 a1 a2 a3 y1 y2 y3 c1 c2
   have c1:∀ w',Kept (fun _=>False) w w'->(convert 72 9 v1).run Tryz.prog w' = .ok (.string ⟨p.toArray⟩) w':=fun w' h=>(HV.out.1.same h (by omega)).text
   have c2:∀ w',Kept (fun _=>False) w w'->(convert 72 9 (.slice (some ⟨g,off,none⟩) 12 cap)).run Tryz.prog w' = .ok (.string ⟨q.toArray⟩) w':=fun w' h=>(HV.out.2.2.1.same h (by omega)).text
   have hr12:∀ w0,(Instr.slice 72 (.slice (some ⟨g,off,none⟩) n cap) none (some (.int .i64 12)) none).run Tryz.prog w0 = .ok (.slice (some ⟨g,off,none⟩) 12 cap) w0:=HR.out
   go_region_held3 (fun w'=>Kept (fun _=>False) w w') (first|exact((Kept.refl _ _).drewN _).drew|exact(Kept.refl _ _).drewN _|exact((Kept.refl _ _).drewN _).trans hk3) (first|(go_at_call 122;with_reducible refine(HM.out _ (ht.same ((Kept.refl _ _).drewN _))).mono ?_;rintro e w3 ⟨rfl,hk3⟩))
   all_goals
    go_wp2_with fail
    go_ret3
    refine⟨v1,v2,markF p==q,rfl,?_,((Kept.refl _ _).drewN _).trans hk3⟩
    have hk4:Kept (fun _=>False) w w3:=((Kept.refl _ _).drewN _).trans hk3
    rw[HC.out]
    by_cases hp:markF p=q
    ·rw[if_pos hp]
     exact⟨by simpa using hp,HV.out.1.same hk4 (by omega),HV.out.2.1.same hk4 (by omega),HV.out.2.2.2⟩
    ·rw[if_neg hp]
     simpa[CutIs]using hp
theorem cutF_len {l:List UInt8} {x:List UInt8 × List UInt8} (h:cutF l=some x):x.2.length+12<=l.length/\x.1.length<=65536:=by
 unfold cutF at h
 split at h
 ·cases h
 ·split at h
  ·cases h
  ·split at h
   ·cases h;simp;omega
   ·cases h
def wholeF (l:List UInt8):List (List UInt8) × List UInt8:=match h:cutF l with
 | none=>([],l)
 | some x=>(x.1::(wholeF x.2).1,(wholeF x.2).2)
termination_by l.length
decreasing_by all_goals (have:=(cutF_len h).1;omega)
theorem wholeF_none {l:List UInt8} (h:cutF l=none):wholeF l=([],l):=by
 unfold wholeF
 split
 ·rfl
 ·rename_i q;rw[h]at q;cases q
theorem wholeF_some {l:List UInt8} {x:List UInt8 × List UInt8} (h:cutF l=some x):wholeF l=(x.1::(wholeF x.2).1,(wholeF x.2).2):=by
 conv=>lhs;unfold wholeF
 split
 ·rename_i q;rw[h]at q;cases q
 ·rename_i y q;rw[h]at q;cases q;rfl
theorem wholeF_len (l:List UInt8):(wholeF l).2.length+12*(wholeF l).1.length<=l.length:=by
 match h:cutF l with
 | none=>rw[wholeF_none h];simp
 | some x =>
  have h1:=(cutF_len h).1
  have h2:=wholeF_len x.2
  rw[wholeF_some h]
  simp
  omega
termination_by l.length
decreasing_by omega
def strV (ps:List (List UInt8)):List Value:=ps.map fun p=>.string ⟨p.toArray⟩
theorem strV_len (ps:List (List UInt8)):(strV ps).length=ps.length:=by simp[strV]
def U8Blk (w:World) (v:Value):Prop:=∀ g,v.ownBlock=some g->∃ c f,w.heap[g]? = some (.cells c 5 f)
theorem U8Blk.kept {S:Nat->Prop} {w w':World} {v:Value} (h:U8Blk w v) (hk:Kept S w w') (hS:∀ g,v.ownBlock=some g->¬ S g):U8Blk w' v:=by
 intro g hg
 obtain⟨c,f,hc⟩:=h g hg
 exact⟨c,f,by rw[hk.block g (Array.getElem?_eq_some_iff.1 hc).1 (hS g hg)];exact hc⟩
theorem U8Blk.ne {w:World} {v x:Value} {xs:List Value} {size:Nat} (h:U8Blk w v) (hr:Row w 9 size x xs) (g:Nat) (hv:v.ownBlock=some g) (hx:x.ownBlock=some g):False:=by
 obtain⟨c,f,hc⟩:=h g hv
 rcases hr with⟨rfl,_⟩|⟨g',n,cap,rest,rfl,_,hb,_⟩
 ·simp[Value.ownBlock]at hx
 ·simp[Value.ownBlock]at hx
  subst hx
  unfold Blk at hb
  rw[hb]at hc
  simp at hc
theorem bytes_view (w:World) (s:ByteArray) (hs:s.size<=1000000000):∃ v w1,(convert 9 72 (.string s)).run Tryz.prog w = .ok v w1/\View w1 1 v (bytes8 s.data.toList)/\U8Blk w1 v/\Kept (fun _=>False) w w1/\∃ a n c,v = .slice a n c/\n=s.size:=by
 refine⟨_,_,run_bytes_of_string w 9 72 5 s Tryz.underlying9 Tryz.underlying72 Tryz.underlying5,?_,?_,((Kept.refl _ _).drew).alloc _,_,_,_,rfl,rfl⟩
 ·have h2:=grownCap_ge w s.size 0 5
  have h3:=grownCap_le_maxLen w s.size 0 5 (by unfold maxLen;omega)
  generalize grownCap w s.size 0 5=C at *
  have hnew:=heap_alloc_new w.drew (.cells (bytesRow s C) 5 ((bytesRow s C).size,(bytesRow s C).size+1))
  refine⟨_,s.size,C,rfl,by rw[bytes8_len];simp,h2,h3,fun _=>⟨_,0,rfl⟩,fun _=>⟨_,0,rfl,?_,fun j u hu=>?_⟩⟩
  ·rw[World.size_alloc];exact Nat.lt_succ_self _
  ·have hj:=(List.getElem?_eq_some_iff.1 hu).1
   rw[bytes8_len]at hj
   have hjd:j<s.data.size:=by simpa using hj
   have he:(bytesRow s C)[j]? = some u:=by
    rw[bytesRow_at s C j hjd,<- hu,bytes8_at _ j hj]
    simp
   rw[Nat.zero_add]
   have hnew':(w.drew.alloc (.cells (bytesRow s C) 5 ((bytesRow s C).size,(bytesRow s C).size+1))).heap[w.heap.size]? = some (.cells (bytesRow s C) 5 ((bytesRow s C).size,(bytesRow s C).size+1)):=hnew
   simp only[World.cell?,hnew']
   exact he
 ·intro g hg
  simp[Value.ownBlock]at hg
  subst hg
  exact⟨_,_,heap_alloc_new w.drew _⟩
theorem info_str:(Tryz.prog.info? 9).map (fun i=>(i.zero,i.size,i.bytes))=some (some (.string ⟨#[]⟩),1,16):=by kernel_rfl
theorem append_str1 {w2:World} {x:Value} {ps:List (List UInt8)} (hrow:Row w2 9 1 x (strV ps)) (p:List UInt8) (hl:ps.length<=100000000) :
  ∃ v' w',(Builtin.append_ #[99,99] 99 #[x,.slice (some ⟨w2.heap.size,0,none⟩) 1 1]).run Tryz.prog (w2.alloc (.cells #[.string ⟨p.toArray⟩] 9)) = .ok v' w' /\
   Row w' 9 1 v' (strV (ps++[p]))/\Kept (fun k=>x.ownBlock=some k) w2 w'/\∀ k,v'.ownBlock=some k->x.ownBlock=some k\/w2.heap.size<=k:=by
 obtain⟨i0,hi,hz0,hz1,hz2⟩:=info_parts info_str
 have hb:=Blk.new w2 [.string ⟨p.toArray⟩] 9
 obtain⟨v',w',hr,hrow2,hk,ho⟩:=(hrow.alloc (.cells #[.string ⟨p.toArray⟩] 9)).append_cells (P:=Tryz.prog) (t:=99) Tryz.underlying99 hi hz0 hz1 rfl (by omega) (by omega) ⟨w2.heap.size,0,none⟩ 1 1 [.string ⟨p.toArray⟩] rfl (fun j u hu=>by rw[addr0_add];exact hb.cell hu) (fun u hu=>by simp at hu;subst hu;rfl) (by omega) (by rw[strV_len];simp;omega) 99
 refine⟨v',w',hr,?_,((Kept.refl _ _).alloc _).trans hk,fun k hk=>?_⟩
 ·rw[show strV (ps++[p])=strV ps++[.string ⟨p.toArray⟩] by simp[strV]];exact hrow2
 ·rcases ho k hk with h|h
  ·exact Or.inl h
  ·right;rw[World.size_alloc]at h;omega
def sliceLen:Value->Nat
 | .slice _ n _=>n
 | _=>0
def WholePost (w:World) (l:List UInt8) (e:Ending) (w':World):Prop :=
 ∃ v,e = .returned (.tuple #[v,.int .i64 ((l.length-(wholeF l).2.length:Nat):Int)])/\Row w' 9 1 v (strV (wholeF l).1)/\(∀ k,v.ownBlock=some k->w.heap.size<=k)/\Kept (fun _=>False) w w'
theorem whole_any (w:World) (s:ByteArray) (hs:s.size<=2000000) (ht:Tab w) :
  Calls Tryz.prog 79 #[.string s] w (WholePost w s.data.toList):=by
 obtain⟨v0,w1,hr0,hv0,hu0,hk0,a0,n0,c0,rfl,rfl⟩:=bytes_view w s (by omega)
 have hln:=bstr_len s
 go_enter Tryz.func79,Tryz.ntmps79
 go_wp2_with fail
 generalize s.data.toList=full at *
 go_loopw [2,4] (fun x y wr=>∃ (ps:List (List UInt8)) (l:List UInt8),Row wr 9 1 x (strV ps)/\View wr 1 y (bytes8 l)/\U8Blk wr y/\l.length+12*ps.length<=s.size/\Hid (wholeF full=(ps++(wholeF l).1,(wholeF l).2))/\(∀ k,x.ownBlock=some k->w.heap.size<=k)/\Kept (fun _=>False) w wr) (fun _ y _=>sliceLen y)
 case atStart=>exact⟨[],full,Row.nil _ _ _,hv0,hu0,by simp[hln],Lib.hid (by simp),fun k hk=>by simp[Value.ownBlock]at hk,hk0⟩
 case round =>
  obtain⟨ps,l,hrow,hview,hub,hlen,HW,hown,hk⟩:=hrel
  have hcut:=cut_any wr _ l hview (ht.same hk)
  obtain⟨a,n,c,rfl,hn,hv2,hv3,hv4,hv5⟩:=hview
  rw[bytes8_len,Nat.mul_one]at hn
  match hc:cutF l with
  | none =>
   have a1:wrap64 ((s.size:Int)-(n:Int))=((full.length-l.length:Nat):Int):=by rw[IntWalk.wrap64_in _ (by omega)];omega
   have HW:wholeF full=(ps++(wholeF l).1,(wholeF l).2):=HW
   rw[wholeF_none hc,List.append_nil]at HW
   have HC:=Lib.hid hc
   have HL:=Lib.hid hlen
   have HE:=Lib.hid HW
   clear hc hlen HW hn hln
   go_wp2_with (go_at_call 106;refine hcut.mono ?_;rintro e w2 ⟨v1,v2,ok,rfl,hci,hk2⟩;rw[HC.out]at hci;obtain rfl:ok=false:=hci)
   go_ret2
   refine⟨_,by rw[HE.out];show _=Ending.returned (.tuple #[_,.int .i64 ((full.length-l.length:Nat):Int)]);rw[<- a1];rfl,?_,hown,hk.trans hk2⟩
   rw[HE.out]
   exact hrow.kept hk2 (fun _ _=>id)
  | some x =>
   have hcl:=(cutF_len hc).1
   have HW:wholeF full=(ps++(wholeF l).1,(wholeF l).2):=HW
   rw[wholeF_some hc]at HW
   have HC:=Lib.hid hc
   have HE:=Lib.hid HW
   clear hc HW
   have hp1:ps.length<=100000000:=by omega
   have hcut2:Calls Tryz.prog 106 #[.slice a n c] wr fun e w2=>∃ v1 v2 v' w',e = .returned (.tuple #[v1,v2,.bool true])/\(convert 72 9 v1).run Tryz.prog w2 = .ok (.string ⟨x.1.toArray⟩) w2 /\
     (Builtin.append_ #[99,99] 99 #[u2,.slice (some ⟨w2.heap.size,0,none⟩) 1 1]).run Tryz.prog (w2.alloc (.cells #[.string ⟨x.1.toArray⟩] 9)) = .ok v' w' /\
     Hid (View w' 1 v2 (bytes8 x.2)/\U8Blk w' v2/\Row w' 9 1 v' (strV (ps++[x.1]))/\(∀ k,v'.ownBlock=some k->w.heap.size<=k)/\Kept (fun _=>False) w w'):=by
    refine hcut.mono ?_
    rintro e w2 ⟨v1,v2,ok,rfl,hci,hk2⟩
    rw[HC.out]at hci
    obtain⟨rfl,hq1,hq2,ho2⟩:=hci
    have hrow2:=hrow.kept hk2 (fun _ _=>id)
    obtain⟨v',w',hr1,hrow3,hk3,ho3⟩:=append_str1 hrow2 x.1 hp1
    have hub2:U8Blk w2 v2:=by
     have:=hub.kept hk2 (fun _ _=>id)
     intro g hg
     rw[ho2]at hg
     exact this g hg
    have hown2:∀ k,v'.ownBlock=some k->w.heap.size<=k:=by
     intro k hk'
     rcases ho3 k hk' with h|h
     ·exact hown k h
     ·have:=hk.size;have:=hk2.size;omega
    refine⟨v1,v2,v',w',rfl,hq1.text,hr1,Lib.hid ⟨hq2.kept hk3 (fun g c t f hg hv hx=>hub2.ne hrow2 g hv hx) (by omega),hub2.kept hk3 (fun g hv hx=>hub2.ne hrow2 g hv hx),hrow3,hown2,(hk.trans hk2).then_ hk3 (fun i hi hx=>?_)⟩⟩
    have:=hown i hx
    omega
   have HX:=Lib.hid (And.intro hcl (And.intro hlen (And.intro hn hln)))
   clear hcut hrow hub hown hv2 hv3 hv4 hv5 hn hln hlen hcl hp1 hr0 hv0 hu0 hk0
   go_wp2_with (first|(go_at_call 106;refine hcut2.mono ?_;rintro e w2 ⟨v1,v2,v',w',rfl,hpt,hr1,HF⟩)|(at_builtin;refine Lib.wpList_append_run _ rfl _ _ 99 99 rfl _ _ rfl rfl _ _ hr1 ?_))
   obtain⟨hcl,hlen,hn,hln⟩:=HX.out
   obtain⟨g1,g2,g3,g4,g5⟩:=HF.out
   refine⟨⟨ps++[x.1],x.2,g3,g1,g2,by simp;omega,Lib.hid (by rw[HE.out];simp),g4,g5⟩,?_⟩
   obtain⟨a',n',c',rfl,hn',_⟩:=g1
   rw[bytes8_len,Nat.mul_one]at hn'
   show n'<n
   omega
theorem ofBe_cons (x:UInt8) (l:List UInt8):ofBe (x::l)=x.toNat*256^l.length+ofBe l:=by
 have key:∀ (l:List UInt8) (a:Nat),l.foldl (fun a b=>a*256+b.toNat) a=a*256^l.length+l.foldl (fun a b=>a*256+b.toNat) 0:=by
  intro l
  induction l with
  | nil=>intro a;simp
  | cons y r ih =>
   intro a
   rw[List.foldl_cons,List.foldl_cons,ih (a*256+y.toNat),ih (0*256+y.toNat),List.length_cons,Nat.pow_succ,Nat.add_mul,Nat.zero_mul,Nat.zero_add,Nat.mul_assoc,Nat.mul_comm 256 (256^r.length),Nat.add_assoc]
 unfold ofBe
 rw[List.foldl_cons,key l (0*256+x.toNat)]
 simp
theorem ofBe_be (k n:Nat):ofBe (be k n)=n%256^k:=by
 induction k with
 | zero=>simp[be,ofBe,Nat.mod_one]
 | succ k ih =>
  rw[be_succ,ofBe_cons,be_len,ih,Nat.pow_succ,Nat.mod_mul]
  have:(UInt8.ofNat (n/256^k)).toNat=n/256^k%256:=by simp
  rw[this,Nat.mul_comm (256^k),Nat.add_comm]
theorem frameF_take4 (p:By):(frameF p).take 4=be 4 p.length:=by
 unfold frameF markF
 rw[List.append_assoc,List.take_append_of_le_length (by rw[be_len];omega),List.take_of_length_le (by rw[be_len];omega)]
theorem ofBe_len (p:By) (hp:p.length<=65536):ofBe (be 4 p.length)=p.length:=by
 rw[ofBe_be,Nat.mod_eq_of_lt (by omega)]
theorem cutF_frame (p rest:By) (hp:p.length<=65536):cutF (frameF p++rest)=some (p,rest):=by
 have hl:=frameF_len p
 have hm:=markF_len p
 have h4:(frameF p++rest).take 4=be 4 p.length:=by rw[List.take_append_of_le_length (by omega),frameF_take4]
 have h12:(frameF p++rest).take 12=markF p:=by
  unfold frameF
  rw[List.append_assoc,List.take_append_of_le_length (by omega),List.take_of_length_le (by omega)]
 have hd:(frameF p++rest).drop 12=p++rest:=by
  unfold frameF
  rw[List.append_assoc,List.drop_append_of_le_length (by omega),List.drop_eq_nil_of_le (by omega),List.nil_append]
 have hp2:((frameF p++rest).drop 12).take p.length=p:=by rw[hd,List.take_append_of_le_length (by omega),List.take_of_length_le (by omega)]
 have hr:(frameF p++rest).drop (12+p.length)=rest:=by
  rw[<- List.drop_drop,hd,List.drop_append_of_le_length (by omega),List.drop_eq_nil_of_le (by omega),List.nil_append]
 unfold cutF
 rw[h4,ofBe_len p hp,if_neg (by rw[List.length_append];omega),if_neg (by rw[List.length_append];omega),hp2,h12,if_pos rfl,hr]
def framesF (ps:List By):By:=ps.flatMap frameF
theorem wholeF_frames (ps:List By) (hp:∀ p∈ps,p.length<=65536) (t:By) (ht:cutF t=none):wholeF (framesF ps++t)=(ps,t):=by
 induction ps with
 | nil=>simpa[framesF]using wholeF_none ht
 | cons p r ih =>
  have e:framesF (p::r)++t=frameF p++(framesF r++t):=by simp[framesF]
  rw[e,wholeF_some (cutF_frame p _ (hp p (by simp))),ih (fun q hq=>hp q (by simp[hq]))]
theorem cutF_nil:cutF []=none:=by unfold cutF;rw[if_pos (by simp)]
theorem extract_data (s:ByteArray) (k:Nat):(s.extract k s.size).data.toList=s.data.toList.drop k:=by
 rw[ByteArray.data_extract,Array.toList_extract,List.extract_eq_take_drop]
 refine List.take_of_length_le ?_
 rw[List.length_drop]
 simp
abbrev strB (l:By):ByteArray:=⟨l.toArray⟩
theorem strB_data (l:By):(strB l).data.toList=l:=rfl
theorem strB_size (l:By):(strB l).size=l.length:=by show l.toArray.size=_;rw[List.size_toArray]
theorem strB_eq (s:ByteArray):strB s.data.toList=s:=bstr_eq rfl
abbrev hcells (L:List By):List Value:=bytes8 L.flatten
theorem flatten_len {L:List By} (h:∀ x∈L,x.length=32):L.flatten.length=L.length*32:=by
 induction L with
 | nil=>rfl
 | cons a L ih =>
  rw[List.flatten_cons,List.length_append,ih (fun x hx=>h x (by simp[hx])),h a (by simp),List.length_cons]
  omega
theorem hcells_len {L:List By} (h:∀ x∈L,x.length=32):(hcells L).length=L.length*32:=by rw[bytes8_len,flatten_len h]
theorem flatten_at {L:List By} (h:∀ x∈L,x.length=32) (i:Nat) (a:By) (hi:L[i]? = some a):(L.flatten.drop (i*32)).take 32=a:=by
 induction L generalizing i with
 | nil=>simp at hi
 | cons b L ih =>
  have hb:=h b (by simp)
  rw[List.flatten_cons]
  cases i with
  | zero =>
   simp at hi
   subst hi
   rw[Nat.zero_mul,List.drop_zero,List.take_append_of_le_length (by omega),List.take_of_length_le (by omega)]
  | succ i =>
   rw[show(i+1)*32=b.length+i*32 by omega,<- List.drop_drop,List.drop_left]
   exact ih (fun x hx=>h x (by simp[hx])) i (by simpa using hi)
theorem hcells_at {L:List By} (h:∀ x∈L,x.length=32) (i:Nat) (a:By) (hi:L[i]? = some a):((hcells L).drop (i*32)).take 32=bytes8 a:=by
 have e1:(hcells L).drop (i*32)=bytes8 (L.flatten.drop (i*32)):=by simp[hcells,bytes8,List.map_drop]
 rw[e1]
 have e2:(bytes8 (L.flatten.drop (i*32))).take 32=bytes8 ((L.flatten.drop (i*32)).take 32):=by simp[bytes8,List.map_take]
 rw[e2,flatten_at h i a hi]
theorem View.range {w:World} {size:Nat} {v:Value} {xs:List Value} {g off n cap:Nat} (h:View w size v xs) (hv:v = .slice (some ⟨g,off,none⟩) n cap) (hn:0<n):w.rangeAt g off xs:=by
 obtain⟨a,n',cap',rfl,h1,h2,h3,h4,h5⟩:=h
 cases hv
 obtain⟨g',off',he,hg,hc⟩:=h5 hn
 cases he
 exact hc
theorem rangeAt_mid {w:World} {g off:Nat} {xs:List Value} (h:w.rangeAt g off xs) (i k:Nat):w.rangeAt g (off+i) ((xs.drop i).take k):=by
 intro j u hu
 have hj:=(List.getElem?_eq_some_iff.1 hu).1
 rw[List.length_take]at hj
 rw[List.getElem?_take_of_lt (by omega),List.getElem?_drop]at hu
 rw[Nat.add_assoc]
 exact h _ u hu
structure Leaves (w:World) (lb rb g off n cap:Nat) (L:List By):Prop where
 slice:Blk w lb [.slice (some ⟨g,off,none⟩) n cap] 59
 self:Blk w rb [.func (.func 130) #[] #[.pointer (some ⟨lb,0,none⟩),.pointer (some ⟨rb,0,none⟩)]] 173
 g_lt:g<w.heap.size
 cells:w.rangeAt g off (hcells L)
 len:n=L.length
 fits:n<=cap
 room:cap<=maxLen
 all:∀ x∈L,x.length=32
 few:L.length<=1000000
 tab:Tab w
theorem Leaves.kept {w w':World} {lb rb g off n cap:Nat} {L:List By} {S:Nat->Prop} (h:Leaves w lb rb g off n cap L) (hk:Kept S w w') (hS:∀ b,b<w.heap.size->¬ S b):Leaves w' lb rb g off n cap L :=
 ⟨h.slice.kept hk (hS _ h.slice.lt),h.self.kept hk (hS _ h.self.lt),Nat.lt_of_lt_of_le h.g_lt hk.size,rangeAt_kept h.cells hk h.g_lt (hS _ h.g_lt),h.len,h.fits,h.room,h.all,h.few,
  ⟨fun i v hv=>hk.cell (h.tab.first i v hv) (hS _ (World.block_lt_of_cell? w _ (h.tab.first i v hv))),fun i v hv=>hk.cell (h.tab.rounds i v hv) (hS _ (World.block_lt_of_cell? w _ (h.tab.rounds i v hv)))⟩⟩
theorem treeF_sub {L:List By} {a b:Nat} (hab:a+2<=b) (hb:b<=L.length):treeF ((L.drop a).take (b-a))=nodeF (treeF ((L.drop a).take (splitN (b-a)))) (treeF ((L.drop (a+splitN (b-a))).take (b-(a+splitN (b-a))))):=by
 have hl:((L.drop a).take (b-a)).length=b-a:=by simp;omega
 have hk:=splitN_in (n:=b-a) (by omega)
 rw[treeF_two (by omega),hl]
 congr 1
 ·rw[List.take_take,Nat.min_eq_left (by omega)]
 ·rw[List.drop_take,List.drop_drop]
  congr 2
  omega
theorem treeF_sub1 {L:List By} {a:Nat} {x:By} (hx:L[a]? = some x):treeF ((L.drop a).take 1)=x:=by
 obtain⟨ha,he⟩:=List.getElem?_eq_some_iff.1 hx
 rw[List.drop_eq_getElem_cons ha,List.take_succ_cons,List.take_zero,treeF_one,he]
abbrev rootFn (lb rb:Nat):Value:=.func (.func 130) #[] #[.pointer (some ⟨lb,0,none⟩),.pointer (some ⟨rb,0,none⟩)]
abbrev RootS (w w':World) (rb lb:Nat):Prop:=w'.cell? ⟨rb,0,none⟩=some (rootFn lb rb)/\w'.there w.heap.size 0 32/\(∃ C:List Value,C.length=32/\Blk w' w.heap.size C 30)/\Kept (· = w.heap.size) w w'
theorem rootS_begin {w:World} {rb lb:Nat} (h:Blk w rb [rootFn lb rb] 173):RootS w (w.alloc (.cells (zeros 32).toArray 30)).drew rb lb:=by
 have hb:=Blk.new w (zeros 32) 30
 exact⟨((h.alloc _).drew).cell (i:=0) rfl,(hb.drew).there 0 32 (by rw[zeros_len];omega),⟨_,zeros_len 32,hb.drew⟩,((Kept.refl _ _).alloc _).drew⟩
theorem rootS_next {w w1 w2:World} {rb lb:Nat} (h:RootS w w1 rb lb) (k:Kept (fun _=>False) w1 w2):RootS w w2 rb lb:=by
 obtain⟨h1,_,⟨C,hC,hb⟩,hk⟩:=h
 have hb2:=hb.kept k id
 exact⟨k.cell h1 id,hb2.there 0 32 (by omega),⟨C,hC,hb2⟩,hk.then_ k (fun _ _=>False.elim)⟩
theorem rootS_store {w w1:World} {rb lb:Nat} {H:List Value} (h:RootS w w1 rb lb) (hr:rb<w.heap.size) (hH:H.length=32):RootS w (w1.setCells w.heap.size 0 H) rb lb:=by
 obtain⟨h1,_,⟨C,hC,hb⟩,hk⟩:=h
 have k:=kept_setCells w1 w.heap.size 0 H
 have hb2:=hb.setCells 0 H (by omega)
 have hl:(splice C 0 H).length=32:=by rw[splice_len (by omega),hC]
 exact⟨k.cell h1 (by show ¬ rb=w.heap.size;omega),hb2.there 0 32 (by omega),⟨_,hl,hb2⟩,hk.then_ k (fun _ _ e=>e)⟩
theorem rootS_leaves {w w1:World} {lb rb g off n cap:Nat} {L:List By} (hL:Leaves w lb rb g off n cap L) (h:RootS w w1 rb lb):Leaves w1 lb rb g off n cap L:=hL.kept h.2.2.2 (fun b hb e=>by omega)
theorem rootIn_any (m:Nat):∀ (w:World) (lb rb g off n cap:Nat) (L:List By) (a b:Nat),Leaves w lb rb g off n cap L->b-a<=m->a<b->b<=L.length ->
  Calls Tryz.prog 130 #[.int .i64 (a:Int),.int .i64 (b:Int),.pointer (some ⟨lb,0,none⟩),.pointer (some ⟨rb,0,none⟩)] w fun e w'=>e = .returned (hashV (treeF ((L.drop a).take (b-a))))/\Kept (fun _=>False) w w':=by
 induction m with
 | zero=>intro w lb rb g off n cap L a b _ h1 h2;omega
 | succ m ih =>
  intro w lb rb g off n cap L a b h hm hab hb
  have hfew:=h.few
  have hsp:=fun w'=>split_any w' (b-a) (by omega)
  have a1:wrap64 ((b:Int)-(a:Int))=((b-a:Nat):Int):=by rw[IntWalk.wrap64_in _ (by omega)];omega
  have hr:=Blk.new w (zeros 32) 30
  by_cases hone:b-a<2
  ·obtain⟨x,hx⟩:∃ x,L[a]? = some x:=⟨_,List.getElem?_eq_getElem (by omega)⟩
   have hx32:=h.all x (List.mem_of_getElem? hx)
   rw[show b-a=1 by omega,treeF_sub1 hx]
   have hrg:=rangeAt_mid h.cells (a*32) 32
   rw[hcells_at h.all a x hx]at hrg
   have hs0:=splitN_small hone
   rw[hs0]at hsp
   have HSP:=Lib.hid hsp
   have i0:(a:Int)<(n:Int):=by have:=h.len;omega
   have i1:(0:Int)<=(a:Int):=by omega
   have HF:=Lib.hid (show ∀ w1,w1=w.alloc (.cells (zeros 32).toArray 30)->w1.cell? ⟨lb,0,none⟩=some (.slice (some ⟨g,off,none⟩) n cap)/\Hid (w1.rangeAt g (off+a*32) (bytes8 x)/\Blk w1 w.heap.size (zeros 32) 30/\Kept (fun _=>False) w w1)from by
    rintro w1 rfl
    exact⟨(h.slice.alloc _).cell (i:=0) rfl,Lib.hid ⟨rangeAt_kept hrg ((Kept.refl (fun _=>False) w).alloc _) h.g_lt id,hr,(Kept.refl _ _).alloc _⟩⟩)
   have HI:=Lib.hid (show(Tryz.prog.info? 30).map (·.size)=some (bytes8 x).length by rw[bytes8_len,hx32];exact info_h32)
   clear hsp hs0 hr hm ih h hx hrg hone hfew hab hb
   have HX:=Lib.hid hx32
   clear hx32
   go_enter Tryz.func130,Tryz.ntmps130
   go_wp2_with (first|(go_at_call 124;refine(HSP.out _).mono ?_;rintro e w' ⟨rfl,rfl⟩;generalize hw1:World.alloc w _=w1;obtain⟨c0,HG⟩:=HF.out w1 hw1.symm;clear hw1)|(refine wpList_load_mid rfl 30 _ rfl g (off+a*32) rfl (bytes8 x) _ HG.out.1 Tryz.underlying30 rfl HI.out ?_)|(refine wpList_store_mid rfl 30 _ _ rfl w.heap.size 0 (bytes8 x).toArray rfl rfl ?hth ?hi ?h1 ?_))
   case hth=>exact(hash_stored HG.out.2.1 (zeros_len 32) HX.out).1
   case hi=>exact info_hash HX.out
   case h1=>exact all_oneCell_toArray (fun y hy=>u8_oneCell y hy)
   have hst:=hash_stored HG.out.2.1 (zeros_len 32) HX.out
   refine bodyPost_ret (hst.2.result rfl rfl Tryz.underlying30 rfl HI.out) rfl ⟨rfl,?_⟩
   exact HG.out.2.2.then_ (kept_setCells _ _ _ _) (fun i hi e=>by omega)
  ·have hk:=splitN_in (n:=b-a) (by omega)
   rw[treeF_sub (by omega) hb]
   have x1:((splitN (b-a):Int)==0)=false:=by simp;omega
   generalize splitN (b-a)=K at *
   have h1:∀ w',Leaves w' lb rb g off n cap L->Calls Tryz.prog 130 #[.int .i64 (a:Int),.int .i64 ((a+K:Nat):Int),.pointer (some ⟨lb,0,none⟩),.pointer (some ⟨rb,0,none⟩)] w' fun e w''=>e = .returned (hashV (treeF ((L.drop a).take K)))/\Kept (fun _=>False) w' w'':=by
    intro w' hw'
    have:=ih w' lb rb g off n cap L a (a+K) hw' (by omega) (by omega) (by omega)
    rwa[Nat.add_sub_cancel_left]at this
   have h2:∀ w',Leaves w' lb rb g off n cap L->Calls Tryz.prog 130 #[.int .i64 ((a+K:Nat):Int),.int .i64 (b:Int),.pointer (some ⟨lb,0,none⟩),.pointer (some ⟨rb,0,none⟩)] w' fun e w''=>e = .returned (hashV (treeF ((L.drop (a+K)).take (b-(a+K)))))/\Kept (fun _=>False) w' w'' :=
    fun w' hw'=>ih w' lb rb g off n cap L (a+K) b hw' (by omega) (by omega) (by omega)
   have l1:(treeF ((L.drop a).take K)).length=32:=treeF_len (by simp;omega) (fun x hx=>h.all x (List.mem_of_mem_drop (List.mem_of_mem_take hx)))
   have l2:(treeF ((L.drop (a+K)).take (b-(a+K)))).length=32:=treeF_len (by simp;omega) (fun x hx=>h.all x (List.mem_of_mem_drop (List.mem_of_mem_take hx)))
   generalize treeF ((L.drop a).take K)=A at *
   generalize treeF ((L.drop (a+K)).take (b-(a+K)))=B at *
   have hnd:=fun w' ht=>node_any w' A B l1 l2 ht
   have hlN:=nodeF_len A B
   generalize nodeF A B=N at *
   have a2:=Lib.hid (show IntKind.i64.wrap ((a:Int)+(K:Int))=((a+K:Nat):Int) by rw[IntWalk.i64_in _ (by clear a1;omega)];omega)
   generalize a+K=E at h1 h2 a2
   have HSP:=Lib.hid hsp
   have H1:=Lib.hid h1
   have H2:=Lib.hid h2
   have HN:=Lib.hid hnd
   have HL:=Lib.hid h
   have HF:=Lib.hid (show ∀ w1,w1=w.alloc (.cells (zeros 32).toArray 30)->RootS w w1.drew rb lb from by
    rintro w1 rfl
    exact rootS_begin h.self)
   have iN:(Tryz.prog.info? 30).map (·.size)=some (bytes8 N).length:=by rw[bytes8_len,hlN];exact info_h32
   have lN:(bytes8 N).length=32:=by rw[bytes8_len,hlN]
   have oN:∀ v∈bytes8 N,v.oneCell'=true:=u8_oneCell
   clear hsp h1 h2 hnd ih h hr l1 l2 hlN hm hfew hone hk hab hb
   have a3:=a2.out
   go_enter Tryz.func130,Tryz.ntmps130
   go_wp2_with (first|(go_at_call 124;refine(HSP.out _).mono ?_;rintro e w' ⟨rfl,rfl⟩;generalize hw1:World.alloc w _=w1;have hs0:=HF.out w1 hw1.symm;clear hw1))
   go_region_held3 (fun w'=>w'.cell? ⟨rb,0,none⟩=some (.func (.func 130) #[] #[.pointer (some ⟨lb,0,none⟩),.pointer (some ⟨rb,0,none⟩)])/\w'.there w.heap.size 0 32/\(∃ C:List Value,C.length=32/\Blk w' w.heap.size C 30)/\Kept (· = w.heap.size) w w') (first|exact hs0|exact rootS_next (by assumption) (by assumption)|exact rootS_store (by assumption) HL.out.self.lt lN) (first|(go_at_call 130;with_reducible refine(H1.out _ (rootS_leaves HL.out (by assumption))).mono ?_;rintro e w3 ⟨rfl,hk3⟩)|(go_at_call 130;with_reducible refine(H2.out _ (rootS_leaves HL.out (by assumption))).mono ?_;rintro e w3 ⟨rfl,hk3⟩)|(go_at_call 129;with_reducible refine(HN.out _ (rootS_leaves HL.out (by assumption)).tab).mono ?_;rintro e w3 ⟨rfl,hk3⟩))
   rename_i wa ka wb kb hh
   obtain⟨_,_,⟨C,hC,hbC⟩,hkC⟩:=rootS_next (rootS_next (rootS_next hs0 ka) kb) hk3
   have hlN:N.length=32:=by rwa[bytes8_len]at lN
   have hst:=hash_stored hbC hC hlN
   go_wp2_with fail
   refine bodyPost_ret (hst.2.result rfl rfl Tryz.underlying30 rfl iN) rfl ⟨rfl,?_⟩
   have:=hh.2.2.2
   exact⟨this.os,this.tape,this.output,this.size,fun i hi _=>this.block i hi (by show ¬ i=w.heap.size;omega)⟩
theorem hcells_append (L M:List By):hcells (L++M)=hcells L++hcells M:=by simp[hcells,bytes8]
theorem hcells_one (a:By):hcells [a]=bytes8 a:=by simp[hcells]
theorem info_hash3:(Tryz.prog.info? 30).map (fun i=>(i.zero,i.size,i.bytes))=some (some (.agg (zeros 32).toArray),32,32):=by kernel_rfl
theorem elem_hashes:Tryz.prog.underlying 59=some (.slice (Tryz.prog.elem 59)):=by kernel_rfl
theorem size_hashes (w:World):(sizeOf (Tryz.prog.elem 59)).run Tryz.prog w = .ok 32 w:=by kernel_rfl
theorem append_hash1 {w2:World} {x:Value} {ps:List By} (hrow:Row w2 30 32 x (hcells ps)) (hps:∀ y∈ps,y.length=32) (p:By) (hp:p.length=32) (hl:ps.length<=1000000) :
  ∃ v' w',(Builtin.append_ #[59,59] 59 #[x,.slice (some ⟨w2.heap.size,0,none⟩) 1 1]).run Tryz.prog (w2.alloc (.cells (bytes8 p).toArray 30)) = .ok v' w' /\
   Row w' 30 32 v' (hcells (ps++[p]))/\Kept (fun k=>x.ownBlock=some k) w2 w'/\∀ k,v'.ownBlock=some k->x.ownBlock=some k\/w2.heap.size<=k:=by
 obtain⟨i0,hi,hz0,hz1,hz2⟩:=info_parts info_hash3
 have hb:=Blk.new w2 (bytes8 p) 30
 obtain⟨v',w',hr,hrow2,hk,ho⟩:=(hrow.alloc (.cells (bytes8 p).toArray 30)).append_cells (P:=Tryz.prog) (t:=59) Tryz.underlying59 hi hz0 hz1 (by show(zeros 32).toArray.size=32;rw[List.size_toArray,zeros_len]) (by omega) (by omega) ⟨w2.heap.size,0,none⟩ 1 1 (bytes8 p) (by rw[bytes8_len,hp]) (fun j u hu=>by rw[addr0_add];exact hb.cell hu) u8_oneCell (by omega) (by rw[hcells_len hps,bytes8_len,hp];omega) 59
 refine⟨v',w',hr,?_,((Kept.refl _ _).alloc _).trans hk,fun k hk=>?_⟩
 ·rw[hcells_append,hcells_one];exact hrow2
 ·rcases ho k hk with h|h
  ·exact Or.inl h
  ·right;rw[World.size_alloc]at h;omega
theorem foldl_zip (l:List Value):∀ (c:List Value) (k:Nat),k+l.length<=c.length->(l.zipIdx k).foldl (fun (cs:Array Value) (x:Value × Nat)=>cs.setIfInBounds x.snd x.fst) c.toArray=(splice c k l).toArray:=by
 induction l with
 | nil=>intro c k _;rw[splice_nil];rfl
 | cons a l ih =>
  intro c k h
  simp only[List.length_cons]at h
  rw[List.zipIdx_cons,List.foldl_cons]
  have e:c.toArray.setIfInBounds k a=(c.set k a).toArray:=by simp
  show List.foldl _ (c.toArray.setIfInBounds k a) _=_
  rw[e,ih (c.set k a) (k+1) (by simp;omega),splice_cons _ _ _ _ (by omega)]
theorem fold_hash {R:By} (h:R.length=32):(bytes8 R).zipIdx.foldl (fun (cs:Array Value) (x:Value × Nat)=>cs.setIfInBounds x.snd x.fst) (zeros 32).toArray=(bytes8 R).toArray:=by
 rw[foldl_zip (bytes8 R) (zeros 32) 0 (by rw[bytes8_len,zeros_len];omega),splice_whole (by rw[bytes8_len,zeros_len,h])]
theorem be_next (i n:Nat):(⟨#[UInt8.ofNat (n/256^i)]⟩:ByteArray)++⟨(be i n).toArray⟩=⟨(be (i+1) n).toArray⟩:=by
 have h:=bstr_cat [UInt8.ofNat (n/256^i)] (be i n)
 rw[be_succ]
 exact h
theorem rput_any (w:World) (n:Nat) (hn:n<18446744073709551616) (size:Nat) (h8:size<=8) :
  Calls Tryz.prog 25 #[.int .u64 (n:Int),.int .i64 (size:Int)] w fun e w'=>e = .returned (.string ⟨(be size n).toArray⟩)/\Kept (fun _=>False) w w':=by
 have x1:decide ((size:Int)<9)=true:=by simp;omega
 have x2:decide (size<9)=true:=by simp;omega
 go_enter Tryz.func25,Tryz.ntmps25
 go_wp2_with fail
 go_loopw [0,5,6] (fun x s y wr=>∃ i:Nat,i<=size/\x = .int .u64 ((n/256^i:Nat):Int)/\s = .string ⟨(be i n).toArray⟩/\y = .int .i64 (i:Int)/\Kept (fun _=>False) w wr) (fun _ _ y _=>size-(intOf y).toNat)
 case atStart=>exact⟨0,by omega,by simp,rfl,rfl,Kept.refl _ _⟩
 case round =>
  obtain⟨i,hi,rfl,rfl,rfl,hk⟩:=hrel
  by_cases hlt:i<size
  ·have y1:decide ((i:Int)<(size:Int))=true:=decide_eq_true (by omega)
   have y2:decide (i<size)=true:=decide_eq_true hlt
   obtain⟨t,ht⟩:∃ t:ByteArray,⟨(be i n).toArray⟩=t:=⟨_,rfl⟩
   have htl:t.size=i:=by rw[<- ht];show(be i n).toArray.size=i;rw[List.size_toArray,be_len]
   obtain⟨q,hq⟩:∃ q,n/256^i=q:=⟨_,rfl⟩
   have hb:=Blk.new wr [.int .u8 ((UInt8.ofNat q).toNat:Int)] 5
   have hst:=run_string_of (w:=wr.alloc (.cells #[.int .u8 ((UInt8.ofNat q).toNat:Int)] 5)) (g:=wr.heap.size) (off:=0) (n:=1) (cap:=1) [UInt8.ofNat q] rfl (fun j u hu=>by rw[Nat.zero_add];exact hb.cell hu)
   have e8:((UInt8.ofNat q).toNat:Int)=(q:Int)%256:=by
    rw[UInt8.toNat_ofNat']
    push_cast
    rfl
   rw[e8]at hst
   have hnx:=be_next i n
   rw[hq,ht]at hnx
   have HN:=Lib.hid hnx
   have HQ:=Lib.hid (show n/256^(i+1)=q/256 by rw[<- hq,Nat.pow_succ,Nat.div_div_eq_div_mul])
   have hK:=Lib.hid (hk.alloc (.cells #[.int .u8 ((q:Int)%256)] 5))
   rw[hq,ht]
   have hq64:q<18446744073709551616:=by rw[<- hq];exact Nat.lt_of_le_of_lt (Nat.div_le_self _ _) hn
   have HLT:=Lib.hid hlt
   have hq0:0<=(q:Int):=by omega
   have htb:t.size<=8:=by omega
   clear hb e8 hnx hq ht hk hi htl
   go_wp2_with fail
   go_roundw
   case rel=>exact⟨i+1,HLT.out,by rw[HQ.out];push_cast;rfl,by rw[<- HN.out],by go_num,hK.out⟩
   case measure=>have:=HLT.out;simp[intOf];omega
  ·have y1:decide ((i:Int)<(size:Int))=false:=decide_eq_false (by omega)
   have y2:decide (i<size)=false:=decide_eq_false hlt
   obtain rfl:i=size:=by omega
   clear hlt hi
   go_wp2_with fail
   go_ret
   exact⟨rfl,hk⟩
theorem rget_any (w:World) (s:ByteArray) (hs:s.size<=4) :
  Calls Tryz.prog 114 #[.string s] w fun e w'=>e = .returned (.int .u64 (ofBe s.data.toList:Int))/\w=w':=by
 go_enter Tryz.func114,Tryz.ntmps114
 go_wp2_with fail
 go_loop [3,4] (fun x y=>∃ i:Nat,i<=s.size/\x = .int .u64 (ofBe (s.data.toList.take i):Int)/\y = .int .i64 (i:Int)) (fun _ y=>s.size-(intOf y).toNat)
 case atStart=>exact⟨0,by omega,rfl,rfl⟩
 case round =>
  obtain⟨i,hi,rfl,rfl⟩:=hrel
  have hb:=ofBe_lt (s.data.toList.take i)
  by_cases hlt:i<s.size
  ·have y1:decide ((i:Int)<(s.size:Int))=true:=decide_eq_true (by omega)
   have y2:decide (i<s.size)=true:=decide_eq_true hlt
   have y3:decide ((i:Int)<8)=true:=decide_eq_true (by omega)
   have y4:decide (i<8)=true:=decide_eq_true (by omega)
   have hl:(s.data.toList.take i).length=i:=by simp;omega
   rw[hl]at hb
   have hb2:ofBe (s.data.toList.take i)<16777216:=Nat.lt_of_lt_of_le hb (Nat.pow_le_pow_right (show 0<256 by omega) (show i<=3 by omega))
   have hbb:(s[i]).toNat<256:=(s[i]).toNat_lt
   have HS:=Lib.hid (take_snoc s i hlt)
   have HO:=Lib.hid (ofBe_snoc (s.data.toList.take i) s[i])
   clear hb hl
   go_wp2_with fail
   go_round
   case rel=>exact⟨i+1,hlt,by rw[HS.out,HO.out];go_num,by go_num⟩
   case measure=>simp[intOf];omega
  ·have y1:decide ((i:Int)<(s.size:Int))=false:=decide_eq_false (by omega)
   have y2:decide (i<s.size)=false:=decide_eq_false hlt
   go_wp2_with fail
   go_ret
   exact⟨ret_int (by rw[List.take_of_length_le (by simp;omega)]),rfl⟩
theorem moreL_append (k m:Nat) (hm:m<=k) (a b:List UInt8):moreL m (a++b)=moreL m a++b:=by
 induction k generalizing m a with
 | zero =>
  have h0:m=0:=by omega
  rw[h0,moreL_zero,moreL_zero]
 | succ k ih =>
  rcases Nat.eq_zero_or_pos m with rfl|h
  ·rw[moreL_zero,moreL_zero]
  ·rw[moreL_pos h,moreL_pos h,<- List.cons_append]
   exact ih (m/128) (by omega) _
theorem ahead_low {n:Nat} (h0:0<n) (h:n<128):moreL n []=[UInt8.ofNat (n+128)]:=by
 rw[moreL_pos h0,show n/128=0 by omega,moreL_zero,Nat.mod_eq_of_lt h]
theorem ahead_high {n:Nat} (h:128<=n):moreL n []=moreL (n/128) []++[UInt8.ofNat (n%128+128)]:=by
 rw[moreL_pos (by omega)]
 exact moreL_append (n/128) (n/128) (Nat.le_refl _) [] _
theorem num_low {n:Nat} (h:n<128):numL n=[UInt8.ofNat n]:=by
 unfold numL
 rw[show n/128=0 by omega,moreL_zero,Nat.mod_eq_of_lt h]
theorem num_high (n:Nat):numL n=moreL (n/128) []++[UInt8.ofNat (n%128)]:=by
 unfold numL
 exact moreL_append (n/128) (n/128) (Nat.le_refl _) [] _
theorem ahead_any (k:Nat):∀ n:Nat,n<=k->0<n->U64n n->∀ w:World,
  Calls Tryz.prog 75 #[.int .u64 (n:Int)] w fun e w'=>e = .returned (.string (strB (moreL n [])))/\Kept (fun _=>False) w w':=by
 induction k with
 | zero=>intro n h1 h2;omega
 | succ k ih =>
  intro n hk h0 hn w
  obtain⟨q,hq⟩:∃ q:Nat,n/128=q:=⟨_,rfl⟩
  obtain⟨c,hc⟩:∃ c:Nat,n%128=c:=⟨_,rfl⟩
  have hc1:c<128:=by omega
  have e1:(n:Int)%128=(c:Int):=by omega
  have e2:(c:Int)%256=(c:Int):=by omega
  have e3:((c:Int)+128)%256=(c:Int)+128:=by omega
  have e4:(n:Int)/128=(q:Int):=by omega
  have hq64:U64n q:=by rw[<- hq];exact hn.div 128
  have e5:=wrap_u64 hq64
  have hb:=Blk.new w [.int .u8 ((c:Int)+128)] 5
  obtain⟨B,hB⟩:∃ B:UInt8,UInt8.ofNat (c+128)=B:=⟨_,rfl⟩
  have ec:(B.toNat:Int)=(c:Int)+128:=by rw[<- hB,UInt8.toNat_ofNat'];omega
  have hst:=run_string_of (w:=w.alloc (.cells #[.int .u8 ((c:Int)+128)] 5)) (g:=w.heap.size) (off:=0) (n:=1) (cap:=1) [B] rfl (fun j u hu=>by
   rw[Nat.zero_add]
   refine hb.cell ?_
   rw[<- ec]
   exact hu)
  have HK:=Lib.hid ((Kept.refl (fun _=>False) w).alloc (.cells #[.int .u8 ((c:Int)+128)] 5))
  by_cases hlt:n<128
  ·have y1:decide ((n:Int)<128)=true:=decide_eq_true (by omega)
   have y2:decide (n<128)=true:=decide_eq_true hlt
   have HL:=Lib.hid (show moreL n []=[B] by rw[ahead_low h0 hlt,<- hB,show c=n by omega])
   clear ih hq hc hb hlt hB ec
   go_enter Tryz.func75,Tryz.ntmps75
   go_wp2_with fail
   go_ret
   rw[HL.out]
   exact⟨rfl,HK.out⟩
  ·have y1:decide ((n:Int)<128)=false:=decide_eq_false (by omega)
   have y2:decide (n<128)=false:=decide_eq_false hlt
   have HL:=Lib.hid (show moreL n []=moreL q []++[B] by rw[<- hB,<- hq,<- hc];exact ahead_high (by omega))
   have HIH:=Lib.hid (ih q (by omega) (by omega) hq64)
   have hlen:=numL_len hn
   rw[num_high,hq,List.length_append,List.length_singleton]at hlen
   clear ih hq hc hb hlt hB ec
   generalize moreL q []=N at *
   have x1:(9223372036854775807<N.length+1)=False:=eq_false (by omega)
   clear hlen
   go_enter Tryz.func75,Tryz.ntmps75
   go_wp2_with (go_at_call 75;refine(HIH.out _).mono ?_;rintro e w1 ⟨rfl,hk1⟩)
   go_ret
   rw[HL.out]
   exact⟨congrArg (fun z=>Ending.returned (.string z)) (bstr_cat N [B]),HK.out.trans hk1⟩
theorem rnum_any (w:World) (n:Nat) (hn:U64n n) :
  Calls Tryz.prog 27 #[.int .u64 (n:Int)] w fun e w'=>e = .returned (.string (strB (numL n)))/\Kept (fun _=>False) w w':=by
 obtain⟨q,hq⟩:∃ q:Nat,n/128=q:=⟨_,rfl⟩
 obtain⟨c,hc⟩:∃ c:Nat,n%128=c:=⟨_,rfl⟩
 have hc1:c<128:=by omega
 have e1:(n:Int)%128=(c:Int):=by omega
 have e2:(c:Int)%256=(c:Int):=by omega
 have e4:(n:Int)/128=(q:Int):=by omega
 have hq64:U64n q:=by rw[<- hq];exact hn.div 128
 have e5:=wrap_u64 hq64
 have hru:=fun (w1:World)=>run_string_of (w:=w1.alloc (.cells #[.int .u8 (c:Int)] 5)) (g:=w1.heap.size) (off:=0) (n:=1) (cap:=1) [UInt8.ofNat c] rfl (fun j u hu=>by
  rw[Nat.zero_add]
  refine(Blk.new w1 [.int .u8 (c:Int)] 5).cell ?_
  have ec:((UInt8.ofNat c).toNat:Int)=(c:Int):=by rw[UInt8.toNat_ofNat'];omega
  rw[<- ec]
  exact hu)
 by_cases hlt:n<128
 ·have y1:decide ((n:Int)<128)=true:=decide_eq_true (by omega)
  have y2:decide (n<128)=true:=decide_eq_true hlt
  have HL:=Lib.hid (num_low hlt)
  have hcn:c=n:=by omega
  subst hcn
  have HK:=Lib.hid ((Kept.refl (fun _=>False) w).alloc (.cells #[.int .u8 (c:Int)] 5))
  have hst:=hru w
  clear hq hc hlt hru
  go_enter Tryz.func27,Tryz.ntmps27
  go_wp2_with fail
  go_ret
  rw[HL.out]
  exact⟨rfl,HK.out⟩
 ·have y1:decide ((n:Int)<128)=false:=decide_eq_false (by omega)
  have y2:decide (n<128)=false:=decide_eq_false hlt
  have HL:=Lib.hid (show numL n=moreL q []++[UInt8.ofNat c] by rw[<- hq,<- hc];exact num_high n)
  have HA:=Lib.hid (ahead_any q q (Nat.le_refl _) (by omega) hq64)
  have HRU:=Lib.hid (show ∀ (W:World) (g:Nat),Blk W g [.int .u8 (c:Int)] 5->(convert 72 9 (.slice (some ⟨g,0,none⟩) 1 1)).run Tryz.prog W = .ok (.string ⟨#[UInt8.ofNat c]⟩) W from fun W g hb=>run_string_of (w:=W) (g:=g) (off:=0) (n:=1) (cap:=1) [UInt8.ofNat c] rfl (fun j u hu=>by
   rw[Nat.zero_add]
   refine hb.cell ?_
   have ec:((UInt8.ofNat c).toNat:Int)=(c:Int):=by rw[UInt8.toNat_ofNat'];omega
   rw[<- ec]
   exact hu))
  have hlen:=numL_len hn
  rw[num_high,hq,List.length_append,List.length_singleton]at hlen
  have t1:(n:Int).tmod 128=(c:Int):=by rw[Int.tmod_eq_emod_of_nonneg (by omega)];exact e1
  have t2:IntKind.u8.wrap (c:Int)=(c:Int):=by
   simp only[IntKind.wrap,IntKind.bits,IntKind.signed]
   simp
   omega
  clear hq hc hlt hru
  generalize moreL q []=N at *
  have x1:(9223372036854775807<N.length+1)=False:=eq_false (by omega)
  clear hlen
  go_enter Tryz.func27,Tryz.ntmps27
  go_wp2_with fail
  refine wp_region_held_drew (S:=fun _=>True) (by kernel_rfl) trivial (fun _=>?_)
  have HD:=Lib.hid (Kept.refl (fun _=>False) w).drew
  generalize World.drew w=W at *
  refine ti 0 trivial ?_
  refine ti 1 trivial ?_
  refine ti 3 trivial ?_
  refine ti 4 trivial ?_
  refine ti 5 trivial ?_
  refine rd2 2 6 (fun K hK=>?_) (fun K hK=>?_)
  ·go_simp
   refine(HA.out _).mono ?_
   rintro e w1 ⟨rfl,hk1⟩
   refine hK.out _ _ trivial (fun _=>?_)
   clear hK K
   try simp only[lyA,lyB,lyC,lyD]
   refine rd1 6 (fun K hK=>?_)
   go_simp
   refine hK.out _ _ trivial (fun _=>?_)
   clear hK K
   try simp only[lyA,lyB,lyC,lyD]
   refine rd1 7 (fun K hK=>?_)
   have hst:=HRU.out _ _ (Blk.new w1 [.int .u8 (c:Int)] 5)
   go_simp
   refine hK.out _ _ trivial (fun _=>?_)
   clear hK K
   try simp only[lyA,lyB,lyC,lyD]
   clear hst
   refine ti 8 trivial ?_
   refine ti 9 trivial ?_
   refine dn ?_
   go_wp2_with fail
   go_ret
   rw[HL.out]
   exact⟨congrArg (fun z=>Ending.returned (.string z)) (bstr_cat N [UInt8.ofNat c]),(HD.out.trans hk1).alloc _⟩
  ·go_simp
   refine hK.out _ _ trivial (fun _=>?_)
   clear hK K
   try simp only[lyA,lyB,lyC,lyD]
   refine rd2 2 7 (fun K hK=>?_) (fun K hK=>?_)
   ·go_simp
    refine(HA.out _).mono ?_
    rintro e w1 ⟨rfl,hk1⟩
    refine hK.out _ _ trivial (fun _=>?_)
    clear hK K
    try simp only[lyA,lyB,lyC,lyD]
    refine rd1 7 (fun K hK=>?_)
    have hst:=HRU.out _ _ ((Blk.new W [.int .u8 (c:Int)] 5).kept (S:=fun _=>False) hk1 id)
    go_simp
    refine hK.out _ _ trivial (fun _=>?_)
    clear hK K
    try simp only[lyA,lyB,lyC,lyD]
    clear hst
    refine ti 8 trivial ?_
    refine ti 9 trivial ?_
    refine dn ?_
    go_wp2_with fail
    go_ret
    rw[HL.out]
    exact⟨congrArg (fun z=>Ending.returned (.string z)) (bstr_cat N [UInt8.ofNat c]),(HD.out.alloc _).trans hk1⟩
   ·have hst:=HRU.out _ _ (Blk.new W [.int .u8 (c:Int)] 5)
    go_simp
    refine hK.out _ _ trivial (fun _=>?_)
    clear hK K
    try simp only[lyA,lyB,lyC,lyD]
    clear hst
    refine rd1 2 (fun K hK=>?_)
    go_simp
    refine(HA.out _).mono ?_
    rintro e w1 ⟨rfl,hk1⟩
    refine hK.out _ _ trivial (fun _=>?_)
    clear hK K
    try simp only[lyA,lyB,lyC,lyD]
    refine ti 8 trivial ?_
    refine ti 9 trivial ?_
    refine dn ?_
    go_wp2_with fail
    go_ret
    rw[HL.out]
    exact⟨congrArg (fun z=>Ending.returned (.string z)) (bstr_cat N [UInt8.ofNat c]),(HD.out.alloc _).trans hk1⟩
abbrev Hd:=Nat × By
def recordF (h:Hd):By:=numL h.1++h.2
def HdOk (h:Hd):Prop:=1<=h.1/\h.1<=4096/\h.2.length=32
def recOf (s:By):Option Hd:=match readGo s 0 with
 | some x=>if x.1<=4096/\(s.drop x.2).length=32 then some (x.1,s.drop x.2)else none
 | none=>none
theorem recOf_record {h:Hd} (hh:HdOk h):recOf (recordF h)=some h:=by
 obtain⟨_,h2,h3⟩:=hh
 unfold recOf recordF
 rw[readGo_num h.1 (U64n.small (by omega)) h.2]
 have:(numL h.1++h.2).drop (numL h.1).length=h.2:=by rw[List.drop_append_of_le_length (Nat.le_refl _),List.drop_eq_nil_of_le (Nat.le_refl _),List.nil_append]
 simp only[this]
 rw[if_pos ⟨h2,h3⟩]
theorem recordF_len {h:Hd} (hh:HdOk h):(recordF h).length<=132:=by
 obtain⟨_,h2,h3⟩:=hh
 unfold recordF
 have:=numL_len (U64n.small (n:=h.1) (by omega))
 rw[List.length_append];omega
def readG (last:Nat):List By->Option (List Hd)
 | []=>some []
 | p::ps=>match recOf p with
  | none=>none
  | some h=>if h.1<=last then none else(readG h.1 ps).map (h::·)
def readH (ps:List By):Option (List Hd):=match readG 0 ps with
 | none=>none
 | some l=>if l.length<=8 then some l else none
def Rises (last:Nat):List Hd->Prop
 | []=>True
 | h::l=>HdOk h/\last<h.1/\Rises h.1 l
theorem Rises.ok {last:Nat} {l:List Hd} (h:Rises last l):∀ x∈l,HdOk x:=by
 induction l generalizing last with
 | nil=>intro x hx;cases hx
 | cons a r ih =>
  obtain⟨h1,_,h3⟩:=h
  intro x hx
  rcases List.mem_cons.1 hx with rfl|hx
  ·exact h1
  ·exact ih h3 x hx
theorem readG_records {last:Nat} {l:List Hd} (h:Rises last l):readG last (l.map recordF)=some l:=by
 induction l generalizing last with
 | nil=>rfl
 | cons a r ih =>
  obtain⟨h1,h2,h3⟩:=h
  rw[List.map_cons]
  unfold readG
  rw[recOf_record h1]
  simp only
  rw[if_neg (by omega),ih h3]
  rfl
theorem readH_records {l:List Hd} (h:Rises 0 l) (h8:l.length<=8):readH (l.map recordF)=some l:=by
 unfold readH
 rw[readG_records h]
 simp only
 rw[if_pos h8]
theorem recOf_ok {s:By} {h:Hd} (hr:recOf s=some h):h.1<=4096/\h.2.length=32:=by
 unfold recOf at hr
 split at hr
 ·split at hr
  ·rename_i q;cases hr;exact q
  ·cases hr
 ·cases hr
theorem readG_rises {last:Nat} {ps:List By} {l:List Hd} (h:readG last ps=some l):Rises last l:=by
 induction ps generalizing last l with
 | nil=>unfold readG at h;cases h;trivial
 | cons p ps ih =>
  unfold readG at h
  split at h
  ·cases h
  ·rename_i x hx
   split at h
   ·cases h
   ·cases hg:readG x.1 ps with
    | none=>rw[hg]at h;cases h
    | some r =>
     rw[hg]at h
     cases h
     have:=recOf_ok hx
     exact⟨⟨by omega,this.1,this.2⟩,by omega,ih hg⟩
def ringFile (l:List Hd):By:=framesF (l.map recordF)
theorem whole_ring {l:List Hd} (h:∀ x∈l,HdOk x) {t:By} (ht:cutF t=none):wholeF (ringFile l++t)=(l.map recordF,t):=by
 refine wholeF_frames _ (fun p hp=>?_) t ht
 obtain⟨x,hx,rfl⟩:=List.mem_map.1 hp
 have:=recordF_len (h x hx)
 omega
theorem more_next {n:Nat} {c:UInt8} (h0:0<n*128+c.toNat%128) (hc:128<=c.toNat):moreL (n*128+c.toNat%128) []=moreL n []++[c]:=by
 have hc2:=c.toNat_lt
 have h1:=moreL_append (n*128+c.toNat%128) n (by omega) [] [c]
 rw[moreL_pos h0,show(n*128+c.toNat%128)/128=n by omega,show(n*128+c.toNat%128)%128+128=c.toNat by omega,UInt8.ofNat_toNat]
 exact h1
theorem readGo_canon (l:By):∀ (n:Nat) (x:Nat × Nat),readGo l n=some x->numL x.1=moreL n []++l.take x.2:=by
 induction l with
 | nil=>intro n x h;unfold readGo at h;cases h
 | cons c l ih =>
  intro n x h
  have hc:=c.toNat_lt
  unfold readGo at h
  split at h
  ·cases h
  ·rename_i hn
   split at h
   ·rename_i hlt
    cases h
    simp only[List.take_succ_cons,List.take_zero]
    rw[num_high,show(n*128+c.toNat%128)/128=n by omega,show(n*128+c.toNat%128)%128=c.toNat by omega,UInt8.ofNat_toNat]
   ·rename_i hlt
    cases hg:readGo l (n*128+c.toNat%128)with
    | none=>rw[hg]at h;cases h
    | some y =>
     rw[hg]at h
     cases h
     have h1:=ih _ _ hg
     simp only[List.take_succ_cons]
     rw[h1,more_next (by omega) (by omega),List.append_assoc,List.singleton_append]
theorem recOf_inv {s:By} {h:Hd} (hr:recOf s=some h):recordF h=s:=by
 unfold recOf at hr
 split at hr
 ·rename_i x hx
  split at hr
  ·cases hr
   have h1:=readGo_canon _ _ _ hx
   rw[moreL_zero,List.nil_append]at h1
   unfold recordF
   simp only
   rw[h1,List.take_append_drop]
  ·cases hr
 ·cases hr
theorem readG_noneA {ps:List By} : ∀ {last:Nat},readG last ps=none->∀ qs,readG last (ps++qs)=none:=by
 induction ps with
 | nil=>intro last h;cases h
 | cons p ps ih =>
  intro last h qs
  unfold readG at h
  rw[List.cons_append]
  unfold readG
  cases hp:recOf p with
  | none=>rfl
  | some x =>
   rw[hp]at h
   simp only at h ⊢
   split at h
   ·rename_i q;rw[if_pos q]
   ·rename_i q
    rw[if_neg q]
    cases hg:readG x.1 ps with
    | none=>rw[ih hg];rfl
    | some r=>rw[hg]at h;cases h
def lastS (last:Nat) (l:List Hd):Nat:=(l.getLast?.map (·.1)).getD last
theorem lastS_cons (last:Nat) (x:Hd) (l:List Hd):lastS last (x::l)=lastS x.1 l:=by
 unfold lastS
 cases l with
 | nil=>rfl
 | cons a r=>rw[List.getLast?_cons_cons];rw[List.getLast?_eq_some_getLast (by simp)];rfl
theorem readG_snoc (p:By):∀ (ps:List By) (last:Nat),readG last (ps++[p])=match readG last ps with
  | none=>none
  | some l=>match recOf p with
   | none=>none
   | some h=>if h.1<=lastS last l then none else some (l++[h]):=by
 intro ps
 induction ps with
 | nil =>
  intro last
  rw[List.nil_append]
  unfold readG
  cases recOf p with
  | none=>rfl
  | some h=>unfold lastS;simp only[readG];rfl
 | cons q ps ih =>
  intro last
  rw[List.cons_append]
  unfold readG
  cases recOf q with
  | none=>rfl
  | some x =>
   simp only
   by_cases hx:x.1<=last
   ·rw[if_pos hx,if_pos hx]
   ·rw[if_neg hx,if_neg hx,ih x.1]
    cases readG x.1 ps with
    | none=>rfl
    | some l =>
     simp only[Option.map_some]
     rw[lastS_cons]
     cases recOf p with
     | none=>rfl
     | some h =>
      simp only
      split<;>rfl
theorem readG_len {last:Nat} {ps:List By} {l:List Hd} (h:readG last ps=some l):l.length=ps.length:=by
 induction ps generalizing last l with
 | nil=>unfold readG at h;cases h;rfl
 | cons p ps ih =>
  unfold readG at h
  split at h
  ·cases h
  ·split at h
   ·cases h
   ·rename_i x _ _
    cases hg:readG x.1 ps with
    | none=>rw[hg]at h;cases h
    | some r=>rw[hg]at h;cases h;rw[List.length_cons,List.length_cons,ih hg]
structure SaysI (ps:List By) (i:Nat) (l:List Hd):Prop where
 read:readG 0 (ps.take i)=some l
 len:l.length=i
 few:i<=8
theorem SaysI.start (ps:List By):SaysI ps 0 []:=⟨rfl,rfl,by omega⟩
theorem SaysI.ok {ps:List By} {i:Nat} {l:List Hd} (h:SaysI ps i l):∀ x∈l,HdOk x:=(readG_rises h.read).ok
theorem SaysI.next {ps:List By} {i:Nat} {l:List Hd} {p:By} {x:Hd} (h:SaysI ps i l) (hp:ps[i]? = some p) (hx:HdOk x) (he:recordF x=p) (h7:i<=7) (hr:lastS 0 l<x.1):SaysI ps (i+1) (l++[x]):=by
 have e:ps.take (i+1)=ps.take i++[p]:=by rw[List.take_add_one,hp];rfl
 refine⟨?_,by rw[List.length_append,h.len];rfl,by omega⟩
 rw[e,readG_snoc,h.read,<- he,recOf_record hx]
 simp only
 rw[if_neg (by omega)]
theorem SaysI.stop {ps:List By} {i:Nat} {l:List Hd} {p:By} (h:SaysI ps i l) (hp:ps[i]? = some p) (hn:∀ x,HdOk x->recordF x=p->7<i\/x.1<=lastS 0 l):readH ps=none:=by
 have e:ps.take (i+1)=ps.take i++[p]:=by rw[List.take_add_one,hp];rfl
 have e2:ps=(ps.take i++[p])++ps.drop (i+1):=by rw[<- e,List.take_append_drop]
 have hi:=(List.getElem?_eq_some_iff.1 hp).1
 unfold readH
 cases hg:readG 0 (ps.take i++[p])with
 | none =>
  rw[e2,readG_noneA hg]
 | some l2 =>
  rw[readG_snoc,h.read]at hg
  simp only at hg
  cases hr:recOf p with
  | none=>rw[hr]at hg;cases hg
  | some x =>
   rw[hr]at hg
   simp only at hg
   split at hg
   ·cases hg
   ·rename_i hle
    have h2:=recOf_ok hr
    rcases hn x ⟨by omega,h2.1,h2.2⟩ (recOf_inv hr)with q|q
    ·cases hf:readG 0 ps with
     | none=>rfl
     | some l3 =>
      simp only
      rw[if_neg (by rw[readG_len hf];omega)]
    ·exact absurd q hle
theorem SaysI.last {ps:List By} {l:List Hd} (h:SaysI ps ps.length l):readH ps=some l:=by
 have h1:=h.read
 rw[List.take_of_length_le (Nat.le_refl _)]at h1
 unfold readH
 rw[h1]
 simp only
 rw[if_pos (by rw[h.len];exact h.few)]
end Go.Proofs.YtdmedbhbefdnkaaGreatDoor
