/- Sum -/
import Derived.Lib.LazyBuf
import Derived.Test.YtdmedbhbefdnkaaGreatDoorUKeyringPlay21
set_option linter.unusedVariables false
set_option linter.unusedSimpArgs false
set_option maxRecDepth 100000
set_option maxHeartbeats 16000000
namespace Go.Proofs.YtdmedbhbefdnkaaGreatDoor
open Go.RowKit
def padN (n:Nat):Nat:=(119-n%64)%64
def filledL (l:List UInt8):List UInt8:=l++[128]++List.replicate (padN l.length) 0++be 8 (l.length*8)
theorem filledL_len (l:List UInt8):(filledL l).length%64=0/\l.length<(filledL l).length/\(filledL l).length<=l.length+72:=by
 unfold filledL padN
 simp only[List.length_append,List.length_cons,List.length_nil,List.length_replicate,be_len]
 omega
theorem repeatL_zero (c:Nat):Lib.repeatL [0] c=List.replicate c (0:UInt8):=by
 induction c with
 | zero=>rfl
 | succ c ih =>
  rw[List.replicate_succ]
  simp only[Lib.repeatL]at *
  simp_all
def FilledTo (w:World) (s:ByteArray) (e:Ending) (w':World):Prop:=∃ t:ByteArray,e = .returned (.string t)/\t.data.toList=filledL s.data.toList/\Kept (fun _=>False) w w'
theorem put_int (w:World) (x:Int) (n:Nat) (y:Int) (size:Nat) (hx:x=(n:Int)) (hy:y=(size:Int)) (h1:1<=size) (h8:size<=8) :
  Calls Tryz.prog 101 #[.int .u64 x,.int .i64 y] w fun e w'=>e = .returned (.string ⟨(be size n).toArray⟩)/\Kept (fun _=>False) w w':=by
 subst hx;subst hy
 exact put_any w n size h1 h8
theorem filled_any (w:World) (s:ByteArray) (hs:s.size<=1000000) :
  Calls Tryz.prog 127 #[.string s] w (FilledTo w s):=by
 obtain⟨z,hz,hz2⟩:∃ z:Nat,(119-(s.size:Int)%64)%64=(z:Int)/\padN s.size=z:=⟨padN s.size,by unfold padN;omega,rfl⟩
 have hz64:z<64:=by unfold padN at hz2;omega
 have hrep:=fun w=>Tryz.strings_Repeat ⟨#[0]⟩ z w (by omega) (by show 1*z<=_;omega)
 have hput:=fun w=>put_int w ((s.size:Int)*8) (s.size*8) 8 8 (by omega) rfl (by omega) (by omega)
 have hrl:(Lib.repeatL [0] z).length=z:=by rw[repeatL_zero,List.length_replicate]
 have hbl:=be_len 8 (s.size*8)
 have HZ:=Lib.hid hz2
 clear hz2
 go_enter Tryz.func127,Tryz.ntmps127
 go_wp2_with fail
 refine(hrep _).mono ?_
 rintro e w1 ⟨rfl,hb1⟩
 have hr2:(Lib.repeatL ((⟨#[0]⟩:ByteArray).data.toList) z).length=z:=hrl
 generalize hR:Lib.repeatL ((⟨#[0]⟩:ByteArray).data.toList) z=R at *
 have HR:=Lib.hid hR
 clear hR
 go_wp2_with fail
 refine(hput _).mono ?_
 rintro e w2 ⟨rfl,hk2⟩
 generalize hP:be 8 (s.size*8)=Q at *
 have HP:=Lib.hid hP
 clear hP
 go_wp2_with fail
 go_ret
 have hR:=HR.out
 rw[repeatL_zero]at hR
 refine⟨_,rfl,?_,(Kept.of_below hb1).trans hk2⟩
 unfold filledL
 have e1:s.data.toList.length=s.size:=by simp
 rw[e1,HZ.out,hR,HP.out]
 simp
def V8.out (v:V8):List UInt8:=v.ints.flatMap fun x=>be 4 x.toNat
def sumBlocks (v:V8) (l:List UInt8):Nat->V8
 | 0=>v
 | j+1=>mixM (sumBlocks v l j) ((l.drop (64*j)).take 64)
def v8First:V8:=⟨1779033703,3144134277,1013904242,2773480762,1359893119,2600822924,528734635,1541459225⟩
def shaF (l:List UInt8):List UInt8:=(sumBlocks v8First (filledL l) ((filledL l).length/64)).out
theorem V8.out_len (v:V8):v.out.length=32:=by simp[V8.out,V8.ints,be_len]
theorem shaF_len (l:List UInt8):(shaF l).length=32:=V8.out_len _
theorem sumBlocks_u (l:List UInt8) (j:Nat):(sumBlocks v8First l j).U:=by
 cases j with
 | zero=>unfold sumBlocks v8First;constructor<;>(unfold U32;decide)
 | succ j=>exact mixM_u _ _
theorem info_h32:(Tryz.prog.info? 30).map (·.size)=some 32:=by kernel_rfl
def hashTo (v:V8) (i:Nat):List Value:=bytes8 ((v.ints.take i).flatMap fun x=>be 4 x.toNat)++zeros (32-4*i)
theorem hashTo_len (v:V8) (i:Nat) (h:i<=8):(hashTo v i).length=32:=by
 have:∀ l:List Int,(l.flatMap fun x=>be 4 x.toNat).length=4*l.length:=by
  intro l
  induction l with
  | nil=>rfl
  | cons a r ih=>rw[List.flatMap_cons,List.length_append,ih,be_len,List.length_cons];omega
 unfold hashTo
 rw[List.length_append,bytes8_len,this,zeros_len,List.length_take]
 have:v.ints.length=8:=rfl
 omega
theorem flatBe_len (l:List Int):(l.flatMap fun x=>be 4 x.toNat).length=4*l.length:=by
 induction l with
 | nil=>rfl
 | cons a r ih=>rw[List.flatMap_cons,List.length_append,ih,be_len,List.length_cons];omega
theorem hashTo_step (v:V8) (i:Nat) (x:Int) (hx:v.ints[i]? = some x):splice (hashTo v i) (4*i) (bytes8 (be 4 x.toNat))=hashTo v (i+1):=by
 have hi:i<8:=(List.getElem?_eq_some_iff.1 hx).1
 have h8:v.ints.length=8:=rfl
 have hl:(bytes8 ((v.ints.take i).flatMap fun x=>be 4 x.toNat)).length=4*i:=by rw[bytes8_len,flatBe_len,List.length_take];omega
 have hb:(bytes8 (be 4 x.toNat)).length=4:=by rw[bytes8_len,be_len]
 unfold splice hashTo
 rw[hb,List.take_append_of_le_length (by omega),List.take_of_length_le (by omega),List.drop_append,hl,List.drop_of_length_le (by omega),List.nil_append]
 rw[List.take_add_one,hx,List.flatMap_append,bytes8_append]
 have e1:(Option.toList (some x)).flatMap (fun x=>be 4 x.toNat)=be 4 x.toNat:=by simp
 rw[e1]
 congr 1
 unfold zeros
 rw[List.drop_replicate]
 congr 1
 omega
theorem hashTo_all (v:V8):hashTo v 8=bytes8 v.out:=by
 unfold hashTo V8.out
 rw[List.take_of_length_le (Nat.le_refl 8)]
 simp[zeros]
theorem sizeU8 (w:World):(sizeOf 5).run Tryz.prog w = .ok 1 w:=by kernel_rfl
theorem index_v8 (l:List Value) (i:Nat) (hi:i<8) (v:Value) (hv:l[i]? = some v) (w:World):(Instr.index 122 (.agg l.toArray) (.int .i64 (i:Int))).run Tryz.prog w = .ok v w :=
 run_index_arr Tryz.underlying122 sizeU32 aggU32 l i hi v hv
def strLen:Value->Nat
 | .string s=>s.size
 | _=>0
theorem sum_any (w:World) (s:ByteArray) (hs:s.size<=1000000) (ht:Tab w) :
  Calls Tryz.prog 100 #[.string s] w fun e w'=>e = .returned (.agg (bytes8 (shaF s.data.toList)).toArray)/\Kept (fun _=>False) w w':=by
 have HT:=Lib.hid (show ∀ w',Kept (fun _=>False) w w'->w'.rangeAt 0 0 v8First.cells from fun w' hk j v hv=>by
  rw[Nat.zero_add];exact(ht.same hk).first j v hv)
 have hfl:=filledL_len s.data.toList
 have e1:s.data.toList.length=s.size:=by simp
 rw[e1]at hfl
 clear e1
 go_enter Tryz.func100,Tryz.ntmps100
 go_wp2_with (first|(refine wpList_load_mid rfl 122 _ rfl 0 0 rfl v8First.cells _ (HT.out _ ((Kept.refl _ _).alloc _)) Tryz.underlying122 rfl info_v8 ?_)|(go_at_call 127;refine(filled_any _ s hs).mono ?_;rintro e w1 ⟨t,rfl,htl,hk1⟩))
 have hvb:Blk w1 (w.heap.size+1) v8First.cells 122:=by
  have h2:=Blk.new (w.alloc (.cells (zeros 32).toArray 30)) v8First.cells 122
  simp only[World.size_alloc]at h2
  exact h2.kept hk1 id
 have hres:Blk w1 w.heap.size (zeros 32) 30:=by
  have h1:=Blk.new w (zeros 32) 30
  exact(h1.alloc _).kept hk1 id
 have hk:Kept (fun _=>False) w w1:=(((Kept.refl _ _).alloc _).alloc _).trans hk1
 have HTL:=Lib.hid htl
 have htz:t.size=(filledL s.data.toList).length:=by rw[<- htl];simp
 have ht64:t.size%64=0:=by rw[htz];exact hfl.1
 have HTZ:=Lib.hid htz
 clear htl hk1 htz hfl
 go_loopw [4] (fun x wr=>∃ (j:Nat) (T:ByteArray),x = .string T/\64*j<=t.size/\T.size+64*j<=t.size/\t.size<=T.size+64*j/\Hid (T.data.toList=(filledL s.data.toList).drop (64*j))/\Blk wr (w.heap.size+1) (sumBlocks v8First (filledL s.data.toList) j).cells 122/\Blk wr w.heap.size (zeros 32) 30/\Kept (fun _=>False) w wr) (fun x _=>strLen x)
 case atStart=>exact⟨0,t,rfl,by omega,by omega,by omega,Lib.hid (by rw[HTL.out];rfl),hvb,hres,hk⟩
 case round =>
  obtain⟨j,T,rfl,hj,hT1,hT2,HD,hvb,hres,hk⟩:=hrel
  have hVU:=sumBlocks_u (filledL s.data.toList) j
  by_cases hlt:64*j<t.size
  ·have hT64:64<=T.size:=by omega
   have hT64i:(64:Int)<=(T.size:Int):=by omega
   generalize hV:sumBlocks v8First (filledL s.data.toList) j=V at *
   have HV:=Lib.hid hV
   clear hV
   have t0:=hvb.cell (i:=0) rfl
   have t1:=hvb.cell (i:=1) rfl
   have t2:=hvb.cell (i:=2) rfl
   have t3:=hvb.cell (i:=3) rfl
   have t4:=hvb.cell (i:=4) rfl
   have t5:=hvb.cell (i:=5) rfl
   have t6:=hvb.cell (i:=6) rfl
   have t7:=hvb.cell (i:=7) rfl
   have hne:T.toList.isEmpty=false:=by
    rw[Lib.toList_data,List.isEmpty_eq_false_iff]
    intro h
    have h3:T.data.toList.length=T.size:=by simp
    rw[h]at h3
    change 0=T.size at h3
    omega
   go_wp2_with fail
   refine wp_region_tail 3 (by kernel_rfl) (by kernel_rfl) ?_
   simp only[List.take_succ_cons,List.take_zero,List.drop_succ_cons,List.drop_zero]
   repeat still_step
   refine wpStill_nil ?_
   go_wp2_with fail
   refine(mix_any _ V hVU (T.extract 0 64) (by rw[ByteArray.size_extract];omega) (ht.same (hk.trans (Kept.refl _ _).drew))).mono ?_
   rintro e w2 ⟨rfl,hk2⟩
   have hb2:=(hvb.drew).kept hk2 id
   have hr2:=(hres.drew).kept hk2 id
   have hth:=hb2.there 0 8 (Nat.le_refl 8)
   have hMe:mixM V (T.extract 0 64).data.toList=sumBlocks v8First (filledL s.data.toList) (j+1):=by
    have e1:(T.extract 0 64).data.toList=((filledL s.data.toList).drop (64*j)).take 64:=by
     rw[ByteArray.data_extract,Array.toList_extract,List.extract_eq_take_drop,HD.out]
     simp
    rw[e1,<- HV.out]
    rfl
   have HME:=Lib.hid hMe
   clear hMe
   generalize mixM V (T.extract 0 64).data.toList=Q at *
   have hst:=hb2.setCells 0 Q.cells (Nat.le_refl 8)
   rw[splice_whole (by rfl)]at hst
   have hth2:w2.there (w.heap.size+1) 0 Q.cells.toArray.size:=hth
   have HB:=Lib.hid (And.intro hth2 hst)
   clear hth hth2 hst hb2
   go_wp2_with (refine wpList_store_mid rfl 122 _ _ rfl (w.heap.size+1) 0 Q.cells.toArray rfl rfl ?hth ?hi ?h1 ?_)
   case hth=>exact HB.out.1
   case hi=>exact info_v8
   case h1=>exact all_oneCell_toArray (i32_oneCell (k:=.u32) (l:=Q.ints))
   go_roundw
   case rel =>
    refine⟨j+1,T.extract 64 T.size,rfl,by omega,by rw[ByteArray.size_extract];omega,by rw[ByteArray.size_extract];omega,Lib.hid ?_,?_,?_,?_⟩
    ·rw[ByteArray.data_extract,Array.toList_extract,List.extract_eq_take_drop,HD.out,List.drop_drop,List.take_of_length_le ?_]
     ·congr 1
     ·rw[List.length_drop,<- HTZ.out];omega
    ·rw[<- HME.out];exact HB.out.2
    ·exact hr2.kept (kept_setCells _ _ _ _) (by omega)
    ·exact((hk.trans (Kept.refl _ _).drew).trans hk2).then_ (kept_setCells _ _ _ _) (fun i hi e=>by omega)
   case measure =>
    show(T.extract 64 T.size).size<T.size
    rw[ByteArray.size_extract];omega
  ·have hT0:T.size=0:=by omega
   have hne:T.toList.isEmpty=true:=by
    rw[Lib.toList_data,List.isEmpty_iff]
    exact List.eq_nil_of_length_eq_zero (by simpa using hT0)
   have hjj:j=(filledL s.data.toList).length/64:=by rw[<- HTZ.out];omega
   have hsha:shaF s.data.toList=(sumBlocks v8First (filledL s.data.toList) j).out:=by rw[hjj];rfl
   have HSH:=Lib.hid hsha
   clear hT0 hjj hsha
   generalize hV:sumBlocks v8First (filledL s.data.toList) j=V at *
   clear hV
   have t0:=(hvb.alloc (.cells (zeros 32).toArray 30)).range0
   have HR:=Lib.hid t0
   have hb6:=Blk.new wr (zeros 32) 30
   clear t0
   go_wp2_with (refine wpList_load_mid rfl 122 _ rfl (w.heap.size+1) 0 rfl V.cells _ HR.out Tryz.underlying122 rfl info_v8 ?_)
   obtain⟨wo,rfl⟩:∃ wo:World,wo=wr:=⟨_,rfl⟩
   have hlw:w.heap.size<wo.heap.size:=hres.lt
   go_loopw [20] (fun y wx=>∃ i:Nat,i<=8/\y = .int .i64 (i:Int)/\Blk wx wo.heap.size (hashTo V i) 30/\Blk wx w.heap.size (zeros 32) 30/\Kept (fun _=>False) w wx) (fun y _=>8-(intOf y).toNat)
   case atStart=>
    have e:hashTo V 0=zeros 32:=by simp[hashTo,bytes8]
    refine⟨0,by omega,rfl,?_,hres.alloc _,hk.alloc _⟩
    rw[e]
    exact hb6
   case round =>
    obtain⟨i,hi,rfl,hb,hres,hk'⟩:=hrel
    by_cases hlt:i<8
    ·have y1:decide ((i:Int)<8)=true:=by simp;omega
     obtain⟨x,hx1,hx2,hx3⟩:=V8.ints_u hVU i hlt
     have hidx:=index_v8 V.cells i hlt (.int .u32 x) (cells32_get hx1)
     have hx4:x=((x.toNat:Nat):Int):=by omega
     have hput:∀ w',Calls Tryz.prog 101 #[.int .u64 x,.int .i64 4] w' fun e w''=>e = .returned (.string ⟨(be 4 x.toNat).toArray⟩)/\Kept (fun _=>False) w' w'':=fun w'=>put_int w' x x.toNat 4 4 hx4 rfl (by omega) (by omega)
     have hwx:IntKind.u64.wrap x=x:=by simp[IntKind.wrap,IntKind.bits,IntKind.signed];omega
     have HP:=Lib.hid hput
     clear hput
     have hstep:=Lib.hid (hashTo_step V i x hx1)
     clear hx1 hx4
     have r1:(4:Int)*(i:Int)<=32:=by omega
     have r2:IntKind.i64.wrap (4*(i:Int))=4*(i:Int):=IntWalk.i64_in _ (by omega)
     have r3:(0:Int)<=4*(i:Int):=by omega
     have i4:(4*(i:Int)).toNat=4*i:=by omega
     have hS0:=hb.drew
     have htz4:(⟨(be 4 x.toNat).toArray⟩:ByteArray).size=4:=by
      show(be 4 x.toNat).toArray.size=4
      rw[List.size_toArray,be_len]
     have HCS:=Lib.hid (show(⟨(be 4 x.toNat).toArray⟩:ByteArray).size<=32-4*i/\∀ w':World,Blk w' wo.heap.size (hashTo V i) 30->∀ j,j<(⟨(be 4 x.toNat).toArray⟩:ByteArray).size->(w'.cell? ⟨wo.heap.size,4*i+j,none⟩).isSome=true/\w'.frozen? ⟨wo.heap.size,4*i+j,none⟩=false from
      ⟨by rw[htz4];omega,fun w' hw' j hj=>hw'.there (4*i) 4 (by rw[hashTo_len V i (by omega)];omega) j (by rw[htz4]at hj;exact hj)⟩)
     clear htz4
     go_wp2_with fail
     go_region_held3 (fun _=>True) (exact trivial) (first|(go_at_call 101;with_reducible refine(HP.out _).mono ?_;rintro e w3 ⟨rfl,hk3⟩;have hS3:Blk w3 wo.heap.size (hashTo V i) 30:=hS0.kept hk3 id)|(refine step_copy_string rfl _ _ 72 9 rfl 5 Tryz.underlying72 sizeU8 wo.heap.size (4*i) _ _ rfl ⟨(be 4 x.toNat).toArray⟩ rfl HCS.out.1 (fun j hj=>(HCS.out.2 _ hS3 j hj).1) (fun j hj=>(HCS.out.2 _ hS3 j hj).2) ?_))
     all_goals
      have hb4:=hS3.setCells (4*i) (bytes8 (be 4 x.toNat)) (by rw[bytes8_len,be_len,hashTo_len V i (by omega)];omega)
      rw[hstep.out]at hb4
      have hk4:=kept_setCells w3 wo.heap.size (4*i) (bytes8 (be 4 x.toNat))
      have HE:=Lib.hid (And.intro hb4 hk4)
      clear hb4 hk4
      go_wp2_with fail
      go_roundw
      case rel=>exact⟨i+1,hlt,by go_num,HE.out.1,((hres.drew).kept hk3 id).kept HE.out.2 (by omega),((hk'.trans (Kept.refl _ _).drew).trans hk3).then_ HE.out.2 (fun i hi e=>by have:=hk.size;omega)⟩
      case measure=>simp[intOf];omega
    ·have y1:decide ((i:Int)<8)=false:=by simp;omega
     have hi2:i=8:=by omega
     subst hi2
     rw[hashTo_all]at hb
     have hst:=hres.setCells 0 (bytes8 V.out) (by rw[bytes8_len,V8.out_len,zeros_len];omega)
     rw[splice_whole (by rw[bytes8_len,V8.out_len,zeros_len])]at hst
     have hth:wr.there w.heap.size 0 (bytes8 V.out).toArray.size:=hres.there 0 _ (by rw[List.size_toArray,bytes8_len,V8.out_len,zeros_len];omega)
     have hsz:(Tryz.prog.info? 30).map (·.size)=some (bytes8 V.out).length:=by rw[bytes8_len,V8.out_len];exact info_h32
     have hsz2:(Tryz.prog.info? 30).map (·.size)=some (bytes8 V.out).toArray.size:=by rw[List.size_toArray];exact hsz
     have HB:=Lib.hid (And.intro hb.range0 (And.intro hth (And.intro hst (And.intro hsz hsz2))))
     clear hth hst hsz hsz2 hb hres
     go_wp2_with (first|(refine wpList_load_mid rfl 30 _ rfl wo.heap.size 0 rfl (bytes8 V.out) _ HB.out.1 Tryz.underlying30 rfl HB.out.2.2.2.1 ?_)|(refine wpList_store_mid rfl 30 _ _ rfl w.heap.size 0 (bytes8 V.out).toArray rfl rfl ?hth ?hi ?h1 ?_))
     case hth=>exact HB.out.2.1
     case hi=>simpa using HB.out.2.2.2.2
     case h1=>exact fun x hx=>u8_oneCell x hx
     rw[HSH.out]
     exact bodyPost_ret (v:=.agg (bytes8 V.out).toArray) (HB.out.2.2.1.result rfl rfl Tryz.underlying30 rfl HB.out.2.2.2.1) rfl ⟨rfl,hk'.then_ (kept_setCells _ _ _ _) (fun i hi e=>by omega)⟩
end Go.Proofs.YtdmedbhbefdnkaaGreatDoor
