/- Once1 Once2 -/
import Derived.Test.YtdmedbhbefdnkaaGreatDoorUKeyringPlay27
import Derived.Test.YtdmedbhbefdnkaaGreatDoorUKeyringPlay47
set_option linter.unusedVariables false
set_option linter.unusedSimpArgs false
set_option maxRecDepth 100000
set_option maxHeartbeats 16000000
namespace Go.Proofs.YtdmedbhbefdnkaaGreatDoor
open Go.RowKit Go.WideShapes Go.ChangeShapes Go.Joins
theorem c_act34:Tryz.prog.cellsOf 53=39:=by kernel_rfl
theorem c_str:Tryz.prog.cellsOf 9=1:=by kernel_rfl
structure ActL (X:List Value) (k z o N M:Int) (C:List Value) (s:ByteArray):Prop where
 len:X.length=39
 c0:X[0]? = some (.int .u8 k)
 c1:X[1]? = some (.int .u8 z)
 c2:X[2]? = some (.int .u8 o)
 c3:(X.drop 3).take 33=C
 c36:X[36]? = some (.int .i64 N)
 c37:X[37]? = some (.int .i64 M)
 c38:X[38]? = some (.string s)
 k0:0<=k/\k<=255
 z0:0<=z/\z<=255
 o0:0<=o/\o<=255
 n0 : -9223372036854775808<=N/\N<=9223372036854775807
 m0 : -9223372036854775808<=M/\M<=9223372036854775807
 s0:s.size<=maxLen
 head:∃ (size:Int) (root:By),root.length=32/\-9223372036854775808<=size/\size<=9223372036854775807/\C=headC size root
theorem one_at {cs:List Value} {v:Value} {i:Nat} (h:(cs.drop i).take 1=[v]):cs[i]? = some v:=by
 have e5:=congrArg (·[0]?) h
 simpa[List.getElem?_take,List.getElem?_drop]using e5
theorem act34_in {H:Type} {enc:TypeId × Value->H} {W:World} {base:Nat} {spare:Nat->Bool} {hd:Bool} {fuel:Nat} {cs:List Value} {x:DataW H × List MemPlace}
  (h:DataW.trod enc Tryz.prog W base spare hd fuel 53 cs=some x):∃ k z o N M C s,ActL cs k z o N M C s:=by
 obtain⟨xs,n,_,_,hcl,hl,hg⟩:=DataW.trod_struct Tryz.underlying53 h
 match xs,hl with
 | [y0,y1,y2,y3,y4,y5,y6],_ =>
  have g0:=hg 0 _ rfl
  have g1:=hg 1 _ rfl
  have g2:=hg 2 _ rfl
  have g3:=hg 3 _ rfl
  have g4:=hg 4 _ rfl
  have g5:=hg 5 _ rfl
  have g6:=hg 6 _ rfl
  rw[c_act34]at hcl
  simp[c_u8]at g0 g1 g2
  simp[c_head]at g3
  simp[c_int]at g4 g5
  simp[c_str]at g6
  obtain⟨a0,e0,_,w0⟩:=DataW.trod_int Tryz.underlying5 g0
  obtain⟨a1,e1,_,w1⟩:=DataW.trod_int Tryz.underlying5 g1
  obtain⟨a2,e2,_,w2⟩:=DataW.trod_int Tryz.underlying5 g2
  obtain⟨size,root,hr,s1,s2,e3⟩:=trod_head g3
  obtain⟨a4,e4,_,w4⟩:=DataW.trod_int Tryz.underlying3 g4
  obtain⟨a5,e5,_,w5⟩:=DataW.trod_int Tryz.underlying3 g5
  obtain⟨a6,e6,_,w6⟩:=DataW.trod_string Tryz.underlying9 g6
  exact⟨a0,a1,a2,a4,a5,headC size root,a6,hcl,one_at (i:=0) (by simpa using e0),one_at (i:=1) (by simpa using e1),one_at e2,e3,one_at e4,one_at e5,one_at e6,wf_u8 w0,wf_u8 w1,wf_u8 w2,wf_i64 w4,wf_i64 w5,w6,size,root,hr,s1,s2,rfl⟩
def Acts34 (w:World) (ad:Option Addr) (len:Nat):Prop:=∀ i,i<len->∃ X k z o N M C s,ActL X k z o N M C s/\ElemAt w ad 39 i X
theorem acts34_of {H:Type} {enc:TypeId × Value->H} {w:World} {base:Nat} {v:Value} {dd:DataW H} {p:List MemPlace} (hv:Value.okWide Tryz.prog w .any base 50 v) (h:DataW.Trod enc Tryz.prog w 0 (fun _=>true) true 50 v dd p) :
  ∃ a len cap,v = .slice a len cap/\len<=maxLen/\Acts34 w a len:=by
 obtain⟨a,len,cap,rfl,hl,hx⟩:=open_rows Tryz.underlying50 c_act34 (by omega) hv h
 refine⟨a,len,cap,rfl,hl,fun i hi=>?_⟩
 obtain⟨cs,m,x,_,he,ht⟩:=hx i hi
 obtain⟨k,z,o,N,M,C,s,ha⟩:=act34_in ht
 exact⟨cs,k,z,o,N,M,C,s,ha,he⟩
def GreatPost (w:World) (ad:Option Addr) (len most:Nat) (e:Ending) (w':World):Prop:=∃ b,e = .returned (.bool b)/\(b=false->len<=most/\∀ i,i<len->∃ X k z o N M C s,ActL X k z o N M C s/\ElemAt w ad 39 i X/\s.size<=300)/\w=w'
theorem great34 (w:World) (ad:Option Addr) (len cap:Nat) (most:Nat) (hm:most<=1000) (hl:len<=maxLen) (h:Acts34 w ad len) :
  Calls Tryz.prog 18 #[.slice ad len cap,.int .i64 (most:Int)] w (GreatPost w ad len most):=by
 have hl2:len<=9223372036854775807:=hl
 go_enter Tryz.func18,Tryz.ntmps18
 go_wp2_with fail
 go_loop [5] (fun x=>∃ i:Nat,i<=len/\x = .int .i64 (i:Int)/\∀ j,j<i->∃ X k z o N M C s,ActL X k z o N M C s/\ElemAt w ad 39 j X/\s.size<=300) (fun x=>len-(intOf x).toNat)
 case atStart=>exact⟨0,by omega,rfl,fun j hj=>by omega⟩
 case round =>
  obtain⟨i,hi,rfl,hall⟩:=hrel
  by_cases hlt:i<len
  ·have x1:decide ((i:Int)<(len:Int))=true:=by simp;omega
   obtain⟨X,k,z,o,N,M,C,s,hX,hE⟩:=h i hlt
   have hE':=hE
   obtain⟨b,off,rfl,hb,hc⟩:=hE
   have q:=hc 38 _ hX.c38
   by_cases hs:300<s.size
   ·have x2:decide ((300:Int)<(s.size:Int))=true:=by simp;omega
    have x3:decide (300<s.size)=true:=by simp;omega
    go_wp2_with fail
    go_ret
    exact⟨true,rfl,(fun h=>by cases h),rfl⟩
   ·have x2:decide ((300:Int)<(s.size:Int))=false:=by simp;omega
    have x3:decide (300<s.size)=false:=by simp;omega
    go_wp2_with fail
    go_round
    case rel=>exact⟨i+1,by omega,by go_num,fun j hj=>by
     rcases Nat.lt_or_ge j i with q|q
     ·exact hall j q
     ·obtain rfl:j=i:=by omega
      exact⟨X,k,z,o,N,M,C,s,hX,hE',by omega⟩⟩
    case measure=>simp[intOf];omega
  ·have x1:decide ((i:Int)<(len:Int))=false:=by simp;omega
   by_cases hmm:most<len
   ·have x2:decide ((most:Int)<(len:Int))=true:=by simp;omega
    go_wp2_with fail
    go_ret
    exact⟨true,rfl,(fun h=>by cases h),rfl⟩
   ·have x2:decide ((most:Int)<(len:Int))=false:=by simp;omega
    go_wp2_with fail
    go_ret
    exact⟨false,rfl,(fun _=>⟨by omega,fun j hj=>hall j (by omega)⟩),rfl⟩
end Go.Proofs.YtdmedbhbefdnkaaGreatDoor
namespace Go.Proofs.YtdmedbhbefdnkaaGreatDoor
open Go.RowKit
abbrev rootA (o:Int):By:=UInt8.ofNat (o%3).toNat::4::List.replicate 30 0
theorem rootA_len (o:Int):(rootA o).length=32:=by simp
abbrev hdA (z o:Int):Hd:=((1+z%20).toNat,rootA o)
theorem hdA_ok {z:Int} (o:Int) (hz:0<=z):HdOk (hdA z o):=⟨by show 1<=(1+z%20).toNat;omega,by show(1+z%20).toNat<=4096;omega,rootA_len o⟩
theorem c_act34':(Tryz.prog.info? 53).map (·.size)=some 39:=by kernel_rfl
theorem act_head (w:World) {X:List Value} {k z o N M:Int} {C:List Value} {s:ByteArray} (hX:ActL X k z o N M C s) :
  Calls Tryz.prog 53 #[.agg X.toArray] w fun e w'=>e = .returned (headV ((hdA z o).1:Int) (hdA z o).2)/\Kept (fun _=>False) w w':=by
 have hb:=(Blk.new w X 53).alloc (.cells (headC 0 zeroRoot).toArray 32)
 have hr:=Blk.new (w.alloc (.cells X.toArray 53)) (headC 0 zeroRoot) 32
 rw[World.size_alloc]at hr
 have hk:Kept (fun _=>False) w ((w.alloc (.cells X.toArray 53)).alloc (.cells (headC 0 zeroRoot).toArray 32)):=((Kept.refl _ _).alloc _).alloc _
 have HB:=Lib.hid (And.intro hb (And.intro hr hk))
 have z0:=hX.z0
 have o0:=hX.o0
 obtain⟨zz,hzz⟩:∃ zz:Nat,1+z%20=(zz:Int):=⟨(1+z%20).toNat,by omega⟩
 obtain⟨oo,hoo⟩:∃ oo:UInt8,o%3=(oo.toNat:Int):=⟨UInt8.ofNat (o%3).toNat,by simp;omega⟩
 have ez:hdA z o=(zz,oo::4::List.replicate 30 0):=by
  have h1:(1+z%20).toNat=zz:=by omega
  have h2:UInt8.ofNat (o%3).toNat=oo:=by rw[hoo];simp
  show((1+z%20).toNat,rootA o)=_
  rw[h1]
  show(zz,UInt8.ofNat (o%3).toNat::4::List.replicate 30 0)=_
  rw[h2]
 rw[ez]
 have HX:=Lib.hid hX
 have zl:zz<=20:=by omega
 have a1:IntKind.i64.wrap z=z:=IntWalk.i64_in _ (by omega)
 have a2:IntKind.i64.wrap (zz:Int)=(zz:Int):=IntWalk.i64_in _ (by omega)
 have a3:wrap64 z=z:=IntWalk.wrap64_in _ (by omega)
 have a4:wrap64 (zz:Int)=(zz:Int):=IntWalk.wrap64_in _ (by omega)
 have HZ:=Lib.hid (And.intro hzz hoo)
 clear hb hr hk hX ez hzz hoo
 go_enter Tryz.func53,Tryz.ntmps53
 go_upto_region 1 with fail
 generalize hW:World.alloc _ _=W
 have HW:Hid (Blk W w.heap.size X 53/\Blk W (w.heap.size+1) (headC 0 zeroRoot) 32/\Kept (fun _=>False) w W):=Lib.hid (by rw[<- hW];exact HB.out)
 clear hW HB
 have c1:=HW.out.1.cell HX.out.c1
 have c2:=HW.out.1.cell HX.out.c2
 have hzz:=HZ.out.1
 have hoo:=HZ.out.2
 go_wp2_with ((with_reducible show wpList _ _ _ (⟨none,.store _ (.tmp 2) _,_,_,_,_⟩::_) _ _);refine wpList_store_mid rfl 32 _ _ rfl (w.heap.size+1) 0 (headC (zz:Int) (oo::4::List.replicate 30 0)).toArray rfl rfl ?hth ?hi ?h1 ?_)
 case hth=>exact HW.out.2.1.there 0 _ (by rw[List.size_toArray,headC_len (by simp),headC_len (by simp)];omega)
 case hi=>exact(by rw[List.size_toArray,headC_len (by simp)];exact info_head)
 case h1=>exact all_oneCell_toArray head_oneCell
 have hf:=HW.out.2.1.setCells 0 (headC (zz:Int) (oo::4::List.replicate 30 0)) (by rw[headC_len (by simp),headC_len (by simp)];omega)
 rw[splice_whole (by rw[headC_len (by simp),headC_len (by simp)])]at hf
 refine bodyPost_ret (hf.result rfl rfl Tryz.underlying32 rfl (by rw[headC_len (by simp)];exact info_head)) rfl ⟨rfl,?_⟩
 exact HW.out.2.2.then_ (kept_setCells _ (w.heap.size+1) 0 _) (fun i hi e=>by omega)
end Go.Proofs.YtdmedbhbefdnkaaGreatDoor
