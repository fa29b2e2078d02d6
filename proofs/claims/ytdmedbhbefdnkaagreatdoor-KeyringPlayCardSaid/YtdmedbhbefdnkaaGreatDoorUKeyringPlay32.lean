/- RowZ RSha1 RSha2 RSumA RSumB RSumC RSumD RSha3 RNode RF2 RF3 RN3 -/
import Derived.Laws.IdiomCopy
import Derived.Test.YtdmedbhbefdnkaaGreatDoorUKeyringPlay28
set_option linter.unusedVariables false
set_option linter.unusedSimpArgs false
set_option maxRecDepth 100000
set_option maxHeartbeats 16000000
namespace Go.Proofs.YtdmedbhbefdnkaaGreatDoor
open Go.RowKit
def BlkF (w:World) (b:Nat) (c:List Value) (t:TypeId):Prop:=∃ fr:Nat × Nat,w.heap[b]? = some (.cells c.toArray t fr)/\(fr=(0,0)\/c.length<=fr.1)
section
variable {w w' : World} {b : Nat} {c : List Value} {t : TypeId}
theorem BlkF.lt (h:BlkF w b c t):b<w.heap.size:=by obtain⟨fr,h,_⟩:=h;exact(Array.getElem?_eq_some_iff.1 h).1
theorem BlkF.cell (h:BlkF w b c t) {i:Nat} {v:Value} (hi:c[i]? = some v):w.cell? ⟨b,i,none⟩=some v:=by obtain⟨fr,h,_⟩:=h;simp[World.cell?,h,hi]
theorem BlkF.free (h:BlkF w b c t) {i:Nat} (hi:i<c.length):w.frozen? ⟨b,i,none⟩=false:=by
 obtain⟨fr,h,q⟩:=h
 rcases q with rfl|q
 ·simp[World.frozen?,h]
 ·simp[World.frozen?,h]
  omega
theorem BlkF.kept {S:Nat->Prop} (h:BlkF w b c t) (k:Kept S w w') (hb:¬ S b):BlkF w' b c t:=by
 have hl:=h.lt
 obtain⟨fr,h,q⟩:=h
 exact⟨fr,by rw[k.block b hl hb];exact h,q⟩
theorem BlkF.set (h:BlkF w b c t) (i:Nat) (v:Value):BlkF (w.setCell ⟨b,i,none⟩ v) b (c.set i v) t:=by
 obtain⟨fr,h,q⟩:=h
 exact⟨fr,by simp[World.setCell,Array.getElem?_modify,h],by rw[List.length_set];exact q⟩
theorem Blk.blkF (h:Blk w b c t):BlkF w b c t:=⟨(0,0),h,Or.inl rfl⟩
end
def RowZ (w:World) (e:TypeId) (v:Value) (xs:List Value):Prop :=
 ∃ g n cap rest,v = .slice (some ⟨g,0,none⟩) n cap/\xs.length=n/\BlkF w g (xs++rest) e/\n<=cap/\cap<=xs.length+rest.length/\cap<=maxLen
theorem kept_z {cap:Nat} (w:World) (g n:Nat) (x:Value):Kept (fun k=>(Value.slice (some ⟨g,0,none⟩) n cap).ownBlock=some k) w (w.setCell ⟨g,n,none⟩ x) :=
 (Kept.refl (fun k=>(Value.slice (some ⟨g,0,none⟩) n cap).ownBlock=some k) w).setCell (p:=⟨g,n,none⟩) (fun _=>rfl) x
section
variable {w w' : World} {e : TypeId} {v : Value} {xs : List Value}
theorem RowZ.kept {S:Nat->Prop} (h:RowZ w e v xs) (hk:Kept S w w') (hS:∀ k,v.ownBlock=some k->¬ S k):RowZ w' e v xs:=by
 obtain⟨g,n,cap,rest,rfl,h1,hb,h2⟩:=h
 exact⟨g,n,cap,rest,rfl,h1,hb.kept hk (hS g rfl),h2⟩
theorem RowZ.form (h:RowZ w e v xs):∃ g cap,v = .slice (some ⟨g,0,none⟩) xs.length cap/\g<w.heap.size/\∀ j u,xs[j]? = some u->w.cell? ⟨g,j,none⟩=some u:=by
 obtain⟨g,n,cap,rest,rfl,rfl,hb,h2⟩:=h
 exact⟨g,cap,rfl,hb.lt,fun j u hu=>hb.cell (by rw[List.getElem?_append_left (List.getElem?_eq_some_iff.1 hu).1];exact hu)⟩
theorem RowZ.lt (h:RowZ w e v xs) {k:Nat} (hk:v.ownBlock=some k):k<w.heap.size:=by
 obtain⟨g,n,cap,rest,rfl,h1,hb,h2⟩:=h
 simp[Value.ownBlock]at hk
 subst hk
 exact hb.lt
variable {P : Program} {t : TypeId} {i : TypeInfo} {z : Value}
theorem RowZ.append1 (h:RowZ w e v xs) (ht:P.underlying t=some (.slice e)) (hi:P.info? e=some i) (hz:i.zero=some z) (hsize:i.size=1) (hzs:z.cells.size=1) (hby:i.bytes<=1000)
  (a:Addr) (c:Nat) (x:Value) (hx:w.cell? (a.add 0)=some x) (h1:x.oneCell'=true) (hlen:xs.length<=100000000) (ty:TypeId) :
  ∃ v' w',(Builtin.append_ #[t,t] ty #[v,.slice (some a) 1 c]).run P w = .ok v' w'/\RowZ w' e v' (xs++[x])/\Kept (fun k=>v.ownBlock=some k) w w'/\∀ k,v'.ownBlock=some k->v.ownBlock=some k\/w.heap.size<=k:=by
 have hml:maxLen=9223372036854775807:=rfl
 obtain⟨g,n,cap,rest,rfl,hx1,hb,h2,h3,h4⟩:=h
 have hnews:∀ j u,[x][j]? = some u->w.cell? (a.add j)=some u:=by
  intro j u hu
  cases j with
  | zero=>simp at hu;subst hu;exact hx
  | succ j=>simp at hu
 by_cases hroom:n+1<=cap
 ·have hf:=run_firstCells_some (P:=P) w i.size 1 a 1 c [x] (by rw[hsize];rfl) hnews
  have hlt:n<(xs++rest).length:=by rw[List.length_append];omega
  have hst:=run_storeCells_cells (P:=P) g n [x] 0 w (fun j hj=>by
   obtain rfl:j=0:=by simpa using hj
   show(w.cell? ⟨g,n,none⟩).isSome=true
   rw[hb.cell (List.getElem?_eq_getElem hlt)]
   rfl) (fun j hj=>by
   obtain rfl:j=0:=by simpa using hj
   exact hb.free hlt) (fun u hu=>by simp at hu;subst hu;exact h1)
  refine⟨.slice (some ⟨g,0,none⟩) (n+1) cap,w.setCell ⟨g,n,none⟩ x,?_,⟨g,n+1,cap,rest.drop 1,rfl,by rw[List.length_append];simp;omega,?_,hroom,?_,h4⟩,kept_z w g n x,fun k hk=>Or.inl hk⟩
  ·simp only[Nat.add_zero,World.setCells]at hst
   simp[Builtin.append_,run_underlying ht,sizeOf,typeInfo,hi,hsize,Builtin.lenOf,hroom,Addr.add_lit,hst]
   rw[hsize]at hf
   simp[hf,hst]
  ·have hs:=hb.set n x
   have e1:(xs++rest).set n x=xs++[x]++rest.drop 1:=by
    subst hx1
    rw[List.set_append_right _ _ (Nat.le_refl _),Nat.sub_self]
    cases rest with
    | nil=>simp at hlt
    | cons y r=>simp
   rw[e1]at hs
   exact hs
  ·rw[List.length_append,List.length_drop]
   simp
   rw[List.length_append]at hlt
   omega
 ·have holds:∀ j u,xs[j]? = some u->w.cell? ((⟨g,0,none⟩:Addr).add j)=some u:=by
   intro j u hu
   rw[addr0_add]
   exact hb.cell (by rw[List.getElem?_append_left (List.getElem?_eq_some_iff.1 hu).1];exact hu)
  have hcap:=nextslicecap_le (need:=n+1) (old:=cap) (by omega)
  have hr:=run_append_grow (P:=P) w t ty e i z ht hi hz ⟨g,0,none⟩ n cap xs (by rw[hsize];omega) holds a 1 c [x] (by rw[hsize];rfl) hnews (by omega) (by omega) (by
   have:Builtin.nextslicecap (n+1) cap*i.bytes<=400000004*1000:=Nat.mul_le_mul (by omega) hby
   omega)
  have hg:=Row.grown w e 1 z.cells (n+1) (grownCap w (n+1) cap e) (xs++[x]) (.slice (some ⟨g,0,none⟩) n cap) (by rw[List.length_append];simp;omega) hzs (grownCap_ge _ _ _ _) (grownCap_le_maxLen _ _ _ _ (by omega))
  refine⟨_,_,hr,?_,?_,?_⟩
  ·have e2:xs.toArray ++ #[x]=(xs++[x]).toArray:=by simp
   rcases hg.1 with⟨q,_⟩|⟨g',n',cap',rest',q,q1,q2,q3,q4,q5⟩
   ·cases q
   ·cases q
    refine⟨_,_,_,rest',rfl,by omega,?_,q3,by omega,q5⟩
    have:=q2.blkF
    simpa using this
  ·simpa using hg.2.1
  ·simpa using hg.2.2
end
theorem bytes_rowz (w:World) (s:ByteArray) (hs:s.size<=1000000000):∃ v w1,(convert 9 72 (.string s)).run Tryz.prog w = .ok v w1/\RowZ w1 5 v (bytes8 s.data.toList)/\Kept (fun _=>False) w w1/\∀ k,v.ownBlock=some k->w.heap.size<=k:=by
 refine⟨_,_,run_bytes_of_string w 9 72 5 s Tryz.underlying9 Tryz.underlying72 Tryz.underlying5,?_,((Kept.refl _ _).drew).alloc _,fun k q=>by simp[Value.ownBlock]at q;omega⟩
 have h2:=grownCap_ge w s.size 0 5
 have h3:=grownCap_le_maxLen w s.size 0 5 (by unfold maxLen;omega)
 generalize grownCap w s.size 0 5=C at *
 have hnew:=heap_alloc_new w.drew (.cells (bytesRow s C) 5 ((bytesRow s C).size,(bytesRow s C).size+1))
 have hl:s.size<=(bytesRow s C).toList.length:=by simp[bytesRow]
 have e:(bytesRow s C)=(bytes8 s.data.toList++(bytesRow s C).toList.drop s.size).toArray:=by
  apply Array.ext'
  rw[List.toList_toArray]
  have e2:(bytesRow s C).toList.take s.size=bytes8 s.data.toList:=by
   apply List.ext_getElem?
   intro j
   by_cases hj:j<s.data.size
   ·have hj2:j<s.size:=hj
    rw[List.getElem?_take_of_lt hj2,Array.getElem?_toList,bytesRow_at s C j hj,bytes8_at _ j (by simpa using hj)]
    simp
   ·have hj2:¬ j<s.size:=hj
    rw[List.getElem?_eq_none (by rw[List.length_take];omega),List.getElem?_eq_none (by rw[bytes8_len];simpa using hj)]
  rw[<- e2,List.take_append_drop]
 refine⟨w.heap.size,s.size,C,(bytesRow s C).toList.drop s.size,rfl,by rw[bytes8_len];simp,⟨_,by rw[<- e];exact hnew,Or.inr (by rw[List.length_append,List.length_drop,bytes8_len];rw[Array.length_toList]at hl ⊢;simp;omega)⟩,h2,?_,h3⟩
 rw[List.length_drop,bytes8_len]
 simp[bytesRow]
 omega
theorem or_comm32 (a b:Int):bits .or .u32 a b=bits .or .u32 b a:=by
 unfold bits
 simp only
 rw[BitVec.or_comm]
theorem rturn_any (w:World) (x:Int) (k:Nat) (kk:Int) (hkk:kk=(k:Int)) (hk:k∈[2,6,7,11,13,17,18,19,22,25]) (h0:0<=x) (h1:x<4294967296) :
  Calls Tryz.prog 74 #[.int .u32 x,.int .u32 kk] w fun e w'=>e = .returned (.int .u32 (rotr x k))/\w=w':=by
 subst hkk
 simp only[List.mem_cons,List.not_mem_nil,or_false]at hk
 rcases hk with rfl|rfl|rfl|rfl|rfl|rfl|rfl|rfl|rfl|rfl
 all_goals
  go_enter Tryz.func74,Tryz.ntmps74
  go_wp2
  go_ret
  refine⟨?_,rfl⟩
  unfold rotr
  rw[or_comm32]
  rfl
theorem padN_prop (n:Nat):(n+1+padN n)%64=56/\∀ j,j<padN n->¬ (n+1+j)%64=56:=by
 unfold padN
 refine⟨by omega,fun j hj=>by omega⟩
theorem bytes8_snoc (l:List UInt8) (b:UInt8):bytes8 (l++[b])=bytes8 l++[.int .u8 (b.toNat:Int)]:=by simp[bytes8]
theorem append_byte {w0 w:World} {v:Value} {l:List UInt8} (h:RowZ w 5 v (bytes8 l)) (hk:Kept (fun _=>False) w0 w) (ho:∀ k,v.ownBlock=some k->w0.heap.size<=k) (b:UInt8) (hl:l.length<=10000000) :
  ∃ g cap w',(Builtin.append_ #[72,72] 72 #[v,.slice (some ⟨w.heap.size,0,none⟩) 1 1]).run Tryz.prog (w.alloc (.cells #[.int .u8 (b.toNat:Int)] 5)) = .ok (.slice (some ⟨g,0,none⟩) (l.length+1) cap) w' /\
   Hid (RowZ w' 5 (.slice (some ⟨g,0,none⟩) (l.length+1) cap) (bytes8 (l++[b]))/\Kept (fun _=>False) w0 w'/\w0.heap.size<=g):=by
 obtain⟨i0,hi,hz,hsz,hby⟩:=info_parts info_u8
 have hb:=Blk.new w [.int .u8 (b.toNat:Int)] 5
 have h1:=h.kept (S:=fun _=>False) ((Kept.refl _ _).alloc (.cells #[.int .u8 (b.toNat:Int)] 5)) (fun _ _=>id)
 obtain⟨v',w',hr,hrow,hk2,ho2⟩:=h1.append1 (P:=Tryz.prog) (t:=72) Tryz.underlying72 hi hz hsz rfl (by omega) ⟨w.heap.size,0,none⟩ 1 (.int .u8 (b.toNat:Int)) (by rw[addr0_add];exact hb.cell rfl) rfl (by rw[bytes8_len];omega) 72
 obtain⟨g,cap,rfl,_,_⟩:=hrow.form
 have e:(bytes8 l++[Value.int .u8 (b.toNat:Int)]).length=l.length+1:=by simp[bytes8_len]
 rw[e]at hr ho2 hrow
 have hz:=hk.size
 refine⟨g,cap,w',hr,Lib.hid ⟨by rw[bytes8_snoc];exact hrow,(hk.alloc _).then_ hk2 (fun i hi q=>by have:=ho i q;omega),?_⟩⟩
 rcases ho2 g rfl with q|q
 ·exact ho g q
 ·rw[World.size_alloc]at q;omega
theorem be_snoc8 (n k:Nat) (h:k<8):(be 8 n).take (k+1)=(be 8 n).take k++[UInt8.ofNat (n/256^(7-k))]:=by
 have hl:=be_len 8 n
 rw[List.take_add_one]
 congr 1
 have:(be 8 n)[k]? = some (UInt8.ofNat (n/256^(7-k))):=by
  match k,h with
  | 0,_=>rfl
  | 1,_=>rfl
  | 2,_=>rfl
  | 3,_=>rfl
  | 4,_=>rfl
  | 5,_=>rfl
  | 6,_=>rfl
  | 7,_=>rfl
 rw[this]
 rfl
def PadTo (w:World) (s:ByteArray) (e:Ending) (w':World):Prop:=∃ g cap n,e = .returned (.slice (some ⟨g,0,none⟩) n cap)/\n=(filledL s.data.toList).length/\Hid (RowZ w' 5 (.slice (some ⟨g,0,none⟩) n cap) (bytes8 (filledL s.data.toList))/\Kept (fun _=>False) w w'/\w.heap.size<=g)
theorem rpad_any (w:World) (s:ByteArray) (hs:s.size<=1000000) :
  Calls Tryz.prog 73 #[.string s] w (PadTo w s):=by
 obtain⟨v0,w1,hr0,hv0,hk0,ho0⟩:=bytes_rowz w s (by omega)
 have hsl:s.data.toList.length=s.size:=by simp
 obtain⟨g1,c1,w2,hr1,H1⟩:=append_byte hv0 hk0 ho0 128 (by rw[hsl];omega)
 rw[hsl]at hr1 H1
 have HL:=Lib.hid (show filledL s.data.toList=s.data.toList++[128]++List.replicate (padN s.size) 0++be 8 (s.size*8)from by unfold filledL;rw[hsl])
 obtain⟨hp1,hp2⟩:=padN_prop s.size
 have hp3:padN s.size<64:=by unfold padN;omega
 unfold PadTo
 rw[HL.out]
 generalize s.data.toList=l at *
 generalize padN s.size=z at *
 have HPZ:=Lib.hid (And.intro hp1 (And.intro hp2 hp3))
 have HSL:=Lib.hid hsl
 clear hp1 hp2 hp3 hsl HL hv0 hk0 ho0
 have hs9:s.size<=9223372036854775807:=by omega
 go_enter Tryz.func73,Tryz.ntmps73
 go_wp2_with (refine Lib.wpList_append_run _ rfl _ _ 72 72 rfl _ _ rfl rfl _ _ hr1 ?_)
 go_loopw [3] (fun x wr=>∃ (m g cap:Nat),x = .slice (some ⟨g,0,none⟩) m cap/\m<=2000000/\Hid (∃ j,m=s.size+1+j/\j<=z/\RowZ wr 5 (.slice (some ⟨g,0,none⟩) m cap) (bytes8 (l++[128]++List.replicate j 0))/\Kept (fun _=>False) w wr/\w.heap.size<=g)) (fun x _=>s.size+1+z-sliceLen x)
 case atStart=>exact⟨s.size+1,g1,c1,rfl,by omega,Lib.hid ⟨0,rfl,Nat.zero_le _,by simpa using H1.out.1,H1.out.2⟩⟩
 case round =>
  obtain⟨m,g,cap,rfl,hm9,HR⟩:=hrel
  by_cases h56:m%64=56
  ·have q1:((m:Int)%64 != 56)=false:=by rw[bne_eq_false_iff_eq];omega
   have q2:((m:Int)%64==56)=true:=by rw[beq_iff_eq];omega
   have q3:decide ((m:Int)%64=56)=true:=decide_eq_true (by omega)
   have HJ:=Lib.hid (show m=s.size+1+z/\RowZ wr 5 (.slice (some ⟨g,0,none⟩) m cap) (bytes8 (l++[128]++List.replicate z 0))/\Kept (fun _=>False) w wr/\w.heap.size<=g from by
    obtain⟨j,hj1,hj2,hj3⟩:=HR.out
    have:j=z:=by
     rcases Nat.lt_or_ge j z with q|q
     ·exact absurd (by rw[<- hj1];exact h56) (HPZ.out.2.1 j q)
     ·omega
    subst this
    exact⟨hj1,hj3⟩)
   clear h56 HR
   go_upto_region 5 with (fail)
   obtain⟨N,hN⟩:∃ N:Int,(s.size:Int)*8=N:=⟨_,rfl⟩
   have hN0:0<=N/\N<18446744073709551616:=by omega
   rw[hN]
   have HN8:=Lib.hid hN
   obtain⟨hN1,hN2⟩:=hN0
   clear hN hs
   go_wp2_with fail
   go_loopw [3,5] (fun x y wx=>∃ (k g' cap':Nat) (i:Int),k<=8/\i=7-(k:Int)/\y = .int .i64 i/\x = .slice (some ⟨g',0,none⟩) (m+k) cap'/\Hid (RowZ wx 5 (.slice (some ⟨g',0,none⟩) (m+k) cap') (bytes8 (l++[128]++List.replicate z 0++(be 8 (s.size*8)).take k))/\Kept (fun _=>False) w wx/\w.heap.size<=g')) (fun _ y _=>(intOf y+1).toNat)
   case atStart=>exact⟨0,g,cap,7,by omega,by omega,rfl,rfl,Lib.hid ⟨by simpa using HJ.out.2.1,HJ.out.2.2⟩⟩
   case round =>
    obtain⟨k,g',cap',i,hk8,hi,rfl,rfl,HX⟩:=hrel
    by_cases hk:k<8
    ·have HM:=Lib.hid (show ∃ g2 cap2 w3,(Builtin.append_ #[72,72] 72 #[.slice (some ⟨g',0,none⟩) (m+k) cap',.slice (some ⟨wr.heap.size,0,none⟩) 1 1]).run Tryz.prog (wr.alloc (.cells #[.int .u8 ((UInt8.ofNat (s.size*8/256^(7-k))).toNat:Int)] 5)) = .ok (.slice (some ⟨g2,0,none⟩) (m+k+1) cap2) w3/\Hid (RowZ w3 5 (.slice (some ⟨g2,0,none⟩) (m+(k+1)) cap2) (bytes8 (l++[128]++List.replicate z 0++(be 8 (s.size*8)).take (k+1)))/\Kept (fun _=>False) w w3/\w.heap.size<=g2)from by
      have hl:(l++[128]++List.replicate z 0++(be 8 (s.size*8)).take k).length=m+k:=by
       have:=HJ.out.1
       have:=be_len 8 (s.size*8)
       simp[HSL.out]
       omega
      obtain⟨g2,c2,w3,hr,H2⟩:=append_byte HX.out.1 HX.out.2.1 (fun q r=>by have:=HX.out.2.2;simp[Value.ownBlock]at r;omega) (UInt8.ofNat (s.size*8/256^(7-k))) (by have:=HPZ.out.2.2;have:=HJ.out.1;omega)
      rw[hl]at hr H2
      refine⟨g2,c2,w3,hr,Lib.hid ⟨?_,H2.out.2⟩⟩
      rw[be_snoc8 _ _ hk,<- List.append_assoc]
      exact H2.out.1)
     obtain⟨g2,cap2,w3,hr2,HN⟩:=HM.out
     have e8:((UInt8.ofNat (s.size*8/256^(7-k))).toNat:Int)=N/256^(7-k)%256:=by
      rw[UInt8.toNat_ofNat',<- HN8.out]
      push_cast
      rfl
     rw[e8]at hr2
     clear HM HX e8
     have hk2:k=0\/k=1\/k=2\/k=3\/k=4\/k=5\/k=6\/k=7:=by omega
     rcases hk2 with rfl|rfl|rfl|rfl|rfl|rfl|rfl|rfl
     ·obtain rfl:i=7:=by omega
      have e9:N/256^(7-0)%256=N/72057594037927936:=by
       show N/72057594037927936%256=_
       omega
      rw[e9]at hr2
      have hr3:(Builtin.append_ #[72,72] 72 #[.slice (some ⟨g',0,none⟩) (m) cap',.slice (some ⟨wr.heap.size,0,none⟩) 1 1]).run Tryz.prog (wr.alloc (.cells #[.int .u8 (N/72057594037927936)] 5)) = .ok (.slice (some ⟨g2,0,none⟩) (m+1) cap2) w3:=hr2
      clear hi hk hk8 e9 hr2
      go_wp2_with (refine Lib.wpList_append_run _ rfl _ _ 72 72 rfl _ _ rfl rfl _ _ hr3 ?_)
      go_roundw
      case rel=>exact⟨1,g2,cap2,6,by omega,by omega,by go_num,rfl,HN⟩
      case measure=>simp[intOf]
     ·obtain rfl:i=6:=by omega
      have e9:N/256^(7-1)%256=N/281474976710656%256:=by
       show N/281474976710656%256=_
       omega
      rw[e9]at hr2
      have hr3:(Builtin.append_ #[72,72] 72 #[.slice (some ⟨g',0,none⟩) (m+1) cap',.slice (some ⟨wr.heap.size,0,none⟩) 1 1]).run Tryz.prog (wr.alloc (.cells #[.int .u8 (N/281474976710656%256)] 5)) = .ok (.slice (some ⟨g2,0,none⟩) (m+2) cap2) w3:=hr2
      clear hi hk hk8 e9 hr2
      go_wp2_with (refine Lib.wpList_append_run _ rfl _ _ 72 72 rfl _ _ rfl rfl _ _ hr3 ?_)
      go_roundw
      case rel=>exact⟨2,g2,cap2,5,by omega,by omega,by go_num,rfl,HN⟩
      case measure=>simp[intOf]
     ·obtain rfl:i=5:=by omega
      have e9:N/256^(7-2)%256=N/1099511627776%256:=by
       show N/1099511627776%256=_
       omega
      rw[e9]at hr2
      have hr3:(Builtin.append_ #[72,72] 72 #[.slice (some ⟨g',0,none⟩) (m+2) cap',.slice (some ⟨wr.heap.size,0,none⟩) 1 1]).run Tryz.prog (wr.alloc (.cells #[.int .u8 (N/1099511627776%256)] 5)) = .ok (.slice (some ⟨g2,0,none⟩) (m+3) cap2) w3:=hr2
      clear hi hk hk8 e9 hr2
      go_wp2_with (refine Lib.wpList_append_run _ rfl _ _ 72 72 rfl _ _ rfl rfl _ _ hr3 ?_)
      go_roundw
      case rel=>exact⟨3,g2,cap2,4,by omega,by omega,by go_num,rfl,HN⟩
      case measure=>simp[intOf]
     ·obtain rfl:i=4:=by omega
      have e9:N/256^(7-3)%256=N/4294967296%256:=by
       show N/4294967296%256=_
       omega
      rw[e9]at hr2
      have hr3:(Builtin.append_ #[72,72] 72 #[.slice (some ⟨g',0,none⟩) (m+3) cap',.slice (some ⟨wr.heap.size,0,none⟩) 1 1]).run Tryz.prog (wr.alloc (.cells #[.int .u8 (N/4294967296%256)] 5)) = .ok (.slice (some ⟨g2,0,none⟩) (m+4) cap2) w3:=hr2
      clear hi hk hk8 e9 hr2
      go_wp2_with (refine Lib.wpList_append_run _ rfl _ _ 72 72 rfl _ _ rfl rfl _ _ hr3 ?_)
      go_roundw
      case rel=>exact⟨4,g2,cap2,3,by omega,by omega,by go_num,rfl,HN⟩
      case measure=>simp[intOf]
     ·obtain rfl:i=3:=by omega
      have e9:N/256^(7-4)%256=N/16777216%256:=by
       show N/16777216%256=_
       omega
      rw[e9]at hr2
      have hr3:(Builtin.append_ #[72,72] 72 #[.slice (some ⟨g',0,none⟩) (m+4) cap',.slice (some ⟨wr.heap.size,0,none⟩) 1 1]).run Tryz.prog (wr.alloc (.cells #[.int .u8 (N/16777216%256)] 5)) = .ok (.slice (some ⟨g2,0,none⟩) (m+5) cap2) w3:=hr2
      clear hi hk hk8 e9 hr2
      go_wp2_with (refine Lib.wpList_append_run _ rfl _ _ 72 72 rfl _ _ rfl rfl _ _ hr3 ?_)
      go_roundw
      case rel=>exact⟨5,g2,cap2,2,by omega,by omega,by go_num,rfl,HN⟩
      case measure=>simp[intOf]
     ·obtain rfl:i=2:=by omega
      have e9:N/256^(7-5)%256=N/65536%256:=by
       show N/65536%256=_
       omega
      rw[e9]at hr2
      have hr3:(Builtin.append_ #[72,72] 72 #[.slice (some ⟨g',0,none⟩) (m+5) cap',.slice (some ⟨wr.heap.size,0,none⟩) 1 1]).run Tryz.prog (wr.alloc (.cells #[.int .u8 (N/65536%256)] 5)) = .ok (.slice (some ⟨g2,0,none⟩) (m+6) cap2) w3:=hr2
      clear hi hk hk8 e9 hr2
      go_wp2_with (refine Lib.wpList_append_run _ rfl _ _ 72 72 rfl _ _ rfl rfl _ _ hr3 ?_)
      go_roundw
      case rel=>exact⟨6,g2,cap2,1,by omega,by omega,by go_num,rfl,HN⟩
      case measure=>simp[intOf]
     ·obtain rfl:i=1:=by omega
      have e9:N/256^(7-6)%256=N/256%256:=by
       show N/256%256=_
       omega
      rw[e9]at hr2
      have hr3:(Builtin.append_ #[72,72] 72 #[.slice (some ⟨g',0,none⟩) (m+6) cap',.slice (some ⟨wr.heap.size,0,none⟩) 1 1]).run Tryz.prog (wr.alloc (.cells #[.int .u8 (N/256%256)] 5)) = .ok (.slice (some ⟨g2,0,none⟩) (m+7) cap2) w3:=hr2
      clear hi hk hk8 e9 hr2
      go_wp2_with (refine Lib.wpList_append_run _ rfl _ _ 72 72 rfl _ _ rfl rfl _ _ hr3 ?_)
      go_roundw
      case rel=>exact⟨7,g2,cap2,0,by omega,by omega,by go_num,rfl,HN⟩
      case measure=>simp[intOf]
     ·obtain rfl:i=0:=by omega
      have e9:N/256^(7-7)%256=N%256:=by
       show N/1%256=_
       omega
      rw[e9]at hr2
      have hr3:(Builtin.append_ #[72,72] 72 #[.slice (some ⟨g',0,none⟩) (m+7) cap',.slice (some ⟨wr.heap.size,0,none⟩) 1 1]).run Tryz.prog (wr.alloc (.cells #[.int .u8 (N%256)] 5)) = .ok (.slice (some ⟨g2,0,none⟩) (m+8) cap2) w3:=hr2
      clear hi hk hk8 e9 hr2
      go_wp2_with (refine Lib.wpList_append_run _ rfl _ _ 72 72 rfl _ _ rfl rfl _ _ hr3 ?_)
      go_roundw
      case rel=>exact⟨8,g2,cap2,-1,by omega,by omega,by go_num,rfl,HN⟩
      case measure=>simp[intOf]
    ·obtain rfl:k=8:=by omega
     obtain rfl:i = -1:=by omega
     have HY:=Lib.hid (show RowZ wr 5 (.slice (some ⟨g',0,none⟩) (m+8) cap') (bytes8 (l++[128]++List.replicate z 0++be 8 (s.size*8)))/\Kept (fun _=>False) w wr/\w.heap.size<=g' from by
      have:=HX.out
      rw[List.take_of_length_le (by rw[be_len];omega)]at this
      exact this)
     clear HX hi hk hk8
     go_wp2_with fail
     go_ret
     refine⟨g',cap',m+8,rfl,?_,HY⟩
     have:=HJ.out.1
     simp[HSL.out,be_len]
     omega
  ·have q1:((m:Int)%64 != 56)=true:=by rw[bne_iff_ne];omega
   have q2:((m:Int)%64==56)=false:=by rw[beq_eq_false_iff_ne];omega
   have q3:decide ((m:Int)%64=56)=false:=decide_eq_false (by omega)
   have HM:=Lib.hid (show ∃ g2 cap2 w3,(Builtin.append_ #[72,72] 72 #[.slice (some ⟨g,0,none⟩) m cap,.slice (some ⟨wr.heap.size,0,none⟩) 1 1]).run Tryz.prog (wr.alloc (.cells #[.int .u8 0] 5)) = .ok (.slice (some ⟨g2,0,none⟩) (m+1) cap2) w3/\m+1<=s.size+1+z/\∃ j,m+1=s.size+1+j/\j<=z/\RowZ w3 5 (.slice (some ⟨g2,0,none⟩) (m+1) cap2) (bytes8 (l++[128]++List.replicate j 0))/\Kept (fun _=>False) w w3/\w.heap.size<=g2 from by
    obtain⟨j,hj1,hj2,hj3,hj4,hj5⟩:=HR.out
    have hl:(l++[128]++List.replicate j 0).length=m:=by simp[HSL.out];omega
    have hjz:j≠z:=fun e=>h56 (by rw[hj1,e];exact HPZ.out.1)
    obtain⟨g2,c2,w3,hr,H2⟩:=append_byte hj3 hj4 (fun k q=>by simp[Value.ownBlock]at q;omega) 0 (by omega)
    rw[hl]at hr H2
    refine⟨g2,c2,w3,hr,by omega,j+1,by omega,by omega,?_,H2.out.2⟩
    rw[List.replicate_succ',<- List.append_assoc]
    exact H2.out.1)
   obtain⟨g2,cap2,w3,hr2,hm2,HJ⟩:=HM.out
   have HM2:=Lib.hid hm2
   have HJ:=Lib.hid HJ
   clear h56 HR HM hm2
   go_wp2_with (refine Lib.wpList_append_run _ rfl _ _ 72 72 rfl _ _ rfl rfl _ _ hr2 ?_)
   refine⟨⟨m+1,g2,cap2,rfl,by have:=HM2.out;have:=HPZ.out.2.2;omega,HJ⟩,?_⟩
   have:=HM2.out
   show s.size+1+z-(m+1)<s.size+1+z-m
   omega
structure SumI (W3:World) (r2 wb:Nat) (V:V8) (O:List Int) (wr:World):Prop where
 v:Blk wr r2 V.cells 122
 ws:Blk wr wb (cells32 O) 121
 len:O.length=64
 ne:r2≠wb
 kept:Kept (fun k=>k=r2\/k=wb) W3 wr
section
variable {W3 wr wr' : World} {r2 wb : Nat} {V V' : V8} {O : List Int}
theorem SumI.same (h:SumI W3 r2 wb V O wr) (hk:Kept (fun _=>False) wr wr'):SumI W3 r2 wb V O wr' :=
 ⟨h.v.kept hk id,h.ws.kept hk id,h.len,h.ne,h.kept.trans (hk.mono (fun _ _=>False.elim))⟩
theorem SumI.word (h:SumI W3 r2 wb V O wr) (i:Nat) (x:Int) (hi:i<64):SumI W3 r2 wb V (O.set i x) (wr.setCell ⟨wb,i,none⟩ (.int .u32 x)):=by
 have hk:Kept (fun k=>k=wb) wr (wr.setCell ⟨wb,i,none⟩ (.int .u32 x)):=(Kept.refl (fun k=>k=wb) wr).setCell (p:=⟨wb,i,none⟩) (fun _=>rfl) _
 refine⟨h.v.kept hk h.ne,?_,by rw[List.length_set];exact h.len,h.ne,h.kept.trans (hk.mono (fun _ _ e=>Or.inr e))⟩
 have:=h.ws.set i (.int .u32 x)
 rw[cells32_set]at this
 exact this
theorem SumI.row (h:SumI W3 r2 wb V O wr) {g n cap:Nat} {l:List UInt8} (hr:RowZ W3 5 (.slice (some ⟨g,0,none⟩) n cap) (bytes8 l)) (h1:g≠r2) (h2:g≠wb) {j:Nat} {b:UInt8} (hb:l[j]? = some b):wr.cell? ⟨g,j,none⟩=some (.int .u8 (b.toNat:Int)):=by
 obtain⟨g',cap',e,_,hc⟩:=(hr.kept h.kept (fun k q=>by simp[Value.ownBlock]at q;subst q;intro z;exact z.elim h1 h2)).form
 cases e
 refine hc j _ ?_
 unfold bytes8
 rw[List.getElem?_map,hb]
 rfl
end
theorem words_set (s:List UInt8) (O:List Int) (i:Nat) (hi:i<64) (hO:O.length=64):(ws s i++O.drop i).set i (wnext s (ws s i))=ws s (i+1)++O.drop (i+1):=by
 rw[List.set_append_right _ _ (by rw[ws_len];exact Nat.le_refl _),ws_len,Nat.sub_self,List.drop_eq_getElem_cons (by omega),List.set_cons_zero]
 simp[ws]
theorem words_get {s:List UInt8} {O:List Int} {n i:Nat} {x:Int} (h:(ws s n)[i]? = some x):(ws s n++O.drop n)[i]? = some x:=by
 rw[List.getElem?_append_left (List.getElem?_eq_some_iff.1 h).1]
 exact h
theorem words_here (s:List UInt8) (O:List Int) (i:Nat) (hi:i<64) (hO:O.length=64):∃ x,(ws s i++O.drop i)[i]? = some x:=by
 refine⟨_,List.getElem?_eq_getElem (by rw[List.length_append,ws_len,List.length_drop];omega)⟩
theorem ofBe4 (a b c d:UInt8):(ofBe [a,b,c,d]:Int)=(a.toNat:Int)*16777216+(b.toNat:Int)*65536+(c.toNat:Int)*256+(d.toNat:Int):=by
 simp only[ofBe,List.foldl_cons,List.foldl_nil]
 omega
theorem take4 {l:List UInt8} {o:Nat} {a b c d:UInt8} (h0:l[o]? = some a) (h1:l[o+1]? = some b) (h2:l[o+2]? = some c) (h3:l[o+3]? = some d):(l.drop o).take 4=[a,b,c,d]:=by
 apply List.ext_getElem?
 intro i
 match i with
 | 0=>rw[List.getElem?_take_of_lt (by omega),List.getElem?_drop];simpa using h0
 | 1=>rw[List.getElem?_take_of_lt (by omega),List.getElem?_drop];simpa using h1
 | 2=>rw[List.getElem?_take_of_lt (by omega),List.getElem?_drop];simpa using h2
 | 3=>rw[List.getElem?_take_of_lt (by omega),List.getElem?_drop];simpa using h3
 | i+4=>rw[List.getElem?_eq_none (by rw[List.length_take];omega)];simp
theorem word_at {L:List UInt8} {j i:Nat} (hi:i<16) {a b c d:UInt8} (h0:L[64*j+4*i]? = some a) (h1:L[64*j+4*i+1]? = some b) (h2:L[64*j+4*i+2]? = some c) (h3:L[64*j+4*i+3]? = some d) :
  word ((L.drop (64*j)).take 64) i=(a.toNat:Int)*16777216+(b.toNat:Int)*65536+(c.toNat:Int)*256+(d.toNat:Int):=by
 unfold word
 have e:(((L.drop (64*j)).take 64).drop (4*i)).take 4=[a,b,c,d]:=by
  have q:∀ k,k<4->((L.drop (64*j)).take 64)[4*i+k]? = L[64*j+4*i+k]?:=fun k hk=>by
   rw[List.getElem?_take_of_lt (by omega),List.getElem?_drop]
   congr 1
   omega
  exact take4 (by have:=q 0 (by omega);simp only[Nat.add_zero]at this;rw[this];exact h0) (by rw[q 1 (by omega)];exact h1) (by rw[q 2 (by omega)];exact h2) (by rw[q 3 (by omega)];exact h3)
 rw[e,ofBe4]
theorem words_all (s:List UInt8) (O:List Int) (hO:O.length=64):ws s 64++O.drop 64=ws s 64:=by
 rw[List.drop_of_length_le (by omega),List.append_nil]
theorem V8.add_comm (v was:V8):V8.add v was=⟨mod32 (was.a+v.a),mod32 (was.b+v.b),mod32 (was.c+v.c),mod32 (was.d+v.d),mod32 (was.e+v.e),mod32 (was.f+v.f),mod32 (was.g+v.g),mod32 (was.h+v.h)⟩:=by
 unfold V8.add
 simp only[Int.add_comm]
theorem SumI.eight {W3 wr:World} {r2 wb:Nat} {V:V8} {O:List Int} (h:SumI W3 r2 wb V O wr) (X:V8):SumI W3 r2 wb (V8.add X V) O ((((((((wr.setCell ⟨r2,0,none⟩ (.int .u32 (mod32 (V.a+X.a)))).setCell ⟨r2,1,none⟩ (.int .u32 (mod32 (V.b+X.b)))).setCell ⟨r2,2,none⟩ (.int .u32 (mod32 (V.c+X.c)))).setCell ⟨r2,3,none⟩ (.int .u32 (mod32 (V.d+X.d)))).setCell ⟨r2,4,none⟩ (.int .u32 (mod32 (V.e+X.e)))).setCell ⟨r2,5,none⟩ (.int .u32 (mod32 (V.f+X.f)))).setCell ⟨r2,6,none⟩ (.int .u32 (mod32 (V.g+X.g)))).setCell ⟨r2,7,none⟩ (.int .u32 (mod32 (V.h+X.h)))):=by
 have hk:Kept (fun k=>k=r2) wr ((((((((wr.setCell ⟨r2,0,none⟩ (.int .u32 (mod32 (V.a+X.a)))).setCell ⟨r2,1,none⟩ (.int .u32 (mod32 (V.b+X.b)))).setCell ⟨r2,2,none⟩ (.int .u32 (mod32 (V.c+X.c)))).setCell ⟨r2,3,none⟩ (.int .u32 (mod32 (V.d+X.d)))).setCell ⟨r2,4,none⟩ (.int .u32 (mod32 (V.e+X.e)))).setCell ⟨r2,5,none⟩ (.int .u32 (mod32 (V.f+X.f)))).setCell ⟨r2,6,none⟩ (.int .u32 (mod32 (V.g+X.g)))).setCell ⟨r2,7,none⟩ (.int .u32 (mod32 (V.h+X.h)))):=by
  iterate 8 (refine Kept.setCell (S:=fun k=>k=r2) ?_ (fun _=>rfl) _)
  exact Kept.refl _ _
 refine⟨?_,h.ws.kept hk (fun e=>h.ne e.symm),h.len,h.ne,h.kept.trans (hk.mono (fun _ _ e=>Or.inl e))⟩
 rw[V8.add_comm]
 exact(((((((h.v.set 0 _).set 1 _).set 2 _).set 3 _).set 4 _).set 5 _).set 6 _).set 7 _
theorem out_at {V:V8} {q r:Nat} (hr:r<4) {x:Int} (hx:V.ints[q]? = some x):V.out[4*q+r]? = some (UInt8.ofNat (x.toNat/256^(3-r))):=by
 have key:∀ (l:List Int) (q:Nat),l[q]? = some x->(l.flatMap fun x=>be 4 x.toNat)[4*q+r]? = some (UInt8.ofNat (x.toNat/256^(3-r))):=by
  intro l
  induction l with
  | nil=>intro q h;simp at h
  | cons a t ih =>
   intro q h
   rw[List.flatMap_cons]
   cases q with
   | zero =>
    simp at h
    subst h
    rw[List.getElem?_append_left (by rw[be_len];omega)]
    match r,hr with
    | 0,_=>rfl
    | 1,_=>rfl
    | 2,_=>rfl
    | 3,_=>rfl
   | succ q =>
    rw[List.getElem?_append_right (by rw[be_len];omega),be_len,show 4*(q+1)+r-4=4*q+r by omega]
    exact ih q (by simpa using h)
 exact key _ q hx
theorem rsum_a {W3 W:World} {r2 wb g n cap T j:Nat} {V:V8} {O:List Int} {L:List UInt8} {Q:Exit->Act->World->Prop} {g0 g1 g2 g3 g4 g9 g10 g11 g12 g13 g14 g15 g16 g17 g18 g19 g20 g21 g22 g23 g24 g25 g26 g27 g28 g29 g30 g31 g32 g33 g34 g35 g36 g37 g38 g39 g40 g41 g42 g43 g44 g45 g46 g47 g48 g49 g50 g51 g52 g53 g54 g55 g56 g57 g58 g59 g60 g61 g62 g63 g64 g65 g66 g67 g68 g69 g70 g71 g72 g73 g74 g75 g76 g77 g78 g79 g80 g81 g82 g83 g84 g85 g86 g87 g88 g89 g90 g91 g92 g93 g94 g95 g96 g97 g98 g99 g100 g101 g102 g103 g104 g105 g106 g107 g108 g109 g110 g111 g112 g113 g114 g115 g116 g117 g118 g119 g120 g121 g122 g123 g124 g125 g126 g127 g128 g129 g130 g131 g132 g133 g134 g135 g136 g137 g138 g139 g140 g141 g142 g143 g144 g145 g146 g147 g148 g149 g150 g151 g152 g153 g154 g155 g156 g157 g158 g159 g160 g161 g162 g163 g164 g165 g166 g167 g168 g169 g170 g171 g172 g173 g174 g175 g176 g177 g178 g179 g180 g181 g182 g183 g184 g185 g186 g187 g188 g189 g190 g191 g192 g193 g194 g195 g196 g197 g198 g199 g200 g201 g202 g203 g204 g205 g206 g207 g208 g209 g210 g211 g212 g213 g214 g215 g216 g217 g218 g219 g220 g221 g222 g223 g224 g225 g226 g227 g228 g229 g230 g231 g232 g233 g234 g235 g236 g237 g238 g239 g240 g241 g242 g243 g244 g245 g246 g247 g248 g249 g250 g251:Value} {code:Code} (hcode:codeBlock 2 (Tryz.f26.body.getD .skip)=some code) (hI:SumI W3 r2 wb V O W) (hrow:RowZ W3 5 (.slice (some ⟨g,0,none⟩) n cap) (bytes8 L)) (hn:L.length=n) (hT:T=64*j) (hTn:T+64<=n) (hn2:n<=2000000) (h1:g≠r2) (h2:g≠wb)
  (HP:∀ c a (k:Nat) v w,Q (.panic c) (Act.put a (some k) v) w->Q (.panic c) a w) (HEND:∀ (_:Unit) (v8 v9 v36 v37 v38 v39 v40 v41 v42 v43 v44 v45 v46 v47 v48 v49 v50 v51 v52 v53 v54 v55 v56 v57 v58 v59 v60 v61 v62 v63 v64 v65 v66 v67 v68 v69 v70 v71 v72 v73 v74:Value) (w':World),Hid (SumI W3 r2 wb V (ws ((L.drop (64*j)).take 64) 16++O.drop 16) w')->Q .normal ⟨List.toArray (g0::g1::g2::g3::g4::(.slice (some ⟨g,0,none⟩) n cap)::(.pointer (some ⟨wb,0,none⟩))::(.int .i64 (T:Int))::v8::v9::g10::g11::g12::g13::g14::g15::g16::g17::g18::g19::g20::g21::g22::g23::g24::g25::g26::g27::g28::g29::g30::g31::g32::g33::g34::g35::v36::v37::v38::v39::v40::v41::v42::v43::v44::v45::v46::v47::v48::v49::v50::v51::v52::v53::v54::v55::v56::v57::v58::v59::v60::v61::v62::v63::v64::v65::v66::v67::v68::v69::v70::v71::v72::v73::v74::g75::g76::g77::g78::g79::g80::g81::g82::g83::g84::g85::g86::g87::g88::g89::g90::g91::g92::g93::g94::g95::g96::g97::g98::g99::g100::g101::g102::g103::g104::g105::g106::g107::g108::g109::g110::g111::g112::g113::g114::g115::g116::g117::g118::g119::g120::g121::g122::g123::g124::g125::g126::g127::g128::g129::g130::g131::g132::g133::g134::g135::g136::g137::g138::g139::g140::g141::g142::g143::g144::g145::g146::g147::g148::g149::g150::g151::g152::g153::g154::g155::g156::g157::g158::g159::g160::g161::g162::g163::g164::g165::g166::g167::g168::g169::g170::g171::g172::g173::g174::g175::g176::g177::g178::g179::g180::g181::g182::g183::g184::g185::g186::g187::g188::g189::g190::g191::g192::g193::g194::g195::g196::g197::g198::g199::g200::g201::g202::g203::g204::g205::g206::g207::g208::g209::g210::g211::g212::g213::g214::g215::g216::g217::g218::g219::g220::g221::g222::g223::g224::g225::g226::g227::g228::g229::g230::g231::g232::g233::g234::g235::g236::g237::g238::g239::g240::g241::g242::g243::g244::g245::g246::g247::g248::g249::g250::g251::[]),[]⟩ w') :
  Code.wp Tryz.prog code Q ⟨List.toArray (g0::g1::g2::g3::g4::(.slice (some ⟨g,0,none⟩) n cap)::(.pointer (some ⟨wb,0,none⟩))::(.int .i64 (T:Int))::(.int .i64 0)::g9::g10::g11::g12::g13::g14::g15::g16::g17::g18::g19::g20::g21::g22::g23::g24::g25::g26::g27::g28::g29::g30::g31::g32::g33::g34::g35::g36::g37::g38::g39::g40::g41::g42::g43::g44::g45::g46::g47::g48::g49::g50::g51::g52::g53::g54::g55::g56::g57::g58::g59::g60::g61::g62::g63::g64::g65::g66::g67::g68::g69::g70::g71::g72::g73::g74::g75::g76::g77::g78::g79::g80::g81::g82::g83::g84::g85::g86::g87::g88::g89::g90::g91::g92::g93::g94::g95::g96::g97::g98::g99::g100::g101::g102::g103::g104::g105::g106::g107::g108::g109::g110::g111::g112::g113::g114::g115::g116::g117::g118::g119::g120::g121::g122::g123::g124::g125::g126::g127::g128::g129::g130::g131::g132::g133::g134::g135::g136::g137::g138::g139::g140::g141::g142::g143::g144::g145::g146::g147::g148::g149::g150::g151::g152::g153::g154::g155::g156::g157::g158::g159::g160::g161::g162::g163::g164::g165::g166::g167::g168::g169::g170::g171::g172::g173::g174::g175::g176::g177::g178::g179::g180::g181::g182::g183::g184::g185::g186::g187::g188::g189::g190::g191::g192::g193::g194::g195::g196::g197::g198::g199::g200::g201::g202::g203::g204::g205::g206::g207::g208::g209::g210::g211::g212::g213::g214::g215::g216::g217::g218::g219::g220::g221::g222::g223::g224::g225::g226::g227::g228::g229::g230::g231::g232::g233::g234::g235::g236::g237::g238::g239::g240::g241::g242::g243::g244::g245::g246::g247::g248::g249::g250::g251::[]),[]⟩ W:=by
 have HP:=Lib.hid HP
 have HEND:=Lib.hid HEND
 simp only[Tryz.f26,Option.getD_some,codeSeq,codeBlock,codeCond,Nat.reduceEqDiff, ↓reduceIte,Option.none_or,Option.or_none,Option.some_or,Option.some.injEq]at hcode
 subst hcode
 have HL:=Lib.hid (And.intro hrow (And.intro hn (And.intro hT (And.intro hTn (And.intro hn2 (And.intro h1 h2))))))
 have hO:=hI.len
 have HI:=Lib.hid hI
 have hT2:T<=2000000:=by omega
 have HO:=Lib.hid hO
 clear hI hrow hn hT hTn hn2 h1 h2 hO
 go_wp2_with fail
 go_loopw [8] (fun y wr=>∃ i:Nat,i<=16/\y = .int .i64 (i:Int)/\Hid (SumI W3 r2 wb V (ws ((L.drop (64*j)).take 64) i++O.drop i) wr)) (fun y _=>16-(intOf y).toNat)
 case atStart=>exact⟨0,by omega,rfl,Lib.hid (by simpa[ws]using HI.out)⟩
 case round =>
  obtain⟨i,hi,rfl,HR⟩:=hrel
  by_cases hlt:i<16
  ·have y1:decide ((i:Int)<16)=true:=decide_eq_true (by omega)
   obtain⟨q,hq⟩:∃ q,q=T+4*i:=⟨_,rfl⟩
   have hql:q+4<=L.length:=by have:=HL.out.2.1;have:=HL.out.2.2.2.1;omega
   obtain⟨b0,hb0⟩:∃ b,L[q]? = some b:=⟨_,List.getElem?_eq_getElem (by omega)⟩
   obtain⟨b1,hb1⟩:∃ b,L[q+1]? = some b:=⟨_,List.getElem?_eq_getElem (by omega)⟩
   obtain⟨b2,hb2⟩:∃ b,L[q+2]? = some b:=⟨_,List.getElem?_eq_getElem (by omega)⟩
   obtain⟨b3,hb3⟩:∃ b,L[q+3]? = some b:=⟨_,List.getElem?_eq_getElem (by omega)⟩
   have c0:=HR.out.row HL.out.1 HL.out.2.2.2.2.2.1 HL.out.2.2.2.2.2.2 hb0
   have c1:=HR.out.row HL.out.1 HL.out.2.2.2.2.2.1 HL.out.2.2.2.2.2.2 hb1
   have c2:=HR.out.row HL.out.1 HL.out.2.2.2.2.2.1 HL.out.2.2.2.2.2.2 hb2
   have c3:=HR.out.row HL.out.1 HL.out.2.2.2.2.2.1 HL.out.2.2.2.2.2.2 hb3
   have hw:word ((L.drop (64*j)).take 64) i=(b0.toNat:Int)*16777216+(b1.toNat:Int)*65536+(b2.toNat:Int)*256+(b3.toNat:Int):=by
    have e:q=64*j+4*i:=by rw[hq,HL.out.2.2.1]
    rw[e]at hb0 hb1 hb2 hb3
    exact word_at hlt hb0 hb1 hb2 hb3
   have hwn:wnext ((L.drop (64*j)).take 64) (ws ((L.drop (64*j)).take 64) i)=word ((L.drop (64*j)).take 64) i:=by unfold wnext;rw[if_pos (by rw[ws_len];exact hlt),ws_len]
   rw[hw]at hwn
   have u0:=b0.toNat_lt
   have u1:=b1.toNat_lt
   have u2:=b2.toNat_lt
   have u3:=b3.toNat_lt
   generalize b0.toNat=x0 at *
   generalize b1.toNat=x1 at *
   generalize b2.toNat=x2 at *
   generalize b3.toNat=x3 at *
   have HW:=Lib.hid (And.intro hwn (And.intro hql hlt))
   have HQ:=Lib.hid hq
   have eq1:(T:Int)+4*(i:Int)=(q:Int):=by omega
   have hq2:q<=3000000:=by omega
   have hqn:q+4<=n:=by have:=HL.out.2.1;omega
   have i1:((q:Int)+1).toNat=q+1:=by omega
   have i2:((q:Int)+2).toNat=q+2:=by omega
   have i3:((q:Int)+3).toNat=q+3:=by omega
   have w1:IntKind.i64.wrap ((q:Int)+1)=(q:Int)+1:=IntWalk.i64_in _ (by omega)
   have w2:IntKind.i64.wrap ((q:Int)+2)=(q:Int)+2:=IntWalk.i64_in _ (by omega)
   have w3:IntKind.i64.wrap ((q:Int)+3)=(q:Int)+3:=IntWalk.i64_in _ (by omega)
   have r0:(q:Int)<(n:Int):=by omega
   have r1:(q:Int)+1<(n:Int):=by omega
   have r2':(q:Int)+2<(n:Int):=by omega
   have r3:(q:Int)+3<(n:Int):=by omega
   have p1:(0:Int)<=(q:Int)+1:=by omega
   have p2:(0:Int)<=(q:Int)+2:=by omega
   have p3:(0:Int)<=(q:Int)+3:=by omega
   have ri:(i:Int)<64:=by omega
   obtain⟨xo,hxo⟩:=words_here ((L.drop (64*j)).take 64) O i (by omega) HO.out
   have co:=HR.out.ws.cell (cells32_get hxo)
   have fo:=HR.out.ws.free i
   clear hwn hw hb0 hb1 hb2 hb3 hq hql hxo hqn
   go_upto_region 12 with fail
   refine wp_region_tail 31 (by kernel_rfl) (by kernel_rfl) ?_
   simp only[List.take_succ_cons,List.take_zero,List.drop_succ_cons,List.drop_zero]
   repeat still_step
   refine wpStill_nil ?_
   go_wp2_with fail
   refine⟨⟨i+1,by omega,by go_num,Lib.hid ?_⟩,by simp[intOf];omega⟩
   have h1:=(HR.out.word i ((x0:Int)*16777216+(x1:Int)*65536+(x2:Int)*256+(x3:Int)) (by omega)).same ((Kept.refl _ _).drew)
   rw[<- HW.out.1,words_set _ _ i (by omega) HO.out,HW.out.1]at h1
   exact h1
  ·obtain rfl:i=16:=by omega
   have y1:decide (((16:Nat):Int)<16)=false:=by decide
   go_wp2_with fail
   first
   | exact HEND.out () _ _ _ _ _ _ _ _ _ _ _ _ _ _ _ _ _ _ _ _ _ _ _ _ _ _ _ _ _ _ _ _ _ _ _ _ _ _ _ _ _ _ HR
   | trace_state
theorem rsum_b {W3 W:World} {r2 wb:Nat} {V:V8} {O:List Int} {s:List UInt8} {Q:Exit->Act->World->Prop} {g0 g1 g2 g3 g4 g5 g7 g8 g9 g11 g12 g13 g14 g15 g16 g17 g18 g19 g20 g21 g22 g23 g24 g25 g26 g27 g28 g29 g30 g31 g32 g33 g34 g35 g36 g37 g38 g39 g40 g41 g42 g43 g44 g45 g46 g47 g48 g49 g50 g51 g52 g53 g54 g55 g56 g57 g58 g59 g60 g61 g62 g63 g64 g65 g66 g67 g68 g69 g70 g71 g72 g73 g74 g75 g76 g77 g78 g79 g80 g81 g82 g83 g84 g85 g86 g87 g88 g89 g90 g91 g92 g93 g94 g95 g96 g97 g98 g99 g100 g101 g102 g103 g104 g105 g106 g107 g108 g109 g110 g111 g112 g113 g114 g115 g116 g117 g118 g119 g120 g121 g122 g123 g124 g125 g126 g127 g128 g129 g130 g131 g132 g133 g134 g135 g136 g137 g138 g139 g140 g141 g142 g143 g144 g145 g146 g147 g148 g149 g150 g151 g152 g153 g154 g155 g156 g157 g158 g159 g160 g161 g162 g163 g164 g165 g166 g167 g168 g169 g170 g171 g172 g173 g174 g175 g176 g177 g178 g179 g180 g181 g182 g183 g184 g185 g186 g187 g188 g189 g190 g191 g192 g193 g194 g195 g196 g197 g198 g199 g200 g201 g202 g203 g204 g205 g206 g207 g208 g209 g210 g211 g212 g213 g214 g215 g216 g217 g218 g219 g220 g221 g222 g223 g224 g225 g226 g227 g228 g229 g230 g231 g232 g233 g234 g235 g236 g237 g238 g239 g240 g241 g242 g243 g244 g245 g246 g247 g248 g249 g250 g251:Value} {code:Code} (hcode:codeBlock 4 (Tryz.f26.body.getD .skip)=some code) (hI:SumI W3 r2 wb V (ws s 16++O.drop 16) W) (hO:O.length=64)
  (HP:∀ c a (k:Nat) v w,Q (.panic c) (Act.put a (some k) v) w->Q (.panic c) a w) (HEND:∀ (_:Unit) (v10 v11 v12 v75 v76 v77 v78 v79 v80 v81 v82 v83 v84 v85 v86 v87 v88 v89 v90 v91 v92 v93 v94 v95 v96 v97 v98 v99 v100 v101 v102 v103 v104 v105 v106 v107 v108 v109 v110 v111 v112 v113 v114 v115:Value) (w':World),Hid (SumI W3 r2 wb V (ws s 64) w')->Q .normal ⟨List.toArray (g0::g1::g2::g3::g4::g5::(.pointer (some ⟨wb,0,none⟩))::g7::g8::g9::v10::v11::v12::g13::g14::g15::g16::g17::g18::g19::g20::g21::g22::g23::g24::g25::g26::g27::g28::g29::g30::g31::g32::g33::g34::g35::g36::g37::g38::g39::g40::g41::g42::g43::g44::g45::g46::g47::g48::g49::g50::g51::g52::g53::g54::g55::g56::g57::g58::g59::g60::g61::g62::g63::g64::g65::g66::g67::g68::g69::g70::g71::g72::g73::g74::v75::v76::v77::v78::v79::v80::v81::v82::v83::v84::v85::v86::v87::v88::v89::v90::v91::v92::v93::v94::v95::v96::v97::v98::v99::v100::v101::v102::v103::v104::v105::v106::v107::v108::v109::v110::v111::v112::v113::v114::v115::g116::g117::g118::g119::g120::g121::g122::g123::g124::g125::g126::g127::g128::g129::g130::g131::g132::g133::g134::g135::g136::g137::g138::g139::g140::g141::g142::g143::g144::g145::g146::g147::g148::g149::g150::g151::g152::g153::g154::g155::g156::g157::g158::g159::g160::g161::g162::g163::g164::g165::g166::g167::g168::g169::g170::g171::g172::g173::g174::g175::g176::g177::g178::g179::g180::g181::g182::g183::g184::g185::g186::g187::g188::g189::g190::g191::g192::g193::g194::g195::g196::g197::g198::g199::g200::g201::g202::g203::g204::g205::g206::g207::g208::g209::g210::g211::g212::g213::g214::g215::g216::g217::g218::g219::g220::g221::g222::g223::g224::g225::g226::g227::g228::g229::g230::g231::g232::g233::g234::g235::g236::g237::g238::g239::g240::g241::g242::g243::g244::g245::g246::g247::g248::g249::g250::g251::[]),[]⟩ w') :
  Code.wp Tryz.prog code Q ⟨List.toArray (g0::g1::g2::g3::g4::g5::(.pointer (some ⟨wb,0,none⟩))::g7::g8::g9::(.int .i64 16)::g11::g12::g13::g14::g15::g16::g17::g18::g19::g20::g21::g22::g23::g24::g25::g26::g27::g28::g29::g30::g31::g32::g33::g34::g35::g36::g37::g38::g39::g40::g41::g42::g43::g44::g45::g46::g47::g48::g49::g50::g51::g52::g53::g54::g55::g56::g57::g58::g59::g60::g61::g62::g63::g64::g65::g66::g67::g68::g69::g70::g71::g72::g73::g74::g75::g76::g77::g78::g79::g80::g81::g82::g83::g84::g85::g86::g87::g88::g89::g90::g91::g92::g93::g94::g95::g96::g97::g98::g99::g100::g101::g102::g103::g104::g105::g106::g107::g108::g109::g110::g111::g112::g113::g114::g115::g116::g117::g118::g119::g120::g121::g122::g123::g124::g125::g126::g127::g128::g129::g130::g131::g132::g133::g134::g135::g136::g137::g138::g139::g140::g141::g142::g143::g144::g145::g146::g147::g148::g149::g150::g151::g152::g153::g154::g155::g156::g157::g158::g159::g160::g161::g162::g163::g164::g165::g166::g167::g168::g169::g170::g171::g172::g173::g174::g175::g176::g177::g178::g179::g180::g181::g182::g183::g184::g185::g186::g187::g188::g189::g190::g191::g192::g193::g194::g195::g196::g197::g198::g199::g200::g201::g202::g203::g204::g205::g206::g207::g208::g209::g210::g211::g212::g213::g214::g215::g216::g217::g218::g219::g220::g221::g222::g223::g224::g225::g226::g227::g228::g229::g230::g231::g232::g233::g234::g235::g236::g237::g238::g239::g240::g241::g242::g243::g244::g245::g246::g247::g248::g249::g250::g251::[]),[]⟩ W:=by
 have HP:=Lib.hid HP
 have HEND:=Lib.hid HEND
 simp only[Tryz.f26,Option.getD_some,codeSeq,codeBlock,codeCond,Nat.reduceEqDiff, ↓reduceIte,Option.none_or,Option.or_none,Option.some_or,Option.some.injEq]at hcode
 subst hcode
 have HI:=Lib.hid hI
 have HO:=Lib.hid hO
 clear hI hO
 go_wp2_with fail
 go_loopw [10] (fun y wr=>∃ i:Nat,16<=i/\i<=64/\y = .int .i64 (i:Int)/\Hid (SumI W3 r2 wb V (ws s i++O.drop i) wr)) (fun y _=>64-(intOf y).toNat)
 case atStart=>exact⟨16,by omega,by omega,rfl,HI⟩
 case round =>
  obtain⟨i,hi16,hi,rfl,HR⟩:=hrel
  by_cases hlt:i<64
  ·have y1:decide ((i:Int)<64)=true:=decide_eq_true (by omega)
   obtain⟨x16,g16,u16,v16⟩:=ws_get s i (i-16) (by omega)
   obtain⟨x15,g15,u15,v15⟩:=ws_get s i (i-15) (by omega)
   obtain⟨x7,g7,u7,v7⟩:=ws_get s i (i-7) (by omega)
   obtain⟨x2,g2,u2,v2⟩:=ws_get s i (i-2) (by omega)
   have c16:=HR.out.ws.cell (cells32_get (words_get (O:=O) g16))
   have c15:=HR.out.ws.cell (cells32_get (words_get (O:=O) g15))
   have c7:=HR.out.ws.cell (cells32_get (words_get (O:=O) g7))
   have c2:=HR.out.ws.cell (cells32_get (words_get (O:=O) g2))
   obtain⟨xo,hxo⟩:=words_here s O i hlt HO.out
   have co:=HR.out.ws.cell (cells32_get hxo)
   have fo:=HR.out.ws.free i
   have hwn:wnext s (ws s i)=mod32 (x16+sg0 x15+x7+sg1 x2):=by
    unfold wnext
    rw[if_neg (by rw[ws_len];omega),ws_len,v16,v7,v15,v2]
    congr 1
    omega
   have HW:=Lib.hid (And.intro hwn hlt)
   obtain⟨a1,a2⟩:=u15
   obtain⟨b1,b2⟩:=u2
   obtain⟨d1,d2⟩:=u16
   obtain⟨f1,f2⟩:=u7
   have i15:((i:Int)-15).toNat=i-15:=by omega
   have i2:((i:Int)-2).toNat=i-2:=by omega
   have i16:((i:Int)-16).toNat=i-16:=by omega
   have i7:((i:Int)-7).toNat=i-7:=by omega
   have q1:0<=(i:Int)-15:=by omega
   have q2:0<=(i:Int)-16:=by omega
   have q3:IntKind.i64.wrap ((i:Int)-15)=(i:Int)-15:=IntWalk.i64_in _ (by omega)
   have q4:IntKind.i64.wrap ((i:Int)-2)=(i:Int)-2:=IntWalk.i64_in _ (by omega)
   have q5:IntKind.i64.wrap ((i:Int)-16)=(i:Int)-16:=IntWalk.i64_in _ (by omega)
   have q6:IntKind.i64.wrap ((i:Int)-7)=(i:Int)-7:=IntWalk.i64_in _ (by omega)
   have e1:(16:Int)<=(i:Int):=by omega
   have e2:(i:Int)-16<64:=by omega
   have e3:(7:Int)<=(i:Int):=by omega
   have e4:(i:Int)-7<64:=by omega
   have e5:(i:Int)<64:=by omega
   have e6:(15:Int)<=(i:Int):=by omega
   have e7:(i:Int)-15<64:=by omega
   have e8:(2:Int)<=(i:Int):=by omega
   have e9:(i:Int)-2<64:=by omega
   clear hwn g16 g15 g7 g2 v16 v15 v7 v2 hxo
   go_upto_region 16 with fail
   go_quiet (fail)
   go_upto_region 17 with fail
   refine wp_region_tail 29 (by kernel_rfl) (by kernel_rfl) ?_
   simp only[List.take_succ_cons,List.take_zero,List.drop_succ_cons,List.drop_zero]
   repeat still_step
   still_call (calls_pure (rturn_any _ x15 7 7 rfl (by decide) a1 a2))
   repeat still_step
   still_call (calls_pure (rturn_any _ x15 18 18 rfl (by decide) a1 a2))
   repeat still_step
   still_call (calls_pure (rturn_any _ x2 17 17 rfl (by decide) b1 b2))
   repeat still_step
   still_call (calls_pure (rturn_any _ x2 19 19 rfl (by decide) b1 b2))
   repeat still_step
   refine wpStill_nil ?_
   go_wp2_with fail
   refine⟨⟨i+1,by omega,by omega,by go_num,Lib.hid ?_⟩,by simp[intOf];omega⟩
   have h1:=(HR.out.same ((Kept.refl _ _).drewN (nq+1))).word i (wnext s (ws s i)) HW.out.2
   rw[words_set _ _ i HW.out.2 HO.out,HW.out.1]at h1
   exact h1
  ·obtain rfl:i=64:=by omega
   have y1:decide (((64:Nat):Int)<64)=false:=by decide
   have HX:=Lib.hid (show SumI W3 r2 wb V (ws s 64) wr from by have:=HR.out;rw[words_all _ _ HO.out]at this;exact this)
   go_wp2_with fail
   exact HEND.out () _ _ _ _ _ _ _ _ _ _ _ _ _ _ _ _ _ _ _ _ _ _ _ _ _ _ _ _ _ _ _ _ _ _ _ _ _ _ _ _ _ _ _ _ _ HX
theorem mod_two (t u:Int):(t%4294967296+u%4294967296)%4294967296=mod32 (t+u):=by unfold mod32;omega
theorem mod_one (d t:Int):(d+t%4294967296)%4294967296=mod32 (d+t):=by unfold mod32;omega
theorem rsum_c {W3 W:World} {r2 wb kb:Nat} {V:V8} {s:List UInt8} {Q:Exit->Act->World->Prop} {g0 g1 g2 g4 g5 g7 g8 g9 g10 g11 g12 g22 g23 g24 g25 g26 g27 g28 g29 g30 g31 g32 g33 g34 g35 g36 g37 g38 g39 g40 g41 g42 g43 g44 g45 g46 g47 g48 g49 g50 g51 g52 g53 g54 g55 g56 g57 g58 g59 g60 g61 g62 g63 g64 g65 g66 g67 g68 g69 g70 g71 g72 g73 g74 g75 g76 g77 g78 g79 g80 g81 g82 g83 g84 g85 g86 g87 g88 g89 g90 g91 g92 g93 g94 g95 g96 g97 g98 g99 g100 g101 g102 g103 g104 g105 g106 g107 g108 g109 g110 g111 g112 g113 g114 g115 g116 g117 g118 g119 g120 g121 g122 g123 g124 g125 g126 g127 g128 g129 g130 g131 g132 g133 g134 g135 g136 g137 g138 g139 g140 g141 g142 g143 g144 g145 g146 g147 g148 g149 g150 g151 g152 g153 g154 g155 g156 g157 g158 g159 g160 g161 g162 g163 g164 g165 g166 g167 g168 g169 g170 g171 g172 g173 g174 g175 g176 g177 g178 g179 g180 g181 g182 g183 g184 g185 g186 g187 g188 g189 g190 g191 g192 g193 g194 g195 g196 g197 g198 g199 g200 g201 g202 g203 g204 g205 g206 g207 g208 g209 g210 g211 g212 g213 g214 g215 g216 g217 g218 g219 g220 g221 g222 g223 g224 g225 g226 g227 g228 g229 g230 g231 g232 g233 g234 g235 g236 g237 g238 g239 g240 g241 g242 g243 g244 g245 g246 g247 g248 g249 g250 g251:Value} {code:Code} (hcode:codeBlock 6 (Tryz.f26.body.getD .skip)=some code) (hI:SumI W3 r2 wb V (ws s 64) W) (hU:V.U) (hk:Blk W3 kb (cells32 shaRounds) 121) (k1:kb≠r2) (k2:kb≠wb)
  (HP:∀ c a (k:Nat) v w,Q (.panic c) (Act.put a (some k) v) w->Q (.panic c) a w) (HEND:∀ (X:V8) (v21 v22 v23 v132 v133 v134 v135 v136 v137 v138 v139 v140 v141 v142 v143 v144 v145 v146 v147 v148 v149 v150 v151 v152 v153 v154 v155 v156 v157 v158 v159 v160 v161 v162 v163 v164 v165 v166 v167 v168 v169 v170 v171 v172 v173 v174 v175 v176 v177 v178 v179 v180 v181 v182 v183 v184 v185 v186 v187 v188 v189 v190 v191 v192 v193 v194:Value) (w':World),Hid (X=mixRounds V (ws s 64) 64/\SumI W3 r2 wb V (ws s 64) w')->Q .normal ⟨List.toArray (g0::g1::g2::(.pointer (some ⟨kb,0,none⟩))::g4::g5::(.pointer (some ⟨wb,0,none⟩))::g7::g8::g9::g10::g11::g12::(.int .u32 X.a)::(.int .u32 X.b)::(.int .u32 X.c)::(.int .u32 X.d)::(.int .u32 X.e)::(.int .u32 X.f)::(.int .u32 X.g)::(.int .u32 X.h)::v21::v22::v23::g24::g25::g26::g27::g28::g29::g30::g31::g32::g33::g34::g35::g36::g37::g38::g39::g40::g41::g42::g43::g44::g45::g46::g47::g48::g49::g50::g51::g52::g53::g54::g55::g56::g57::g58::g59::g60::g61::g62::g63::g64::g65::g66::g67::g68::g69::g70::g71::g72::g73::g74::g75::g76::g77::g78::g79::g80::g81::g82::g83::g84::g85::g86::g87::g88::g89::g90::g91::g92::g93::g94::g95::g96::g97::g98::g99::g100::g101::g102::g103::g104::g105::g106::g107::g108::g109::g110::g111::g112::g113::g114::g115::g116::g117::g118::g119::g120::g121::g122::g123::g124::g125::g126::g127::g128::g129::g130::g131::v132::v133::v134::v135::v136::v137::v138::v139::v140::v141::v142::v143::v144::v145::v146::v147::v148::v149::v150::v151::v152::v153::v154::v155::v156::v157::v158::v159::v160::v161::v162::v163::v164::v165::v166::v167::v168::v169::v170::v171::v172::v173::v174::v175::v176::v177::v178::v179::v180::v181::v182::v183::v184::v185::v186::v187::v188::v189::v190::v191::v192::v193::v194::g195::g196::g197::g198::g199::g200::g201::g202::g203::g204::g205::g206::g207::g208::g209::g210::g211::g212::g213::g214::g215::g216::g217::g218::g219::g220::g221::g222::g223::g224::g225::g226::g227::g228::g229::g230::g231::g232::g233::g234::g235::g236::g237::g238::g239::g240::g241::g242::g243::g244::g245::g246::g247::g248::g249::g250::g251::[]),[]⟩ w') :
  Code.wp Tryz.prog code Q ⟨List.toArray (g0::g1::g2::(.pointer (some ⟨kb,0,none⟩))::g4::g5::(.pointer (some ⟨wb,0,none⟩))::g7::g8::g9::g10::g11::g12::(.int .u32 V.a)::(.int .u32 V.b)::(.int .u32 V.c)::(.int .u32 V.d)::(.int .u32 V.e)::(.int .u32 V.f)::(.int .u32 V.g)::(.int .u32 V.h)::(.int .i64 0)::g22::g23::g24::g25::g26::g27::g28::g29::g30::g31::g32::g33::g34::g35::g36::g37::g38::g39::g40::g41::g42::g43::g44::g45::g46::g47::g48::g49::g50::g51::g52::g53::g54::g55::g56::g57::g58::g59::g60::g61::g62::g63::g64::g65::g66::g67::g68::g69::g70::g71::g72::g73::g74::g75::g76::g77::g78::g79::g80::g81::g82::g83::g84::g85::g86::g87::g88::g89::g90::g91::g92::g93::g94::g95::g96::g97::g98::g99::g100::g101::g102::g103::g104::g105::g106::g107::g108::g109::g110::g111::g112::g113::g114::g115::g116::g117::g118::g119::g120::g121::g122::g123::g124::g125::g126::g127::g128::g129::g130::g131::g132::g133::g134::g135::g136::g137::g138::g139::g140::g141::g142::g143::g144::g145::g146::g147::g148::g149::g150::g151::g152::g153::g154::g155::g156::g157::g158::g159::g160::g161::g162::g163::g164::g165::g166::g167::g168::g169::g170::g171::g172::g173::g174::g175::g176::g177::g178::g179::g180::g181::g182::g183::g184::g185::g186::g187::g188::g189::g190::g191::g192::g193::g194::g195::g196::g197::g198::g199::g200::g201::g202::g203::g204::g205::g206::g207::g208::g209::g210::g211::g212::g213::g214::g215::g216::g217::g218::g219::g220::g221::g222::g223::g224::g225::g226::g227::g228::g229::g230::g231::g232::g233::g234::g235::g236::g237::g238::g239::g240::g241::g242::g243::g244::g245::g246::g247::g248::g249::g250::g251::[]),[]⟩ W:=by
 have HP:=Lib.hid HP
 have HEND:=Lib.hid HEND
 simp only[Tryz.f26,Option.getD_some,codeSeq,codeBlock,codeCond,Nat.reduceEqDiff, ↓reduceIte,Option.none_or,Option.or_none,Option.some_or,Option.some.injEq]at hcode
 subst hcode
 have HI:=Lib.hid hI
 have HK:=Lib.hid (show ∀ w',Kept (fun _=>False) W w'->Blk w' kb (cells32 shaRounds) 121 from fun w' q=>(hk.kept hI.kept (fun z=>z.elim k1 k2)).kept q id)
 have HU:=Lib.hid hU
 clear hI hk k1 k2 hU
 go_wp2_with fail
 go_loopw [13,14,15,16,17,18,19,20,21] (fun xa xb xc xd xe xf xg xh y wr=>∃ (i:Nat) (X:V8),i<=64/\y = .int .i64 (i:Int)/\xa = .int .u32 X.a/\xb = .int .u32 X.b/\xc = .int .u32 X.c/\xd = .int .u32 X.d/\xe = .int .u32 X.e/\xf = .int .u32 X.f/\xg = .int .u32 X.g/\xh = .int .u32 X.h/\Hid (X=mixRounds V (ws s 64) i/\SumI W3 r2 wb V (ws s 64) wr/\Kept (fun _=>False) W wr)) (fun _ _ _ _ _ _ _ _ y _=>64-(intOf y).toNat)
 case atStart=>exact⟨0,V,by omega,rfl,rfl,rfl,rfl,rfl,rfl,rfl,rfl,rfl,Lib.hid ⟨rfl,HI.out,Kept.refl _ _⟩⟩
 case round =>
  obtain⟨i,X,hi,rfl,rfl,rfl,rfl,rfl,rfl,rfl,rfl,rfl,HR⟩:=hrel
  by_cases hlt:i<64
  ·have y1:decide ((i:Int)<64)=true:=decide_eq_true (by omega)
   have hXU:X.U:=by rw[HR.out.1];exact mixRounds_u _ HU.out _ i
   obtain⟨n,hn1,hn2,hn3⟩:=ws_get s 64 i hlt
   obtain⟨k,hk1,hk2,hk3⟩:=rounds_get i hlt
   have cn:=HR.out.2.1.ws.cell (cells32_get hn1)
   have ck:=(HK.out wr HR.out.2.2).cell (cells32_get hk1)
   have ri:(i:Int)<64:=by omega
   obtain⟨X1,X2,X3,X4,X5,X6,X7,X8⟩:=X
   obtain⟨e1,e2⟩:=hXU.e
   obtain⟨a1,a2⟩:=hXU.a
   have HN:=Lib.hid (And.intro hn3 (And.intro hk3 hlt))
   clear hn1 hn2 hn3 hk1 hk2 hk3 hXU
   simp only at e1 e2 a1 a2
   go_upto_region 22 with fail
   go_quiet ((first|(go_at_call 74;with_reducible exact quiet_on (rturn_any _ X5 6 6 rfl (by decide) e1 e2))|(go_at_call 74;with_reducible exact quiet_on (rturn_any _ X5 11 11 rfl (by decide) e1 e2))|(go_at_call 74;with_reducible exact quiet_on (rturn_any _ X5 25 25 rfl (by decide) e1 e2))|(go_at_call 74;with_reducible exact quiet_at (rturn_any _ X5 6 6 rfl (by decide) e1 e2))|(go_at_call 74;with_reducible exact quiet_at (rturn_any _ X5 11 11 rfl (by decide) e1 e2))|(go_at_call 74;with_reducible exact quiet_at (rturn_any _ X5 25 25 rfl (by decide) e1 e2))))
   go_wp2_with (first|(go_at_call 74;with_reducible refine(rturn_any _ X1 2 2 rfl (by decide) a1 a2).mono ?_;rintro e w' ⟨rfl,rfl⟩)|(go_at_call 74;with_reducible refine(rturn_any _ X1 13 13 rfl (by decide) a1 a2).mono ?_;rintro e w' ⟨rfl,rfl⟩)|(go_at_call 74;with_reducible refine(rturn_any _ X1 22 22 rfl (by decide) a1 a2).mono ?_;rintro e w' ⟨rfl,rfl⟩))
   refine⟨⟨i+1,mixRound ⟨X1,X2,X3,X4,X5,X6,X7,X8⟩ k n,by omega,by go_num,congrArg (Value.int .u32) (mod_two (mixT ⟨X1,X2,X3,X4,X5,X6,X7,X8⟩ k n) (mixU ⟨X1,X2,X3,X4,X5,X6,X7,X8⟩)),rfl,rfl,rfl,congrArg (Value.int .u32) (mod_one X4 (mixT ⟨X1,X2,X3,X4,X5,X6,X7,X8⟩ k n)),rfl,rfl,rfl,Lib.hid ⟨?_,HR.out.2.1.same ((Kept.refl _ _).drewN _),HR.out.2.2.trans ((Kept.refl _ _).drewN _)⟩⟩,by simp[intOf];omega⟩
   have e1:mixRounds V (ws s 64) (i+1)=mixRound (mixRounds V (ws s 64) i) (shaRounds.getD i 0) ((ws s 64).getD i 0):=rfl
   rw[e1,<- HR.out.1,HN.out.1,HN.out.2.1]
  ·obtain rfl:i=64:=by omega
   have y1:decide (((64:Nat):Int)<64)=false:=by decide
   go_wp2_with fail
   first
   | exact Lib.hid ⟨HR.out.1,HR.out.2.1⟩
   | exact HEND.out X _ _ _ _ _ _ _ _ _ _ _ _ _ _ _ _ _ _ _ _ _ _ _ _ _ _ _ _ _ _ _ _ _ _ _ _ _ _ _ _ _ _ _ _ _ _ _ _ _ _ _ _ _ _ _ _ _ _ _ _ _ _ _ _ _ _ _ (Lib.hid ⟨HR.out.1,HR.out.2.1⟩)
theorem rsum_d {W:World} {r2 ob:Nat} {V:V8} {Q:Exit->Act->World->Prop} {g0 g1 g2 g3 g5 g6 g7 g8 g9 g10 g11 g12 g13 g14 g15 g16 g17 g18 g19 g20 g21 g22 g23 g26 g27 g28 g29 g30 g31 g32 g33 g34 g35 g36 g37 g38 g39 g40 g41 g42 g43 g44 g45 g46 g47 g48 g49 g50 g51 g52 g53 g54 g55 g56 g57 g58 g59 g60 g61 g62 g63 g64 g65 g66 g67 g68 g69 g70 g71 g72 g73 g74 g75 g76 g77 g78 g79 g80 g81 g82 g83 g84 g85 g86 g87 g88 g89 g90 g91 g92 g93 g94 g95 g96 g97 g98 g99 g100 g101 g102 g103 g104 g105 g106 g107 g108 g109 g110 g111 g112 g113 g114 g115 g116 g117 g118 g119 g120 g121 g122 g123 g124 g125 g126 g127 g128 g129 g130 g131 g132 g133 g134 g135 g136 g137 g138 g139 g140 g141 g142 g143 g144 g145 g146 g147 g148 g149 g150 g151 g152 g153 g154 g155 g156 g157 g158 g159 g160 g161 g162 g163 g164 g165 g166 g167 g168 g169 g170 g171 g172 g173 g174 g175 g176 g177 g178 g179 g180 g181 g182 g183 g184 g185 g186 g187 g188 g189 g190 g191 g192 g193 g194 g195 g196 g197 g198 g199 g200 g201 g202 g203 g204 g205 g206 g207 g208 g209 g210 g211 g212 g213 g214 g215 g216 g217 g218 g219 g220 g221 g222 g223 g224 g225 g226 g227 g228 g229 g230 g231 g232 g233 g234 g235 g236 g237 g238 g239 g240 g241 g242 g243 g244 g245 g246 g247 g248 g249 g250 g251:Value} {code:Code} (hcode:codeBlock 8 (Tryz.f26.body.getD .skip)=some code) (hv:Blk W r2 V.cells 122) (hU:V.U) (ho:Blk W ob (zeros 32) 30) (hne:ob≠r2)
  (HP:∀ c a (k:Nat) v w,Q (.panic c) (Act.put a (some k) v) w->Q (.panic c) a w) (HEND:∀ (_:Unit) (v25 v235 v236 v237 v238 v239 v240 v241 v242 v243 v244 v245 v246 v247 v248 v249 v250:Value) (w':World),Hid (Blk w' ob (bytes8 V.out) 30/\Kept (fun k=>k=ob) W w')->Q .normal ⟨List.toArray (g0::g1::g2::g3::(.pointer (some ⟨r2,0,none⟩))::g5::g6::g7::g8::g9::g10::g11::g12::g13::g14::g15::g16::g17::g18::g19::g20::g21::g22::g23::(.pointer (some ⟨ob,0,none⟩))::v25::g26::g27::g28::g29::g30::g31::g32::g33::g34::g35::g36::g37::g38::g39::g40::g41::g42::g43::g44::g45::g46::g47::g48::g49::g50::g51::g52::g53::g54::g55::g56::g57::g58::g59::g60::g61::g62::g63::g64::g65::g66::g67::g68::g69::g70::g71::g72::g73::g74::g75::g76::g77::g78::g79::g80::g81::g82::g83::g84::g85::g86::g87::g88::g89::g90::g91::g92::g93::g94::g95::g96::g97::g98::g99::g100::g101::g102::g103::g104::g105::g106::g107::g108::g109::g110::g111::g112::g113::g114::g115::g116::g117::g118::g119::g120::g121::g122::g123::g124::g125::g126::g127::g128::g129::g130::g131::g132::g133::g134::g135::g136::g137::g138::g139::g140::g141::g142::g143::g144::g145::g146::g147::g148::g149::g150::g151::g152::g153::g154::g155::g156::g157::g158::g159::g160::g161::g162::g163::g164::g165::g166::g167::g168::g169::g170::g171::g172::g173::g174::g175::g176::g177::g178::g179::g180::g181::g182::g183::g184::g185::g186::g187::g188::g189::g190::g191::g192::g193::g194::g195::g196::g197::g198::g199::g200::g201::g202::g203::g204::g205::g206::g207::g208::g209::g210::g211::g212::g213::g214::g215::g216::g217::g218::g219::g220::g221::g222::g223::g224::g225::g226::g227::g228::g229::g230::g231::g232::g233::g234::v235::v236::v237::v238::v239::v240::v241::v242::v243::v244::v245::v246::v247::v248::v249::v250::g251::[]),[]⟩ w') :
  Code.wp Tryz.prog code Q ⟨List.toArray (g0::g1::g2::g3::(.pointer (some ⟨r2,0,none⟩))::g5::g6::g7::g8::g9::g10::g11::g12::g13::g14::g15::g16::g17::g18::g19::g20::g21::g22::g23::(.pointer (some ⟨ob,0,none⟩))::(.int .i64 0)::g26::g27::g28::g29::g30::g31::g32::g33::g34::g35::g36::g37::g38::g39::g40::g41::g42::g43::g44::g45::g46::g47::g48::g49::g50::g51::g52::g53::g54::g55::g56::g57::g58::g59::g60::g61::g62::g63::g64::g65::g66::g67::g68::g69::g70::g71::g72::g73::g74::g75::g76::g77::g78::g79::g80::g81::g82::g83::g84::g85::g86::g87::g88::g89::g90::g91::g92::g93::g94::g95::g96::g97::g98::g99::g100::g101::g102::g103::g104::g105::g106::g107::g108::g109::g110::g111::g112::g113::g114::g115::g116::g117::g118::g119::g120::g121::g122::g123::g124::g125::g126::g127::g128::g129::g130::g131::g132::g133::g134::g135::g136::g137::g138::g139::g140::g141::g142::g143::g144::g145::g146::g147::g148::g149::g150::g151::g152::g153::g154::g155::g156::g157::g158::g159::g160::g161::g162::g163::g164::g165::g166::g167::g168::g169::g170::g171::g172::g173::g174::g175::g176::g177::g178::g179::g180::g181::g182::g183::g184::g185::g186::g187::g188::g189::g190::g191::g192::g193::g194::g195::g196::g197::g198::g199::g200::g201::g202::g203::g204::g205::g206::g207::g208::g209::g210::g211::g212::g213::g214::g215::g216::g217::g218::g219::g220::g221::g222::g223::g224::g225::g226::g227::g228::g229::g230::g231::g232::g233::g234::g235::g236::g237::g238::g239::g240::g241::g242::g243::g244::g245::g246::g247::g248::g249::g250::g251::[]),[]⟩ W:=by
 have HP:=Lib.hid HP
 have HEND:=Lib.hid HEND
 simp only[Tryz.f26,Option.getD_some,codeSeq,codeBlock,codeCond,Nat.reduceEqDiff, ↓reduceIte,Option.none_or,Option.or_none,Option.some_or,Option.some.injEq]at hcode
 subst hcode
 have HV:=Lib.hid (And.intro hv (And.intro ho hne))
 have HU:=Lib.hid hU
 clear hv hU ho hne
 go_wp2_with fail
 go_loopw [25] (fun y wr=>∃ i:Nat,i<=32/\y = .int .i64 (i:Int)/\Hid (Blk wr ob (bytes8 (V.out.take i)++zeros (32-i)) 30/\Kept (fun k=>k=ob) W wr)) (fun y _=>32-(intOf y).toNat)
 case atStart=>exact⟨0,by omega,rfl,Lib.hid ⟨by simpa[bytes8]using HV.out.2.1,Kept.refl _ _⟩⟩
 case round =>
  obtain⟨i,hi,rfl,HR⟩:=hrel
  by_cases hlt:i<32
  ·have y1:decide ((i:Int)<32)=true:=decide_eq_true (by omega)
   obtain⟨q,r,hr,hq8,hqr⟩:∃ q r,r<4/\q<8/\i=4*q+r:=⟨i/4,i%4,by omega,by omega,by omega⟩
   obtain⟨x,hx1,hx2⟩:=V8.ints_u HU.out q hq8
   obtain⟨u1,u2⟩:=hx2
   have hv:=HV.out.1.kept HR.out.2 (by have:=HV.out.2.2;omega)
   have cv:=hv.cell (cells32_get hx1)
   have ho:=out_at (V:=V) hr hx1
   have hol:V.out.length=32:=V8.out_len V
   have hbl:(bytes8 (V.out.take i)).length=i:=by rw[bytes8_len,List.length_take];omega
   have co:=HR.out.1.cell (i:=i) (v:=.int .u8 0) (by rw[List.getElem?_append_right (by omega),hbl,Nat.sub_self,show 32-i=(32-(i+1))+1 by omega];rfl)
   have fo:=HR.out.1.free i
   have hset:=HR.out.1.set i (.int .u8 ((UInt8.ofNat (x.toNat/256^(3-r))).toNat:Int))
   have e1:(bytes8 (V.out.take i)++zeros (32-i)).set i (.int .u8 ((UInt8.ofNat (x.toNat/256^(3-r))).toNat:Int))=bytes8 (V.out.take (i+1))++zeros (32-(i+1)):=by
    rw[List.set_append_right _ _ (by omega),hbl,Nat.sub_self,show 32-i=(32-(i+1))+1 by omega]
    unfold zeros
    rw[List.replicate_succ,List.set_cons_zero,List.take_add_one,hqr,ho]
    simp[bytes8]
   rw[e1]at hset
   have e2:((UInt8.ofNat (x.toNat/256^(3-r))).toNat:Int)=x/256^(3-r)%256:=by
    rw[UInt8.toNat_ofNat']
    push_cast
    rw[Int.toNat_of_nonneg u1]
   rw[e2]at hset
   have hkk:Kept (fun k=>k=ob) wr (wr.setCell ⟨ob,i,none⟩ (.int .u8 (x/256^(3-r)%256))):=(Kept.refl (fun k=>k=ob) wr).setCell (p:=⟨ob,i,none⟩) (fun _=>rfl) _
   have HS:=Lib.hid (And.intro hset (HR.out.2.trans hkk))
   have d1:(i:Int)/4=(q:Int):=by omega
   have ri:(i:Int)<32:=by omega
   have hr4:r=0\/r=1\/r=2\/r=3:=by omega
   clear hset hkk e1 e2 ho hol hbl hv hx1
   rcases hr4 with rfl|rfl|rfl|rfl
   ·have d2:(i:Int)%4=0:=by omega
    have HD:=Lib.hid hqr
    have e9:x/256^(3-0)%256=x/16777216:=by
     show x/16777216%256=_
     omega
    rw[e9]at HS
    clear hqr hr e9
    go_wp2_with fail
    exact⟨⟨i+1,by omega,by go_num,HS⟩,by simp[intOf];omega⟩
   ·have d2:(i:Int)%4=1:=by omega
    have HD:=Lib.hid hqr
    have e9:x/256^(3-1)%256=x/65536%256:=by
     show x/65536%256=_
     omega
    rw[e9]at HS
    clear hqr hr e9
    go_wp2_with fail
    exact⟨⟨i+1,by omega,by go_num,HS⟩,by simp[intOf];omega⟩
   ·have d2:(i:Int)%4=2:=by omega
    have HD:=Lib.hid hqr
    have e9:x/256^(3-2)%256=x/256%256:=by
     show x/256%256=_
     omega
    rw[e9]at HS
    clear hqr hr e9
    go_wp2_with fail
    exact⟨⟨i+1,by omega,by go_num,HS⟩,by simp[intOf];omega⟩
   ·have d2:(i:Int)%4=3:=by omega
    have HD:=Lib.hid hqr
    have e9:x/256^(3-3)%256=x%256:=by
     show x/1%256=_
     omega
    rw[e9]at HS
    clear hqr hr e9
    go_wp2_with fail
    exact⟨⟨i+1,by omega,by go_num,HS⟩,by simp[intOf];omega⟩
  ·obtain rfl:i=32:=by omega
   have y1:decide (((32:Nat):Int)<32)=false:=by decide
   have HX:=Lib.hid (show Blk wr ob (bytes8 V.out) 30/\Kept (fun k=>k=ob) W wr from⟨by
    have:=HR.out.1
    rw[List.take_of_length_le (by rw[V8.out_len];omega)]at this
    simpa[zeros]using this,HR.out.2⟩)
   go_wp2_with fail
   first
   | exact HX
   | exact HEND.out () _ _ _ _ _ _ _ _ _ _ _ _ _ _ _ _ _ _ HX
abbrev kC:Array Value:=(cells32 shaRounds).toArray
abbrev z64:List Value:=List.replicate 64 (.int .u32 0)
abbrev z8:List Value:=List.replicate 8 (.int .u32 0)
theorem sum_k (w:World) {Wa:World} (hW:Wa=(((w.alloc (.cells (zeros 32).toArray 30)).alloc (.cells z64.toArray 121)).setCells (w.heap.size+1) 0 (cells32 shaRounds))) :
  Blk Wa w.heap.size (zeros 32) 30/\Blk Wa (w.heap.size+1) (cells32 shaRounds) 121/\Kept (fun _=>False) w Wa:=by
 have b0:=(Blk.new w (zeros 32) 30).alloc (.cells z64.toArray 121)
 have b1:=Blk.new (w.alloc (.cells (zeros 32).toArray 30)) z64 121
 simp only[World.size_alloc]at b1
 have k1:=kept_setCells ((w.alloc (.cells (zeros 32).toArray 30)).alloc (.cells z64.toArray 121)) (w.heap.size+1) 0 (cells32 shaRounds)
 have s1:=b1.setCells 0 (cells32 shaRounds) (by rw[cells32_len,List.length_replicate];decide)
 rw[splice_whole (by rw[cells32_len,List.length_replicate];decide)]at s1
 rw[hW]
 exact⟨b0.kept k1 (by omega),s1,(((Kept.refl (fun _=>False) w).alloc _).alloc _).then_ k1 (fun i hi e=>by omega)⟩
theorem sum_k0 (w:World):((w.alloc (.cells (zeros 32).toArray 30)).alloc (.cells z64.toArray 121)).there (w.heap.size+1) 0 64:=by
 have b1:=Blk.new (w.alloc (.cells (zeros 32).toArray 30)) z64 121
 simp only[World.size_alloc]at b1
 exact b1.there 0 64 (by rw[List.length_replicate];omega)
theorem sum_v (Wa:World) {W3:World} (hW:W3=(Wa.alloc (.cells z8.toArray 122)).setCells Wa.heap.size 0 v8First.cells):Blk W3 Wa.heap.size v8First.cells 122/\Kept (fun _=>False) Wa W3:=by
 have b1:=Blk.new Wa z8 122
 have k1:=kept_setCells (Wa.alloc (.cells z8.toArray 122)) Wa.heap.size 0 v8First.cells
 have s1:=b1.setCells 0 v8First.cells (by rw[List.length_replicate];decide)
 rw[splice_whole (by rw[List.length_replicate];rfl)]at s1
 rw[hW]
 exact⟨s1,((Kept.refl (fun _=>False) Wa).alloc _).then_ k1 (fun i hi e=>by omega)⟩
theorem sum_v0 (Wa:World):(Wa.alloc (.cells z8.toArray 122)).there Wa.heap.size 0 8:=(Blk.new Wa z8 122).there 0 8 (by rw[List.length_replicate];omega)
theorem rsum_any (w:World) (s:ByteArray) (hs:s.size<=1000000) :
  Calls Tryz.prog 26 #[.string s] w fun e w'=>e = .returned (.agg (bytes8 (shaF s.data.toList)).toArray)/\Kept (fun _=>False) w w':=by
 have HST:=Lib.hid (sum_k0 w)
 have HPAD:=Lib.hid (fun W=>rpad_any W s hs)
 have hk64:kC.size=64:=by show(cells32 shaRounds).toArray.size=64;rw[List.size_toArray,cells32_len];rfl
 have HK64:=Lib.hid hk64
 clear hk64
 go_enter Tryz.func26,Tryz.ntmps26
 go_upto_region 2 with ((with_reducible show wpList _ _ _ (⟨none,.store _ (.tmp 3) _,_,_,_,_⟩::_) _ _);refine wpList_store_mid rfl 121 _ _ rfl (w.heap.size+1) 0 kC rfl rfl ?ht1 ?hi1 ?h11 ?_)
 case ht1=>rw[HK64.out];exact HST.out
 case hi1=>kernel_rfl
 case h11=>kernel_rfl
 generalize hWa:World.setCells _ (w.heap.size+1) 0 _=Wa
 have HA:=Lib.hid (sum_k w (Wa:=Wa) (by rw[<- hWa];rfl))
 clear hWa HST HK64
 generalize Value.agg _=vk
 have HSV:=Lib.hid (sum_v0 Wa)
 go_upto_region 3 with ((with_reducible show wpList _ _ _ (⟨none,.store _ (.tmp 4) _,_,_,_,_⟩::_) _ _);refine wpList_store_mid rfl 122 _ _ rfl Wa.heap.size 0 v8First.cells.toArray rfl rfl ?ht2 ?hi2 ?h12 ?_)
 case ht2=>exact HSV.out
 case hi2=>kernel_rfl
 case h12=>kernel_rfl
 generalize hW3:World.setCells _ Wa.heap.size 0 _=W3
 have HB:=Lib.hid (sum_v Wa (W3:=W3) (by rw[<- hW3];rfl))
 clear hW3 HSV
 generalize Value.agg _=vf
 go_upto_region 5 with (go_at_call 73;refine(HPAD.out _).mono ?_;rintro e w4 ⟨g,cap,n,rfl,hn,HP⟩;have HN:=Lib.hid hn;clear hn)
 have hfl:=filledL_len s.data.toList
 rw[<- HN.out]at hfl
 have hsl:s.data.toList.length=s.size:=by simp
 obtain⟨hf1,hf2,hf3⟩:=hfl
 have hn2:n<=2000000:=by omega
 have hSH:=Lib.hid (show shaF s.data.toList=(sumBlocks v8First (filledL s.data.toList) (n/64)).out from by unfold shaF;rw[HN.out])
 generalize filledL s.data.toList=L at *
 have HMOD:=Lib.hid hf1
 clear hf1 hf2 hf3 hsl
 generalize hW5:World.alloc w4 _=W5
 have hb5:Blk W5 w4.heap.size z64 121/\Kept (fun _=>False) w4 W5:=by
  rw[<- hW5]
  exact⟨Blk.new w4 z64 121,(Kept.refl _ _).alloc _⟩
 clear hW5
 have kw5:Kept (fun _=>False) w W5:=((HA.out.2.2.trans HB.out.2).trans HP.out.2.1).trans hb5.2
 have hz3:Wa.heap.size<W3.heap.size:=HB.out.1.lt
 have hz4:W3.heap.size<=w4.heap.size:=HP.out.2.1.size
 have hgl:g<w4.heap.size:=HP.out.1.lt rfl
 have hg3:W3.heap.size<=g:=HP.out.2.2
 have hza:w.heap.size+1<Wa.heap.size:=HA.out.2.1.lt
 have hI0:SumI W5 Wa.heap.size w4.heap.size v8First (List.replicate 64 0) W5:=⟨(HB.out.1.kept HP.out.2.1 id).kept hb5.2 id,(by rw[show cells32 (List.replicate 64 0)=z64 from by unfold cells32;rw[List.map_replicate]];exact hb5.1),by simp,by omega,Kept.refl _ _⟩
 have HX:=Lib.hid (show RowZ W5 5 (.slice (some ⟨g,0,none⟩) n cap) (bytes8 L)/\Blk W5 (w.heap.size+1) (cells32 shaRounds) 121/\Blk W5 w.heap.size (zeros 32) 30/\Kept (fun _=>False) w W5 from
  ⟨HP.out.1.kept hb5.2 (fun _ _=>id),((HA.out.2.1.kept HB.out.2 id).kept HP.out.2.1 id).kept hb5.2 id,((HA.out.1.kept HB.out.2 id).kept HP.out.2.1 id).kept hb5.2 id,kw5⟩)
 have HZ:=Lib.hid (And.intro hza (And.intro hz3 (And.intro hz4 (And.intro hgl (And.intro hg3 hn2)))))
 have HI0:=Lib.hid hI0
 clear hI0 kw5 hb5 HA HB HP hza hz3 hz4 hgl hg3
 generalize Wa.heap.size=rb at *
 generalize w4.heap.size=wb at *
 go_wp2_with fail
 go_loopw [7] (fun y wr=>∃ j T:Nat,T<=n/\y = .int .i64 (T:Int)/\Hid (T=64*j/\∃ O,SumI W5 rb wb (sumBlocks v8First L j) O wr)) (fun y _=>n-(intOf y).toNat)
 case atStart=>exact⟨0,0,by omega,rfl,Lib.hid ⟨rfl,_,HI0.out⟩⟩
 case round =>
  obtain⟨j,T,hT,rfl,HR⟩:=hrel
  by_cases hlt:T<n
  ·have y1:decide ((T:Int)<(n:Int))=true:=decide_eq_true (by omega)
   have y2:decide (T<n)=true:=decide_eq_true hlt
   obtain⟨hTj,O,hI⟩:=HR.out
   have HT:=Lib.hid (show T=64*j/\T+64<=n from⟨hTj,by have:=HMOD.out;omega⟩)
   have HI:=Lib.hid hI
   clear hI hTj HR
   go_upto_block 2 with fail
   refine rsum_a (code:=_) (by kernel_rfl) HI.out HX.out.1 HN.out.symm HT.out.1 HT.out.2 HZ.out.2.2.2.2.2 (by have:=HZ.out;omega) (by have:=HZ.out;omega) (fun _ _ _ _ _ h=>h) ?_
   intros
   rename_i W6 HA6
   go_upto_block 4 with fail
   refine rsum_b (code:=_) (by kernel_rfl) HA6.out HI.out.len (fun _ _ _ _ _ h=>h) ?_
   intros
   rename_i W7 HB7
   have hVU:=sumBlocks_u L j
   have HV:=Lib.hid (show mixM (sumBlocks v8First L j) ((L.drop (64*j)).take 64)=sumBlocks v8First L (j+1)from rfl)
   have HM:=Lib.hid (show mixM (sumBlocks v8First L j) ((L.drop (64*j)).take 64)=(mixRounds (sumBlocks v8First L j) (ws ((L.drop (64*j)).take 64) 64) 64).add (sumBlocks v8First L j)from rfl)
   generalize sumBlocks v8First L j=V at *
   obtain⟨Va,Vb,Vc,Vd,Ve,Vf,Vg,Vh⟩:=V
   have t0:=HB7.out.v.cell (i:=0) rfl
   have t1:=HB7.out.v.cell (i:=1) rfl
   have t2:=HB7.out.v.cell (i:=2) rfl
   have t3:=HB7.out.v.cell (i:=3) rfl
   have t4:=HB7.out.v.cell (i:=4) rfl
   have t5:=HB7.out.v.cell (i:=5) rfl
   have t6:=HB7.out.v.cell (i:=6) rfl
   have t7:=HB7.out.v.cell (i:=7) rfl
   have HVU:=Lib.hid hVU
   clear hVU HA6
   go_upto_region 18 with fail
   go_quiet (fail)
   go_upto_block 6 with fail
   refine rsum_c (V:=⟨Va,Vb,Vc,Vd,Ve,Vf,Vg,Vh⟩) (code:=_) (by kernel_rfl) (HB7.out.same ((Kept.refl _ _).drewN _)) HVU.out HX.out.2.1 (by have:=HZ.out;omega) (by have:=HZ.out;omega) (fun _ _ _ _ _ h=>h) ?_
   intro X
   intros
   rename_i W8 HC8
   clear t0 t1 t2 t3 t4 t5 t6 t7 HB7
   obtain⟨Xa,Xb,Xc,Xd,Xe,Xf,Xg,Xh⟩:=X
   have t0:=HC8.out.2.v.cell (i:=0) rfl
   have t1:=HC8.out.2.v.cell (i:=1) rfl
   have t2:=HC8.out.2.v.cell (i:=2) rfl
   have t3:=HC8.out.2.v.cell (i:=3) rfl
   have t4:=HC8.out.2.v.cell (i:=4) rfl
   have t5:=HC8.out.2.v.cell (i:=5) rfl
   have t6:=HC8.out.2.v.cell (i:=6) rfl
   have t7:=HC8.out.2.v.cell (i:=7) rfl
   have z0:=HC8.out.2.v.free 0
   have z1:=HC8.out.2.v.free 1
   have z2:=HC8.out.2.v.free 2
   have z3:=HC8.out.2.v.free 3
   have z4:=HC8.out.2.v.free 4
   have z5:=HC8.out.2.v.free 5
   have z6:=HC8.out.2.v.free 6
   have z7:=HC8.out.2.v.free 7
   go_wp2_with fail
   refine⟨⟨j+1,T+64,HT.out.2,by go_num,Lib.hid ⟨by have:=HT.out.1;omega,ws ((L.drop (64*j)).take 64) 64,?_⟩⟩,by have:=HT.out.2;simp[intOf];omega⟩
   rw[<- HV.out,HM.out,<- HC8.out.1]
   exact HC8.out.2.eight ⟨Xa,Xb,Xc,Xd,Xe,Xf,Xg,Xh⟩
  ·obtain rfl:T=n:=by omega
   have y1:decide ((T:Int)<(T:Int))=false:=decide_eq_false (by omega)
   have y2:decide (T<T)=false:=decide_eq_false (by omega)
   obtain⟨hTj,O,hI⟩:=HR.out
   have hj:j=T/64:=by omega
   have HSV:=Lib.hid (show shaF s.data.toList=(sumBlocks v8First L j).out from by rw[hj];exact hSH.out)
   have hVU:=sumBlocks_u L j
   generalize sumBlocks v8First L j=V at *
   have HI:=Lib.hid hI
   have HVU:=Lib.hid hVU
   clear hTj hj hI hVU HR hlt
   go_upto_region 27 with fail
   generalize hWb:World.alloc wr _=Wb
   have HWB:=Lib.hid (show Blk Wb wr.heap.size (zeros 32) 30/\Kept (fun _=>False) wr Wb from by
    rw[<- hWb]
    exact⟨Blk.new wr (zeros 32) 30,(Kept.refl _ _).alloc _⟩)
   clear hWb
   go_upto_block 8 with fail
   have hne:wr.heap.size≠rb:=by have:=HI.out.v.lt;omega
   refine rsum_d (V:=V) (code:=_) (by kernel_rfl) (HI.out.v.kept HWB.out.2 id) HVU.out HWB.out.1 hne (fun _ _ _ _ _ h=>h) ?_
   intros
   rename_i W9 HD9
   have hol:V.out.length=32:=V8.out_len V
   have hkk:Kept (fun k=>k=rb\/k=wb\/k=wr.heap.size) W5 W9:=((HI.out.kept.mono (fun k _ q=>q.elim Or.inl (fun e=>Or.inr (Or.inl e)))).trans (HWB.out.2.mono (fun _ _=>False.elim))).trans (HD9.out.2.mono (fun k _ e=>Or.inr (Or.inr e)))
   have hwr:W5.heap.size<=wr.heap.size:=HI.out.kept.size
   have h0:w.heap.size<W5.heap.size:=HX.out.2.2.1.lt
   have hres:Blk W9 w.heap.size (zeros 32) 30:=HX.out.2.2.1.kept hkk (by have:=HZ.out;omega)
   have hs:=hres.setCells 0 (bytes8 V.out) (by rw[bytes8_len,hol,zeros_len];omega)
   rw[splice_whole (by rw[bytes8_len,hol,zeros_len])]at hs
   have HR9:=Lib.hid (And.intro HD9.out.1.range0 (And.intro (show(Tryz.prog.info? 30).map (·.size)=some (bytes8 V.out).length by rw[bytes8_len,hol];exact info_h32) (And.intro (hres.there 0 (bytes8 V.out).toArray.size (by rw[List.size_toArray,bytes8_len,hol,zeros_len];omega)) (And.intro hs hkk))))
   clear hol hres hs hkk hne
   generalize hob:wr.heap.size=ob at *
   go_wp2_with (first
    | ((with_reducible show wpList _ _ _ (⟨some 251,_,_,_,_,_⟩::_) _ _);refine wpList_load_mid rfl 30 _ rfl ob 0 rfl (bytes8 V.out) _ HR9.out.1 Tryz.underlying30 rfl HR9.out.2.1 ?_)
    | ((with_reducible show wpList _ _ _ (⟨none,.store _ (.tmp 2) _,_,_,_,_⟩::_) _ _);refine wpList_store_mid rfl 30 _ _ rfl w.heap.size 0 (bytes8 V.out).toArray rfl rfl HR9.out.2.2.1 (by rw[List.size_toArray];exact HR9.out.2.1) (all_oneCell_toArray u8_oneCell) ?_))
   have hz5:=HX.out.2.2.2.size
   have hzz:=HZ.out
   exact bodyPost_ret (v:=.agg (bytes8 V.out).toArray) (HR9.out.2.2.2.1.result rfl rfl Tryz.underlying30 rfl HR9.out.2.1) rfl ⟨by rw[HSV.out],(HX.out.2.2.2.then_ HR9.out.2.2.2.2 (fun i hi e=>by omega)).then_ (kept_setCells _ _ _ _) (fun i hi e=>by omega)⟩
theorem app_byte {w0 w:World} {v:Value} {l:List UInt8} (h:Row w 5 1 v (bytes8 l)) (hk:Kept (fun _=>False) w0 w) (ho:∀ k,v.ownBlock=some k->w0.heap.size<=k) (b:UInt8) (hl:l.length<=10000000) :
  ∃ a cap w',(Builtin.append_ #[72,72] 72 #[v,.slice (some ⟨w.heap.size,0,none⟩) 1 1]).run Tryz.prog (w.alloc (.cells #[.int .u8 (b.toNat:Int)] 5)) = .ok (.slice a (l.length+1) cap) w' /\
   Hid (Row w' 5 1 (.slice a (l.length+1) cap) (bytes8 (l++[b]))/\Kept (fun _=>False) w0 w'/\∀ k,(Value.slice a (l.length+1) cap).ownBlock=some k->w0.heap.size<=k):=by
 obtain⟨i0,hi,hz,hsz,hby⟩:=info_parts info_u8
 have hb:=Blk.new w [.int .u8 (b.toNat:Int)] 5
 have h1:=h.alloc (.cells #[.int .u8 (b.toNat:Int)] 5)
 obtain⟨v',w',hr,hrow,hk2,ho2⟩:=h1.append_cells (P:=Tryz.prog) (t:=72) Tryz.underlying72 hi hz hsz rfl (by omega) (by rw[hby];decide) ⟨w.heap.size,0,none⟩ 1 1 [.int .u8 (b.toNat:Int)] rfl
  (fun j u hu=>by rw[addr0_add];exact hb.cell hu) (fun u hu=>by simp at hu;subst hu;rfl) (by omega) (by rw[bytes8_len];simp;omega) 72
 obtain⟨a,n,cap,rfl,hn,_⟩:=hrow.form (by omega)
 have e:n=l.length+1:=by rw[List.length_append,bytes8_len]at hn;simpa using hn
 subst e
 have hz:=hk.size
 refine⟨a,cap,w',hr,Lib.hid ⟨by rw[bytes8_snoc];exact hrow,(hk.alloc _).then_ hk2 (fun i hi q=>by have:=ho i q;omega),fun k q=>?_⟩⟩
 rcases ho2 k q with q|q
 ·exact ho k q
 ·rw[World.size_alloc]at q;omega
theorem rhash_any (w:World) (h:List UInt8) (hl:h.length=32) :
  Calls Tryz.prog 28 #[hashV h] w fun e w'=>e = .returned (.string ⟨h.toArray⟩)/\Kept (fun _=>False) w w':=by
 have hb:=Blk.new w (bytes8 h) 30
 have hk0:Kept (fun _=>False) w (w.alloc (.cells (bytes8 h).toArray 30)):=(Kept.refl _ _).alloc _
 have HB:=Lib.hid (And.intro hb hk0)
 have HL:=Lib.hid hl
 clear hb hk0 hl
 go_enter Tryz.func28,Tryz.ntmps28
 go_wp2_with fail
 go_loopw [3,4] (fun x y wr=>∃ (k cap:Nat) (a:Option Addr),x = .slice a k cap/\y = .int .i64 (k:Int)/\k<=32/\Hid (Row wr 5 1 (.slice a k cap) (bytes8 (h.take k))/\(Kept (fun _=>False) w wr/\∀ j,(Value.slice a k cap).ownBlock=some j->w.heap.size+1<=j)/\Kept (fun _=>False) (w.alloc (.cells (bytes8 h).toArray 30)) wr)) (fun _ y _=>(32-intOf y).toNat)
 case atStart=>exact⟨0,0,none,rfl,rfl,by omega,Lib.hid ⟨Row.nil _ _ _,⟨HB.out.2,fun j q=>by simp[Value.ownBlock]at q⟩,Kept.refl _ _⟩⟩
 case round =>
  obtain⟨k,cap,a,rfl,rfl,hk,HR⟩:=hrel
  by_cases h32:k<32
  ·have q1:decide ((k:Int)<32)=true:=decide_eq_true (by omega)
   obtain⟨x,hx⟩:∃ x,h[k]? = some x:=⟨_,List.getElem?_eq_getElem (by have:=HL.out;omega)⟩
   have hc:wr.cell? ⟨w.heap.size,k,none⟩=some (.int .u8 (x.toNat:Int)):=(HB.out.1.kept HR.out.2.2 id).cell (by simp[bytes8,hx])
   have hlt:(h.take k).length=k:=by rw[List.length_take];have:=HL.out;omega
   obtain⟨a2,cap2,w3,hr,H2⟩:=app_byte HR.out.1 HR.out.2.2 (fun j q=>by rw[World.size_alloc];exact HR.out.2.1.2 j q) x (by omega)
   rw[hlt]at hr H2
   have ht:h.take k++[x]=h.take (k+1):=by rw[List.take_add_one,hx];rfl
   rw[ht]at H2
   have HN:=Lib.hid (show Row w3 5 1 (.slice a2 (k+1) cap2) (bytes8 (h.take (k+1)))/\(Kept (fun _=>False) w w3/\∀ j,(Value.slice a2 (k+1) cap2).ownBlock=some j->w.heap.size+1<=j)/\Kept (fun _=>False) (w.alloc (.cells (bytes8 h).toArray 30)) w3 from
    ⟨H2.out.1,⟨HB.out.2.trans H2.out.2.1,fun j q=>by have:=H2.out.2.2 j q;rw[World.size_alloc]at this;exact this⟩,H2.out.2.1⟩)
   clear HR H2 ht hlt hx
   go_wp2_with (refine Lib.wpList_append_run _ rfl _ _ 72 72 rfl _ _ rfl rfl _ _ hr ?_)
   go_roundw
   case rel=>exact⟨k+1,cap2,a2,rfl,by go_num,by omega,HN⟩
   case measure=>simp[intOf];omega
  ·obtain rfl:k=32:=by omega
   have ht:(convert 72 9 (.slice a 32 cap)).run Tryz.prog wr = .ok (.string ⟨h.toArray⟩) wr:=by
    have h1:=HR.out.1.view
    rw[List.take_of_length_le (by have:=HL.out;omega)]at h1
    exact h1.text
   have HK:=Lib.hid HR.out.2.1.1
   clear HR h32 hk
   go_wp2_with fail
   go_ret
   exact⟨rfl,HK.out⟩
theorem rnode_any (w:World) (a b:By) (ha:a.length=32) (hb:b.length=32) (ht:Tab w) :
  Calls Tryz.prog 137 #[hashV a,hashV b] w fun e w'=>e = .returned (hashV (nodeF a b))/\Kept (fun _=>False) w w':=by
 have HA:=Lib.hid (fun w'=>rhash_any w' a ha)
 have HB:=Lib.hid (fun w'=>rhash_any w' b hb)
 have hcat:(⟨#[1]⟩:ByteArray)++⟨a.toArray⟩++⟨b.toArray⟩=⟨(1::(a++b)).toArray⟩:=bstr_eq (by simp[ByteArray.data_append])
 have hsum:∀ w',Tab w'->Calls Tryz.prog 26 #[.string (⟨#[1]⟩++⟨a.toArray⟩++⟨b.toArray⟩)] w' fun e w''=>e = .returned (.agg (bytes8 (nodeF a b)).toArray)/\Kept (fun _=>False) w' w'':=by
  intro w' ht'
  rw[hcat]
  exact rsum_any w' ⟨(1::(a++b)).toArray⟩ (by show(1::(a++b)).toArray.size<=1000000;simp;omega)
 have HS:=Lib.hid hsum
 have hN:=nodeF_len a b
 clear hsum hcat
 generalize nodeF a b=H at *
 have x1:(⟨#[1]⟩:ByteArray).size+(⟨a.toArray⟩:ByteArray).size<=33:=by show 1+a.toArray.size<=33;simp;omega
 have hW:∃ W:World,W=((w.alloc (.cells (bytes8 a).toArray 30)).alloc (.cells (bytes8 b).toArray 30)).alloc (.cells (zeros 32).toArray 30):=⟨_,rfl⟩
 obtain⟨W,hW⟩:=hW
 have b0:Blk W w.heap.size (bytes8 a) 30:=by rw[hW];exact((Blk.new w (bytes8 a) 30).alloc _).alloc _
 have b1:Blk W (w.heap.size+1) (bytes8 b) 30:=by
  have:=Blk.new (w.alloc (.cells (bytes8 a).toArray 30)) (bytes8 b) 30
  rw[World.size_alloc]at this
  rw[hW];exact this.alloc _
 have b2:Blk W (w.heap.size+1+1) (zeros 32) 30:=by
  have:=Blk.new ((w.alloc (.cells (bytes8 a).toArray 30)).alloc (.cells (bytes8 b).toArray 30)) (zeros 32) 30
  rw[World.size_alloc,World.size_alloc]at this
  rw[hW];exact this
 have kW:Kept (fun _=>False) w W:=by rw[hW];exact(((Kept.refl _ _).alloc _).alloc _).alloc _
 have l0:=b0.lt
 have l1:=b1.lt
 have S0:W.drew.rangeAt w.heap.size 0 (bytes8 a)/\W.drew.rangeAt (w.heap.size+1) 0 (bytes8 b)/\(∃ C:List Value,C.length=32/\Blk W.drew (w.heap.size+1+1) C 30)/\Kept (· = w.heap.size+1+1) W W.drew :=
  ⟨(b0.drew).range0,(b1.drew).range0,⟨_,zeros_len 32,b2.drew⟩,(Kept.refl _ _).drew⟩
 have ia:(Tryz.prog.info? 30).map (·.size)=some (bytes8 a).length:=by rw[bytes8_len,ha];exact info_h32
 have ib:(Tryz.prog.info? 30).map (·.size)=some (bytes8 b).length:=by rw[bytes8_len,hb];exact info_h32
 have iH:(Tryz.prog.info? 30).map (·.size)=some (bytes8 H).length:=by rw[bytes8_len,hN];exact info_h32
 have oH:∀ v∈bytes8 H,v.oneCell'=true:=u8_oneCell
 have lH:(bytes8 H).length=32:=by rw[bytes8_len,hN]
 have hu:=Tryz.underlying30
 go_enter Tryz.func137,Tryz.ntmps137
 go_wp2_with fail
 change Code.wp _ _ _ _ (((w.alloc (.cells (bytes8 a).toArray 30)).alloc (.cells (bytes8 b).toArray 30)).alloc (.cells (zeros 32).toArray 30))
 rw[<- hW]
 clear hW
 refine wp_region_held_drew (S:=(fun w'=>w'.rangeAt w.heap.size 0 (bytes8 a)/\w'.rangeAt (w.heap.size+1) 0 (bytes8 b)/\(∃ C:List Value,C.length=32/\Blk w' (w.heap.size+1+1) C 30)/\Kept (· = w.heap.size+1+1) W w')) (by kernel_rfl) S0 (fun hH0=>?_)
 refine tky 0 rfl (fun _ _ _ h=>h) (yieldsIf_load_mid (by rfl) _ _ rfl _ _ rfl (bytes8 a) _ (fun w h=>h.1) hu rfl ia) hH0 ?_
 refine tky 3 rfl (fun _ _ _ h=>h) (yieldsIf_load_mid (by rfl) _ _ rfl _ _ rfl (bytes8 b) _ (fun w h=>h.2.1) hu rfl ib) hH0 ?_
 refine rd1 1 (fun K hK=>?_)
 go_simp
 refine(HA.out _).mono ?_
 rintro e w3 ⟨rfl,hk3⟩
 refine hK.out _ _ (node_next hH0 l0 l1 hk3) (fun hH1=>?_)
 clear hK K
 try simp only[lyA,lyB,lyC,lyD]
 refine tl 2 (v:=.string (⟨#[1]⟩++⟨a.toArray⟩)) rfl (fun _ _ _ h=>h) (Or.inl ⟨by rfl,fun w hSw=>?_⟩) hH1 ?_
 ·clear hSw;go_simp
 try simp only[lyA,lyB,lyC,lyD]
 refine rd1 4 (fun K hK=>?_)
 go_simp
 refine(HB.out _).mono ?_
 rintro e w4 ⟨rfl,hk4⟩
 refine hK.out _ _ (node_next hH1 l0 l1 hk4) (fun hH2=>?_)
 clear hK K
 try simp only[lyA,lyB,lyC,lyD]
 refine tl 5 (v:=.string (⟨#[1]⟩++⟨a.toArray⟩++⟨b.toArray⟩)) rfl (fun _ _ _ h=>h) (Or.inl ⟨by rfl,fun w hSw=>?_⟩) hH2 ?_
 ·clear hSw;go_simp
 try simp only[lyA,lyB,lyC,lyD]
 refine rd1 6 (fun K hK=>?_)
 go_simp
 refine(HS.out _ (node_tab hH2 ht kW (by omega))).mono ?_
 rintro e w5 ⟨rfl,hk5⟩
 refine hK.out _ _ (node_next hH2 l0 l1 hk5) (fun hH3=>?_)
 clear hK K
 try simp only[lyA,lyB,lyC,lyD]
 refine rd1 7 (fun K hK=>?_)
 obtain⟨_,_,⟨C,hC,hb5⟩,hk6⟩:=id hH3
 have hst:=hash_stored hb5 hC hN
 rw[if_pos (by rfl)]
 refine wp_store_mid _ _ _ rfl (w.heap.size+1+1) 0 (bytes8 H).toArray rfl rfl hst.1 ?_ (all_oneCell_toArray oH) ?_
 ·rw[List.size_toArray];exact iH
 simp only[Act.put]
 refine hK.out _ _ (node_store hH3 l0 l1 (by omega) (by omega) lH) (fun hH4=>?_)
 clear hK K
 refine dn ?_
 go_wp2_with fail
 refine bodyPost_ret (hst.2.result rfl rfl Tryz.underlying30 rfl iH) rfl ⟨rfl,?_⟩
 exact kW.then_ hH4.2.2.2 (fun i hi e=>by omega)
theorem rframe_any (w:World) (s:ByteArray) (hs:s.size<=65536) :
  Calls Tryz.prog 6 #[.string s] w fun e w'=>e = .returned (.tuple #[.string (strB (frameF s.data.toList)),.int .i64 0])/\Kept (fun _=>False) w w':=by
 have x0:decide (65536<(s.size:Int))=false:=decide_eq_false (by omega)
 have x1:=wrap_u64 (n:=s.size) (U64n.small (by omega))
 have HP:=Lib.hid (fun w'=>rput_any w' s.size (by omega) 4 (by omega))
 have hb4:(⟨(be 4 s.size).toArray⟩:ByteArray).size=4:=by show(be 4 s.size).toArray.size=4;rw[List.size_toArray,be_len]
 have x2:(⟨(be 4 s.size).toArray⟩:ByteArray).size+s.size<=900004:=by omega
 have hsum:∀ w',Calls Tryz.prog 26 #[.string (⟨(be 4 s.size).toArray⟩++s)] w' fun e w''=>e = .returned (.agg (bytes8 (shaF (be 4 s.size++s.data.toList))).toArray)/\Kept (fun _=>False) w' w'':=by
  intro w'
  have:=rsum_any w' (⟨(be 4 s.size).toArray⟩++s) (by rw[ByteArray.size_append];omega)
  rwa[bstr_append]at this
 have HS:=Lib.hid hsum
 clear hsum
 have hm:strB (frameF s.data.toList)=(⟨(be 4 s.size).toArray⟩++⟨((shaF (be 4 s.size++s.data.toList)).take 8).toArray⟩)++s:=by
  rw[bstr_cat]
  refine(bstr_eq ?_).symm
  rw[bstr_append]
  unfold frameF markF
  rw[bstr_len]
 have HM:=Lib.hid hm
 clear hm
 have hl:=shaF_len (be 4 s.size++s.data.toList)
 have hh8:(⟨((shaF (be 4 s.size++s.data.toList)).take 8).toArray⟩:ByteArray).size=8:=by show(List.toArray _).size=8;rw[List.size_toArray,List.length_take,hl];rfl
 generalize shaF (be 4 s.size++s.data.toList)=H at *
 generalize be 4 s.size=B at *
 obtain⟨nb,hnb⟩:∃ nb:ByteArray,⟨B.toArray⟩=nb:=⟨_,rfl⟩
 obtain⟨h8,hh⟩:∃ h8:ByteArray,⟨(H.take 8).toArray⟩=h8:=⟨_,rfl⟩
 rw[hnb]at HP x2 HS HM hb4
 rw[hh]at HM hh8
 have HH:=Lib.hid hh
 have HI:=Lib.hid (info_hash hl)
 have HL:=Lib.hid hl
 have x3:nb.size<=4:=by omega
 have x4:h8.size<=8:=by omega
 clear hl hb4 hh8 hnb hh
 go_enter Tryz.func6,Tryz.ntmps6
 go_wp2_with (first|(go_at_call 25;refine(HP.out _).mono ?_;rintro e w1 ⟨rfl,hk1⟩)|(go_at_call 26;refine(HS.out _).mono ?_;rintro e w2 ⟨rfl,hk2⟩;have HB:=Lib.hid (hash_stored (Blk.new w2 (zeros 32) 30) (zeros_len 32) HL.out))|(refine wpList_store_mid rfl 30 _ _ rfl w2.heap.size 0 (bytes8 H).toArray rfl rfl ?hth ?hi ?h1 ?hk;(case' hk=>generalize hw3:World.setCells _ w2.heap.size 0 _=w3;have hb3:Blk w3 w2.heap.size (bytes8 H) 30:=(by rw[<- hw3];exact HB.out.2);have hst:=head_string (n:=8) (cap:=32) hb3 (by rw[HL.out];omega);rw[HH.out]at hst)))
 case hth=>exact HB.out.1
 case hi=>exact HI.out
 case h1=>exact all_oneCell_toArray (fun x hx=>u8_oneCell x hx)
 go_ret2
 refine⟨by rw[HM.out];rfl,?_⟩
 subst hw3
 exact((hk1.trans hk2).alloc _).then_ (kept_setCells _ _ _ _) (fun i hi e=>by have:=(hk1.trans hk2).size;omega)
theorem rframe_long (w:World) (s:ByteArray) (hs:65536<s.size) :
  Calls Tryz.prog 6 #[.string s] w fun e w'=>e = .returned (.tuple #[.string ⟨#[]⟩,.int .i64 3])/\w=w':=by
 have x0:decide (65536<(s.size:Int))=true:=decide_eq_true (by omega)
 have x2:decide (65536<s.size)=true:=decide_eq_true hs
 clear hs
 go_enter Tryz.func6,Tryz.ntmps6
 go_wp2_with fail
 go_ret2
 exact⟨rfl,rfl⟩
theorem mid_strB (l:By) (a b:Nat):(strB l).extract a b=strB ((l.drop a).take (b-a)):=bstr_eq (by rw[ByteArray.data_extract,Array.toList_extract,List.extract_eq_take_drop])
theorem frame_is {t:By} {N:Nat} (h:N+12<=t.length):frameF ((t.drop 12).take N)=t.take (12+N)↔markF ((t.drop 12).take N)=t.take 12:=by
 unfold frameF
 rw[List.take_add]
 constructor
 ·intro q
  exact(List.append_inj q (by rw[markF_len,List.length_take];omega)).1
 ·intro q
  rw[q]
theorem cut_no1 {t:By} (h:t.length<12):cutF t=none:=by unfold cutF;rw[if_pos h]
theorem cut_no2 {t:By} (h:¬ t.length<12) (h2:65536<ofBe (t.take 4)\/t.length<ofBe (t.take 4)+12):cutF t=none:=by unfold cutF;rw[if_neg h,if_pos h2]
theorem cut_no3 {t:By} (h:¬ t.length<12) (h2:¬ (65536<ofBe (t.take 4)\/t.length<ofBe (t.take 4)+12)) (h3:¬ markF ((t.drop 12).take (ofBe (t.take 4)))=t.take 12):cutF t=none:=by unfold cutF;rw[if_neg h,if_neg h2,if_neg h3]
theorem cut_yes {t:By} (h:¬ t.length<12) (h2:¬ (65536<ofBe (t.take 4)\/t.length<ofBe (t.take 4)+12)) (h3:markF ((t.drop 12).take (ofBe (t.take 4)))=t.take 12):cutF t=some ((t.drop 12).take (ofBe (t.take 4)),t.drop (12+ofBe (t.take 4))):=by unfold cutF;rw[if_neg h,if_neg h2,if_pos h3]
theorem bstr_linj {s t:ByteArray} (h:s.toList=t.toList):s=t:=by
 rw[ByteArray.toList_eq,ByteArray.toList_eq]at h
 exact bstr_eq h
def GetTo (a:Nat) (c:Option (By × By)) (e:Ending):Prop:=match c with
 | none=>e = .returned (.tuple #[.string ⟨#[]⟩,.int .i64 0,.bool false])
 | some x=>e = .returned (.tuple #[.string (strB x.1),.int .i64 ((a+(12+x.1.length):Nat):Int),.bool true])
theorem rcut_any (w:World) (l:By) (hl:l.length<=2000000) (a:Nat) (ha:a<=l.length) :
  Calls Tryz.prog 83 #[.string (strB l),.int .i64 (a:Int)] w fun e w'=>GetTo a (cutF (l.drop a)) e/\Kept (fun _=>False) w w':=by
 obtain⟨bs,hbs⟩:∃ bs,strB l=bs:=⟨_,rfl⟩
 have hbl:bs.size=l.length:=by rw[<- hbs];exact strB_size l
 obtain⟨t,ht⟩:∃ t,l.drop a=t:=⟨_,rfl⟩
 have htl:t.length=l.length-a:=by rw[<- ht,List.length_drop]
 have x1:decide ((bs.size:Int)<(a:Int))=false:=decide_eq_false (by omega)
 have x2:decide (bs.size<a)=false:=decide_eq_false (by omega)
 have hab:a<=bs.size:=by omega
 have hbz:bs.size<=2000000:=by omega
 rw[hbs,ht]
 by_cases h12:t.length<12
 ·have x3:decide ((bs.size:Int)-(a:Int)<12)=true:=decide_eq_true (by omega)
  rw[cut_no1 h12]
  clear h12 htl ht hbl hbs ha hl
  go_enter Tryz.func83,Tryz.ntmps83
  go_wp2_with fail
  go_ret3
  exact⟨rfl,Kept.refl _ _⟩
 ·have x3:decide ((bs.size:Int)-(a:Int)<12)=false:=decide_eq_false (by omega)
  obtain⟨n,hn⟩:∃ n,ofBe (t.take 4)=n:=⟨_,rfl⟩
  have hn32:n<4294967296:=by
   have:=ofBe_lt (t.take 4)
   rw[hn,List.length_take,Nat.min_eq_left (by omega)]at this
   exact this
  have hg:=fun w=>rget_any w (strB (t.take 4)) (by rw[strB_size,List.length_take];omega)
  have e4:strB (t.take 4)=bs.extract a (a+4):=by
   rw[<- hbs,mid_strB,ht,Nat.add_sub_cancel_left]
  rw[strB_data,hn,e4]at hg
  have HG:=Lib.hid hg
  have hlt4:a+4<=bs.size:=by omega
  clear e4 hg
  by_cases hbig:t.length<n+12
  ·have x4:decide ((bs.size:Int)-(a:Int)-12<(n:Int))=true:=decide_eq_true (by omega)
   rw[cut_no2 h12 (Or.inr (by rw[hn];exact hbig))]
   have hd0:0<=(bs.size:Int)-(a:Int)-12:=by omega
   clear h12 htl ht hbl hbs ha hl hbig hn
   go_enter Tryz.func83,Tryz.ntmps83
   go_wp2_with (go_at_call 114;refine(HG.out _).mono ?_;rintro e w' ⟨rfl,rfl⟩)
   go_ret3
   exact⟨rfl,Kept.refl _ _⟩
  ·have x4:decide ((bs.size:Int)-(a:Int)-12<(n:Int))=false:=decide_eq_false (by omega)
   have hd0:0<=(bs.size:Int)-(a:Int)-12:=by omega
   have hend:a+12+n<=bs.size:=by omega
   have ep:(strB ((t.drop 12).take n))=bs.extract (a+12) (a+12+n):=by
    rw[<- hbs,mid_strB,Nat.add_sub_cancel_left,<- ht,List.drop_drop]
   have hpl:((t.drop 12).take n).length=n:=by rw[List.length_take,List.length_drop];omega
   by_cases hlong:65536<n
   ·rw[cut_no2 h12 (Or.inl (by rw[hn];exact hlong))]
    have hf:=fun w=>rframe_long w (strB ((t.drop 12).take n)) (by rw[strB_size,hpl];exact hlong)
    rw[ep]at hf
    have HF:=Lib.hid hf
    clear h12 htl ht hbl hbs ha hl hbig hn hf ep hpl hlong
    go_enter Tryz.func83,Tryz.ntmps83
    go_wp2_with (first|(go_at_call 114;refine(HG.out _).mono ?_;rintro e w' ⟨rfl,rfl⟩)|(go_at_call 6;refine(HF.out _).mono ?_;rintro e w' ⟨rfl,rfl⟩))
    go_ret3
    exact⟨rfl,Kept.refl _ _⟩
   ·have hf:=fun w=>rframe_any w (strB ((t.drop 12).take n)) (by rw[strB_size,hpl];omega)
    rw[strB_data,ep]at hf
    have hfl:(strB (frameF ((t.drop 12).take n))).size=12+n:=by rw[strB_size,frameF_len,hpl]
    have ex:strB (t.take (12+n))=bs.extract a (a+12+n):=by
     rw[<- hbs,mid_strB,ht,show a+12+n-a=12+n by omega]
    by_cases hq:markF ((t.drop 12).take n)=t.take 12
    ·have hc:=cut_yes h12 (by rw[hn];omega) (by rw[hn];exact hq)
     rw[hn]at hc
     rw[hc]
     rw[(frame_is (by omega)).2 hq,ex]at hf hfl
     have HF:=Lib.hid hf
     have HE:=Lib.hid (And.intro hfl (And.intro ep hpl))
     clear h12 htl ht hbl hbs ha hl hbig hn hf ep hpl hq hc ex hfl
     go_enter Tryz.func83,Tryz.ntmps83
     go_wp2_with (first|(go_at_call 114;refine(HG.out _).mono ?_;rintro e w' ⟨rfl,rfl⟩)|(go_at_call 6;refine(HF.out _).mono ?_;rintro e w2 ⟨rfl,hk2⟩))
     go_ret3
     refine⟨?_,hk2⟩
     unfold GetTo
     dsimp only
     rw[HE.out.2.1,HE.out.2.2]
     rw[show(a:Int)+((a+12+n-a:Nat):Int)=((a+(12+n):Nat):Int) by omega]
     rfl
    ·rw[cut_no3 h12 (by rw[hn];omega) (by rw[hn];exact hq)]
     obtain⟨fb,hfb⟩:∃ fb,strB (frameF ((t.drop 12).take n))=fb:=⟨_,rfl⟩
     have hne:fb≠bs.extract a (a+12+n):=by
      rw[<- hfb,<- ex]
      intro h
      exact hq ((frame_is (by omega)).1 (bstr_inj h))
     rw[hfb]at hf hfl
     have HF:=Lib.hid hf
     have y9:(fb.toList==(bs.extract a (a+12+n)).toList)=false:=by rw[beq_eq_false_iff_ne];exact fun h=>hne (bstr_linj h)
     clear h12 htl ht hbl hbs ha hl hbig hn hf ep hpl hq ex hfb hfl hne
     go_enter Tryz.func83,Tryz.ntmps83
     go_wp2_with (first|(go_at_call 114;refine(HG.out _).mono ?_;rintro e w' ⟨rfl,rfl⟩)|(go_at_call 6;refine(HF.out _).mono ?_;rintro e w2 ⟨rfl,hk2⟩))
     go_ret3
     exact⟨rfl,hk2⟩
def valM (l:By):Nat:=l.foldl (fun a b=>(a*128%18446744073709551616+b.toNat%128)%18446744073709551616) 0
theorem valM_snoc (l:By) (b:UInt8):valM (l++[b])=(valM l*128%18446744073709551616+b.toNat%128)%18446744073709551616:=by unfold valM;rw[List.foldl_append];rfl
theorem valM_lt (l:By):U64n (valM l):=by
 unfold U64n
 rcases List.eq_nil_or_concat l with rfl|⟨r,b,rfl⟩
 ·decide
 ·rw[List.concat_eq_append,valM_snoc];exact Nat.mod_lt _ (by decide)
theorem num_form {m:Nat} (h:m<=4096):(m<128/\numL m=[UInt8.ofNat m])\/(128<=m/\numL m=[UInt8.ofNat (m/128+128),UInt8.ofNat (m%128)]):=by
 by_cases hm:m<128
 ·exact Or.inl ⟨hm,num_low hm⟩
 ·refine Or.inr ⟨by omega,?_⟩
  rw[num_high,ahead_low (by omega) (by omega)]
  rfl
theorem nat_u8 {n:Nat} (h:n<256):(UInt8.ofNat n).toNat=n:=by rw[UInt8.toNat_ofNat'];omega
theorem num_ends {l rest:By} {m k:Nat} (hm:m<=4096) (h:l=numL m++rest) (hall:∀ (j:Nat) (b:UInt8),l[j]? = some b->j<k->128<=b.toNat):k<=1/\k<l.length/\(∀ b,l[k]? = some b->b.toNat<128->l.take (k+1)=numL m/\l.drop (k+1)=rest/\valM (numL m)=m):=by
 rcases num_form hm with⟨h1,h2⟩|⟨h1,h2⟩
 ·rw[h2]at h
  subst h
  have hb:=nat_u8 (n:=m) (by omega)
  have h0:k=0:=by
   rcases Nat.eq_zero_or_pos k with q|q
   ·exact q
   ·have:=hall 0 (UInt8.ofNat m) rfl q;omega
  subst h0
  refine⟨by omega,by simp,fun b _ _=>⟨by rw[h2];rfl,rfl,?_⟩⟩
  rw[h2]
  unfold valM
  simp only[List.foldl_cons,List.foldl_nil,hb]
  omega
 ·rw[h2]at h
  subst h
  have hb0:=nat_u8 (n:=m/128+128) (by omega)
  have hb1:=nat_u8 (n:=m%128) (by omega)
  have h0:k<=1:=by
   rcases Nat.lt_or_ge 1 k with q|q
   ·have:=hall 1 (UInt8.ofNat (m%128)) rfl q;omega
   ·exact q
  refine⟨h0,by simp;omega,fun b hb hlt=>?_⟩
  have h1:k=1:=by
   rcases Nat.eq_zero_or_pos k with q|q
   ·subst q
    have hb':some (UInt8.ofNat (m/128+128))=some b:=hb
    cases hb'
    omega
   ·omega
  subst h1
  refine⟨by rw[h2];rfl,rfl,?_⟩
  rw[h2]
  unfold valM
  simp only[List.foldl_cons,List.foldl_nil,hb0,hb1]
  omega
def RReadPost (s:ByteArray) (w:World) (e:Ending) (w':World):Prop :=
 ∃ (n:Nat) (t:ByteArray) (b:Bool),e = .returned (.tuple #[.int .u64 (n:Int),.string t,.bool b])/\U64n n/\t.size<=s.size/\(∀ (m:Nat) (rest:By),m<=4096->s.data.toList=numL m++rest->n=m/\t.data.toList=rest)/\Kept (fun _=>False) w w'
theorem rread_bad {s:ByteArray} {w w':World} (hk:Kept (fun _=>False) w w') (hn:∀ (m:Nat) (rest:By),m<=4096->s.data.toList≠numL m++rest):RReadPost s w (.returned (.tuple #[.int .u64 0,.string ⟨#[]⟩,.bool false])) w' :=
 ⟨0,⟨#[]⟩,false,rfl,U64n.small (by omega),Nat.zero_le _,fun m rest hm h=>absurd h (hn m rest hm),hk⟩
theorem byte_at {s:ByteArray} {i:Nat} (h:i<s.size):s.data.toList[i]? = some (s[i]'h):=by
 rw[List.getElem?_eq_getElem (by simpa using h)]
 rfl
theorem wrap_mul64 (n:Nat):IntKind.u64.wrap ((n:Int)*128)=((n*128%18446744073709551616:Nat):Int):=by
 simp only[IntKind.wrap,IntKind.bits,IntKind.signed]
 simp
theorem wrap_add64 (n r:Nat):IntKind.u64.wrap ((n:Int)+(r:Int))=(((n+r)%18446744073709551616:Nat):Int):=by
 simp only[IntKind.wrap,IntKind.bits,IntKind.signed]
 simp
theorem rread_any (w:World) (s:ByteArray) (hs:s.size<=100000000) :
  Calls Tryz.prog 84 #[.string s] w (RReadPost s w):=by
 have HBY:=Lib.hid (fun i (h:i<s.size)=>byte_at h)
 go_enter Tryz.func84,Tryz.ntmps84
 go_wp2_with fail
 go_loop [5] (fun x=>∃ k:Nat,k<=s.size/\k<=10/\x = .int .i64 (k:Int)/\Hid (∀ (j:Nat) (b:UInt8),s.data.toList[j]? = some b->j<k->128<=b.toNat)) (fun x=>s.size-(intOf x).toNat)
 case atStart=>exact⟨0,Nat.zero_le _,by omega,rfl,Lib.hid (fun j b _ h=>absurd h (Nat.not_lt_zero _))⟩
 case round =>
  obtain⟨k,hk,hk10,rfl,HA⟩:=hrel
  by_cases hlt:k<s.size
  ·have y1:decide ((k:Int)<(s.size:Int))=true:=decide_eq_true (by omega)
   have y2:decide (k<s.size)=true:=decide_eq_true hlt
   by_cases h10:k<10
   ·have y3:decide ((k:Int)<10)=true:=decide_eq_true (by omega)
    have y4:decide (k<10)=true:=decide_eq_true h10
    have hby:=HBY.out k hlt
    have hc8:(s[k]'hlt).toNat<256:=(s[k]'hlt).toNat_lt
    obtain⟨c,hcc⟩:∃ c:Nat,(s[k]'hlt).toNat=c:=⟨_,rfl⟩
    by_cases hc:128<=c
    ·have y5:decide ((128:Int)<=(c:Int))=true:=decide_eq_true (by omega)
     have y6:decide (128<=c)=true:=decide_eq_true hc
     have HA2:=Lib.hid (show ∀ (j:Nat) (b:UInt8),s.data.toList[j]? = some b->j<k+1->128<=b.toNat from by
      intro j b hb hj
      rcases Nat.lt_or_ge j k with q|q
      ·exact HA.out j b hb q
      ·obtain rfl:j=k:=by omega
       rw[hby]at hb
       cases hb
       omega)
     clear hby hc8
     go_wp2_with fail
     go_round
     case rel=>exact⟨k+1,hlt,h10,by go_num,HA2⟩
     case measure=>simp[intOf];omega
    ·have y5:decide ((128:Int)<=(c:Int))=false:=decide_eq_false (by omega)
     have y6:decide (128<=c)=false:=decide_eq_false hc
     have z1:decide ((s.size:Int)<=(k:Int))=false:=decide_eq_false (by omega)
     have z2:decide (s.size<=k)=false:=decide_eq_false (by omega)
     have z3:decide ((9:Int)<(k:Int))=false:=decide_eq_false (by omega)
     have z4:decide (9<k)=false:=decide_eq_false (by omega)
     have HF:=Lib.hid (fun (m:Nat) (rest:By) (hm:m<=4096) (h:s.data.toList=numL m++rest)=>(num_ends hm h HA.out).2.2 _ hby (show(s[k]'hlt).toNat<128 by omega))
     clear hby hc8 HA hc
     go_wp2_with fail
     clear y1 y2 y3 y4 y5 y6 z1 z2 z3 z4 hcc
     go_loop [6,7] (fun x y=>∃ j:Nat,j<=k+1/\x = .int .u64 (valM (s.data.toList.take j):Int)/\y = .int .i64 (j:Int)) (fun _ y=>k+1-(intOf y).toNat)
     case atStart=>exact⟨0,Nat.zero_le _,rfl,rfl⟩
     case round =>
      obtain⟨j,hj,rfl,rfl⟩:=hrel
      by_cases hjk:j<=k
      ·have y1:decide ((j:Int)<=(k:Int))=true:=decide_eq_true (by omega)
       have y2:decide (j<=k)=true:=decide_eq_true hjk
       have hjs:j<s.size:=by omega
       have hby:=HBY.out j hjs
       have HV:=Lib.hid (show valM (s.data.toList.take (j+1))=(valM (s.data.toList.take j)*128%18446744073709551616+(s[j]'hjs).toNat%128)%18446744073709551616 from by
        rw[List.take_add_one,hby,Option.toList_some,valM_snoc])
       have hvl:=valM_lt (s.data.toList.take j)
       generalize valM (s.data.toList.take j)=n at *
       have hc8:(s[j]'hjs).toNat<256:=(s[j]'hjs).toNat_lt
       obtain⟨c,hcc⟩:∃ c:Nat,(s[j]'hjs).toNat=c:=⟨_,rfl⟩
       rw[hcc]at HV hc8
       obtain⟨r,hr⟩:∃ r:Nat,c%128=r:=⟨_,rfl⟩
       have e1:(c:Int)%128=(r:Int):=by omega
       have hr128:r<128:=by omega
       have u1:=wrap_u64 (n:=r) (U64n.small (by omega))
       have f1:=wrap_mul64 n
       obtain⟨m1,hm1⟩:∃ m1:Nat,n*128%18446744073709551616=m1:=⟨_,rfl⟩
       rw[hm1]at f1 HV
       rw[hr]at HV
       have f2:=wrap_add64 m1 r
       obtain⟨m2,hm2⟩:∃ m2:Nat,(m1+r)%18446744073709551616=m2:=⟨_,rfl⟩
       rw[hm2]at f2 HV
       have H0:=Lib.hid hjk
       clear hr hm1 hm2 hby hvl hj
       go_wp2_with fail
       go_round
       case rel=>exact⟨j+1,by have:=H0.out;omega,by rw[HV.out],by go_num⟩
       case measure=>have:=H0.out;simp[intOf];omega
      ·obtain rfl:j=k+1:=by omega
       have y1:decide (((k+1:Nat):Int)<=(k:Int))=false:=decide_eq_false (by omega)
       have y2:decide (k+1<=k)=false:=decide_eq_false (by omega)
       have y3:decide ((k:Int)+1<=(k:Int))=false:=decide_eq_false (by omega)
       have hvl:=valM_lt (s.data.toList.take (k+1))
       generalize hV:valM (s.data.toList.take (k+1))=n at *
       have HN:=Lib.hid (fun w'=>rnum_any w' n hvl)
       have hex:s.extract 0 (k+1)=strB (s.data.toList.take (k+1)):=bstr_eq (by rw[ByteArray.data_extract,Array.toList_extract,List.extract_eq_take_drop];simp)
       have hed:(s.extract (k+1) s.size).data.toList=s.data.toList.drop (k+1):=by rw[extract_data]
       by_cases hq:numL n=s.data.toList.take (k+1)
       ·have y9:(numL n==(s.extract 0 (k+1)).toList)=true:=by rw[ByteArray.toList_eq,hex,hq];exact beq_self_eq_true _
        have HE:=Lib.hid (show ∀ w',Kept (fun _=>False) w w'->RReadPost s w (.returned (.tuple #[.int .u64 (n:Int),.string (s.extract (k+1) s.size),.bool true])) w' from fun w' hk =>
         ⟨n,_,true,rfl,hvl,by rw[ByteArray.size_extract];omega,fun m rest hm h=>by
          obtain⟨q1,q2,q3⟩:=HF.out m rest hm h
          exact⟨by rw[<- hV,q1,q3],by rw[hed,q2]⟩,hk⟩)
        clear hV hq hex hed hvl HF hj hjk
        generalize numL n=N at *
        go_wp2_with fail
        have q1:IntKind.i64.wrap ((k:Int)+1)=(k:Int)+1:=IntWalk.i64_in _ (by omega)
        have q2:(0:Int)<=(k:Int)+1:=by omega
        have q3:(k:Int)+1<=(s.size:Int):=by omega
        have q4:((k:Int)+1).toNat=k+1:=by omega
        refine wp_region_held_drew (S:=fun _=>True) (by kernel_rfl) trivial (fun _=>?_)
        have HD:=Lib.hid (Kept.refl (fun _=>False) w).drew
        generalize World.drew w=W at *
        refine ti 0 trivial ?_
        refine ti 2 trivial ?_
        refine ti 3 trivial ?_
        refine ti 4 trivial ?_
        refine ti 5 trivial ?_
        refine rd1 1 (fun K hK=>?_)
        go_simp
        refine(HN.out _).mono ?_
        rintro e w3 ⟨rfl,hk3⟩
        refine hK.out _ _ trivial (fun _=>?_)
        clear hK K
        try simp only[lyA,lyB,lyC,lyD]
        refine ti 6 trivial ?_
        have hh:=HD.out.trans hk3
        refine dn ?_
        go_wp2_with fail
        go_quiet (fail)
        go_wp2_with fail
        go_ret3
        exact HE.out _ (hh.drewN _)
       ·have y9:(numL n==(s.extract 0 (k+1)).toList)=false:=by
         rw[beq_eq_false_iff_ne,ByteArray.toList_eq,hex]
         exact hq
        have HE:=Lib.hid (show ∀ (m:Nat) (rest:By),m<=4096->s.data.toList≠numL m++rest from fun m rest hm h=>by
         obtain⟨q1,q2,q3⟩:=HF.out m rest hm h
         rw[q1,q3]at hV
         exact hq (by rw[q1,<- hV]))
        clear hV hq hex hed hvl HF hj hjk
        generalize numL n=N at *
        go_wp2_with fail
        have q1:IntKind.i64.wrap ((k:Int)+1)=(k:Int)+1:=IntWalk.i64_in _ (by omega)
        have q2:(0:Int)<=(k:Int)+1:=by omega
        have q3:(k:Int)+1<=(s.size:Int):=by omega
        have q4:((k:Int)+1).toNat=k+1:=by omega
        refine wp_region_held_drew (S:=fun _=>True) (by kernel_rfl) trivial (fun _=>?_)
        have HD:=Lib.hid (Kept.refl (fun _=>False) w).drew
        generalize World.drew w=W at *
        refine ti 0 trivial ?_
        refine ti 2 trivial ?_
        refine ti 3 trivial ?_
        refine ti 4 trivial ?_
        refine ti 5 trivial ?_
        refine rd1 1 (fun K hK=>?_)
        go_simp
        refine(HN.out _).mono ?_
        rintro e w3 ⟨rfl,hk3⟩
        refine hK.out _ _ trivial (fun _=>?_)
        clear hK K
        try simp only[lyA,lyB,lyC,lyD]
        refine ti 6 trivial ?_
        have hh:=HD.out.trans hk3
        refine dn ?_
        go_wp2_with fail
        go_ret3
        exact rread_bad hh HE.out
   ·obtain rfl:k=10:=by omega
    have HE:=Lib.hid (show ∀ (m:Nat) (rest:By),m<=4096->s.data.toList≠numL m++rest from fun m rest hm h=>by have:=(num_ends hm h HA.out).1;omega)
    have z1:decide ((s.size:Int)<=10)=false:=decide_eq_false (by omega)
    have z2:decide (s.size<=10)=false:=decide_eq_false (by omega)
    clear HA hk hk10
    go_wp2_with fail
    go_ret3
    exact rread_bad (Kept.refl _ _) HE.out
  ·obtain rfl:k=s.size:=by omega
   have y1:decide ((s.size:Int)<(s.size:Int))=false:=decide_eq_false (by omega)
   have y2:decide (s.size<s.size)=false:=decide_eq_false hlt
   have z1:decide ((s.size:Int)<=(s.size:Int))=true:=decide_eq_true (by omega)
   have z2:decide (s.size<=s.size)=true:=decide_eq_true (Nat.le_refl _)
   have HE:=Lib.hid (show ∀ (m:Nat) (rest:By),m<=4096->s.data.toList≠numL m++rest from fun m rest hm h=>by have:=(num_ends hm h HA.out).2.1;simp at this)
   clear HA hk hlt
   go_wp2_with fail
   go_ret3
   exact rread_bad (Kept.refl _ _) HE.out
end Go.Proofs.YtdmedbhbefdnkaaGreatDoor
