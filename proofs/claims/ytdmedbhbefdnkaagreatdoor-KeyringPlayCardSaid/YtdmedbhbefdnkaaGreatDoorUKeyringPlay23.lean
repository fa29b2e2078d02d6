/- Codec KeyM -/
import Derived.Lib.AppendZeros
import Derived.Test.YtdmedbhbefdnkaaGreatDoorUKeyringPlay22
set_option linter.unusedVariables false
set_option linter.unusedSimpArgs false
set_option maxRecDepth 100000
set_option maxHeartbeats 16000000
namespace Go.Proofs.YtdmedbhbefdnkaaGreatDoor
open Go.RowKit
abbrev hashV (h:List UInt8):Value:=.agg (bytes8 h).toArray
theorem hash_any (w:World) (h:List UInt8) (hl:h.length=32) :
  Calls Tryz.prog 102 #[.agg (bytes8 h).toArray] w fun e w'=>e = .returned (.string ⟨h.toArray⟩)/\Kept (fun _=>False) w w':=by
 have hb:=Blk.new w (bytes8 h) 30
 have hst:=run_string_of (w:=w.alloc (.cells (bytes8 h).toArray 30)) (g:=w.heap.size) (off:=0) (n:=32) (cap:=32) h hl.symm (fun j u hu=>by rw[Nat.zero_add];exact hb.cell hu)
 go_enter Tryz.func102,Tryz.ntmps102
 go_wp2
 go_ret
 exact⟨rfl,(Kept.refl _ _).alloc _⟩
def moreL (m:Nat) (acc:List UInt8):List UInt8:=if h:m=0 then acc else moreL (m/128) (UInt8.ofNat (m%128+128)::acc)
termination_by m
decreasing_by omega
def numL (n:Nat):List UInt8:=moreL (n/128) [UInt8.ofNat (n%128)]
theorem moreL_zero (acc:List UInt8):moreL 0 acc=acc:=by unfold moreL;simp
theorem moreL_pos {m:Nat} (h:0<m) (acc:List UInt8):moreL m acc=moreL (m/128) (UInt8.ofNat (m%128+128)::acc):=by
 conv=>lhs;unfold moreL
 rw[dif_neg (by omega)]
def U64n (n:Nat):Prop:=n<18446744073709551616
theorem wrap_u64 {n:Nat} (h:U64n n):IntKind.u64.wrap (n:Int)=(n:Int):=by
 unfold U64n at h
 simp only[IntKind.wrap,IntKind.bits,IntKind.signed]
 simp
 omega
theorem U64n.div {n:Nat} (h:U64n n) (k:Nat):U64n (n/k):=Nat.lt_of_le_of_lt (Nat.div_le_self _ _) h
theorem U64n.small {n:Nat} (h:n<=4294967295):U64n n:=by unfold U64n;omega
theorem u8_or_128:∀ x:Fin 128,bits .or .u8 ((x:Nat):Int) 128=((x:Nat):Int)+128:=by decide +kernel
theorem bytes8_one (c:Nat) (hc:c<256):bytes8 [UInt8.ofNat c]=[.int .u8 (c:Int)]:=by
 simp only[bytes8,List.map_cons,List.map_nil]
 rw[UInt8.toNat_ofNat_of_lt' hc]
def FewN (n m l:Nat):Prop:=1<=l/\l<=100/\m*128^l<=n
theorem FewN.le {n m l:Nat} (h:FewN n m l):1<=l/\l<=100:=⟨h.1,h.2.1⟩
theorem FewN.step {n m l:Nat} (h:FewN n m l) (hn:U64n n) (hm:0<m):FewN n (m/128) (l+1):=by
 unfold FewN U64n at *
 obtain⟨h1,h2,h3⟩:=h
 refine⟨by omega,?_,?_⟩
 ·rcases Nat.lt_or_ge l 10 with h4|h4
  ·omega
  ·exfalso
   have h5:128^10<=128^l:=Nat.pow_le_pow_right (by decide) h4
   have h6:128^l<=m*128^l:=Nat.le_mul_of_pos_left _ hm
   have h7:(18446744073709551616:Nat)<=128^10:=by decide
   omega
 ·refine Nat.le_trans ?_ h3
  rw[Nat.pow_succ,Nat.mul_comm (128^l) 128,<- Nat.mul_assoc]
  exact Nat.mul_le_mul_right _ (Nat.div_mul_le_self m 128)
theorem num_any (w:World) (n:Nat) (hn:U64n n) :
  Calls Tryz.prog 123 #[.int .u64 (n:Int)] w fun e w'=>e = .returned (.string ⟨(numL n).toArray⟩)/\Kept (fun _=>False) w w':=by
 have x1:(n:Int)%128=((n%128:Nat):Int):=by omega
 have x2:(n:Int)/128=((n/128:Nat):Int):=by omega
 have hm2:=hn.div 128
 obtain⟨m0,hm0⟩:∃ m0:Nat,n/128=m0:=⟨_,rfl⟩
 obtain⟨c0,hc0⟩:∃ c0:Nat,n%128=c0:=⟨_,rfl⟩
 have hc1:c0<128:=by omega
 have hfew:FewN n m0 1:=by subst hm0;exact⟨by omega,by omega,by rw[Nat.pow_one];exact Nat.div_mul_le_self n 128⟩
 rw[hc0]at x1
 rw[hm0]at x2 hm2
 have x4:=wrap_u64 hm2
 have HN:=Lib.hid (show numL n=moreL m0 [UInt8.ofNat c0] by unfold numL;rw[hm0,hc0])
 have hb0:=Blk.new w [.int .u8 (c0:Int)] 5
 have hrow0:Row (w.alloc (.cells [.int .u8 (c0:Int)].toArray 5)) 5 1 (.slice (some ⟨w.heap.size,0,none⟩) 1 1) (bytes8 [UInt8.ofNat c0]):=Or.inr ⟨w.heap.size,1,1,[],rfl,rfl,by rw[bytes8_one _ (by omega),List.append_nil];exact hb0,Nat.le_refl _,Nat.le_refl _,by unfold maxLen;omega⟩
 have x3:(c0:Int)%256=(c0:Int):=by omega
 clear hm0 hc0 hb0
 go_enter Tryz.func123,Tryz.ntmps123
 go_wp2
 go_loopw [0,3] (fun x y wr=>∃ (m:Nat) (acc:List UInt8),x = .int .u64 (m:Int)/\U64n m/\Hid (numL n=moreL m acc)/\FewN n m acc.length/\Row wr 5 1 y (bytes8 acc)/\Kept (fun _=>False) w wr) (fun x _ _=>(intOf x).toNat)
 case atStart=>exact⟨m0,[UInt8.ofNat c0],rfl,hm2,HN,hfew,hrow0,(Kept.refl _ _).alloc _⟩
 case round =>
  obtain⟨m,acc,rfl,hm,HM,hfw,hrow,hk⟩:=hrel
  obtain⟨hl1,hl2⟩:=hfw.le
  clear x1 x2 x3 x4
  by_cases hpos:0<m
  ·have y1:decide ((0:Int)<(m:Int))=true:=by simp;omega
   have y2:decide (0<m)=true:=by simp;omega
   obtain⟨i0,hi0,hz0,hz1,hz2⟩:=info_parts info_u8
   obtain⟨c,hc⟩:∃ c:Nat,m%128=c:=⟨_,rfl⟩
   have hc1:c<128:=by omega
   have e1:(m:Int)%128=(c:Int):=by omega
   have e2:(c:Int)%256=(c:Int):=by omega
   have e3:bits .or .u8 (c:Int) 128=(c:Int)+128:=u8_or_128 ⟨c,hc1⟩
   have e4:(m:Int)/128=((m/128:Nat):Int):=by omega
   have hmd:=hm.div 128
   have e5:=wrap_u64 hmd
   have HMP:=Lib.hid (moreL_pos hpos acc)
   have hlt:m/128<m:=by omega
   have hfw2:=hfw.step hn hpos
   obtain⟨md,hmdd⟩:∃ md:Nat,m/128=md:=⟨_,rfl⟩
   rw[hmdd]at e4 e5 hmd hlt HMP hfw2
   rw[hc]at HMP
   have hb1:=Blk.new wr [.int .u8 ((c:Int)+128)] 5
   have hrow1:Row (wr.alloc (.cells [.int .u8 ((c:Int)+128)].toArray 5)) 5 1 (.slice (some ⟨wr.heap.size,0,none⟩) 1 1) (bytes8 [UInt8.ofNat (c+128)]):=Or.inr ⟨wr.heap.size,1,1,[],rfl,rfl,by rw[bytes8_one _ (by omega),List.append_nil,Int.natCast_add];exact hb1,Nat.le_refl _,Nat.le_refl _,by unfold maxLen;omega⟩
   have hrowA:=hrow.alloc (.cells [.int .u8 ((c:Int)+128)].toArray 5)
   obtain⟨ao,k,cap,rfl,hk1,hk2,hk3⟩:=hrowA.form (by omega)
   rw[bytes8_len]at hk1
   obtain⟨g,rfl,_,hcell⟩:=hk3 (by omega)
   have hka:k=acc.length:=by omega
   subst hka
   obtain⟨v',w',hr1,hrow2,hkk,_⟩:=hrow1.append_cells (P:=Tryz.prog) (t:=72) Tryz.underlying72 hi0 hz0 hz1 rfl (by omega) (by omega) ⟨g,0,none⟩ acc.length cap (bytes8 acc) (by rw[bytes8_len];omega) (fun j u hu=>by rw[addr0_add];exact hcell j u hu) u8_oneCell (by omega) (by rw[bytes8_len,bytes8_len];simp;omega) 72
   rw[<- bytes8_append]at hrow2
   have hkw:Kept (fun _=>False) w w':=(hk.alloc _).then_ hkk (fun i hi e=>by have:=hk.size;simp[Value.ownBlock]at e;omega)
   have HE:=Lib.hid (And.intro hrow2 hkw)
   clear hrow2 hkw hkk hrow1 hrowA hb1 hcell hk3 hc hmdd hi0 hz0 hz1 hz2
   go_wp2_with (at_builtin;refine Lib.wpList_append_run _ rfl _ _ 72 72 rfl _ _ rfl rfl _ _ hr1 ?_)
   obtain⟨hrow2,hkw⟩:=HE
   have HM:numL n=moreL m acc:=HM
   have HMP:moreL m acc=moreL md (UInt8.ofNat (c+128)::acc):=HMP
   refine⟨⟨md,UInt8.ofNat (c+128)::acc,rfl,hmd,HM.trans HMP,hfw2,hrow2,hkw⟩,?_⟩
   show((md:Int)).toNat<((m:Int)).toNat
   omega
  ·have hm0':m=0:=by omega
   subst hm0'
   have HM2:numL n=acc:=(show numL n=moreL 0 acc from HM).trans (moreL_zero acc)
   obtain⟨ao,k,cap,rfl,hk1,hk2,hk3⟩:=hrow.form (by omega)
   rw[bytes8_len]at hk1
   obtain⟨g,rfl,_,hcell⟩:=hk3 (by omega)
   have hka:k=acc.length:=by omega
   subst hka
   have hst:=run_string_of (w:=wr) (g:=g) (off:=0) (n:=acc.length) (cap:=cap) acc rfl (fun j u hu=>by rw[Nat.zero_add];exact hcell j u hu)
   go_wp2
   go_ret
   exact⟨by rw[HM2];rfl,hk⟩
theorem moreL_len {n : Nat} (hn : U64n n) : ∀ (k m : Nat) (acc : List UInt8), m ≤ k → FewN n m acc.length → (moreL m acc).length ≤ 100 := by
  intro k
  induction k with
  | zero => intro m acc hm h; have : m = 0 := by omega
            subst this; rw [moreL_zero]; exact h.le.2
  | succ k ih =>
    intro m acc hm h
    rcases Nat.eq_zero_or_pos m with h0 | h0
    · subst h0; rw [moreL_zero]; exact h.le.2
    · rw [moreL_pos h0]; exact ih _ _ (by omega) (h.step hn h0)
theorem numL_len {n:Nat} (hn:U64n n):(numL n).length<=100:=by
 unfold numL
 exact moreL_len hn _ _ _ (Nat.le_refl _) ⟨by simp,by simp,by simp only[List.length_cons,List.length_nil,Nat.zero_add,Nat.pow_one];exact Nat.div_mul_le_self n 128⟩
def Short (n:Nat):Prop:=n<4611686018427387904
theorem Short.u64 {n:Nat} (h:Short n):U64n n:=by unfold Short U64n at *;omega
theorem Short.sum {n k:Nat} (h:Short n) (hk:k<=100):¬ (9223372036854775807<k+n):=by unfold Short at *;omega
theorem text_any (w:World) (s:ByteArray) (hs:Short s.size) :
  Calls Tryz.prog 134 #[.string s] w fun e w'=>e = .returned (.string (⟨(numL s.size).toArray⟩++s))/\Kept (fun _=>False) w w':=by
 have hN:=num_any w s.size hs.u64
 have x1:=wrap_u64 hs.u64
 have x2:=hs.sum (numL_len hs.u64)
 go_enter Tryz.func134,Tryz.ntmps134
 go_wp2_with (go_at_call 123;refine hN.mono ?_;rintro e w1 ⟨rfl,hk1⟩)
 go_ret
 exact⟨rfl,hk1⟩
abbrev By:=List UInt8
def secretF (seed:By) (index i bit:Nat):By:=shaF (2::(numL seed.length++seed++be 4 index++be 2 (2*i+bit)))
def shownF (x:By):By:=shaF (3::x)
def publicF (seed:By) (index:Nat):List By:=(List.range 512).map fun k=>shownF (secretF seed index (k/2) (k%2))
def leafF (p:List By):By:=shaF (4::p.flatten)
def secretsF (seed:By) (index:Nat) (digest:By) (n:Nat):By:=(List.range n).flatMap fun i=>secretF seed index i (bitAt digest i)
def othersF (seed:By) (index:Nat) (digest:By) (n:Nat):By:=(List.range n).flatMap fun i=>((publicF seed index)[2*i+1-bitAt digest i]?).getD []
def signF (seed:By) (index:Nat) (digest:By):By:=secretsF seed index digest 256++othersF seed index digest 256
def saidF (sig digest:By) (k:Nat):By:=if k%2=bitAt digest (k/2)then shownF ((sig.drop (k/2*32)).take 32)else(sig.drop ((256+k/2)*32)).take 32
def recoveredF (sig digest:By):List By:=(List.range 512).map (saidF sig digest)
theorem secretF_len (seed:By) (index i bit:Nat):(secretF seed index i bit).length=32:=shaF_len _
theorem shownF_len (x:By):(shownF x).length=32:=shaF_len _
theorem publicF_len (seed:By) (index:Nat):(publicF seed index).length=512:=by simp[publicF]
theorem publicF_at (seed:By) (index k:Nat) (hk:k<512):(publicF seed index)[k]? = some (shownF (secretF seed index (k/2) (k%2))):=by
 simp[publicF,hk]
theorem public_32 (seed:By) (index:Nat):∀ x∈publicF seed index,x.length=32:=by
 intro x hx
 obtain⟨k,_,rfl⟩:=List.mem_map.1 hx
 exact shownF_len _
theorem flat_len (f:Nat->By) (hf:∀ i,(f i).length=32) (n:Nat):((List.range n).flatMap f).length=n*32:=by
 induction n with
 | zero=>rfl
 | succ n ih=>rw[List.range_succ,List.flatMap_append,List.length_append,ih];simp[hf];omega
theorem flat_at (f:Nat->By) (hf:∀ i,(f i).length=32) (n i:Nat) (hi:i<n) (r:By):((((List.range n).flatMap f)++r).drop (i*32)).take 32=f i:=by
 have hs:List.range n=List.range i++i::(List.range' (i+1) (n-i-1)):=by
  apply List.ext_getElem
  ·simp;omega
  ·intro j h1 h2
   simp only[List.getElem_range]
   rw[List.getElem_append]
   split
   ·simp
   ·rename_i h
    simp only[List.length_range,Nat.not_lt]at h
    rcases Nat.eq_or_lt_of_le h with e|e
    ·subst e;simp
    ·rw[List.getElem_cons]
     simp only[List.length_range]
     rw[dif_neg (by omega)]
     simp
     omega
 rw[hs,List.flatMap_append,List.flatMap_cons,List.append_assoc,List.drop_append_of_le_length (by rw[flat_len f hf];omega),List.drop_eq_nil_of_le (by rw[flat_len f hf];omega),List.nil_append,List.append_assoc,List.take_append_of_le_length (by rw[hf];omega),List.take_of_length_le (by rw[hf];omega)]
theorem otherF_len (seed:By) (index:Nat) (digest:By) (i:Nat) (hi:i<256):(((publicF seed index)[2*i+1-bitAt digest i]?).getD []).length=32:=by
 have:=bitAt_lt digest i
 rw[publicF_at _ _ _ (by omega)]
 exact shownF_len _
def otherG (seed:By) (index:Nat) (digest:By) (i:Nat):By:=if i<256 then((publicF seed index)[2*i+1-bitAt digest i]?).getD []else shownF []
theorem otherG_len (seed:By) (index:Nat) (digest:By) (i:Nat):(otherG seed index digest i).length=32:=by
 unfold otherG
 split
 ·exact otherF_len _ _ _ _ (by assumption)
 ·exact shownF_len _
theorem othersF_eq (seed:By) (index:Nat) (digest:By) (n:Nat) (hn:n<=256):othersF seed index digest n=(List.range n).flatMap (otherG seed index digest):=by
 unfold othersF
 induction n with
 | zero=>simp
 | succ n ih =>
  rw[List.range_succ,List.flatMap_append,List.flatMap_append,ih (by omega)]
  simp[otherG,show n<256 by omega]
theorem secretsF_len (seed:By) (index:Nat) (digest:By) (n:Nat):(secretsF seed index digest n).length=n*32:=flat_len _ (fun _=>secretF_len _ _ _ _) n
theorem othersF_len (seed:By) (index:Nat) (digest:By) (n:Nat) (hn:n<=256):(othersF seed index digest n).length=n*32:=by
 rw[othersF_eq _ _ _ _ hn];exact flat_len _ (otherG_len _ _ _) n
theorem signF_len (seed:By) (index:Nat) (digest:By):(signF seed index digest).length=16384:=by
 unfold signF;rw[List.length_append,secretsF_len,othersF_len _ _ _ _ (Nat.le_refl _)]
theorem recovered_sign (seed:By) (index:Nat) (digest:By):recoveredF (signF seed index digest) digest=publicF seed index:=by
 unfold recoveredF publicF
 refine List.map_congr_left fun k hk=>?_
 rw[List.mem_range]at hk
 have hb:=bitAt_lt digest (k/2)
 unfold saidF
 split
 ·rename_i h
  unfold signF secretsF
  rw[flat_at (fun i=>secretF seed index i (bitAt digest i)) (fun _=>secretF_len _ _ _ _) 256 (k/2) (by omega),h]
 ·rename_i h
  unfold signF
  have hz:(secretsF seed index digest 256++othersF seed index digest 256).drop (256*32)=othersF seed index digest 256:=by
   rw[List.drop_append_of_le_length (by rw[secretsF_len];omega),List.drop_eq_nil_of_le (by rw[secretsF_len];omega),List.nil_append]
  rw[show(256+k/2)*32=256*32+k/2*32 by omega,<- List.drop_drop,hz]
  have:=flat_at (otherG seed index digest) (otherG_len _ _ _) 256 (k/2) (by omega) []
  rw[List.append_nil]at this
  rw[othersF_eq _ _ _ _ (Nat.le_refl _),this]
  unfold otherG
  rw[if_pos (by omega),show 2*(k/2)+1-bitAt digest (k/2)=k by omega,publicF_at _ _ _ hk]
  rfl
def nodeF (a b:By):By:=shaF (1::(a++b))
theorem nodeF_len (a b:By):(nodeF a b).length=32:=shaF_len _
def splitGo (n k:Nat):Nat:=if h:0<k/\k<n-k then splitGo n (k*2)else k
termination_by n-k
decreasing_by omega
def splitN (n:Nat):Nat:=if n<2 then 0 else splitGo n 1
theorem splitGo_yes {n k:Nat} (h0:0<k) (h:k<n-k):splitGo n k=splitGo n (k*2):=by
 conv=>lhs;unfold splitGo
 rw[dif_pos ⟨h0,h⟩]
theorem splitGo_no {n k:Nat} (h:¬ k<n-k):splitGo n k=k:=by
 unfold splitGo
 rw[dif_neg (fun q=>h q.2)]
theorem splitGo_in (m:Nat):∀ {n k:Nat},n-k<=m->0<k->k<n->0<splitGo n k/\splitGo n k<n:=by
 induction m with
 | zero=>intro n k h h0 h1;omega
 | succ m ih =>
  intro n k h h0 h1
  by_cases hk:k<n-k
  ·rw[splitGo_yes h0 hk];exact ih (by omega) (by omega) (by omega)
  ·rw[splitGo_no hk];exact⟨h0,h1⟩
theorem splitN_in {n:Nat} (h:2<=n):0<splitN n/\splitN n<n:=by
 unfold splitN
 rw[if_neg (by omega)]
 exact splitGo_in n (by omega) (by omega) (by omega)
theorem splitN_small {n:Nat} (h:n<2):splitN n=0:=by unfold splitN;rw[if_pos h]
theorem splitN_8:splitN 8=4:=by unfold splitN;rw[if_neg (by omega),splitGo_yes (by omega) (by omega),splitGo_yes (by omega) (by omega),splitGo_no (by omega)]
theorem splitN_4:splitN 4=2:=by unfold splitN;rw[if_neg (by omega),splitGo_yes (by omega) (by omega),splitGo_no (by omega)]
theorem splitN_2:splitN 2=1:=by unfold splitN;rw[if_neg (by omega),splitGo_no (by omega)]
def treeF (l:List By):By:=if h:2<=l.length then nodeF (treeF (l.take (splitN l.length))) (treeF (l.drop (splitN l.length)))else l.headD []
termination_by l.length
decreasing_by
 ·have:=splitN_in h;simp;omega
 ·have:=splitN_in h;simp;omega
def rootF (l:List By):By:=if l.length=0 then shaF []else treeF l
theorem treeF_two {l:List By} (h:2<=l.length):treeF l=nodeF (treeF (l.take (splitN l.length))) (treeF (l.drop (splitN l.length))):=by
 conv=>lhs;unfold treeF
 rw[dif_pos h]
theorem treeF_one (a:By):treeF [a]=a:=by
 unfold treeF
 rw[dif_neg (by simp)]
 rfl
theorem treeF_len {l:List By} (h0:0<l.length) (hl:∀ x∈l,x.length=32):(treeF l).length=32:=by
 by_cases h:2<=l.length
 ·rw[treeF_two h];exact nodeF_len _ _
 ·match l,h0,h with
  | [a],_,_=>rw[treeF_one];exact hl a (by simp)
  | a::b::r,_,h=>simp at h
theorem rootF_len {l:List By} (hl:∀ x∈l,x.length=32):(rootF l).length=32:=by
 unfold rootF
 split
 ·exact shaF_len _
 ·exact treeF_len (by omega) hl
theorem treeF_pair (a b:By):treeF [a,b]=nodeF a b:=by
 rw[treeF_two (by simp)]
 simp only[List.length_cons,List.length_nil,Nat.zero_add,Nat.reduceAdd,splitN_2,List.take_succ_cons,List.take_zero,List.drop_succ_cons,List.drop_zero,treeF_one]
theorem treeF_four (a b c d:By):treeF [a,b,c,d]=nodeF (nodeF a b) (nodeF c d):=by
 rw[treeF_two (by simp)]
 simp only[List.length_cons,List.length_nil,Nat.zero_add,Nat.reduceAdd,splitN_4,List.take_succ_cons,List.take_zero,List.drop_succ_cons,List.drop_zero,treeF_pair]
theorem treeF_eight (a b c d e f g h:By):treeF [a,b,c,d,e,f,g,h]=nodeF (nodeF (nodeF a b) (nodeF c d)) (nodeF (nodeF e f) (nodeF g h)):=by
 rw[treeF_two (by simp)]
 simp only[List.length_cons,List.length_nil,Nat.zero_add,Nat.reduceAdd,splitN_8,List.take_succ_cons,List.take_zero,List.drop_succ_cons,List.drop_zero,treeF_four]
def topF (l:List By) (i:Nat):List By:=if h:2<=l.length then
  if i<splitN l.length then rootF (l.drop (splitN l.length))::topF (l.take (splitN l.length)) i
  else rootF (l.take (splitN l.length))::topF (l.drop (splitN l.length)) (i-splitN l.length)
 else []
termination_by l.length
decreasing_by
 ·have:=splitN_in h;simp;omega
 ·have:=splitN_in h;simp;omega
def pathF (l:List By) (i:Nat):List By:=(topF l i).reverse
theorem topF_low {l:List By} {i:Nat} (h:2<=l.length) (hi:i<splitN l.length):topF l i=rootF (l.drop (splitN l.length))::topF (l.take (splitN l.length)) i:=by
 conv=>lhs;unfold topF
 rw[dif_pos h,if_pos hi]
theorem topF_high {l:List By} {i:Nat} (h:2<=l.length) (hi:¬ i<splitN l.length):topF l i=rootF (l.take (splitN l.length))::topF (l.drop (splitN l.length)) (i-splitN l.length):=by
 conv=>lhs;unfold topF
 rw[dif_pos h,if_neg hi]
theorem topF_few {l:List By} {i:Nat} (h:¬ 2<=l.length):topF l i=[]:=by
 unfold topF
 rw[dif_neg h]
def stripF (i last:Nat):Nat × Nat:=if h:i%2=0/\0<i then stripF (i/2) (last/2)else(i,last)
termination_by i
decreasing_by omega
theorem stripF_yes {i last:Nat} (h:i%2=0) (h0:0<i):stripF i last=stripF (i/2) (last/2):=by
 conv=>lhs;unfold stripF
 rw[dif_pos ⟨h,h0⟩]
theorem stripF_no {i last:Nat} (h:¬ (i%2=0/\0<i)):stripF i last=(i,last):=by
 unfold stripF
 rw[dif_neg h]
structure Climb where
 leaf:By
 i:Nat
 last:Nat
 used:Nat
def climbF:List By->Climb->Climb
 | [],c=>c
 | h::p,c=>if c.last=0 then c
  else if c.i%2=1\/c.i=c.last then climbF p ⟨nodeF h c.leaf,(stripF c.i c.last).1/2,(stripF c.i c.last).2/2,c.used+1⟩
  else climbF p ⟨nodeF c.leaf h,c.i/2,c.last/2,c.used+1⟩
def provesF (leaf:By) (i n:Nat) (path:List By) (root:By):Prop :=
 (climbF path ⟨leaf,i,n-1,0⟩).last=0/\(climbF path ⟨leaf,i,n-1,0⟩).used=path.length/\(climbF path ⟨leaf,i,n-1,0⟩).leaf=root
instance (leaf:By) (i n:Nat) (path:List By) (root:By):Decidable (provesF leaf i n path root):=by unfold provesF;infer_instance
theorem proves_eight (l:List By) (hl:l.length=8) (i:Nat) (hi:i<8):(pathF l i).length=3/\provesF (l[i]?.getD []) i 8 (pathF l i) (rootF l):=by
 match l,hl with
 | [a,b,c,d,e,f,g,h],_ =>
  have hi8:i=0\/i=1\/i=2\/i=3\/i=4\/i=5\/i=6\/i=7:=by omega
  have r8:rootF [a,b,c,d,e,f,g,h]=nodeF (nodeF (nodeF a b) (nodeF c d)) (nodeF (nodeF e f) (nodeF g h)):=by simp[rootF,treeF_eight]
  have r4:∀ a b c d,rootF [a,b,c,d]=nodeF (nodeF a b) (nodeF c d):=by intro a b c d;simp[rootF,treeF_four]
  have r2:∀ a b,rootF [a,b]=nodeF a b:=by intro a b;simp[rootF,treeF_pair]
  have r1:∀ a,rootF [a]=a:=by intro a;simp[rootF,treeF_one]
  have t1:∀ a i,topF [a] i=[]:=fun a i=>topF_few (by simp)
  have t2a:∀ a b,topF [a,b] 0=[b]:=by intro a b;rw[topF_low (by simp) (by simp[splitN_2])];simp[splitN_2,r1,t1]
  have t2b:∀ a b,topF [a,b] 1=[a]:=by intro a b;rw[topF_high (by simp) (by simp[splitN_2])];simp[splitN_2,r1,t1]
  have t4l:∀ a b c d i,i<2->topF [a,b,c,d] i=nodeF c d::topF [a,b] i:=by
   intro a b c d i hi;rw[topF_low (by simp) (by simp[splitN_4,hi])];simp[splitN_4,r2]
  have t4h:∀ a b c d i,2<=i->topF [a,b,c,d] i=nodeF a b::topF [c,d] (i-2):=by
   intro a b c d i hi;rw[topF_high (by simp) (by simp[splitN_4];omega)];simp[splitN_4,r2]
  have t8l:∀ i,i<4->topF [a,b,c,d,e,f,g,h] i=nodeF (nodeF e f) (nodeF g h)::topF [a,b,c,d] i:=by
   intro i hi;rw[topF_low (by simp) (by simp[splitN_8,hi])];simp[splitN_8,r4]
  have t8h:∀ i,4<=i->topF [a,b,c,d,e,f,g,h] i=nodeF (nodeF a b) (nodeF c d)::topF [e,f,g,h] (i-4):=by
   intro i hi;rw[topF_high (by simp) (by simp[splitN_8];omega)];simp[splitN_8,r4]
  have s:∀ i last,i%2=1->stripF i last=(i,last):=fun i last h=>stripF_no (by omega)
  unfold provesF pathF
  rw[r8]
  rcases hi8 with rfl|rfl|rfl|rfl|rfl|rfl|rfl|rfl
  ·rw[t8l 0 (by omega),t4l _ _ _ _ 0 (by omega),t2a];simp[climbF,s]
  ·rw[t8l 1 (by omega),t4l _ _ _ _ 1 (by omega),t2b];simp[climbF,s]
  ·rw[t8l 2 (by omega),t4h _ _ _ _ 2 (by omega),show(2:Nat)-2=0 from rfl,t2a];simp[climbF,s]
  ·rw[t8l 3 (by omega),t4h _ _ _ _ 3 (by omega),show(3:Nat)-2=1 from rfl,t2b];simp[climbF,s]
  ·rw[t8h 4 (by omega),show(4:Nat)-4=0 from rfl,t4l _ _ _ _ 0 (by omega),t2a];simp[climbF,s]
  ·rw[t8h 5 (by omega),show(5:Nat)-4=1 from rfl,t4l _ _ _ _ 1 (by omega),t2b];simp[climbF,s]
  ·rw[t8h 6 (by omega),show(6:Nat)-4=2 from rfl,t4h _ _ _ _ 2 (by omega),show(2:Nat)-2=0 from rfl,t2a];simp[climbF,s]
  ·rw[t8h 7 (by omega),show(7:Nat)-4=3 from rfl,t4h _ _ _ _ 3 (by omega),show(3:Nat)-2=1 from rfl,t2b];simp[climbF,s]
def leavesF (seed:By):List By:=(List.range 8).map fun i=>leafF (publicF seed i)
theorem leavesF_len (seed:By):(leavesF seed).length=8:=by simp[leavesF]
theorem leaves_32 (seed:By):∀ x∈leavesF seed,x.length=32:=by
 intro x hx
 obtain⟨k,_,rfl⟩:=List.mem_map.1 hx
 exact shaF_len _
theorem leavesF_at (seed:By) (i:Nat) (hi:i<8):(leavesF seed)[i]? = some (leafF (publicF seed i)):=by simp[leavesF,hi]
theorem proves_sign (seed:By) (i:Nat) (hi:i<8) (digest:By) :
  provesF (leafF (recoveredF (signF seed i digest) digest)) i 8 (pathF (leavesF seed) i) (rootF (leavesF seed)):=by
 have:=(proves_eight (leavesF seed) (leavesF_len seed) i hi).2
 rwa[leavesF_at seed i hi,Option.getD_some,<- recovered_sign seed i digest]at this
def digestF (size:Nat) (root:By):By:=shaF (5::(be 8 size++root))
theorem digestF_len (size:Nat) (root:By):(digestF size root).length=32:=shaF_len _
end Go.Proofs.YtdmedbhbefdnkaaGreatDoor
