/- Bits2 ShaM Sha1 Mix Bit -/
import Derived.Laws.BytesArg
import Derived.Laws.IdiomStrings
import Derived.Test.YtdmedbhbefdnkaaGreatDoorUKeyringPlay15
set_option linter.unusedVariables false
set_option linter.unusedSimpArgs false
set_option maxRecDepth 100000
set_option maxHeartbeats 16000000
namespace Go.Proofs.YtdmedbhbefdnkaaGreatDoor
open Go.RowKit
theorem right_any (w:World) (x:Int) (k:Nat) (kk:Int) (hkk:kk=(k:Int)) (hk:k∈[2,6,7,11,13,17,18,19,22,25]) (h0:0<=x) (h1:x<4294967296) :
  Calls Tryz.prog 144 #[.int .u32 x,.int .i64 kk] w fun e w'=>e = .returned (.int .u32 (rotr x k))/\w=w':=by
 subst hkk
 have hc:=rotate_any w x k hk h0 h1
 have hk2:(k:Int)%32=(k:Int)/\0<=(k:Int)/\(k:Int)<32:=by
  simp only[List.mem_cons,List.not_mem_nil,or_false]at hk
  omega
 obtain⟨e1,e2,e3⟩:=hk2
 clear hk
 go_enter Tryz.func144,Tryz.ntmps144
 go_wp2_with fail
 refine hc.mono ?_
 rintro e w' ⟨rfl,rfl⟩
 go_wp2
 go_ret
 exact⟨rfl,rfl⟩
def be:Nat->Nat->List UInt8
 | 0,_=>[]
 | k+1,n=>UInt8.ofNat (n/256^k)::be k n
theorem be_succ (k n:Nat):be (k+1) n=UInt8.ofNat (n/256^k)::be k n:=rfl
theorem be_len (k n:Nat):(be k n).length=k:=by induction k with|zero=>rfl|succ k ih=>simp[be,ih]
theorem info_u8:(Tryz.prog.info? 5).map (fun i=>(i.zero,i.size,i.bytes))=some (some (.int .u8 0),1,1):=by kernel_rfl
def zeros (k:Nat):List Value:=List.replicate k (.int .u8 0)
theorem zeros_len (k:Nat):(zeros k).length=k:=by simp[zeros]
def bytes8 (l:List UInt8):List Value:=l.map fun b=>.int .u8 (b.toNat:Int)
theorem bytes8_len (l:List UInt8):(bytes8 l).length=l.length:=by simp[bytes8]
theorem bytes8_at (l:List UInt8) (j:Nat) (h:j<l.length):(bytes8 l)[j]? = some (.int .u8 (l[j].toNat:Int)):=by simp[bytes8,List.getElem?_eq_getElem h]
theorem run_string_of {w:World} {g off n cap:Nat} (l:List UInt8) (hn:n=l.length) (hc:∀ j u,(bytes8 l)[j]? = some u->w.cell? ⟨g,off+j,none⟩=some u) :
  (convert 72 9 (.slice (some ⟨g,off,none⟩) n cap)).run Tryz.prog w = .ok (.string ⟨l.toArray⟩) w:=by
 subst hn
 refine run_convert_bytes_back w 72 9 5 ⟨g,off,none⟩ cap l Tryz.underlying72 Tryz.underlying5 Tryz.underlying9 (fun j hj=>?_)
 rw[Addr.add_mid]
 exact hc j _ (bytes8_at l j hj)
theorem make_bytes (w:World) (n:Nat) (hn:n<=16777216):(Instr.makeSlice 72 (.int .i64 (n:Int)) (.int .i64 (n:Int))).run Tryz.prog w = .ok (.slice (some ⟨w.heap.size,0,none⟩) n n) (w.alloc (.cells (zeros n).toArray 5)):=by
 obtain⟨i,hi,hz,hsz,hby⟩:=info_parts info_u8
 have:=run_makeSlice (P:=Tryz.prog) (w:=w) 72 5 i _ Tryz.underlying72 hi hz .i64 .i64 (n:Int) (n:Int) (by omega) (by omega) (by rw[hsz];omega) (by rw[hby];omega) (by omega)
 rw[this]
 have e:madeCells (Value.int .u8 0).cells ((n:Int).toNat*i.size)=(zeros n).toArray:=by
  rw[hsz,Nat.mul_one,Int.toNat_natCast]
  show madeCells #[Value.int .u8 0] n=_
  rw[madeCells_one]
  simp[zeros]
 rw[e]
 simp
def putCells (size n i:Nat):List Value:=zeros (size-i)++(be i n).map fun b=>.int .u8 b.toNat
theorem putCells_len (size n i:Nat) (h:i<=size):(putCells size n i).length=size:=by simp[putCells,zeros_len,be_len];omega
theorem putCells_set (size n i:Nat) (h:i<size):(putCells size n i).set (size-1-i) (.int .u8 ((UInt8.ofNat (n/256^i)).toNat:Int))=putCells size n (i+1):=by
 unfold putCells
 rw[be_succ]
 rw[show size-i=(size-1-i)+1 by omega]
 rw[List.set_append_left _ _ (by rw[zeros_len];omega)]
 rw[show size-(i+1)=size-1-i by omega]
 unfold zeros
 rw[List.replicate_succ',List.set_append_right _ _ (by simp)]
 simp
theorem put_any (w:World) (n:Nat) (size:Nat) (h1:1<=size) (h8:size<=8) :
  Calls Tryz.prog 101 #[.int .u64 (n:Int),.int .i64 (size:Int)] w fun e w'=>e = .returned (.string ⟨(be size n).toArray⟩)/\Kept (fun _=>False) w w':=by
 have x1:decide ((size:Int)<1)=false:=by simp;omega
 have x2:decide (8<(size:Int))=false:=by simp;omega
 have x3:decide (8<size)=false:=by simp;omega
 have x4:decide (size<1)=false:=by simp;omega
 have hmk:=make_bytes w size (by omega)
 have hb0:=Blk.new w (zeros size) 5
 go_enter Tryz.func101,Tryz.ntmps101
 go_wp2
 go_loopw [0,16] (fun x y wr=>∃ i:Nat,i<=size/\y = .int .i64 (i:Int)/\x = .int .u64 ((n/256^i:Nat):Int)/\Blk wr w.heap.size (putCells size n i) 5/\Kept (fun _=>False) w wr) (fun _ y _=>size-(intOf y).toNat)
 case atStart=>exact⟨0,by omega,rfl,by simp,by simpa[putCells,be]using hb0,(Kept.refl _ _).alloc _⟩
 case round =>
  obtain⟨i,hi,rfl,rfl,hb,hk⟩:=hrel
  by_cases hlt:i<size
  ·have y1:decide (i<size)=true:=decide_eq_true hlt
   have hset:=hb.set (size-1-i) (.int .u8 ((UInt8.ofNat (n/256^i)).toNat:Int))
   rw[putCells_set size n i hlt]at hset
   have e8:((UInt8.ofNat (n/256^i)).toNat:Int)=(n:Int)/256^i%256:=by
    rw[UInt8.toNat_ofNat']
    push_cast
    rfl
   rw[e8]at hset
   have z1:=hb.free (size-1-i)
   have c1:=hb.cell (i:=size-1-i) (v:=(putCells size n i)[size-1-i]'(by rw[putCells_len _ _ _ (by omega)];omega)) (List.getElem?_eq_getElem (by rw[putCells_len _ _ _ (by omega)];omega))
   go_wp2
   go_roundw
   case rel=>exact⟨i+1,hlt,by go_num,by rw[Nat.pow_succ,<- Nat.div_div_eq_div_mul];push_cast;rfl,hset,hk.setCell (fun h=>absurd h (by show ¬ w.heap.size<w.heap.size;omega)) _⟩
   case measure=>simp[intOf];omega
  ·have y1:decide (i<size)=false:=decide_eq_false hlt
   have hi2:i=size:=by omega
   subst hi2
   have e1:putCells i n i=bytes8 (be i n):=by simp[putCells,bytes8,zeros]
   rw[e1]at hb
   have hst:=run_string_of (w:=wr) (g:=w.heap.size) (off:=0) (n:=i) (cap:=i) (be i n) (by rw[be_len]) (fun j u hu=>by rw[Nat.zero_add];exact hb.cell hu)
   clear e1
   go_wp2
   go_ret
   exact⟨rfl,hk⟩
def ofBe (l:List UInt8):Nat:=l.foldl (fun a b=>a*256+b.toNat) 0
theorem ofBe_snoc (l:List UInt8) (b:UInt8):ofBe (l++[b])=ofBe l*256+b.toNat:=by simp[ofBe]
theorem ofBe_lt (l:List UInt8):ofBe l<256^l.length:=by
 have key:∀ (l:List UInt8) (a:Nat),l.foldl (fun a b=>a*256+b.toNat) a<(a+1)*256^l.length:=by
  intro l
  induction l with
  | nil=>intro a;simp
  | cons b r ih =>
   intro a
   have h:=ih (a*256+b.toNat)
   have hb:b.toNat<256:=b.toNat_lt
   rw[List.foldl_cons,List.length_cons,Nat.pow_succ]
   refine Nat.lt_of_lt_of_le h ?_
   rw[Nat.mul_comm (256^r.length) 256,<- Nat.mul_assoc]
   exact Nat.mul_le_mul_right _ (by omega)
 have:=key l 0
 unfold ofBe
 simpa using this
theorem take_snoc (s:ByteArray) (k:Nat) (h:k<s.size):s.data.toList.take (k+1)=s.data.toList.take k++[s[k]]:=by
 rw[List.take_succ_eq_append_getElem (by simpa using h)];rfl
theorem get_any (w:World) (s:ByteArray) (hs:s.size<=4) :
  Calls Tryz.prog 131 #[.string s] w fun e w'=>e = .returned (.int .u64 (ofBe s.data.toList:Int))/\w=w':=by
 have x1:decide (8<(s.size:Int))=false:=by simp;omega
 have x3:decide (8<s.size)=false:=by simp;omega
 go_enter Tryz.func131,Tryz.ntmps131
 go_wp2
 go_loop [3,8] (fun x y=>∃ i:Nat,i<=s.size/\y = .int .i64 (i:Int)/\x = .int .u64 (ofBe (s.data.toList.take i):Int)) (fun _ y=>s.size-(intOf y).toNat)
 case atStart=>exact⟨0,by omega,rfl,rfl⟩
 case round =>
  obtain⟨i,hi,rfl,rfl⟩:=hrel
  have hb:=ofBe_lt (s.data.toList.take i)
  by_cases hlt:i<s.size
  ·have y1:decide (i<s.size)=true:=decide_eq_true hlt
   have hl:(s.data.toList.take i).length=i:=by simp;omega
   rw[hl]at hb
   have hb2:ofBe (s.data.toList.take i)<16777216:=Nat.lt_of_lt_of_le hb (Nat.pow_le_pow_right (show 0<256 by omega) (show i<=3 by omega))
   have hbb:(s[i]).toNat<256:=(s[i]).toNat_lt
   have HS:=Lib.hid (take_snoc s i hlt)
   have HO:=Lib.hid (ofBe_snoc (s.data.toList.take i) s[i])
   clear hb hl
   go_wp2
   go_round
   case rel=>exact⟨i+1,hlt,by go_num,by rw[HS.out,HO.out];go_num⟩
   case measure=>simp[intOf];omega
  ·have y1:decide (i<s.size)=false:=decide_eq_false hlt
   go_wp2
   go_ret
   exact⟨ret_int (by rw[List.take_of_length_le (by simp;omega)]),rfl⟩
def bitAt (l:List UInt8) (i:Nat):Nat:=((l[i/8]?).getD 0).toNat/2^(7-i%8)%2
theorem bitAt_lt (l:List UInt8) (i:Nat):bitAt l i<2:=Nat.mod_lt _ (by omega)
theorem u8_and_one:∀ x:Fin 256,bits .and .u8 ((x:Nat):Int) 1=((x:Nat):Int)%2:=by decide +kernel
def mod32 (x:Int):Int:=x%4294967296
def xor32 (a b:Int):Int:=bits .xor .u32 a b
def and32 (a b:Int):Int:=bits .and .u32 a b
def U32 (x:Int):Prop:=0<=x/\x<4294967296
theorem mod32_u (x:Int):U32 (mod32 x):=by unfold mod32 U32;omega
def sg0 (x:Int):Int:=xor32 (xor32 (rotr x 7) (rotr x 18)) (x/8)
def sg1 (x:Int):Int:=xor32 (xor32 (rotr x 17) (rotr x 19)) (x/1024)
def word (s:List UInt8) (i:Nat):Int:=(ofBe ((s.drop (4*i)).take 4):Nat)
theorem word_u (s:List UInt8) (i:Nat):U32 (word s i):=by
 have h:=ofBe_lt ((s.drop (4*i)).take 4)
 have h2:((s.drop (4*i)).take 4).length<=4:=List.length_take_le _ _
 have h3:(256:Nat)^((s.drop (4*i)).take 4).length<=256^4:=Nat.pow_le_pow_right (by omega) h2
 unfold word U32
 omega
def wnext (s:List UInt8) (l:List Int):Int :=
 if l.length<16 then word s l.length else mod32 (l.getD (l.length-16) 0+l.getD (l.length-7) 0+sg0 (l.getD (l.length-15) 0)+sg1 (l.getD (l.length-2) 0))
def ws (s:List UInt8):Nat->List Int
 | 0=>[]
 | n+1=>ws s n++[wnext s (ws s n)]
theorem ws_len (s:List UInt8) (n:Nat):(ws s n).length=n:=by induction n with|zero=>rfl|succ n ih=>simp[ws,ih]
theorem wnext_u (s:List UInt8) (l:List Int):U32 (wnext s l):=by
 unfold wnext
 split
 ·exact word_u _ _
 ·exact mod32_u _
theorem ws_u (s:List UInt8) (n:Nat):∀ x∈ws s n,U32 x:=by
 induction n with
 | zero=>intro x hx;cases hx
 | succ n ih =>
  intro x hx
  rcases List.mem_append.1 hx with hx|hx
  ·exact ih x hx
  ·simp at hx;subst hx;exact wnext_u _ _
theorem ws_get (s:List UInt8) (n i:Nat) (h:i<n):∃ x,(ws s n)[i]? = some x/\U32 x/\(ws s n).getD i 0=x:=by
 have hl:i<(ws s n).length:=by rw[ws_len];exact h
 refine⟨(ws s n)[i],List.getElem?_eq_getElem hl,ws_u s n _ (List.getElem_mem hl),?_⟩
 rw[List.getD_eq_getElem?_getD,List.getElem?_eq_getElem hl];rfl
def cells32 (l:List Int):List Value:=l.map fun x=>.int .u32 x
theorem cells32_len (l:List Int):(cells32 l).length=l.length:=by simp[cells32]
theorem cells32_get {l:List Int} {i:Nat} {x:Int} (h:l[i]? = some x):(cells32 l)[i]? = some (.int .u32 x):=by simp[cells32,h]
def wcells32 (s:List UInt8) (n:Nat):List Value:=cells32 (ws s n)++List.replicate (64-n) (.int .u32 0)
theorem wcells_get (s:List UInt8) (n i:Nat) {x:Int} (h:(ws s n)[i]? = some x):(wcells32 s n)[i]? = some (.int .u32 x):=by
 unfold wcells32
 rw[List.getElem?_append_left (by rw[cells32_len];exact(List.getElem?_eq_some_iff.1 h).1)]
 exact cells32_get h
theorem wcells_set (s:List UInt8) (n:Nat) (h:n<64):(wcells32 s n).set n (.int .u32 (wnext s (ws s n)))=wcells32 s (n+1):=by
 unfold wcells32
 have hl:(cells32 (ws s n)).length=n:=by rw[cells32_len,ws_len]
 rw[List.set_append_right _ _ (by omega),hl,Nat.sub_self]
 rw[show 64-n=(64-(n+1))+1 by omega,List.replicate_succ,List.set_cons_zero]
 simp[ws,cells32]
theorem wcells_here (s:List UInt8) (n:Nat) (h:n<64):(wcells32 s n)[n]? = some (.int .u32 0):=by
 unfold wcells32
 rw[List.getElem?_append_right (by rw[cells32_len,ws_len];omega),cells32_len,ws_len,Nat.sub_self,show 64-n=(64-(n+1))+1 by omega,List.replicate_succ]
 rfl
theorem wcells_all (s:List UInt8):wcells32 s 64=cells32 (ws s 64):=by simp[wcells32]
theorem info_w64:(Tryz.prog.info? 121).map (·.size)=some 64:=by kernel_rfl
theorem spread_any (w:World) (s:ByteArray) (hs:s.size=64) :
  Calls Tryz.prog 143 #[.string s] w fun e w'=>e = .returned (.agg (cells32 (ws s.data.toList 64)).toArray)/\Kept (fun _=>False) w w':=by
 have HS:=Lib.hid hs
 go_enter Tryz.func143,Tryz.ntmps143
 go_wp2
 go_loopw [6] (fun y wr=>∃ i:Nat,i<=64/\y = .int .i64 (i:Int)/\Blk wr w.heap.size (wcells32 s.data.toList i) 121/\Kept (fun _=>False) w wr) (fun y _=>64-(intOf y).toNat)
 case atStart=>exact⟨0,by omega,rfl,Blk.new w (wcells32 s.data.toList 0) 121,(Kept.refl _ _).alloc _⟩
 case round =>
  obtain⟨i,hi,rfl,hb,hk⟩:=hrel
  by_cases hlt:i<64
  ·have y1:decide ((i:Int)<64)=true:=by simp;omega
   by_cases h16:i<16
   ·have y2:decide ((i:Int)<16)=true:=by simp;omega
    have hsz:4*i+4<=s.size:=by omega
    have z1:=hb.free i
    have c1:=hb.cell (wcells_here s.data.toList i hlt)
    have hex:(s.extract (4*i) (4*i+4)).data.toList=(s.data.toList.drop (4*i)).take 4:=by
     rw[ByteArray.data_extract,Array.toList_extract,List.extract_eq_take_drop]
     congr 1
     omega
    have hget:=get_any wr (s.extract (4*i) (4*i+4)) (by rw[ByteArray.size_extract];omega)
    rw[hex]at hget
    change Calls _ _ _ _ (fun e w'=>e = .returned (.int .u64 (word s.data.toList i))/\wr=w')at hget
    have hwn:word s.data.toList i=wnext s.data.toList (ws s.data.toList i):=by unfold wnext;rw[if_pos (by rw[ws_len];exact h16),ws_len]
    obtain⟨wu1,wu2⟩:=word_u s.data.toList i
    have wu3:word s.data.toList i%4294967296=word s.data.toList i:=by omega
    have hset:=hb.set i (.int .u32 (word s.data.toList i))
    have HW:=Lib.hid hwn
    clear hs hex hwn
    go_wp2_with (go_at_call 131;refine hget.mono ?_;rintro e w' ⟨rfl,rfl⟩)
    go_roundw
    case rel =>
     refine⟨i+1,hlt,by go_num,?_,hk.setCell (fun h=>absurd h (by show ¬ w.heap.size<w.heap.size;omega)) _⟩
     rw[<- wcells_set s.data.toList i hlt,<- HW.out]
     exact hset
    case measure=>simp[intOf];omega
   ·have y2:decide ((i:Int)<16)=false:=by simp;omega
    obtain⟨x16,g16,u16,v16⟩:=ws_get s.data.toList i (i-16) (by omega)
    obtain⟨x15,g15,u15,v15⟩:=ws_get s.data.toList i (i-15) (by omega)
    obtain⟨x7,g7,u7,v7⟩:=ws_get s.data.toList i (i-7) (by omega)
    obtain⟨x2,g2,u2,v2⟩:=ws_get s.data.toList i (i-2) (by omega)
    have c16:=hb.cell (wcells_get _ _ _ g16)
    have c15:=hb.cell (wcells_get _ _ _ g15)
    have c7:=hb.cell (wcells_get _ _ _ g7)
    have c2:=hb.cell (wcells_get _ _ _ g2)
    have z1:=hb.free i
    have c1:=hb.cell (wcells_here s.data.toList i hlt)
    have hwn:wnext s.data.toList (ws s.data.toList i)=mod32 (x16+x7+sg0 x15+sg1 x2):=by
     unfold wnext
     rw[if_neg (by rw[ws_len];exact h16),ws_len,v16,v7,v15,v2]
    have hset:=hb.set i (.int .u32 (mod32 (x16+x7+sg0 x15+sg1 x2)))
    have HW:=Lib.hid hwn
    obtain⟨a1,a2⟩:=u15
    obtain⟨b1,b2⟩:=u2
    obtain⟨d1,d2⟩:=u16
    obtain⟨f1,f2⟩:=u7
    have hi16:16<=i:=by omega
    have i15:((i:Int)-15).toNat=i-15:=by omega
    have i2:((i:Int)-2).toNat=i-2:=by omega
    have i16:((i:Int)-16).toNat=i-16:=by omega
    have i7:((i:Int)-7).toNat=i-7:=by omega
    have q1:0<=(i:Int)-15:=by omega
    have q2:0<=(i:Int)-16:=by omega
    have q3:IntKind.i64.wrap ((i:Int)-15)=(i:Int)-15:=IntWalk.i64_in _ (by omega)
    have q4:IntKind.i64.wrap ((i:Int)-2)=(i:Int)-2:=IntWalk.i64_in _ (by omega)
    have q5:IntKind.i64.wrap ((i:Int)-16)=(i:Int)-16:=IntWalk.i64_in _ (by omega)
    have q6:IntKind.i64.wrap ((i:Int)-7)=(i:Int)-7:=IntWalk.i64_in _ (by omega)
    have r1:(16:Int)<=(i:Int):=by omega
    have r2:(i:Int)-16<64:=by omega
    have r3:(7:Int)<=(i:Int):=by omega
    have r4:(i:Int)-7<64:=by omega
    have r5:(i:Int)<64:=by omega
    have r6:(15:Int)<=(i:Int):=by omega
    have r7:(i:Int)-15<64:=by omega
    have r8:(2:Int)<=(i:Int):=by omega
    have r9:(i:Int)-2<64:=by omega
    clear hs hwn g16 g15 g7 g2 v16 v15 v7 v2
    go_wp2_with fail
    go_quiet (fail)
    go_wp2_with fail
    refine wp_region_tail 29 (by kernel_rfl) (by kernel_rfl) ?_
    simp only[List.take_succ_cons,List.take_zero,List.drop_succ_cons,List.drop_zero]
    repeat still_step
    still_call (calls_pure (right_any _ x15 7 7 rfl (by decide) a1 a2))
    repeat still_step
    still_call (calls_pure (right_any _ x15 18 18 rfl (by decide) a1 a2))
    repeat still_step
    still_call (calls_pure (right_any _ x2 17 17 rfl (by decide) b1 b2))
    repeat still_step
    still_call (calls_pure (right_any _ x2 19 19 rfl (by decide) b1 b2))
    repeat still_step
    refine wpStill_nil ?_
    go_wp2_with fail
    go_roundw
    case rel =>
     refine⟨i+1,hlt,by go_num,?_,(hk.drewN _).setCell (fun h=>absurd h (by show ¬ w.heap.size<w.heap.size;omega)) _⟩
     rw[<- wcells_set s.data.toList i hlt,HW.out]
     exact(hb.drewN _).set i _
    case measure=>simp[intOf];omega
  ·have y1:decide ((i:Int)<64)=false:=by simp;omega
   have hi2:i=64:=by omega
   subst hi2
   rw[wcells_all]at hb
   have hlen:(cells32 (ws s.data.toList 64)).length=64:=by rw[cells32_len,ws_len]
   have hsz:(Tryz.prog.info? 121).map (·.size)=some (cells32 (ws s.data.toList 64)).length:=by rw[hlen];exact info_w64
   have hsz2:(Tryz.prog.info? 121).map (·.size)=some (cells32 (ws s.data.toList 64)).toArray.size:=by rw[List.size_toArray];exact hsz
   have hst:=hb.setCells 0 (cells32 (ws s.data.toList 64)) (by omega)
   rw[splice_whole rfl]at hst
   have HB:=Lib.hid (And.intro hb.range0 (And.intro (hb.there 0 (cells32 (ws s.data.toList 64)).toArray.size (by simp)) (And.intro hst (And.intro hsz hsz2))))
   clear hb hlen hsz hsz2 hst hs
   go_wp2_with (first|(refine wpList_load_mid rfl 121 _ rfl w.heap.size 0 rfl (cells32 (ws s.data.toList 64)) _ HB.out.1 Tryz.underlying121 rfl HB.out.2.2.2.1 ?_)|(refine wpList_store_mid rfl 121 _ _ rfl w.heap.size 0 (cells32 (ws s.data.toList 64)).toArray rfl rfl HB.out.2.1 HB.out.2.2.2.2 (all_oneCell_toArray i32_oneCell) ?_))
   exact bodyPost_ret (v:=.agg (cells32 (ws s.data.toList 64)).toArray) (HB.out.2.2.1.result rfl rfl Tryz.underlying121 rfl HB.out.2.2.2.1) rfl ⟨rfl,hk.then_ (kept_setCells _ _ _ _) (fun i hi e=>by omega)⟩
theorem run_index_arr {P:Program} {t e:TypeId} {n:Nat} {w:World} (ht:P.underlying t=some (.array n e)) (hs:∀ w,(sizeOf e).run P w = .ok 1 w) (ha:∀ w,(isAgg e).run P w = .ok false w) (l:List Value) (i:Nat) (hi:i<n) (v:Value) (hv:l[i]? = some v) :
  (Instr.index t (.agg l.toArray) (.int .i64 (i:Int))).run P w = .ok v w:=by
 have h0:(0:Int)<=(i:Int)/\(i:Int)<(n:Int):=by omega
 simp[Instr.index,asIntOf,Sem.run_bind,run_underlying ht,h0,hs,part,ha,hv]
 intro h;omega
def shaFirst:List Int:=[1779033703,3144134277,1013904242,2773480762,1359893119,2600822924,528734635,1541459225]
def shaRounds:List Int:=[1116352408,1899447441,3049323471,3921009573,961987163,1508970993,2453635748,2870763221,3624381080,310598401,607225278,1426881987,1925078388,2162078206,2614888103,3248222580,3835390401,4022224774,264347078,604807628,770255983,1249150122,1555081692,1996064986,2554220882,2821834349,2952996808,3210313671,3336571891,3584528711,113926993,338241895,666307205,773529912,1294757372,1396182291,1695183700,1986661051,2177026350,2456956037,2730485921,2820302411,3259730800,3345764771,3516065817,3600352804,4094571909,275423344,430227734,506948616,659060556,883997877,958139571,1322822218,1537002063,1747873779,1955562222,2024104815,2227730452,2361852424,2428436474,2756734187,3204031479,3329325298]
structure Tab (w:World):Prop where
 first:∀ i v,(cells32 shaFirst)[i]? = some v->w.cell? ⟨0,i,none⟩=some v
 rounds:∀ i v,(cells32 shaRounds)[i]? = some v->w.cell? ⟨1,i,none⟩=some v
theorem Kept.cell {S:Nat->Prop} {w w':World} (h:Kept S w w') {p:Addr} {v:Value} (hv:w.cell? p=some v) (hS:¬ S p.block):w'.cell? p=some v:=by
 have hb:p.block<w.heap.size:=World.block_lt_of_cell? w _ hv
 have:=h.block p.block hb hS
 rw[<- hv]
 unfold World.cell?
 rw[this]
theorem Tab.kept {S:Nat->Prop} {w w':World} (h:Tab w) (hk:Kept S w w') (h0:¬ S 0) (h1:¬ S 1):Tab w' :=
 ⟨fun i v hv=>hk.cell (h.first i v hv) h0,fun i v hv=>hk.cell (h.rounds i v hv) h1⟩
theorem Tab.same {w w':World} (h:Tab w) (hk:Kept (fun _=>False) w w'):Tab w':=h.kept hk id id
structure V8 where
 (a b c d e f g h:Int)
abbrev V8.cells (v:V8):List Value:=[.int .u32 v.a,.int .u32 v.b,.int .u32 v.c,.int .u32 v.d,.int .u32 v.e,.int .u32 v.f,.int .u32 v.g,.int .u32 v.h]
abbrev V8.agg (v:V8):Value:=.agg #[.int .u32 v.a,.int .u32 v.b,.int .u32 v.c,.int .u32 v.d,.int .u32 v.e,.int .u32 v.f,.int .u32 v.g,.int .u32 v.h]
structure V8.U (v:V8):Prop where
 (a:U32 v.a) (b:U32 v.b) (c:U32 v.c) (d:U32 v.d) (e:U32 v.e) (f:U32 v.f) (g:U32 v.g) (h:U32 v.h)
def Sg0 (x:Int):Int:=xor32 (xor32 (rotr x 2) (rotr x 13)) (rotr x 22)
def Sg1 (x:Int):Int:=xor32 (xor32 (rotr x 6) (rotr x 11)) (rotr x 25)
theorem sizeU32 (w:World):(sizeOf 120).run Tryz.prog w = .ok 1 w:=by kernel_rfl
theorem aggU32 (w:World):(isAgg 120).run Tryz.prog w = .ok false w:=by kernel_rfl
theorem index_w (l:List Value) (i:Nat) (hi:i<64) (v:Value) (hv:l[i]? = some v) (w:World):(Instr.index 121 (.agg l.toArray) (.int .i64 (i:Int))).run Tryz.prog w = .ok v w :=
 run_index_arr Tryz.underlying121 sizeU32 aggU32 l i hi v hv
def chF (e f g:Int):Int:=xor32 (and32 e f) (and32 (xor32 IntKind.u32.max e) g)
def majF (a b c:Int):Int:=xor32 (xor32 (and32 a b) (and32 a c)) (and32 b c)
def mixT (v:V8) (k n:Int):Int:=v.h+Sg1 v.e+chF v.e v.f v.g+k+n
def mixU (v:V8):Int:=Sg0 v.a+majF v.a v.b v.c
def mixRound (v:V8) (k n:Int):V8:=⟨mod32 (mixT v k n+mixU v),v.a,v.b,v.c,mod32 (v.d+mixT v k n),v.e,v.f,v.g⟩
def mixRounds (v:V8) (W:List Int):Nat->V8
 | 0=>v
 | i+1=>mixRound (mixRounds v W i) (shaRounds.getD i 0) (W.getD i 0)
theorem mixRounds_u (v:V8) (hv:v.U) (W:List Int) (i:Nat):(mixRounds v W i).U:=by
 induction i with
 | zero=>exact hv
 | succ i ih=>exact⟨mod32_u _,ih.a,ih.b,ih.c,mod32_u _,ih.e,ih.f,ih.g⟩
def V8.ints (v:V8):List Int:=[v.a,v.b,v.c,v.d,v.e,v.f,v.g,v.h]
theorem V8.ints_u {v:V8} (h:v.U) (i:Nat) (hi:i<8):∃ x,v.ints[i]? = some x/\U32 x:=by
 match i,hi with
 | 0,_=>exact⟨_,rfl,h.a⟩
 | 1,_=>exact⟨_,rfl,h.b⟩
 | 2,_=>exact⟨_,rfl,h.c⟩
 | 3,_=>exact⟨_,rfl,h.d⟩
 | 4,_=>exact⟨_,rfl,h.e⟩
 | 5,_=>exact⟨_,rfl,h.f⟩
 | 6,_=>exact⟨_,rfl,h.g⟩
 | 7,_=>exact⟨_,rfl,h.h⟩
def V8.add (v was:V8):V8:=⟨mod32 (v.a+was.a),mod32 (v.b+was.b),mod32 (v.c+was.c),mod32 (v.d+was.d),mod32 (v.e+was.e),mod32 (v.f+was.f),mod32 (v.g+was.g),mod32 (v.h+was.h)⟩
theorem V8.add_u (v was:V8):(v.add was).U:=⟨mod32_u _,mod32_u _,mod32_u _,mod32_u _,mod32_u _,mod32_u _,mod32_u _,mod32_u _⟩
def sumTo (l was:List Int) (i:Nat):List Int:=(List.zipWith (fun x y=>mod32 (x+y)) l was).take i++l.drop i
theorem sumTo_get {l was:List Int} (hl:l.length=was.length) {i:Nat} {x:Int} (h:l[i]? = some x):(sumTo l was i)[i]? = some x:=by
 have hi:=(List.getElem?_eq_some_iff.1 h).1
 unfold sumTo
 have hlen:((List.zipWith (fun x y=>mod32 (x+y)) l was).take i).length=i:=by rw[List.length_take,List.length_zipWith];omega
 rw[List.getElem?_append_right (by omega),hlen,Nat.sub_self,List.getElem?_drop]
 exact h
theorem sumTo_set {l was:List Int} (hl:l.length=was.length) {i:Nat} {x y:Int} (h:l[i]? = some x) (h':was[i]? = some y):(sumTo l was i).set i (mod32 (x+y))=sumTo l was (i+1):=by
 have hi:=(List.getElem?_eq_some_iff.1 h).1
 have hz:(List.zipWith (fun x y=>mod32 (x+y)) l was)[i]? = some (mod32 (x+y)):=by rw[List.getElem?_zipWith,h,h']
 have hlen:((List.zipWith (fun x y=>mod32 (x+y)) l was).take i).length=i:=by rw[List.length_take,List.length_zipWith];omega
 unfold sumTo
 rw[List.take_add_one,hz,List.set_append_right _ _ (by omega),hlen,Nat.sub_self,List.drop_eq_getElem_cons hi,List.set_cons_zero,List.append_assoc]
 rfl
theorem cells32_set (l:List Int) (i:Nat) (x:Int):(cells32 l).set i (.int .u32 x)=cells32 (l.set i x):=by simp[cells32,List.map_set]
def mixM (v:V8) (s:List UInt8):V8:=(mixRounds v (ws s 64) 64).add v
theorem mixM_u (v:V8) (s:List UInt8):(mixM v s).U:=V8.add_u _ _
theorem rounds_get:∀ i,i<64->∃ k,shaRounds[i]? = some k/\U32 k/\shaRounds.getD i 0=k:=by
 have h:∀ x∈shaRounds,U32 x:=by unfold shaRounds U32;decide
 intro i hi
 have hl:i<shaRounds.length:=by show i<64;exact hi
 refine⟨shaRounds[i],List.getElem?_eq_getElem hl,h _ (List.getElem_mem hl),?_⟩
 rw[List.getD_eq_getElem?_getD,List.getElem?_eq_getElem hl];rfl
theorem info_v8:(Tryz.prog.info? 122).map (·.size)=some 8:=by kernel_rfl
theorem mix_any (w:World) (v:V8) (hv:v.U) (s:ByteArray) (hs:s.size=64) (ht:Tab w) :
  Calls Tryz.prog 128 #[v.agg,.string s] w fun e w'=>e = .returned (mixM v s.data.toList).agg/\Kept (fun _=>False) w w':=by
 obtain⟨va,vb,vc,vd,ve,vf,vg,vh⟩:=v
 have HS:=Lib.hid hs
 go_enter Tryz.func128,Tryz.ntmps128
 go_wp2_with (go_at_call 143;refine(spread_any _ s HS.out).mono ?_;rintro e w1 ⟨rfl,hk1⟩)
 clear hs
 have hbb:Blk w1 w.heap.size (V8.cells ⟨va,vb,vc,vd,ve,vf,vg,vh⟩) 122/\Blk w1 (w.heap.size+1) [.int .u32 0,.int .u32 0,.int .u32 0,.int .u32 0,.int .u32 0,.int .u32 0,.int .u32 0,.int .u32 0] 122/\Blk w1 (w.heap.size+1+1) (V8.cells ⟨va,vb,vc,vd,ve,vf,vg,vh⟩) 122:=by
  have h1:=Blk.new w (V8.cells ⟨va,vb,vc,vd,ve,vf,vg,vh⟩) 122
  have h2:=Blk.new (w.alloc (.cells (V8.cells ⟨va,vb,vc,vd,ve,vf,vg,vh⟩).toArray 122)) [.int .u32 0,.int .u32 0,.int .u32 0,.int .u32 0,.int .u32 0,.int .u32 0,.int .u32 0,.int .u32 0] 122
  have h3:=Blk.new ((w.alloc (.cells (V8.cells ⟨va,vb,vc,vd,ve,vf,vg,vh⟩).toArray 122)).alloc (.cells #[.int .u32 0,.int .u32 0,.int .u32 0,.int .u32 0,.int .u32 0,.int .u32 0,.int .u32 0,.int .u32 0] 122)) (V8.cells ⟨va,vb,vc,vd,ve,vf,vg,vh⟩) 122
  simp only[World.size_alloc]at h2 h3
  exact⟨((h1.alloc _).alloc _).kept hk1 id,(h2.alloc _).kept hk1 id,h3.kept hk1 id⟩
 have hk:Kept (fun _=>False) w w1:=((((Kept.refl _ _).alloc _).alloc _).alloc _).trans hk1
 obtain⟨hbox,hres,hvb⟩:=hbb
 have hW:=ws_get s.data.toList 64
 have HM:=Lib.hid (show mixM ⟨va,vb,vc,vd,ve,vf,vg,vh⟩ s.data.toList=(mixRounds ⟨va,vb,vc,vd,ve,vf,vg,vh⟩ (ws s.data.toList 64) 64).add ⟨va,vb,vc,vd,ve,vf,vg,vh⟩from rfl)
 generalize ws s.data.toList 64=W at *
 have hwi:∀ i,i<64->∃ x,W[i]? = some x/\U32 x/\W.getD i 0=x:=hW
 clear hW hk1 HS
 go_loopw [16] (fun y wr=>∃ (i:Nat) (V:V8),i<=64/\y = .int .i64 (i:Int)/\Hid (V=mixRounds ⟨va,vb,vc,vd,ve,vf,vg,vh⟩ W i)/\Blk wr w.heap.size (V8.cells ⟨va,vb,vc,vd,ve,vf,vg,vh⟩) 122/\Blk wr (w.heap.size+1) [.int .u32 0,.int .u32 0,.int .u32 0,.int .u32 0,.int .u32 0,.int .u32 0,.int .u32 0,.int .u32 0] 122/\Blk wr (w.heap.size+1+1) V.cells 122/\Kept (fun _=>False) w wr) (fun y _=>64-(intOf y).toNat)
 case atStart=>exact⟨0,⟨va,vb,vc,vd,ve,vf,vg,vh⟩,by omega,rfl,Lib.hid rfl,hbox,hres,hvb,hk⟩
 case round =>
  obtain⟨i,V,hi,rfl,HV,hbox,hres,hvb,hk⟩:=hrel
  have hVU:V.U:=by rw[HV.out];exact mixRounds_u _ hv W i
  obtain⟨a,b,c,d,e,f,g,hh⟩:=V
  by_cases hlt:i<64
  ·have y1:decide ((i:Int)<64)=true:=by simp;omega
   obtain⟨n,hn1,hn2,hn3⟩:=hwi i hlt
   have hidx:=index_w (cells32 W) i hlt (.int .u32 n) (cells32_get hn1)
   obtain⟨k,hk1,hk2,hk3⟩:∃ k,shaRounds[i]? = some k/\U32 k/\shaRounds.getD i 0=k:=rounds_get i hlt
   have hkc:=(ht.same hk).rounds i _ (cells32_get hk1)
   have t0:=hvb.cell (i:=0) rfl
   have t1:=hvb.cell (i:=1) rfl
   have t2:=hvb.cell (i:=2) rfl
   have t3:=hvb.cell (i:=3) rfl
   have t4:=hvb.cell (i:=4) rfl
   have t5:=hvb.cell (i:=5) rfl
   have t6:=hvb.cell (i:=6) rfl
   have t7:=hvb.cell (i:=7) rfl
   have z0:=hvb.free 0
   have z1:=hvb.free 1
   have z2:=hvb.free 2
   have z3:=hvb.free 3
   have z4:=hvb.free 4
   have z5:=hvb.free 5
   have z6:=hvb.free 6
   have z7:=hvb.free 7
   have r1:(0:Int)<=(i:Int):=by omega
   have r2:(i:Int)<64:=by omega
   obtain⟨e1,e2⟩:=hVU.e
   obtain⟨a1,a2⟩:=hVU.a
   have HN:=Lib.hid (And.intro hn3 hk3)
   clear hn1 hn3 hk1 hk3
   simp only at e1 e2 a1 a2
   go_wp2_with fail
   go_quiet (fail)
   go_wp2_with fail
   go_quiet ((first|(go_at_call 144;with_reducible exact quiet_on (right_any _ e 6 6 rfl (by decide) e1 e2))|(go_at_call 144;with_reducible exact quiet_on (right_any _ e 11 11 rfl (by decide) e1 e2))|(go_at_call 144;with_reducible exact quiet_on (right_any _ e 25 25 rfl (by decide) e1 e2))))
   go_wp2_with fail
   go_quiet ((first|(go_at_call 144;with_reducible exact quiet_on (right_any _ a 2 2 rfl (by decide) a1 a2))|(go_at_call 144;with_reducible exact quiet_on (right_any _ a 13 13 rfl (by decide) a1 a2))|(go_at_call 144;with_reducible exact quiet_on (right_any _ a 22 22 rfl (by decide) a1 a2))))
   go_wp2_with fail
   go_roundw
   case rel =>
    have hkB:∀ wz:World,Kept (fun x=>x=w.heap.size+1+1) wr wz->Blk wz w.heap.size (V8.cells ⟨va,vb,vc,vd,ve,vf,vg,vh⟩) 122/\Blk wz (w.heap.size+1) [.int .u32 0,.int .u32 0,.int .u32 0,.int .u32 0,.int .u32 0,.int .u32 0,.int .u32 0,.int .u32 0] 122/\Kept (fun _=>False) w wz:=fun wz hz =>
     ⟨hbox.kept hz (by omega),hres.kept hz (by omega),hk.then_ hz (fun i hi e=>by omega)⟩
    refine⟨i+1,mixRound ⟨a,b,c,d,e,f,g,hh⟩ k n,hlt,by go_num,Lib.hid ?_,(hkB _ ?_).1,(hkB _ ?_).2.1,?_,(hkB _ ?_).2.2⟩
    ·rw[HV.out]
     have e1:mixRounds ⟨va,vb,vc,vd,ve,vf,vg,vh⟩ W (i+1)=mixRound (mixRounds ⟨va,vb,vc,vd,ve,vf,vg,vh⟩ W i) (shaRounds.getD i 0) (W.getD i 0):=rfl
     rw[e1,HN.out.1,HN.out.2]
    ·iterate 8 (refine Kept.setCell (S:=fun x=>x=w.heap.size+1+1) ?_ (fun _=>rfl) _)
     exact(Kept.refl _ _).drewN _
    ·iterate 8 (refine Kept.setCell (S:=fun x=>x=w.heap.size+1+1) ?_ (fun _=>rfl) _)
     exact(Kept.refl _ _).drewN _
    ·exact((((((((hvb.drewN _).set 0 _).set 1 _).set 2 _).set 3 _).set 4 _).set 5 _).set 6 _).set 7 _
    ·iterate 8 (refine Kept.setCell (S:=fun x=>x=w.heap.size+1+1) ?_ (fun _=>rfl) _)
     exact(Kept.refl _ _).drewN _
   case measure=>simp[intOf];omega
  ·have y1:decide ((i:Int)<64)=false:=by simp;omega
   have hi2:i=64:=by omega
   subst hi2
   have HL:=Lib.hid (And.intro HV.out HM.out)
   clear HV HM hwi ht
   obtain⟨wo,rfl⟩:∃ wo:World,wo=wr:=⟨_,rfl⟩
   go_wp2_with fail
   go_loopw [95] (fun y wr=>∃ (i:Nat),i<=8/\y = .int .i64 (i:Int)/\Blk wr w.heap.size (cells32 (V8.ints ⟨va,vb,vc,vd,ve,vf,vg,vh⟩)) 122/\Blk wr (w.heap.size+1) [.int .u32 0,.int .u32 0,.int .u32 0,.int .u32 0,.int .u32 0,.int .u32 0,.int .u32 0,.int .u32 0] 122/\Blk wr (w.heap.size+1+1) (cells32 (sumTo (V8.ints ⟨a,b,c,d,e,f,g,hh⟩) (V8.ints ⟨va,vb,vc,vd,ve,vf,vg,vh⟩) i)) 122/\Kept (fun _=>False) w wr) (fun y _=>8-(intOf y).toNat)
   case atStart=>exact⟨0,by omega,rfl,hbox,hres,hvb,hk⟩
   case round =>
    obtain⟨i,hi,rfl,hbox,hres,hvb,hk⟩:=hrel
    by_cases hlt:i<8
    ·have y1:decide ((i:Int)<8)=true:=by simp;omega
     obtain⟨x,hx1,hx2,hx3⟩:=V8.ints_u hVU i hlt
     obtain⟨y,hy1,hy2,hy3⟩:=V8.ints_u hv i hlt
     have hl8:(V8.ints ⟨a,b,c,d,e,f,g,hh⟩).length=(V8.ints ⟨va,vb,vc,vd,ve,vf,vg,vh⟩).length:=rfl
     have t0:=hvb.cell (cells32_get (sumTo_get hl8 hx1))
     have t1:=hbox.cell (cells32_get hy1)
     have z0:=hvb.free i
     have r1:(0:Int)<=(i:Int):=by omega
     have r2:(i:Int)<8:=by omega
     have hset:=hvb.drew.set i (.int .u32 (mod32 (x+y)))
     rw[cells32_set,sumTo_set hl8 hx1 hy1]at hset
     clear hx1 hy1 hl8
     go_wp2_with fail
     go_region
     go_wp2_with fail
     go_roundw
     case rel =>
      refine⟨i+1,hlt,by go_num,?_,?_,hset,?_⟩
      ·exact hbox.kept ((Kept.refl (fun x=>x=w.heap.size+1+1) _).drew.setCell (fun _=>rfl) _) (by omega)
      ·exact hres.kept ((Kept.refl (fun x=>x=w.heap.size+1+1) _).drew.setCell (fun _=>rfl) _) (by omega)
      ·exact hk.then_ ((Kept.refl (fun x=>x=w.heap.size+1+1) _).drew.setCell (fun _=>rfl) _) (fun i hi e=>by omega)
     case measure=>simp[intOf];omega
    ·have y1:decide ((i:Int)<8)=false:=by simp;omega
     have hi2:i=8:=by omega
     subst hi2
     have hvb':Blk wr (w.heap.size+1+1) (V8.add ⟨a,b,c,d,e,f,g,hh⟩ ⟨va,vb,vc,vd,ve,vf,vg,vh⟩).cells 122:=hvb
     have hst:=hres.setCells 0 (V8.add ⟨a,b,c,d,e,f,g,hh⟩ ⟨va,vb,vc,vd,ve,vf,vg,vh⟩).cells (Nat.le_refl 8)
     rw[splice_whole (by rfl)]at hst
     have HB:=Lib.hid (And.intro hvb'.range0 (And.intro (hres.there 0 8 (Nat.le_refl 8)) hst))
     clear hvb' hst
     have hM:mixM ⟨va,vb,vc,vd,ve,vf,vg,vh⟩ s.data.toList=V8.add ⟨a,b,c,d,e,f,g,hh⟩ ⟨va,vb,vc,vd,ve,vf,vg,vh⟩:=by rw[HL.out.2,<- HL.out.1]
     have HM:=Lib.hid hM
     clear hM hvb hres hbox
     go_wp2_with (first|(refine wpList_load_mid rfl 122 _ rfl (w.heap.size+1+1) 0 rfl (V8.add ⟨a,b,c,d,e,f,g,hh⟩ ⟨va,vb,vc,vd,ve,vf,vg,vh⟩).cells _ HB.out.1 Tryz.underlying122 rfl info_v8 ?_)|(refine wpList_store_mid rfl 122 _ _ rfl (w.heap.size+1) 0 (V8.add ⟨a,b,c,d,e,f,g,hh⟩ ⟨va,vb,vc,vd,ve,vf,vg,vh⟩).cells.toArray rfl rfl HB.out.2.1 info_v8 (all_oneCell_toArray (i32_oneCell (k:=.u32) (l:=(V8.add ⟨a,b,c,d,e,f,g,hh⟩ ⟨va,vb,vc,vd,ve,vf,vg,vh⟩).ints))) ?_))
     rw[HM.out]
     exact bodyPost_ret (v:=(V8.add ⟨a,b,c,d,e,f,g,hh⟩ ⟨va,vb,vc,vd,ve,vf,vg,vh⟩).agg) (HB.out.2.2.result rfl rfl Tryz.underlying122 rfl info_v8) rfl ⟨rfl,hk.then_ (kept_setCells _ _ _ _) (fun i hi e=>by omega)⟩
theorem bit_any (w:World) (s:ByteArray) (i:Nat) (hi:i/8<s.size) (hm:i<2048) :
  Calls Tryz.prog 126 #[.string s,.int .i64 (i:Int)] w fun e w'=>e = .returned (.int .i64 (bitAt s.data.toList i:Int))/\w=w':=by
 obtain⟨q,hq⟩:∃ q:Nat,i/8=q:=⟨_,rfl⟩
 obtain⟨r,hr⟩:∃ r:Nat,i%8=r:=⟨_,rfl⟩
 have hr8:r<8:=by omega
 have e1:(i:Int)/8=(q:Int):=by omega
 have e2:(i:Int)%8=(r:Int):=by omega
 rw[hq]at hi
 have hc:(s[q]).toNat<256:=(s[q]).toNat_lt
 have hb:bitAt s.data.toList i=(s[q]).toNat/2^(7-r)%2:=by
  unfold bitAt
  rw[hq,hr]
  have:s.data.toList[q]? = some s[q]:=by rw[List.getElem?_eq_getElem (by simpa using hi)];rfl
  rw[this];rfl
 have hand:∀ (k:Nat) (m:Int),m=2^k->wrap64 (bits .and .u8 (((s[q]).toNat:Int)/m) 1)=(((s[q]).toNat/2^k%2:Nat):Int):=by
  intro k m hm
  subst hm
  have:=u8_and_one ⟨(s[q]).toNat/2^k,Nat.lt_of_le_of_lt (Nat.div_le_self _ _) hc⟩
  have e:(((s[q]).toNat:Int)/2^k)=(((s[q]).toNat/2^k:Nat):Int):=by push_cast;rfl
  rw[e,this]
  have e2:((((s[q]).toNat/2^k:Nat):Int)%2)=(((s[q]).toNat/2^k%2:Nat):Int):=by push_cast;rfl
  rw[e2]
  have:=Nat.mod_lt ((s[q]).toNat/2^k) (show 0<2 by omega)
  generalize(s[q]).toNat/2^k%2=z at *
  simp only[wrap64]
  omega
 have HAND:=Lib.hid hand
 clear hand
 rw[hb]
 have x1:decide ((i:Int)<0)=false:=by simp
 have x2:decide ((s.size:Int)<=(q:Int))=false:=by simp;omega
 have x3:decide (s.size<=q)=false:=by simp;omega
 have x4:decide (q<s.size)=true:=by simp;omega
 clear hb hq hr
 match r,hr8 with
 | 0,_ =>
  go_enter Tryz.func126,Tryz.ntmps126
  go_wp2
  go_ret
  exact⟨ret_int (HAND.out 7 128 (by decide)),rfl⟩
 | 1,_ =>
  go_enter Tryz.func126,Tryz.ntmps126
  go_wp2
  go_ret
  exact⟨ret_int (HAND.out 6 64 (by decide)),rfl⟩
 | 2,_ =>
  go_enter Tryz.func126,Tryz.ntmps126
  go_wp2
  go_ret
  exact⟨ret_int (HAND.out 5 32 (by decide)),rfl⟩
 | 3,_ =>
  go_enter Tryz.func126,Tryz.ntmps126
  go_wp2
  go_ret
  exact⟨ret_int (HAND.out 4 16 (by decide)),rfl⟩
 | 4,_ =>
  go_enter Tryz.func126,Tryz.ntmps126
  go_wp2
  go_ret
  exact⟨ret_int (HAND.out 3 8 (by decide)),rfl⟩
 | 5,_ =>
  go_enter Tryz.func126,Tryz.ntmps126
  go_wp2
  go_ret
  exact⟨ret_int (HAND.out 2 4 (by decide)),rfl⟩
 | 6,_ =>
  go_enter Tryz.func126,Tryz.ntmps126
  go_wp2
  go_ret
  exact⟨ret_int (HAND.out 1 2 (by decide)),rfl⟩
 | 7,_ =>
  go_enter Tryz.func126,Tryz.ntmps126
  go_wp2
  go_ret
  exact⟨ret_int (by have:=HAND.out 0 1 (by decide);rwa[Int.ediv_one]at this),rfl⟩
end Go.Proofs.YtdmedbhbefdnkaaGreatDoor
