/- Codec3 -/
import Derived.Lib.EndianBits
import Derived.Test.YtdmedbhbefdnkaaGreatDoorUKeyringPlay24
set_option linter.unusedVariables false
set_option linter.unusedSimpArgs false
set_option maxRecDepth 100000
set_option maxHeartbeats 16000000
namespace Go.Proofs.YtdmedbhbefdnkaaGreatDoor
open Go.RowKit
def readGo (l:List UInt8) (n:Nat):Option (Nat × Nat) :=
 match l with
 | []=>none
 | c::l=>if(n=0/\c.toNat=128)\/144115188075855872<=n then none
  else if c.toNat<128 then some (n*128+c.toNat%128,1)
  else(readGo l (n*128+c.toNat%128)).map fun x=>(x.1,x.2+1)
def readAt (s:ByteArray) (i n:Nat):Array Value:=match readGo (s.data.toList.drop i) n with
 | some (n,k)=>#[.int .u64 (n:Int),.string (s.extract (i+k) s.size),.bool true]
 | none => #[.int .u64 0,.string "".toUTF8,.bool false]
theorem readAt_end {s:ByteArray} {i:Nat} (h:s.size<=i) (n:Nat):readAt s i n = #[.int .u64 0,.string "".toUTF8,.bool false]:=by
 unfold readAt
 rw[List.drop_eq_nil_of_le (by simpa using h)]
 rfl
theorem readAt_cons {s:ByteArray} {i:Nat} (h:i<s.size) (n:Nat):s.data.toList.drop i=s.data[i]'h::s.data.toList.drop (i+1):=by
 rw[List.drop_eq_getElem_cons (by simpa using h)]
 simp
theorem readAt_stop {s:ByteArray} {i n:Nat} (h:i<s.size) (hc:(n=0/\(s.data[i]'h).toNat=128)\/144115188075855872<=n):readAt s i n = #[.int .u64 0,.string "".toUTF8,.bool false]:=by
 unfold readAt
 rw[readAt_cons h n]
 unfold readGo
 rw[if_pos hc]
theorem readAt_hit {s:ByteArray} {i n:Nat} (h:i<s.size) (hc:¬ ((n=0/\(s.data[i]'h).toNat=128)\/144115188075855872<=n)) (hl:(s.data[i]'h).toNat<128) :
  readAt s i n = #[.int .u64 ((n*128+(s.data[i]'h).toNat%128:Nat):Int),.string (s.extract (i+1) s.size),.bool true]:=by
 unfold readAt
 rw[readAt_cons h n]
 unfold readGo
 rw[if_neg hc,if_pos hl]
theorem readAt_next {s:ByteArray} {i n:Nat} (h:i<s.size) (hc:¬ ((n=0/\(s.data[i]'h).toNat=128)\/144115188075855872<=n)) (hl:¬ (s.data[i]'h).toNat<128) :
  readAt s i n=readAt s (i+1) (n*128+(s.data[i]'h).toNat%128):=by
 unfold readAt
 rw[readAt_cons h n]
 conv=>lhs;unfold readGo
 rw[if_neg hc,if_neg hl]
 cases readGo (s.data.toList.drop (i+1)) (n*128+(s.data[i]'h).toNat%128)with
 | none=>rfl
 | some x=>obtain⟨a,b⟩:=x;simp only[Option.map_some,Nat.add_assoc,Nat.add_comm 1 b]
theorem u8_low7:∀ x:Fin 256,bits .and .u8 ((x:Nat):Int) 127=(((x:Nat)%128:Nat):Int):=by decide +kernel
theorem u64_join7 {n d:Nat} (hn:n<144115188075855872) (hd:d<128):bits .or .u64 ((n:Int)*128) (d:Int)=((n*128+d:Nat):Int):=by
 rw[bits_join .u64 64 (by decide) wraps_u64 7 _ _ (by omega) (by omega) (by omega) (by omega) (by omega) (by omega)]
 omega
theorem read_any (w:World) (s:ByteArray) (hs:Short s.size) :
  Calls Tryz.prog 107 #[.string s] w fun e w'=>e = .returned (.tuple (readAt s 0 0))/\Kept (fun _=>False) w w':=by
 go_enter Tryz.func107,Tryz.ntmps107
 go_wp2
 go_loopw [2,9] (fun x y wr=>∃ (n i:Nat),x = .int .u64 (n:Int)/\y = .int .i64 (i:Int)/\i<=s.size/\U64n n/\Hid (readAt s 0 0=readAt s i n)/\Kept (fun _=>False) w wr) (fun _ y _=>s.size-(intOf y).toNat)
 case atStart=>exact⟨0,0,rfl,rfl,Nat.zero_le _,U64n.small (by omega),(rfl:readAt s 0 0=readAt s 0 0),Kept.refl _ _⟩
 case round =>
  obtain⟨n,i,rfl,rfl,hi,hn,HM,hk⟩:=hrel
  by_cases hlt:i<s.size
  ·have y1:decide ((i:Int)<(s.size:Int))=true:=by simp;omega
   have hc8:(s.data[i]'hlt).toNat<256:=(s.data[i]'hlt).toNat_lt
   by_cases hc:(n=0/\(s.data[i]'hlt).toNat=128)\/144115188075855872<=n
   ·have HS:readAt s 0 0=readAt s i n:=HM
    rw[readAt_stop hlt hc]at HS
    obtain⟨c,hcc⟩:∃ c:Nat,(s[i]'hlt).toNat=c:=⟨_,rfl⟩
    have hc:(n=0/\c=128)\/144115188075855872<=n:=by rw[<- hcc];exact hc
    rcases Nat.eq_zero_or_pos n with h0|h0
    ·subst h0
     have h128:c=128:=by omega
     subst h128
     clear hc
     go_wp2
     go_ret3
     exact⟨by first|rfl|(rw[HS];rfl),hk⟩
    ·have z1:decide ((n:Int)=0)=false:=by simp;omega
     have z2:decide ((144115188075855872:Int)<=(n:Int))=true:=by simp;omega
     clear hc
     go_wp2
     go_ret3
     exact⟨by first|rfl|(rw[HS];rfl),hk⟩
   ·have hcs:=hc
    obtain⟨c,hcc⟩:∃ c:Nat,(s[i]'hlt).toNat=c:=⟨_,rfl⟩
    have hcd:(s.data[i]'hlt).toNat=c:=hcc
    have hc:¬ ((n=0/\c=128)\/144115188075855872<=n):=by rw[<- hcc];exact hc
    have hc8:c<256:=hcc ▸ hc8
    have z2:decide ((144115188075855872:Int)<=(n:Int))=false:=by simp;omega
    have hn0:n≠0\/c≠128:=by omega
    have hn57:n<144115188075855872:=by omega
    have a3:bits .or .u64 ((n:Int)*128) ((c:Int)%128)=((n*128+c%128:Nat):Int):=u64_join7 hn57 (show c%128<128 by omega)
    have a4:wrap64 ((i:Int)+1)=((i+1:Nat):Int):=by unfold Short at hs;rw[IntWalk.wrap64_in _ (by omega)];omega
    have a5:(i:Int)+1<=(s.size:Int):=by omega
    clear hc
    have a1:bits .and .u8 (c:Int) 127=(c:Int)%128:=u8_low7 ⟨c,hc8⟩
    have a2:IntKind.u64.wrap ((c:Int)%128)=(c:Int)%128:=wrap_u64 (n:=c%128) (U64n.small (by omega))
    have A3:=Lib.hid a3
    clear a3
    rcases Nat.eq_zero_or_pos n with h0|h0
    ·subst h0
     have z5:decide ((c:Int)=128)=false:=by simp;omega
     have A3:Hid (bits .or .u64 0 ((c:Int)%128)=((0*128+c%128:Nat):Int)):=A3
     clear z2 hn hn57 hn0
     by_cases hc7:c<128
     ·have z4:decide ((c:Int)<128)=true:=by simp;omega
      have HS:readAt s 0 0=readAt s i 0:=HM
      rw[readAt_hit hlt hcs (by rw[hcd];exact hc7),hcd]at HS
      have HH:=Lib.hid HS
      clear HS
      go_wp2
      rw[A3.out]
      generalize((0*128+c%128:Nat):Int)=m at HH ⊢
      go_quiet (fail)
      go_wp2
      go_ret3
      exact⟨by first|rfl|(rw[HH.out];rfl),hk.drewN _⟩
     ·have z4:decide ((c:Int)<128)=false:=by simp;omega
      have HS:readAt s 0 0=readAt s i 0:=HM
      rw[readAt_next hlt hcs (by rw[hcd];exact hc7),hcd]at HS
      have HH:=Lib.hid HS
      clear HS
      go_wp2
      rw[A3.out,a4]
      exact⟨⟨0*128+c%128,i+1,rfl,rfl,by omega,by unfold U64n;omega,HH,hk⟩,by show s.size-(((i+1:Nat):Int)).toNat<s.size-((i:Int)).toNat;omega⟩
    ·have z1:decide ((n:Int)=0)=false:=by simp;omega
     by_cases hc7:c<128
     ·have z4:decide ((c:Int)<128)=true:=by simp;omega
      have HS:readAt s 0 0=readAt s i n:=HM
      rw[readAt_hit hlt hcs (by rw[hcd];exact hc7),hcd]at HS
      have HH:=Lib.hid HS
      clear HS
      go_wp2
      rw[A3.out]
      generalize((n*128+c%128:Nat):Int)=m at HH ⊢
      go_quiet (fail)
      go_wp2
      go_ret3
      exact⟨by first|rfl|(rw[HH.out];rfl),hk.drewN _⟩
     ·have z4:decide ((c:Int)<128)=false:=by simp;omega
      have HS:readAt s 0 0=readAt s i n:=HM
      rw[readAt_next hlt hcs (by rw[hcd];exact hc7),hcd]at HS
      have HH:=Lib.hid HS
      clear HS
      go_wp2
      rw[A3.out,a4]
      exact⟨⟨n*128+c%128,i+1,rfl,rfl,by omega,by unfold U64n;omega,HH,hk⟩,by show s.size-(((i+1:Nat):Int)).toNat<s.size-((i:Int)).toNat;omega⟩
  ·have y1:decide ((i:Int)<(s.size:Int))=false:=by simp;omega
   have HM:readAt s 0 0=readAt s i n:=HM
   rw[readAt_end (s:=s) (i:=i) (by omega) n]at HM
   go_wp2
   go_ret3
   exact⟨by rw[HM];rfl,hk⟩
end Go.Proofs.YtdmedbhbefdnkaaGreatDoor
