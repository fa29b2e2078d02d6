/- Bits -/
import Derived.Laws.BitsAll
import Derived.Test.YtdmedbhbefdnkaaGreatDoorUKeyringPlay12
set_option linter.unusedVariables false
set_option linter.unusedSimpArgs false
set_option maxRecDepth 100000
set_option maxHeartbeats 16000000
namespace Go.Proofs.YtdmedbhbefdnkaaGreatDoor
open Go.RowKit
def rotr (x:Int) (k:Nat):Int:=bits .or .u32 (IntKind.u32.wrap (x*2^(32-k))) (x/2^k)
theorem rotate_any (w:World) (x:Int) (k:Nat) (hk:k∈[2,6,7,11,13,17,18,19,22,25]) (h0:0<=x) (h1:x<4294967296) :
  Calls Tryz.prog 161 #[.int .u32 x,.int .i64 (-(k:Int))] w fun e w'=>e = .returned (.int .u32 (rotr x k))/\w=w':=by
 simp only[List.mem_cons,List.not_mem_nil,or_false]at hk
 rcases hk with rfl|rfl|rfl|rfl|rfl|rfl|rfl|rfl|rfl|rfl
 ·have e1:bits .and .u64 (IntKind.u64.wrap (-2)) 31=30:=by decide +kernel
  have er:rotr x 2=bits .or .u32 (IntKind.u32.wrap (x*1073741824)) (x/4):=rfl
  go_enter Tryz.func161,Tryz.ntmps161
  go_wp2
  go_ret
  exact⟨rfl,rfl⟩
 ·have e1:bits .and .u64 (IntKind.u64.wrap (-6)) 31=26:=by decide +kernel
  have er:rotr x 6=bits .or .u32 (IntKind.u32.wrap (x*67108864)) (x/64):=rfl
  go_enter Tryz.func161,Tryz.ntmps161
  go_wp2
  go_ret
  exact⟨rfl,rfl⟩
 ·have e1:bits .and .u64 (IntKind.u64.wrap (-7)) 31=25:=by decide +kernel
  have er:rotr x 7=bits .or .u32 (IntKind.u32.wrap (x*33554432)) (x/128):=rfl
  go_enter Tryz.func161,Tryz.ntmps161
  go_wp2
  go_ret
  exact⟨rfl,rfl⟩
 ·have e1:bits .and .u64 (IntKind.u64.wrap (-11)) 31=21:=by decide +kernel
  have er:rotr x 11=bits .or .u32 (IntKind.u32.wrap (x*2097152)) (x/2048):=rfl
  go_enter Tryz.func161,Tryz.ntmps161
  go_wp2
  go_ret
  exact⟨rfl,rfl⟩
 ·have e1:bits .and .u64 (IntKind.u64.wrap (-13)) 31=19:=by decide +kernel
  have er:rotr x 13=bits .or .u32 (IntKind.u32.wrap (x*524288)) (x/8192):=rfl
  go_enter Tryz.func161,Tryz.ntmps161
  go_wp2
  go_ret
  exact⟨rfl,rfl⟩
 ·have e1:bits .and .u64 (IntKind.u64.wrap (-17)) 31=15:=by decide +kernel
  have er:rotr x 17=bits .or .u32 (IntKind.u32.wrap (x*32768)) (x/131072):=rfl
  go_enter Tryz.func161,Tryz.ntmps161
  go_wp2
  go_ret
  exact⟨rfl,rfl⟩
 ·have e1:bits .and .u64 (IntKind.u64.wrap (-18)) 31=14:=by decide +kernel
  have er:rotr x 18=bits .or .u32 (IntKind.u32.wrap (x*16384)) (x/262144):=rfl
  go_enter Tryz.func161,Tryz.ntmps161
  go_wp2
  go_ret
  exact⟨rfl,rfl⟩
 ·have e1:bits .and .u64 (IntKind.u64.wrap (-19)) 31=13:=by decide +kernel
  have er:rotr x 19=bits .or .u32 (IntKind.u32.wrap (x*8192)) (x/524288):=rfl
  go_enter Tryz.func161,Tryz.ntmps161
  go_wp2
  go_ret
  exact⟨rfl,rfl⟩
 ·have e1:bits .and .u64 (IntKind.u64.wrap (-22)) 31=10:=by decide +kernel
  have er:rotr x 22=bits .or .u32 (IntKind.u32.wrap (x*1024)) (x/4194304):=rfl
  go_enter Tryz.func161,Tryz.ntmps161
  go_wp2
  go_ret
  exact⟨rfl,rfl⟩
 ·have e1:bits .and .u64 (IntKind.u64.wrap (-25)) 31=7:=by decide +kernel
  have er:rotr x 25=bits .or .u32 (IntKind.u32.wrap (x*128)) (x/33554432):=rfl
  go_enter Tryz.func161,Tryz.ntmps161
  go_wp2
  go_ret
  exact⟨rfl,rfl⟩
end Go.Proofs.YtdmedbhbefdnkaaGreatDoor
