/- Fill -/
import Derived.Laws.Tables
import Derived.Test.YtdmedbhbefdnkaaGreatDoorUKeyringPlay12
set_option linter.unusedVariables false
set_option linter.unusedSimpArgs false
set_option maxRecDepth 100000
set_option maxHeartbeats 16000000
namespace Go.Proofs.YtdmedbhbefdnkaaGreatDoor
open Go.RowKit
theorem foldl_zip_at (l:List Value):∀ (c:List Value) (off k:Nat),off+k+l.length<=c.length->(l.zipIdx k).foldl (fun (cs:Array Value) (x:Value × Nat)=>cs.setIfInBounds (off+x.snd) x.fst) c.toArray=(splice c (off+k) l).toArray:=by
 induction l with
 | nil=>intro c off k _;rw[splice_nil];rfl
 | cons a l ih =>
  intro c off k h
  simp only[List.length_cons]at h
  rw[List.zipIdx_cons,List.foldl_cons]
  have e:c.toArray.setIfInBounds (off+k) a=(c.set (off+k) a).toArray:=by simp
  show List.foldl _ (c.toArray.setIfInBounds (off+k) a) _=_
  rw[e,ih (c.set (off+k) a) off (k+1) (by simp;omega),show off+(k+1)=off+k+1 by omega,splice_cons _ _ _ _ (by omega)]
end Go.Proofs.YtdmedbhbefdnkaaGreatDoor
