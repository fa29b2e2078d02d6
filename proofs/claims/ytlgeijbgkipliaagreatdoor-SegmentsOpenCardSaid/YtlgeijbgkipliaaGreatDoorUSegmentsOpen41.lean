/- RRng Pt1 Pt2 Pt4 -/
import Derived.Test.YtlgeijbgkipliaaGreatDoorUSegmentsOpen30
import Derived.Test.YtlgeijbgkipliaaGreatDoorUSegmentsOpen40
import Derived.Test.YtlgeijbgkipliaaGreatDoorUSegmentsOpen28
import Derived.Test.YtlgeijbgkipliaaGreatDoorUSegmentsOpen29
import Derived.Test.YtlgeijbgkipliaaGreatDoorUSegmentsOpen13
set_option linter.unusedVariables false
set_option linter.unusedSimpArgs false
namespace Go.Proofs.YtlgeijbgkipliaaGreatDoor
open Go.RowKit
end Go.Proofs.YtlgeijbgkipliaaGreatDoor

namespace Go.Proofs.YtlgeijbgkipliaaGreatDoor
open Go.RowKit
end Go.Proofs.YtlgeijbgkipliaaGreatDoor

namespace Go.Proofs.YtlgeijbgkipliaaGreatDoor
open Go.RowKit
end Go.Proofs.YtlgeijbgkipliaaGreatDoor

namespace Go.Proofs.YtlgeijbgkipliaaGreatDoor
open Go.RowKit
section
variable {P : Program} {ops : Array Oper} {Q : Exit → Act → World → Prop} {md : Region.Mode} {S : World → Prop} {fuel : Nat} {listed : Array Bool} {a : Act} {w : World}
theorem rd2 {oi oj : Oper} (i j : Nat) (h1 : ∀ K' : Act → World → Prop, Shut (∀ a w, S w → (S w → wpAnyH P md ops Q S fuel (listed.setIfInBounds i true) a w) → K' a w) → if Region.wanted oi (yielded ops a.tmps) = true then Oper.wp P oi a w K' Q else K' (a.put oi.dst undef) w)
    (h2 : ∀ K' : Act → World → Prop, Shut (∀ a w, S w → (S w → wpAnyH P md ops Q S fuel (listed.setIfInBounds j true) a w) → K' a w) → if Region.wanted oj (yielded ops a.tmps) = true then Oper.wp P oj a w K' Q else K' (a.put oj.dst undef) w)
    (hr : Region.ready md ops listed = [i, j] := by kernel_rfl) (ho : ops.toList[i]? = some oi := by rfl) (ho2 : ops.toList[j]? = some oj := by rfl) : wpAnyH P md ops Q S (fuel + 1) listed a w :=
  wpAnyH_ready hr (by simp) (AllReadyH.cons (by rw [← Array.getElem?_toList]; exact ho) h1 (AllReadyH.cons (by rw [← Array.getElem?_toList]; exact ho2) h2 AllReadyH.nil))
end
end Go.Proofs.YtlgeijbgkipliaaGreatDoor
