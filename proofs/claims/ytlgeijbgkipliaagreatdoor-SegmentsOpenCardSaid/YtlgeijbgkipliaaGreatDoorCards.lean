/-
  DERIVED. GIVEN WITH THE SEED: THE CARDS: each row of YtlgeijbgkipliaaGreatDoorRows.lean that lists a variable, with what it lists TIED to the program's text (the seventh form; the later family's looks); each row that meets fmt, with fmt's text TOLD by the authors' own Lean function (tested against real Go, not proved from fmt's source: count such statements apart). THE CARD IS WHAT COUNTS. Prove the row's statement (the work); the ties are given (YtlgeijbgkipliaaGreatDoorTie.lean); close each card by the builder's one call (the guide's Derived/Test/ToyasCard.lean, 'card_holds'). Laid BY PROGRAM, IN A SANDBOX (cutbox-door.mjs). By AI agents, Wed Nov 11 2026. No macro, syntax, notation, axiom, sorry.
-/
import Derived.Test.YtlgeijbgkipliaaGreatDoorRows
import GoSem.ClaimSeven
namespace Go.Proofs.YtlgeijbgkipliaaGreatDoor
namespace Rows

/-- THE TIED CARD OF 'speculumlaw13.SegmentsOpen'. -/
def segmentsOpenCard : Claim7 := { stood := { row := segmentsOpenRow, standIns := [], harness := (true, "0e8a004d83f459f2d6148add21ae7ff788da0860878e2d4a6f470cfbc7a787cd"), looks := false }, kinds := [], alts := [], laidByText := true, laidKinds := [.data, .data], laidTests := true, laidLooks := .later }
def SegmentsOpenCardSaid : Prop := Claim7.holds Tryz.pinned (.plain (OpenSpec.ofChange segmentsOpenSpec)) segmentsOpenCard

/-- THE TIED CARD OF 'speculumlaw15.ChecksNone'. -/
def checksNoneCard : Claim7 := { stood := { row := checksNoneRow, standIns := [], harness := (true, "0e8a004d83f459f2d6148add21ae7ff788da0860878e2d4a6f470cfbc7a787cd"), looks := false }, kinds := [], alts := [], laidByText := true, laidKinds := [.data, .data], laidTests := true, laidLooks := .later }
def ChecksNoneCardSaid : Prop := Claim7.holds Tryz.pinned (.plain (OpenSpec.ofChange checksNoneSpec)) checksNoneCard

/-- THE TIED CARD OF 'speculumlaw15.ChecksFew'. -/
def checksFewCard : Claim7 := { stood := { row := checksFewRow, standIns := [], harness := (true, "0e8a004d83f459f2d6148add21ae7ff788da0860878e2d4a6f470cfbc7a787cd"), looks := false }, kinds := [], alts := [], laidByText := true, laidKinds := [.data, .data], laidTests := true, laidLooks := .later }
def ChecksFewCardSaid : Prop := Claim7.holds Tryz.pinned (.plain (OpenSpec.ofChange checksFewSpec)) checksFewCard

/-- THE TIED CARD OF 'speculumlaw15.ChecksSure'. -/
def checksSureCard : Claim7 := { stood := { row := checksSureRow, standIns := [], harness := (true, "0e8a004d83f459f2d6148add21ae7ff788da0860878e2d4a6f470cfbc7a787cd"), looks := false }, kinds := [], alts := [], laidByText := true, laidKinds := [.data, .data], laidTests := true, laidLooks := .later }
def ChecksSureCardSaid : Prop := Claim7.holds Tryz.pinned (.plain (OpenSpec.ofChange checksSureSpec)) checksSureCard

/-- THE SECOND FORM's CARD OF 'speculumlaw13.SegmentsOpen'. -/
def segmentsOpenUptoCard : Claim7 := { stood := { row := segmentsOpenUptoRow, standIns := [], harness := (true, "0e8a004d83f459f2d6148add21ae7ff788da0860878e2d4a6f470cfbc7a787cd"), looks := false }, kinds := [], alts := [], laidByText := true, laidKinds := [.data, .data], laidTests := true, laidLooks := .later }
def SegmentsOpenUptoCardSaid : Prop := Claim7.holds Tryz.pinned (.plain (OpenSpec.upto segmentsOpenSpec)) segmentsOpenUptoCard

/-- THE SECOND FORM's CARD OF 'speculumlaw15.ChecksNone'. -/
def checksNoneUptoCard : Claim7 := { stood := { row := checksNoneUptoRow, standIns := [], harness := (true, "0e8a004d83f459f2d6148add21ae7ff788da0860878e2d4a6f470cfbc7a787cd"), looks := false }, kinds := [], alts := [], laidByText := true, laidKinds := [.data, .data], laidTests := true, laidLooks := .later }
def ChecksNoneUptoCardSaid : Prop := Claim7.holds Tryz.pinned (.plain (OpenSpec.upto checksNoneSpec)) checksNoneUptoCard

/-- THE SECOND FORM's CARD OF 'speculumlaw15.ChecksFew'. -/
def checksFewUptoCard : Claim7 := { stood := { row := checksFewUptoRow, standIns := [], harness := (true, "0e8a004d83f459f2d6148add21ae7ff788da0860878e2d4a6f470cfbc7a787cd"), looks := false }, kinds := [], alts := [], laidByText := true, laidKinds := [.data, .data], laidTests := true, laidLooks := .later }
def ChecksFewUptoCardSaid : Prop := Claim7.holds Tryz.pinned (.plain (OpenSpec.upto checksFewSpec)) checksFewUptoCard

/-- THE SECOND FORM's CARD OF 'speculumlaw15.ChecksSure'. -/
def checksSureUptoCard : Claim7 := { stood := { row := checksSureUptoRow, standIns := [], harness := (true, "0e8a004d83f459f2d6148add21ae7ff788da0860878e2d4a6f470cfbc7a787cd"), looks := false }, kinds := [], alts := [], laidByText := true, laidKinds := [.data, .data], laidTests := true, laidLooks := .later }
def ChecksSureUptoCardSaid : Prop := Claim7.holds Tryz.pinned (.plain (OpenSpec.upto checksSureSpec)) checksSureUptoCard
end Rows
end Go.Proofs.YtlgeijbgkipliaaGreatDoor
