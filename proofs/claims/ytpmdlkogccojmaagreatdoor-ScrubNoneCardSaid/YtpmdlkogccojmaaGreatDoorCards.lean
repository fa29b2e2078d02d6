/-
  DERIVED. GIVEN WITH THE SEED: THE CARDS: each row of YtpmdlkogccojmaaGreatDoorRows.lean that lists a variable, with what it lists TIED to the program's text (the seventh form; the later family's looks); each row that meets fmt, with fmt's text TOLD by the authors' own Lean function (tested against real Go, not proved from fmt's source: count such statements apart). THE CARD IS WHAT COUNTS. Prove the row's statement (the work); the ties are given (YtpmdlkogccojmaaGreatDoorTie.lean); close each card by the builder's one call (the guide's Derived/Test/ToyasCard.lean, 'card_holds'). Laid BY PROGRAM, IN A SANDBOX (cutbox-door.mjs). By AI agents, Wed Nov 11 2026. No macro, syntax, notation, axiom, sorry.
-/
import Derived.Test.YtpmdlkogccojmaaGreatDoorRows
import GoSem.ClaimSeven
namespace Go.Proofs.YtpmdlkogccojmaaGreatDoor
namespace Rows

/-- THE TIED CARD OF 'speculumlaw35.ScrubNone'. -/
def scrubNoneCard : Claim7 := { stood := { row := scrubNoneRow, standIns := [], harness := (true, "f752b52e74e40561340f8bb15046f8d0cd16fa51f27920fd78c4f49687d897b0"), looks := false }, kinds := [], alts := [], laidByText := true, laidKinds := [.data, .data], laidTests := true, laidLooks := .later }
def ScrubNoneCardSaid : Prop := Claim7.holds Tryz.pinned (.plain (OpenSpec.ofChange scrubNoneSpec)) scrubNoneCard

/-- THE TIED CARD OF 'speculumlaw39.StationNone'. -/
def stationNoneCard : Claim7 := { stood := { row := stationNoneRow, standIns := [], harness := (true, "f752b52e74e40561340f8bb15046f8d0cd16fa51f27920fd78c4f49687d897b0"), looks := false }, kinds := [], alts := [], laidByText := true, laidKinds := [.data, .data], laidTests := true, laidLooks := .later }
def StationNoneCardSaid : Prop := Claim7.holds Tryz.pinned (.plain (OpenSpec.ofChange stationNoneSpec)) stationNoneCard

/-- THE TIED CARD OF 'speculumlaw39.StationSure'. -/
def stationSureCard : Claim7 := { stood := { row := stationSureRow, standIns := [], harness := (true, "f752b52e74e40561340f8bb15046f8d0cd16fa51f27920fd78c4f49687d897b0"), looks := false }, kinds := [], alts := [], laidByText := true, laidKinds := [.data, .data], laidTests := true, laidLooks := .later }
def StationSureCardSaid : Prop := Claim7.holds Tryz.pinned (.plain (OpenSpec.ofChange stationSureSpec)) stationSureCard

/-- THE SECOND FORM's CARD OF 'speculumlaw35.ScrubNone'. -/
def scrubNoneUptoCard : Claim7 := { stood := { row := scrubNoneUptoRow, standIns := [], harness := (true, "f752b52e74e40561340f8bb15046f8d0cd16fa51f27920fd78c4f49687d897b0"), looks := false }, kinds := [], alts := [], laidByText := true, laidKinds := [.data, .data], laidTests := true, laidLooks := .later }
def ScrubNoneUptoCardSaid : Prop := Claim7.holds Tryz.pinned (.plain (OpenSpec.upto scrubNoneSpec)) scrubNoneUptoCard

/-- THE SECOND FORM's CARD OF 'speculumlaw39.StationNone'. -/
def stationNoneUptoCard : Claim7 := { stood := { row := stationNoneUptoRow, standIns := [], harness := (true, "f752b52e74e40561340f8bb15046f8d0cd16fa51f27920fd78c4f49687d897b0"), looks := false }, kinds := [], alts := [], laidByText := true, laidKinds := [.data, .data], laidTests := true, laidLooks := .later }
def StationNoneUptoCardSaid : Prop := Claim7.holds Tryz.pinned (.plain (OpenSpec.upto stationNoneSpec)) stationNoneUptoCard

/-- THE SECOND FORM's CARD OF 'speculumlaw39.StationSure'. -/
def stationSureUptoCard : Claim7 := { stood := { row := stationSureUptoRow, standIns := [], harness := (true, "f752b52e74e40561340f8bb15046f8d0cd16fa51f27920fd78c4f49687d897b0"), looks := false }, kinds := [], alts := [], laidByText := true, laidKinds := [.data, .data], laidTests := true, laidLooks := .later }
def StationSureUptoCardSaid : Prop := Claim7.holds Tryz.pinned (.plain (OpenSpec.upto stationSureSpec)) stationSureUptoCard
end Rows
end Go.Proofs.YtpmdlkogccojmaaGreatDoor
