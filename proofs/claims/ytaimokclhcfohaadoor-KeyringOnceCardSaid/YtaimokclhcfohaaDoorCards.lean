/-
  DERIVED. GIVEN WITH THE SEED: THE CARDS: each row of YtaimokclhcfohaaDoorRows.lean that lists a variable, with what it lists TIED to the program's text (the seventh form; the later family's looks); each row that meets fmt, with fmt's text TOLD by the authors' own Lean function (tested against real Go, not proved from fmt's source: count such statements apart). THE CARD IS WHAT COUNTS. Prove the row's statement (the work); the ties are given (YtaimokclhcfohaaDoorTie.lean); close each card by the builder's one call (the guide's Derived/Test/ToyasCard.lean, 'card_holds'). Laid BY PROGRAM, IN A SANDBOX (cutbox-door.mjs). By AI agents, Wed Nov 11 2026. No macro, syntax, notation, axiom, sorry.
-/
import Derived.Test.YtaimokclhcfohaaDoorRows
import GoSem.ClaimSeven
namespace Go.Proofs.YtaimokclhcfohaaDoor
namespace Rows

/-- THE TIED CARD OF 'speculumlaw34.KeyringNone'. -/
def keyringNoneCard : Claim7 := { stood := { row := keyringNoneRow, standIns := [], harness := (true, "09501d26201ecf725e32226361dce3d98acd834cff6b5c4d55445615b12d7976"), looks := false }, kinds := [], alts := [], laidByText := true, laidKinds := [.data, .data], laidTests := true, laidLooks := .later }
def KeyringNoneCardSaid : Prop := Claim7.holds Tryd.pinned (.plain (OpenSpec.ofChange keyringNoneSpec)) keyringNoneCard

/-- THE TIED CARD OF 'speculumlaw34.KeyringOnce'. -/
def keyringOnceCard : Claim7 := { stood := { row := keyringOnceRow, standIns := [], harness := (true, "09501d26201ecf725e32226361dce3d98acd834cff6b5c4d55445615b12d7976"), looks := false }, kinds := [], alts := [], laidByText := true, laidKinds := [.data, .data], laidTests := true, laidLooks := .later }
def KeyringOnceCardSaid : Prop := Claim7.holds Tryd.pinned (.plain (OpenSpec.ofChange keyringOnceSpec)) keyringOnceCard

/-- THE SECOND FORM's CARD OF 'speculumlaw34.KeyringNone'. -/
def keyringNoneUptoCard : Claim7 := { stood := { row := keyringNoneUptoRow, standIns := [], harness := (true, "09501d26201ecf725e32226361dce3d98acd834cff6b5c4d55445615b12d7976"), looks := false }, kinds := [], alts := [], laidByText := true, laidKinds := [.data, .data], laidTests := true, laidLooks := .later }
def KeyringNoneUptoCardSaid : Prop := Claim7.holds Tryd.pinned (.plain (OpenSpec.upto keyringNoneSpec)) keyringNoneUptoCard

/-- THE SECOND FORM's CARD OF 'speculumlaw34.KeyringOnce'. -/
def keyringOnceUptoCard : Claim7 := { stood := { row := keyringOnceUptoRow, standIns := [], harness := (true, "09501d26201ecf725e32226361dce3d98acd834cff6b5c4d55445615b12d7976"), looks := false }, kinds := [], alts := [], laidByText := true, laidKinds := [.data, .data], laidTests := true, laidLooks := .later }
def KeyringOnceUptoCardSaid : Prop := Claim7.holds Tryd.pinned (.plain (OpenSpec.upto keyringOnceSpec)) keyringOnceUptoCard
end Rows
end Go.Proofs.YtaimokclhcfohaaDoor
