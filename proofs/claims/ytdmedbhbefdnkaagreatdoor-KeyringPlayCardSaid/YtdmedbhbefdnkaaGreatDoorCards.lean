/-
  DERIVED. GIVEN WITH THE SEED: THE CARDS: each row of YtdmedbhbefdnkaaGreatDoorRows.lean that lists a variable, with what it lists TIED to the program's text (the seventh form; the later family's looks); each row that meets fmt, with fmt's text TOLD by the authors' own Lean function (tested against real Go, not proved from fmt's source: count such statements apart). THE CARD IS WHAT COUNTS. Prove the row's statement (the work); the ties are given (YtdmedbhbefdnkaaGreatDoorTie.lean); close each card by the builder's one call (the guide's Derived/Test/ToyasCard.lean, 'card_holds'). Laid BY PROGRAM, IN A SANDBOX (cutbox-door.mjs). By AI agents, Wed Nov 11 2026. No macro, syntax, notation, axiom, sorry.
-/
import Derived.Test.YtdmedbhbefdnkaaGreatDoorRows
import GoSem.ClaimSeven
namespace Go.Proofs.YtdmedbhbefdnkaaGreatDoor
namespace Rows

/-- THE TIED CARD OF 'speculumlaw34.KeyringOpen'. -/
def keyringOpenCard : Claim7 := { stood := { row := keyringOpenRow, standIns := [], harness := (true, "35e0bdf93d20f3168a180c33a1ed2034eed57d683e98b7e81c393bb67060e0dc"), looks := false }, kinds := [], alts := [], laidByText := true, laidKinds := [.data, .data], laidTests := true, laidLooks := .later }
def KeyringOpenCardSaid : Prop := Claim7.holds Tryz.pinned (.plain (OpenSpec.ofChange keyringOpenSpec)) keyringOpenCard

/-- THE TIED CARD OF 'speculumlaw34.KeyringPlay'. -/
def keyringPlayCard : Claim7 := { stood := { row := keyringPlayRow, standIns := [], harness := (true, "35e0bdf93d20f3168a180c33a1ed2034eed57d683e98b7e81c393bb67060e0dc"), looks := false }, kinds := [], alts := [], laidByText := true, laidKinds := [.data, .data], laidTests := true, laidLooks := .later }
def KeyringPlayCardSaid : Prop := Claim7.holds Tryz.pinned (.plain (OpenSpec.ofChange keyringPlaySpec)) keyringPlayCard

/-- THE SECOND FORM's CARD OF 'speculumlaw34.KeyringOpen'. -/
def keyringOpenUptoCard : Claim7 := { stood := { row := keyringOpenUptoRow, standIns := [], harness := (true, "35e0bdf93d20f3168a180c33a1ed2034eed57d683e98b7e81c393bb67060e0dc"), looks := false }, kinds := [], alts := [], laidByText := true, laidKinds := [.data, .data], laidTests := true, laidLooks := .later }
def KeyringOpenUptoCardSaid : Prop := Claim7.holds Tryz.pinned (.plain (OpenSpec.upto keyringOpenSpec)) keyringOpenUptoCard

/-- THE SECOND FORM's CARD OF 'speculumlaw34.KeyringPlay'. -/
def keyringPlayUptoCard : Claim7 := { stood := { row := keyringPlayUptoRow, standIns := [], harness := (true, "35e0bdf93d20f3168a180c33a1ed2034eed57d683e98b7e81c393bb67060e0dc"), looks := false }, kinds := [], alts := [], laidByText := true, laidKinds := [.data, .data], laidTests := true, laidLooks := .later }
def KeyringPlayUptoCardSaid : Prop := Claim7.holds Tryz.pinned (.plain (OpenSpec.upto keyringPlaySpec)) keyringPlayUptoCard
end Rows
end Go.Proofs.YtdmedbhbefdnkaaGreatDoor
