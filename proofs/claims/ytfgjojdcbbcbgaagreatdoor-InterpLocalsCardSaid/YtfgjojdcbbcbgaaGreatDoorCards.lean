/-
  DERIVED. GIVEN WITH THE SEED: THE CARDS: each row of YtfgjojdcbbcbgaaGreatDoorRows.lean that lists a variable, with what it lists TIED to the program's text (the seventh form; the later family's looks); each row that meets fmt, with fmt's text TOLD by the authors' own Lean function (tested against real Go, not proved from fmt's source: count such statements apart). THE CARD IS WHAT COUNTS. Prove the row's statement (the work); the ties are given (YtfgjojdcbbcbgaaGreatDoorTie.lean); close each card by the builder's one call (the guide's Derived/Test/ToyasCard.lean, 'card_holds'). Laid BY PROGRAM, IN A SANDBOX (cutbox-door.mjs). By AI agents, Wed Nov 11 2026. No macro, syntax, notation, axiom, sorry.
-/
import Derived.Test.YtfgjojdcbbcbgaaGreatDoorRows
import GoSem.ClaimSeven
namespace Go.Proofs.YtfgjojdcbbcbgaaGreatDoor
namespace Rows

/-- THE TIED CARD OF 'pantomimelaw46.InterpLocals'. -/
def interpLocalsCard : Claim7 := { stood := { row := interpLocalsRow, standIns := [], harness := (true, "e6da951117c00c8526d2cecd197ac536c9cc38283a73898b2b6b8dc350a8f595"), looks := false }, kinds := [], alts := [], laidByText := true, laidKinds := [.data, .data, .data, .data, .data, .pinned], laidTests := true, laidLooks := .later }
def InterpLocalsCardSaid : Prop := Claim7.holds Tryz.pinned (.plain (OpenSpec.ofChange interpLocalsSpec)) interpLocalsCard

/-- THE SECOND FORM's CARD OF 'pantomimelaw46.InterpLocals'. -/
def interpLocalsUptoCard : Claim7 := { stood := { row := interpLocalsUptoRow, standIns := [], harness := (true, "e6da951117c00c8526d2cecd197ac536c9cc38283a73898b2b6b8dc350a8f595"), looks := false }, kinds := [], alts := [], laidByText := true, laidKinds := [.data, .data, .data, .data, .data, .pinned], laidTests := true, laidLooks := .later }
def InterpLocalsUptoCardSaid : Prop := Claim7.holds Tryz.pinned (.plain (OpenSpec.upto interpLocalsSpec)) interpLocalsUptoCard
end Rows
end Go.Proofs.YtfgjojdcbbcbgaaGreatDoor
