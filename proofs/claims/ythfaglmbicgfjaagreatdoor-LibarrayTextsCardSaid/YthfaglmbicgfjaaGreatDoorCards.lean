/-
  DERIVED. GIVEN WITH THE SEED: THE CARDS: each row of YthfaglmbicgfjaaGreatDoorRows.lean that lists a variable, with what it lists TIED to the program's text (the seventh form; the later family's looks); each row that meets fmt, with fmt's text TOLD by the authors' own Lean function (tested against real Go, not proved from fmt's source: count such statements apart). THE CARD IS WHAT COUNTS. Prove the row's statement (the work); the ties are given (YthfaglmbicgfjaaGreatDoorTie.lean); close each card by the builder's one call (the guide's Derived/Test/ToyasCard.lean, 'card_holds'). Laid BY PROGRAM, IN A SANDBOX (cutbox-door.mjs). By AI agents, Wed Nov 11 2026. No macro, syntax, notation, axiom, sorry.
-/
import Derived.Test.YthfaglmbicgfjaaGreatDoorRows
import GoSem.ClaimSeven
namespace Go.Proofs.YthfaglmbicgfjaaGreatDoor
namespace Rows

/-- THE TIED CARD OF 'pantomimelaw43.LibarrayTexts'. -/
def libarrayTextsCard : Claim7 := { stood := { row := libarrayTextsRow, standIns := [], harness := (true, "7ec1689d8bbc8643cadf075a83d98da0799722f31e0d53ac7dcf2cfb6674e1e7"), looks := false }, kinds := [], alts := [], laidByText := true, laidKinds := [.data, .data, .data, .data, .data, .pinned], laidTests := true, laidLooks := .later }
def LibarrayTextsCardSaid : Prop := Claim7.holds Tryz.pinned (.plain (OpenSpec.ofChange libarrayTextsSpec)) libarrayTextsCard

/-- THE SECOND FORM's CARD OF 'pantomimelaw43.LibarrayTexts'. -/
def libarrayTextsUptoCard : Claim7 := { stood := { row := libarrayTextsUptoRow, standIns := [], harness := (true, "7ec1689d8bbc8643cadf075a83d98da0799722f31e0d53ac7dcf2cfb6674e1e7"), looks := false }, kinds := [], alts := [], laidByText := true, laidKinds := [.data, .data, .data, .data, .data, .pinned], laidTests := true, laidLooks := .later }
def LibarrayTextsUptoCardSaid : Prop := Claim7.holds Tryz.pinned (.plain (OpenSpec.upto libarrayTextsSpec)) libarrayTextsUptoCard
end Rows
end Go.Proofs.YthfaglmbicgfjaaGreatDoor
