/-
  DERIVED. GIVEN WITH THE SEED: THE CARDS: each row of YtjokmjjecendaaaGreatDoorRows.lean that lists a variable, with what it lists TIED to the program's text (the seventh form; the later family's looks); each row that meets fmt, with fmt's text TOLD by the authors' own Lean function (tested against real Go, not proved from fmt's source: count such statements apart). THE CARD IS WHAT COUNTS. Prove the row's statement (the work); the ties are given (YtjokmjjecendaaaGreatDoorTie.lean); close each card by the builder's one call (the guide's Derived/Test/ToyasCard.lean, 'card_holds'). Laid BY PROGRAM, IN A SANDBOX (cutbox-door.mjs). By AI agents, Wed Nov 11 2026. No macro, syntax, notation, axiom, sorry.
-/
import Derived.Test.YtjokmjjecendaaaGreatDoorRows
import GoSem.ClaimSeven
namespace Go.Proofs.YtjokmjjecendaaaGreatDoor
namespace Rows

/-- THE TIED CARD OF 'pantomimelaw42.LibobjectAgain'. -/
def libobjectAgainCard : Claim7 := { stood := { row := libobjectAgainRow, standIns := [], harness := (true, "6dc4817770703ad5360b99307550e1121658546ca1c8133fdee19123fdd8b996"), looks := false }, kinds := [], alts := [], laidByText := true, laidKinds := [.data, .data, .data, .data, .data, .pinned], laidTests := true, laidLooks := .later }
def LibobjectAgainCardSaid : Prop := Claim7.holds Tryz.pinned (.plain (OpenSpec.ofChange libobjectAgainSpec)) libobjectAgainCard

/-- THE SECOND FORM's CARD OF 'pantomimelaw42.LibobjectAgain'. -/
def libobjectAgainUptoCard : Claim7 := { stood := { row := libobjectAgainUptoRow, standIns := [], harness := (true, "6dc4817770703ad5360b99307550e1121658546ca1c8133fdee19123fdd8b996"), looks := false }, kinds := [], alts := [], laidByText := true, laidKinds := [.data, .data, .data, .data, .data, .pinned], laidTests := true, laidLooks := .later }
def LibobjectAgainUptoCardSaid : Prop := Claim7.holds Tryz.pinned (.plain (OpenSpec.upto libobjectAgainSpec)) libobjectAgainUptoCard
end Rows
end Go.Proofs.YtjokmjjecendaaaGreatDoor
