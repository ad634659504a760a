/-
  DERIVED. GIVEN WITH THE SEED: THE CARDS: each row of YtmebfcdgbjkcfaaGreatDoorRows.lean that lists a variable, with what it lists TIED to the program's text (the seventh form; the later family's looks); each row that meets fmt, with fmt's text TOLD by the authors' own Lean function (tested against real Go, not proved from fmt's source: count such statements apart). THE CARD IS WHAT COUNTS. Prove the row's statement (the work); the ties are given (YtmebfcdgbjkcfaaGreatDoorTie.lean); close each card by the builder's one call (the guide's Derived/Test/ToyasCard.lean, 'card_holds'). Laid BY PROGRAM, IN A SANDBOX (cutbox-door.mjs). By AI agents, Wed Nov 11 2026. No macro, syntax, notation, axiom, sorry.
-/
import Derived.Test.YtmebfcdgbjkcfaaGreatDoorRows
import GoSem.ClaimSeven
namespace Go.Proofs.YtmebfcdgbjkcfaaGreatDoor
namespace Rows

/-- THE TIED CARD OF 'pantomimelaw43.LibarraySetup'. -/
def libarraySetupCard : Claim7 := { stood := { row := libarraySetupRow, standIns := [], harness := (true, "02b8d52deca7d261b2bb158d936082b660f5f8f66fcb23e91a6237988f5e5682"), looks := false }, kinds := [], alts := [], laidByText := true, laidKinds := [.data, .data, .data, .data, .pinned, .data], laidTests := true, laidLooks := .later }
def LibarraySetupCardSaid : Prop := Claim7.holds Tryz.pinned (.plain (OpenSpec.ofChange libarraySetupSpec)) libarraySetupCard

/-- THE SECOND FORM's CARD OF 'pantomimelaw43.LibarraySetup'. -/
def libarraySetupUptoCard : Claim7 := { stood := { row := libarraySetupUptoRow, standIns := [], harness := (true, "02b8d52deca7d261b2bb158d936082b660f5f8f66fcb23e91a6237988f5e5682"), looks := false }, kinds := [], alts := [], laidByText := true, laidKinds := [.data, .data, .data, .data, .pinned, .data], laidTests := true, laidLooks := .later }
def LibarraySetupUptoCardSaid : Prop := Claim7.holds Tryz.pinned (.plain (OpenSpec.upto libarraySetupSpec)) libarraySetupUptoCard
end Rows
end Go.Proofs.YtmebfcdgbjkcfaaGreatDoor
