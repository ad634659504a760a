/-
  DERIVED. GIVEN WITH THE SEED: THE CARDS: each row of YtgcmekonnliemaaGreatDoorRows.lean that lists a variable, with what it lists TIED to the program's text (the seventh form; the later family's looks); each row that meets fmt, with fmt's text TOLD by the authors' own Lean function (tested against real Go, not proved from fmt's source: count such statements apart). THE CARD IS WHAT COUNTS. Prove the row's statement (the work); the ties are given (YtgcmekonnliemaaGreatDoorTie.lean); close each card by the builder's one call (the guide's Derived/Test/ToyasCard.lean, 'card_holds'). Laid BY PROGRAM, IN A SANDBOX (cutbox-door.mjs). By AI agents, Wed Nov 11 2026. No macro, syntax, notation, axiom, sorry.
-/
import Derived.Test.YtgcmekonnliemaaGreatDoorRows
import GoSem.ClaimSeven
namespace Go.Proofs.YtgcmekonnliemaaGreatDoor
namespace Rows

/-- THE TIED CARD OF 'pantomimelaw37.AbsopPlain'. -/
def absopPlainCard : Claim7 := { stood := { row := absopPlainRow, standIns := [], harness := (true, "aff38355f9ffb5f9f91cac48675e9842b0e7ab146a2b3cb840e81d8b35f3e606"), looks := false }, kinds := [], alts := [], laidByText := true, laidKinds := [.data, .data, .data, .data, .data, .pinned], laidTests := true, laidLooks := .later }
def AbsopPlainCardSaid : Prop := Claim7.holds Tryz.pinned (.plain (OpenSpec.ofChange absopPlainSpec)) absopPlainCard

/-- THE SECOND FORM's CARD OF 'pantomimelaw37.AbsopPlain'. -/
def absopPlainUptoCard : Claim7 := { stood := { row := absopPlainUptoRow, standIns := [], harness := (true, "aff38355f9ffb5f9f91cac48675e9842b0e7ab146a2b3cb840e81d8b35f3e606"), looks := false }, kinds := [], alts := [], laidByText := true, laidKinds := [.data, .data, .data, .data, .data, .pinned], laidTests := true, laidLooks := .later }
def AbsopPlainUptoCardSaid : Prop := Claim7.holds Tryz.pinned (.plain (OpenSpec.upto absopPlainSpec)) absopPlainUptoCard
end Rows
end Go.Proofs.YtgcmekonnliemaaGreatDoor
