/-
  DERIVED. GIVEN WITH THE SEED: THE CARDS: each row of YtfiainenbpldgaaGreatDoorRows.lean that lists a variable, with what it lists TIED to the program's text (the seventh form; the later family's looks); each row that meets fmt, with fmt's text TOLD by the authors' own Lean function (tested against real Go, not proved from fmt's source: count such statements apart). THE CARD IS WHAT COUNTS. Prove the row's statement (the work); the ties are given (YtfiainenbpldgaaGreatDoorTie.lean); close each card by the builder's one call (the guide's Derived/Test/ToyasCard.lean, 'card_holds'). Laid BY PROGRAM, IN A SANDBOX (cutbox-door.mjs). By AI agents, Wed Nov 11 2026. No macro, syntax, notation, axiom, sorry.
-/
import Derived.Test.YtfiainenbpldgaaGreatDoorRows
import GoSem.ClaimSeven
namespace Go.Proofs.YtfiainenbpldgaaGreatDoor
namespace Rows

/-- THE TIED CARD OF 'pantomimelaw38.IterateOthers'. -/
def iterateOthersCard : Claim7 := { stood := { row := iterateOthersRow, standIns := [], harness := (true, "6900c0becb2527429b39b5d344b58d89e23c491ffec6f16588b6dcfde55b46ae"), looks := false }, kinds := [], alts := [], laidByText := true, laidKinds := [.data, .data, .data, .data], laidTests := true, laidLooks := .later }
def IterateOthersCardSaid : Prop := Claim7.holds Tryz.pinned (.plain (OpenSpec.ofChange iterateOthersSpec)) iterateOthersCard

/-- THE SECOND FORM's CARD OF 'pantomimelaw38.IterateOthers'. -/
def iterateOthersUptoCard : Claim7 := { stood := { row := iterateOthersUptoRow, standIns := [], harness := (true, "6900c0becb2527429b39b5d344b58d89e23c491ffec6f16588b6dcfde55b46ae"), looks := false }, kinds := [], alts := [], laidByText := true, laidKinds := [.data, .data, .data, .data], laidTests := true, laidLooks := .later }
def IterateOthersUptoCardSaid : Prop := Claim7.holds Tryz.pinned (.plain (OpenSpec.upto iterateOthersSpec)) iterateOthersUptoCard
end Rows
end Go.Proofs.YtfiainenbpldgaaGreatDoor
