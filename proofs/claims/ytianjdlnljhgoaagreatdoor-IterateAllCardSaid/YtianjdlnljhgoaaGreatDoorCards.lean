/-
  DERIVED. GIVEN WITH THE SEED: THE CARDS: each row of YtianjdlnljhgoaaGreatDoorRows.lean that lists a variable, with what it lists TIED to the program's text (the seventh form; the later family's looks); each row that meets fmt, with fmt's text TOLD by the authors' own Lean function (tested against real Go, not proved from fmt's source: count such statements apart). THE CARD IS WHAT COUNTS. Prove the row's statement (the work); the ties are given (YtianjdlnljhgoaaGreatDoorTie.lean); close each card by the builder's one call (the guide's Derived/Test/ToyasCard.lean, 'card_holds'). Laid BY PROGRAM, IN A SANDBOX (cutbox-door.mjs). By AI agents, Wed Nov 11 2026. No macro, syntax, notation, axiom, sorry.
-/
import Derived.Test.YtianjdlnljhgoaaGreatDoorRows
import GoSem.ClaimSeven
namespace Go.Proofs.YtianjdlnljhgoaaGreatDoor
namespace Rows

/-- THE TIED CARD OF 'pantomimelaw38.IterateAll'. -/
def iterateAllCard : Claim7 := { stood := { row := iterateAllRow, standIns := [], harness := (true, "03e05c20ebc70c6a5c8623835254ebbee56674bf88271a7d6687bc87f144945c"), looks := false }, kinds := [], alts := [], laidByText := true, laidKinds := [.data, .data, .data, .data], laidTests := true, laidLooks := .later }
def IterateAllCardSaid : Prop := Claim7.holds Tryz.pinned (.plain (OpenSpec.ofChange iterateAllSpec)) iterateAllCard

/-- THE SECOND FORM's CARD OF 'pantomimelaw38.IterateAll'. -/
def iterateAllUptoCard : Claim7 := { stood := { row := iterateAllUptoRow, standIns := [], harness := (true, "03e05c20ebc70c6a5c8623835254ebbee56674bf88271a7d6687bc87f144945c"), looks := false }, kinds := [], alts := [], laidByText := true, laidKinds := [.data, .data, .data, .data], laidTests := true, laidLooks := .later }
def IterateAllUptoCardSaid : Prop := Claim7.holds Tryz.pinned (.plain (OpenSpec.upto iterateAllSpec)) iterateAllUptoCard
end Rows
end Go.Proofs.YtianjdlnljhgoaaGreatDoor
