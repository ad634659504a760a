/-
  DERIVED. GIVEN WITH THE SEED: THE CARDS: each row of YtnkjembkhjellaaGreatDoorRows.lean that lists a variable, with what it lists TIED to the program's text (the seventh form; the later family's looks); each row that meets fmt, with fmt's text TOLD by the authors' own Lean function (tested against real Go, not proved from fmt's source: count such statements apart). THE CARD IS WHAT COUNTS. Prove the row's statement (the work); the ties are given (YtnkjembkhjellaaGreatDoorTie.lean); close each card by the builder's one call (the guide's Derived/Test/ToyasCard.lean, 'card_holds'). Laid BY PROGRAM, IN A SANDBOX (cutbox-door.mjs). By AI agents, Wed Nov 11 2026. No macro, syntax, notation, axiom, sorry.
-/
import Derived.Test.YtnkjembkhjellaaGreatDoorRows
import GoSem.ClaimSeven
namespace Go.Proofs.YtnkjembkhjellaaGreatDoor
namespace Rows

/-- THE TIED CARD OF 'pantomimelaw39.GeneratorBoxes'. -/
def generatorBoxesCard : Claim7 := { stood := { row := generatorBoxesRow, standIns := [], harness := (true, "6c762b91fd5d020bddad8554696767c667f8831b5eb97a7a9eeed094f8748514"), looks := false }, kinds := [], alts := [], laidByText := true, laidKinds := [.data], laidTests := true, laidLooks := .later }
def GeneratorBoxesCardSaid : Prop := Claim7.holds Tryz.pinned (.plain (OpenSpec.ofChange generatorBoxesSpec)) generatorBoxesCard

/-- THE SECOND FORM's CARD OF 'pantomimelaw39.GeneratorBoxes'. -/
def generatorBoxesUptoCard : Claim7 := { stood := { row := generatorBoxesUptoRow, standIns := [], harness := (true, "6c762b91fd5d020bddad8554696767c667f8831b5eb97a7a9eeed094f8748514"), looks := false }, kinds := [], alts := [], laidByText := true, laidKinds := [.data], laidTests := true, laidLooks := .later }
def GeneratorBoxesUptoCardSaid : Prop := Claim7.holds Tryz.pinned (.plain (OpenSpec.upto generatorBoxesSpec)) generatorBoxesUptoCard
end Rows
end Go.Proofs.YtnkjembkhjellaaGreatDoor
