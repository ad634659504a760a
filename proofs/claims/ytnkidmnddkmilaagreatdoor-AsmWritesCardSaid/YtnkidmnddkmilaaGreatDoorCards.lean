/-
  DERIVED. GIVEN WITH THE SEED: THE CARDS: each row of YtnkidmnddkmilaaGreatDoorRows.lean that lists a variable, with what it lists TIED to the program's text (the seventh form; the later family's looks); each row that meets fmt, with fmt's text TOLD by the authors' own Lean function (tested against real Go, not proved from fmt's source: count such statements apart). THE CARD IS WHAT COUNTS. Prove the row's statement (the work); the ties are given (YtnkidmnddkmilaaGreatDoorTie.lean); close each card by the builder's one call (the guide's Derived/Test/ToyasCard.lean, 'card_holds'). Laid BY PROGRAM, IN A SANDBOX (cutbox-door.mjs). By AI agents, Wed Nov 11 2026. No macro, syntax, notation, axiom, sorry.
-/
import Derived.Test.YtnkidmnddkmilaaGreatDoorRows
import GoSem.ClaimSeven
namespace Go.Proofs.YtnkidmnddkmilaaGreatDoor
namespace Rows

/-- THE TIED CARD OF 'pantomimelaw49.AsmWrites'. -/
def asmWritesCard : Claim7 := { stood := { row := asmWritesRow, standIns := [], harness := (true, "42bf511d9e63c396e86b258e79feb8543714f0a2917a1ad40fb091ba4abc3e47"), looks := true }, kinds := [], alts := [], laidByText := true, laidKinds := [.data, .data, .data, .sentinel, .sentinel, .data], laidTests := true, laidLooks := .later }
def AsmWritesCardSaid : Prop := Claim7.holds Tryz.pinned (.plain (OpenSpec.ofChange asmWritesSpec)) asmWritesCard

/-- THE SECOND FORM's CARD OF 'pantomimelaw49.AsmWrites'. -/
def asmWritesUptoCard : Claim7 := { stood := { row := asmWritesUptoRow, standIns := [], harness := (true, "42bf511d9e63c396e86b258e79feb8543714f0a2917a1ad40fb091ba4abc3e47"), looks := true }, kinds := [], alts := [], laidByText := true, laidKinds := [.data, .data, .data, .sentinel, .sentinel, .data], laidTests := true, laidLooks := .later }
def AsmWritesUptoCardSaid : Prop := Claim7.holds Tryz.pinned (.plain (OpenSpec.upto asmWritesSpec)) asmWritesUptoCard
end Rows
end Go.Proofs.YtnkidmnddkmilaaGreatDoor
