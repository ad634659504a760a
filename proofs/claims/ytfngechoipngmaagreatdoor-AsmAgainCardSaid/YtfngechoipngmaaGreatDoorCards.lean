/-
  DERIVED. GIVEN WITH THE SEED: THE CARDS: each row of YtfngechoipngmaaGreatDoorRows.lean that lists a variable, with what it lists TIED to the program's text (the seventh form; the later family's looks); each row that meets fmt, with fmt's text TOLD by the authors' own Lean function (tested against real Go, not proved from fmt's source: count such statements apart). THE CARD IS WHAT COUNTS. Prove the row's statement (the work); the ties are given (YtfngechoipngmaaGreatDoorTie.lean); close each card by the builder's one call (the guide's Derived/Test/ToyasCard.lean, 'card_holds'). Laid BY PROGRAM, IN A SANDBOX (cutbox-door.mjs). By AI agents, Wed Nov 11 2026. No macro, syntax, notation, axiom, sorry.
-/
import Derived.Test.YtfngechoipngmaaGreatDoorRows
import GoSem.ClaimSeven
namespace Go.Proofs.YtfngechoipngmaaGreatDoor
namespace Rows

/-- THE TIED CARD OF 'pantomimelaw49.AsmWrites'. -/
def asmWritesCard : Claim7 := { stood := { row := asmWritesRow, standIns := [], harness := (true, "7c4bbb3a1c00e9ca30d3c99844f3cd4d32a72ec2225cb50a70c55d6d08d2a6f0"), looks := true }, kinds := [], alts := [], laidByText := true, laidKinds := [.data, .data, .data, .sentinel, .sentinel, .data], laidTests := true, laidLooks := .later }
def AsmWritesCardSaid : Prop := Claim7.holds Tryz.pinned (.plain (OpenSpec.ofChange asmWritesSpec)) asmWritesCard

/-- THE TIED CARD OF 'pantomimelaw49.AsmAgain'. -/
def asmAgainCard : Claim7 := { stood := { row := asmAgainRow, standIns := [], harness := (true, "7c4bbb3a1c00e9ca30d3c99844f3cd4d32a72ec2225cb50a70c55d6d08d2a6f0"), looks := true }, kinds := [], alts := [], laidByText := true, laidKinds := [.data, .data, .data, .sentinel, .sentinel, .data], laidTests := true, laidLooks := .later }
def AsmAgainCardSaid : Prop := Claim7.holds Tryz.pinned (.plain (OpenSpec.ofChange asmAgainSpec)) asmAgainCard

/-- THE SECOND FORM's CARD OF 'pantomimelaw49.AsmWrites'. -/
def asmWritesUptoCard : Claim7 := { stood := { row := asmWritesUptoRow, standIns := [], harness := (true, "7c4bbb3a1c00e9ca30d3c99844f3cd4d32a72ec2225cb50a70c55d6d08d2a6f0"), looks := true }, kinds := [], alts := [], laidByText := true, laidKinds := [.data, .data, .data, .sentinel, .sentinel, .data], laidTests := true, laidLooks := .later }
def AsmWritesUptoCardSaid : Prop := Claim7.holds Tryz.pinned (.plain (OpenSpec.upto asmWritesSpec)) asmWritesUptoCard

/-- THE SECOND FORM's CARD OF 'pantomimelaw49.AsmAgain'. -/
def asmAgainUptoCard : Claim7 := { stood := { row := asmAgainUptoRow, standIns := [], harness := (true, "7c4bbb3a1c00e9ca30d3c99844f3cd4d32a72ec2225cb50a70c55d6d08d2a6f0"), looks := true }, kinds := [], alts := [], laidByText := true, laidKinds := [.data, .data, .data, .sentinel, .sentinel, .data], laidTests := true, laidLooks := .later }
def AsmAgainUptoCardSaid : Prop := Claim7.holds Tryz.pinned (.plain (OpenSpec.upto asmAgainSpec)) asmAgainUptoCard
end Rows
end Go.Proofs.YtfngechoipngmaaGreatDoor
