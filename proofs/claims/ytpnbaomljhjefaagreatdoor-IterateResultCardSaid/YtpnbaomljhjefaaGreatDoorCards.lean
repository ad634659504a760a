/-
  DERIVED. GIVEN WITH THE SEED: THE CARDS: each row of YtpnbaomljhjefaaGreatDoorRows.lean that lists a variable, with what it lists TIED to the program's text (the seventh form; the later family's looks); each row that meets fmt, with fmt's text TOLD by the authors' own Lean function (tested against real Go, not proved from fmt's source: count such statements apart). THE CARD IS WHAT COUNTS. Prove the row's statement (the work); the ties are given (YtpnbaomljhjefaaGreatDoorTie.lean); close each card by the builder's one call (the guide's Derived/Test/ToyasCard.lean, 'card_holds'). Laid BY PROGRAM, IN A SANDBOX (cutbox-door.mjs). By AI agents, Wed Nov 11 2026. No macro, syntax, notation, axiom, sorry.
-/
import Derived.Test.YtpnbaomljhjefaaGreatDoorRows
import GoSem.ClaimSeven
namespace Go.Proofs.YtpnbaomljhjefaaGreatDoor
namespace Rows

/-- THE TIED CARD OF 'pantomimelaw38.IterateResult'. -/
def iterateResultCard : Claim7 := { stood := { row := iterateResultRow, standIns := [], harness := (true, "dcd55fdf068079e3df2ec14cf10c7f7ca6fa12c633dca472ba8f2c1d615d84f7"), looks := false }, kinds := [], alts := [], laidByText := true, laidKinds := [.data, .data, .data, .data], laidTests := true, laidLooks := .later }
def IterateResultCardSaid : Prop := Claim7.holds Tryz.pinned (.plain (OpenSpec.ofChange iterateResultSpec)) iterateResultCard

/-- THE SECOND FORM's CARD OF 'pantomimelaw38.IterateResult'. -/
def iterateResultUptoCard : Claim7 := { stood := { row := iterateResultUptoRow, standIns := [], harness := (true, "dcd55fdf068079e3df2ec14cf10c7f7ca6fa12c633dca472ba8f2c1d615d84f7"), looks := false }, kinds := [], alts := [], laidByText := true, laidKinds := [.data, .data, .data, .data], laidTests := true, laidLooks := .later }
def IterateResultUptoCardSaid : Prop := Claim7.holds Tryz.pinned (.plain (OpenSpec.upto iterateResultSpec)) iterateResultUptoCard
end Rows
end Go.Proofs.YtpnbaomljhjefaaGreatDoor
