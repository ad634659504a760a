/-
  DERIVED. GIVEN WITH THE SEED: THE CARDS: each row of YteolloaikgffdaaGreatDoorRows.lean that lists a variable, with what it lists TIED to the program's text (the seventh form; the later family's looks); each row that meets fmt, with fmt's text TOLD by the authors' own Lean function (tested against real Go, not proved from fmt's source: count such statements apart). THE CARD IS WHAT COUNTS. Prove the row's statement (the work); the ties are given (YteolloaikgffdaaGreatDoorTie.lean); close each card by the builder's one call (the guide's Derived/Test/ToyasCard.lean, 'card_holds'). Laid BY PROGRAM, IN A SANDBOX (cutbox-door.mjs). By AI agents, Wed Nov 11 2026. No macro, syntax, notation, axiom, sorry.
-/
import Derived.Test.YteolloaikgffdaaGreatDoorRows
import GoSem.ClaimSeven
namespace Go.Proofs.YteolloaikgffdaaGreatDoor
namespace Rows

/-- THE TIED CARD OF 'pantomimelaw42.LibobjectHas'. -/
def libobjectHasCard : Claim7 := { stood := { row := libobjectHasRow, standIns := [], harness := (true, "01d5e3f3d4a673b888497191a84500d6161afb3b8957c8e603fdf4cf14fe0db3"), looks := false }, kinds := [], alts := [], laidByText := true, laidKinds := [.data, .data, .data, .data, .data, .pinned], laidTests := true, laidLooks := .later }
def LibobjectHasCardSaid : Prop := Claim7.holds Tryz.pinned (.plain (OpenSpec.ofChange libobjectHasSpec)) libobjectHasCard

/-- THE SECOND FORM's CARD OF 'pantomimelaw42.LibobjectHas'. -/
def libobjectHasUptoCard : Claim7 := { stood := { row := libobjectHasUptoRow, standIns := [], harness := (true, "01d5e3f3d4a673b888497191a84500d6161afb3b8957c8e603fdf4cf14fe0db3"), looks := false }, kinds := [], alts := [], laidByText := true, laidKinds := [.data, .data, .data, .data, .data, .pinned], laidTests := true, laidLooks := .later }
def LibobjectHasUptoCardSaid : Prop := Claim7.holds Tryz.pinned (.plain (OpenSpec.upto libobjectHasSpec)) libobjectHasUptoCard
end Rows
end Go.Proofs.YteolloaikgffdaaGreatDoor
