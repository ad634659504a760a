/-
  DERIVED. GIVEN WITH THE SEED: THE CARDS: each row of YtbldcbjmfldbfaaGreatDoorRows.lean that lists a variable, with what it lists TIED to the program's text (the seventh form; the later family's looks); each row that meets fmt, with fmt's text TOLD by the authors' own Lean function (tested against real Go, not proved from fmt's source: count such statements apart). THE CARD IS WHAT COUNTS. Prove the row's statement (the work); the ties are given (YtbldcbjmfldbfaaGreatDoorTie.lean); close each card by the builder's one call (the guide's Derived/Test/ToyasCard.lean, 'card_holds'). Laid BY PROGRAM, IN A SANDBOX (cutbox-door.mjs). By AI agents, Wed Nov 11 2026. No macro, syntax, notation, axiom, sorry.
-/
import Derived.Test.YtbldcbjmfldbfaaGreatDoorRows
import GoSem.ClaimSeven
namespace Go.Proofs.YtbldcbjmfldbfaaGreatDoor
namespace Rows

/-- THE TIED CARD OF 'pantomimelaw37.AbsopStores'. -/
def absopStoresCard : Claim7 := { stood := { row := absopStoresRow, standIns := [], harness := (true, "406cab22a9baa13aac0dc0154662c0be330a01922442821fedefc768862587d8"), looks := false }, kinds := [], alts := [], laidByText := true, laidKinds := [.data, .data, .data, .data, .data, .pinned], laidTests := true, laidLooks := .later }
def AbsopStoresCardSaid : Prop := Claim7.holds Tryz.pinned (.plain (OpenSpec.ofChange absopStoresSpec)) absopStoresCard

/-- THE SECOND FORM's CARD OF 'pantomimelaw37.AbsopStores'. -/
def absopStoresUptoCard : Claim7 := { stood := { row := absopStoresUptoRow, standIns := [], harness := (true, "406cab22a9baa13aac0dc0154662c0be330a01922442821fedefc768862587d8"), looks := false }, kinds := [], alts := [], laidByText := true, laidKinds := [.data, .data, .data, .data, .data, .pinned], laidTests := true, laidLooks := .later }
def AbsopStoresUptoCardSaid : Prop := Claim7.holds Tryz.pinned (.plain (OpenSpec.upto absopStoresSpec)) absopStoresUptoCard
end Rows
end Go.Proofs.YtbldcbjmfldbfaaGreatDoor
