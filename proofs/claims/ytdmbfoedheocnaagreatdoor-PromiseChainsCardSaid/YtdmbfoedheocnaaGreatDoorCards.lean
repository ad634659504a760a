/-
  DERIVED. GIVEN WITH THE SEED: THE CARDS: each row of YtdmbfoedheocnaaGreatDoorRows.lean that lists a variable, with what it lists TIED to the program's text (the seventh form; the later family's looks); each row that meets fmt, with fmt's text TOLD by the authors' own Lean function (tested against real Go, not proved from fmt's source: count such statements apart). THE CARD IS WHAT COUNTS. Prove the row's statement (the work); the ties are given (YtdmbfoedheocnaaGreatDoorTie.lean); close each card by the builder's one call (the guide's Derived/Test/ToyasCard.lean, 'card_holds'). Laid BY PROGRAM, IN A SANDBOX (cutbox-door.mjs). By AI agents, Wed Nov 11 2026. No macro, syntax, notation, axiom, sorry.
-/
import Derived.Test.YtdmbfoedheocnaaGreatDoorRows
import GoSem.ClaimSeven
namespace Go.Proofs.YtdmbfoedheocnaaGreatDoor
namespace Rows

/-- THE TIED CARD OF 'pantomimelaw40.PromiseChains'. -/
def promiseChainsCard : Claim7 := { stood := { row := promiseChainsRow, standIns := [], harness := (true, "dd6c112094be9153337311bcf5c6ef94285d4c91a841f266f8da35c2fc9b63c3"), looks := false }, kinds := [], alts := [], laidByText := true, laidKinds := [.data, .data, .data, .data], laidTests := true, laidLooks := .later }
def PromiseChainsCardSaid : Prop := Claim7.holds Tryz.pinned (.plain (OpenSpec.ofChange promiseChainsSpec)) promiseChainsCard

/-- THE SECOND FORM's CARD OF 'pantomimelaw40.PromiseChains'. -/
def promiseChainsUptoCard : Claim7 := { stood := { row := promiseChainsUptoRow, standIns := [], harness := (true, "dd6c112094be9153337311bcf5c6ef94285d4c91a841f266f8da35c2fc9b63c3"), looks := false }, kinds := [], alts := [], laidByText := true, laidKinds := [.data, .data, .data, .data], laidTests := true, laidLooks := .later }
def PromiseChainsUptoCardSaid : Prop := Claim7.holds Tryz.pinned (.plain (OpenSpec.upto promiseChainsSpec)) promiseChainsUptoCard
end Rows
end Go.Proofs.YtdmbfoedheocnaaGreatDoor
