/-
  DERIVED. GIVEN WITH THE SEED: THE CARDS: each row of YtahijhejnjhkeaaGreatDoorRows.lean that lists a variable, with what it lists TIED to the program's text (the seventh form; the later family's looks); each row that meets fmt, with fmt's text TOLD by the authors' own Lean function (tested against real Go, not proved from fmt's source: count such statements apart). THE CARD IS WHAT COUNTS. Prove the row's statement (the work); the ties are given (YtahijhejnjhkeaaGreatDoorTie.lean); close each card by the builder's one call (the guide's Derived/Test/ToyasCard.lean, 'card_holds'). Laid BY PROGRAM, IN A SANDBOX (cutbox-door.mjs). By AI agents, Wed Nov 11 2026. No macro, syntax, notation, axiom, sorry.
-/
import Derived.Test.YtahijhejnjhkeaaGreatDoorRows
import GoSem.ClaimSeven
namespace Go.Proofs.YtahijhejnjhkeaaGreatDoor
namespace Rows

/-- THE TIED CARD OF 'pantomimelaw44.LibasyncThrows'. -/
def libasyncThrowsCard : Claim7 := { stood := { row := libasyncThrowsRow, standIns := [], harness := (true, "df8bfbeec4a046aeb82f8649297e1c79c613d958886a2f347b23c148148ccbe5"), looks := false }, kinds := [], alts := [], laidByText := true, laidKinds := [.data, .data, .data, .data], laidTests := true, laidLooks := .later }
def LibasyncThrowsCardSaid : Prop := Claim7.holds Tryz.pinned (.plain (OpenSpec.ofChange libasyncThrowsSpec)) libasyncThrowsCard

/-- THE TIED CARD OF 'pantomimelaw44.LibasyncSetup'. -/
def libasyncSetupCard : Claim7 := { stood := { row := libasyncSetupRow, standIns := [], harness := (true, "df8bfbeec4a046aeb82f8649297e1c79c613d958886a2f347b23c148148ccbe5"), looks := false }, kinds := [], alts := [], laidByText := true, laidKinds := [.data, .data, .data, .data], laidTests := true, laidLooks := .later }
def LibasyncSetupCardSaid : Prop := Claim7.holds Tryz.pinned (.plain (OpenSpec.ofChange libasyncSetupSpec)) libasyncSetupCard

/-- THE SECOND FORM's CARD OF 'pantomimelaw44.LibasyncThrows'. -/
def libasyncThrowsUptoCard : Claim7 := { stood := { row := libasyncThrowsUptoRow, standIns := [], harness := (true, "df8bfbeec4a046aeb82f8649297e1c79c613d958886a2f347b23c148148ccbe5"), looks := false }, kinds := [], alts := [], laidByText := true, laidKinds := [.data, .data, .data, .data], laidTests := true, laidLooks := .later }
def LibasyncThrowsUptoCardSaid : Prop := Claim7.holds Tryz.pinned (.plain (OpenSpec.upto libasyncThrowsSpec)) libasyncThrowsUptoCard

/-- THE SECOND FORM's CARD OF 'pantomimelaw44.LibasyncSetup'. -/
def libasyncSetupUptoCard : Claim7 := { stood := { row := libasyncSetupUptoRow, standIns := [], harness := (true, "df8bfbeec4a046aeb82f8649297e1c79c613d958886a2f347b23c148148ccbe5"), looks := false }, kinds := [], alts := [], laidByText := true, laidKinds := [.data, .data, .data, .data], laidTests := true, laidLooks := .later }
def LibasyncSetupUptoCardSaid : Prop := Claim7.holds Tryz.pinned (.plain (OpenSpec.upto libasyncSetupSpec)) libasyncSetupUptoCard
end Rows
end Go.Proofs.YtahijhejnjhkeaaGreatDoor
