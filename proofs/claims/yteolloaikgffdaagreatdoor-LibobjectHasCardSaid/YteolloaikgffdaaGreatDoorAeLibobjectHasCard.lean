/-
  One closed fact of the card of LibobjectHas, in a text of its own (it takes much memory).
-/
import Derived.Test.YteolloaikgffdaaGreatDoorRows
import Derived.Test.YteolloaikgffdaaGreatDoorTie
import Derived.Test.YteolloaikgffdaaGreatDoorCards
import Derived.ProofKit
import Derived.SevenTiedAt
import Derived.Stop.Joined
namespace Go.Proofs.YteolloaikgffdaaGreatDoor.libobjectHas
set_option maxRecDepth 100000

theorem card_goes : false = Rows.libobjectHasRow.goesBy Tryz.pinned.checked.prog := by kernel_rfl

end Go.Proofs.YteolloaikgffdaaGreatDoor.libobjectHas
