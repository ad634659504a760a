/-
  One closed fact of the card of AbsopStores, in a text of its own (it takes much memory).
-/
import Derived.Test.YtbldcbjmfldbfaaGreatDoorRows
import Derived.Test.YtbldcbjmfldbfaaGreatDoorTie
import Derived.Test.YtbldcbjmfldbfaaGreatDoorCards
import Derived.ProofKit
import Derived.SevenTiedAt
import Derived.Stop.Joined
namespace Go.Proofs.YtbldcbjmfldbfaaGreatDoor.absopStores
set_option maxRecDepth 100000

theorem card_goes : false = Rows.absopStoresRow.goesBy Tryz.pinned.checked.prog := by kernel_rfl

end Go.Proofs.YtbldcbjmfldbfaaGreatDoor.absopStores
