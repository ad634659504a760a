/-
  One closed fact of the card of LibasyncSetup, in a text of its own (it takes much memory).
-/
import Derived.Test.YtahijhejnjhkeaaGreatDoorRows
import Derived.Test.YtahijhejnjhkeaaGreatDoorTie
import Derived.Test.YtahijhejnjhkeaaGreatDoorCards
import Derived.ProofKit
import Derived.SevenTiedAt
import Derived.Stop.Joined
namespace Go.Proofs.YtahijhejnjhkeaaGreatDoor.libasyncSetup
set_option maxRecDepth 100000

theorem card_goes : false = Rows.libasyncSetupRow.goesBy Tryz.pinned.checked.prog := by kernel_rfl

end Go.Proofs.YtahijhejnjhkeaaGreatDoor.libasyncSetup
