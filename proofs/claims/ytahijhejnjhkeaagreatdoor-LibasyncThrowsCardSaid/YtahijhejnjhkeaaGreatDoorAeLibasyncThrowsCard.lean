/-
  One closed fact of the card of LibasyncThrows, in a text of its own (it takes much memory).
-/
import Derived.Test.YtahijhejnjhkeaaGreatDoorRows
import Derived.Test.YtahijhejnjhkeaaGreatDoorTie
import Derived.Test.YtahijhejnjhkeaaGreatDoorCards
import Derived.ProofKit
import Derived.SevenTiedAt
import Derived.Stop.Joined
namespace Go.Proofs.YtahijhejnjhkeaaGreatDoor.libasyncThrows
set_option maxRecDepth 100000

theorem card_goes : false = Rows.libasyncThrowsRow.goesBy Tryz.pinned.checked.prog := by kernel_rfl

end Go.Proofs.YtahijhejnjhkeaaGreatDoor.libasyncThrows
