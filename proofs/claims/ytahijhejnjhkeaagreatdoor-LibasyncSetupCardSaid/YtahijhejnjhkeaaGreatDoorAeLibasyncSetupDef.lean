/-
  The law LibasyncSetup: what its runs ask.
-/
import Derived.Test.YtahijhejnjhkeaaGreatDoorAeMade
namespace Go.Proofs.YtahijhejnjhkeaaGreatDoor
open Go.AE


noncomputable def knLibasyncSetup : List Known := [⟨6, [], .bool true⟩]
noncomputable def runLibasyncSetup (l : List AV) : Bool := evSm env knLibasyncSetup madeSums 300 100 (.fn 4) l ⟨.nil, 0, [], []⟩ (fun v _ => sameV v (.bool true))


end Go.Proofs.YtahijhejnjhkeaaGreatDoor
