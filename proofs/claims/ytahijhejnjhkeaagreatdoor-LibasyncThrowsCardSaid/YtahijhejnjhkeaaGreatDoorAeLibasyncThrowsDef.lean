/-
  The law LibasyncThrows: what its runs ask.
-/
import Derived.Test.YtahijhejnjhkeaaGreatDoorAeMade
namespace Go.Proofs.YtahijhejnjhkeaaGreatDoor
open Go.AE


noncomputable def knLibasyncThrows : List Known := [⟨6, [], .bool true⟩]
noncomputable def runLibasyncThrows (l : List AV) : Bool := evSm env knLibasyncThrows madeSums 300 100 (.fn 3) l ⟨.nil, 0, [], []⟩ (fun v _ => sameV v (.bool true))


end Go.Proofs.YtahijhejnjhkeaaGreatDoor
