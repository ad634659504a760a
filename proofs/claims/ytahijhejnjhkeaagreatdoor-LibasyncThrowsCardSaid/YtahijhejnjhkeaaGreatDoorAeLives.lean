/-
  The example of the specification, by the kernel; its run is cut at three steps.
-/
import Derived.Test.YtahijhejnjhkeaaGreatDoorAeMade
import Derived.Test.YtahijhejnjhkeaaGreatDoorAeTick1
import Derived.Test.YtahijhejnjhkeaaGreatDoorAeTick2
import Derived.Test.YtahijhejnjhkeaaGreatDoorAeTick3
namespace Go.Proofs.YtahijhejnjhkeaaGreatDoor
open Go.AE
set_option maxRecDepth 100000

noncomputable def livesSums : List Sum := [qMade, qTick1, qTick2, qTick3]
theorem livesSums_ok (Y : Sy) : SumsOk Y env livesSums := (((SumsOk.nil.cons (qTick3_ok Y)).cons (qTick2_ok Y)).cons (qTick1_ok Y)).cons (qMade_ok Y)

theorem lives_run : evSm env [] livesSums 300 100 (.fn 6) [] ⟨.nil, 0, [], []⟩ (fun v _ => sameV v (.bool true)) = true := by kernel_rfl

theorem lives_gives (Y : Sy) : Gives Y env 6 [] (.bool true) := gives_of_sums (env_ok Y) KnownOk.nil (livesSums_ok Y) rfl lives_run

end Go.Proofs.YtahijhejnjhkeaaGreatDoor
