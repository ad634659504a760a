/-
  The law LibasyncSetup: runs, part 0.
-/
import Derived.Test.YtahijhejnjhkeaaGreatDoorAeLibasyncSetupDef
namespace Go.Proofs.YtahijhejnjhkeaaGreatDoor
open Go.AE
set_option maxRecDepth 100000

theorem run_libasyncSetup_0 : runLibasyncSetup [mkS .i64 (.var 0) (lo64) (89)] = true := by kernel_rfl
theorem run_libasyncSetup_4 : runLibasyncSetup [mkS .i64 (.var 0) (105) (109)] = true := by kernel_rfl

end Go.Proofs.YtahijhejnjhkeaaGreatDoor
