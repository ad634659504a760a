/-
  The law LibasyncSetup: runs, part 3.
-/
import Derived.Test.YtahijhejnjhkeaaGreatDoorAeLibasyncSetupDef
namespace Go.Proofs.YtahijhejnjhkeaaGreatDoor
open Go.AE
set_option maxRecDepth 100000

theorem run_libasyncSetup_3 : runLibasyncSetup [mkS .i64 (.var 0) (100) (104)] = true := by kernel_rfl

end Go.Proofs.YtahijhejnjhkeaaGreatDoor
