/-
  The law LibasyncSetup: runs, part 2.
-/
import Derived.Test.YtahijhejnjhkeaaGreatDoorAeLibasyncSetupDef
namespace Go.Proofs.YtahijhejnjhkeaaGreatDoor
open Go.AE
set_option maxRecDepth 100000

theorem run_libasyncSetup_2 : runLibasyncSetup [mkS .i64 (.var 0) (97) (99)] = true := by kernel_rfl
theorem run_libasyncSetup_6 : runLibasyncSetup [mkS .i64 (.var 0) (113) (hi64)] = true := by kernel_rfl

end Go.Proofs.YtahijhejnjhkeaaGreatDoor
