/-
  The law LibasyncSetup: runs, part 1.
-/
import Derived.Test.YtahijhejnjhkeaaGreatDoorAeLibasyncSetupDef
namespace Go.Proofs.YtahijhejnjhkeaaGreatDoor
open Go.AE
set_option maxRecDepth 100000

theorem run_libasyncSetup_1 : runLibasyncSetup [mkS .i64 (.var 0) (90) (96)] = true := by kernel_rfl
theorem run_libasyncSetup_5 : runLibasyncSetup [mkS .i64 (.var 0) (110) (112)] = true := by kernel_rfl

end Go.Proofs.YtahijhejnjhkeaaGreatDoor
