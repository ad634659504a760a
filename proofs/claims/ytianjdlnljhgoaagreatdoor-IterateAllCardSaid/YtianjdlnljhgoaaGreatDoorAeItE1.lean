/-
  IterateAll: plans that end at once, variant 1.
-/
import Derived.Test.YtianjdlnljhgoaaGreatDoorAeItErr
namespace Go.Proofs.YtianjdlnljhgoaaGreatDoor
open Go.AE
set_option maxRecDepth 100000

theorem e1_1_0_1 : err1 1 0 1 = true := by kernel_rfl
theorem e1_1_1_1 : err1 1 1 1 = true := by kernel_rfl
theorem e1_1_2_1 : err1 1 2 1 = true := by kernel_rfl
theorem e1_2_0_1 : err1 2 0 1 = true := by kernel_rfl
theorem e1_2_1_1 : err1 2 1 1 = true := by kernel_rfl
theorem e1_2_2_1 : err1 2 2 1 = true := by kernel_rfl
theorem e2_0_1 : err2 0 1 = true := by kernel_rfl
theorem e2c_0_1 : err2c 0 1 = true := by kernel_rfl
theorem e2_1_1 : err2 1 1 = true := by kernel_rfl
theorem e2c_1_1 : err2c 1 1 = true := by kernel_rfl
theorem e3_1_1 : err3 1 1 = true := by kernel_rfl
theorem e2_2_1 : err2 2 1 = true := by kernel_rfl
theorem e2c_2_1 : err2c 2 1 = true := by kernel_rfl
theorem e3_2_1 : err3 2 1 = true := by kernel_rfl

end Go.Proofs.YtianjdlnljhgoaaGreatDoor
