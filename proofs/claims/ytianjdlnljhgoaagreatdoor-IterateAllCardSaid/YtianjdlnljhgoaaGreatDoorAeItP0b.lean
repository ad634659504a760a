/-
  IterateAll: the paths of variant 0 with 8 to 15 steps that go on.
-/
import Derived.Test.YtianjdlnljhgoaaGreatDoorAeItPath
namespace Go.Proofs.YtianjdlnljhgoaaGreatDoor
open Go.AE
set_option maxRecDepth 100000

theorem pA0_8 : pathX env 0 8 (lastA 8) = true := by kernel_rfl
theorem pB0_8 : pathX env 0 8 (lastB 8) = true := by kernel_rfl
theorem pC0_8 : pathX envC 0 8 (lastC 8) = true := by kernel_rfl
theorem pD0_8 : pathD 0 8 = true := by kernel_rfl
theorem pA0_9 : pathX env 0 9 (lastA 9) = true := by kernel_rfl
theorem pB0_9 : pathX env 0 9 (lastB 9) = true := by kernel_rfl
theorem pC0_9 : pathX envC 0 9 (lastC 9) = true := by kernel_rfl
theorem pD0_9 : pathD 0 9 = true := by kernel_rfl
theorem pA0_10 : pathX env 0 10 (lastA 10) = true := by kernel_rfl
theorem pB0_10 : pathX env 0 10 (lastB 10) = true := by kernel_rfl
theorem pC0_10 : pathX envC 0 10 (lastC 10) = true := by kernel_rfl
theorem pD0_10 : pathD 0 10 = true := by kernel_rfl
theorem pA0_11 : pathX env 0 11 (lastA 11) = true := by kernel_rfl
theorem pB0_11 : pathX env 0 11 (lastB 11) = true := by kernel_rfl
theorem pC0_11 : pathX envC 0 11 (lastC 11) = true := by kernel_rfl
theorem pD0_11 : pathD 0 11 = true := by kernel_rfl
theorem pA0_12 : pathX env 0 12 (lastA 12) = true := by kernel_rfl
theorem pB0_12 : pathX env 0 12 (lastB 12) = true := by kernel_rfl
theorem pC0_12 : pathX envC 0 12 (lastC 12) = true := by kernel_rfl
theorem pD0_12 : pathD 0 12 = true := by kernel_rfl
theorem pA0_13 : pathX env 0 13 (lastA 13) = true := by kernel_rfl
theorem pB0_13 : pathX env 0 13 (lastB 13) = true := by kernel_rfl
theorem pC0_13 : pathX envC 0 13 (lastC 13) = true := by kernel_rfl
theorem pD0_13 : pathD 0 13 = true := by kernel_rfl
theorem pA0_14 : pathX env 0 14 (lastA 14) = true := by kernel_rfl
theorem pB0_14 : pathX env 0 14 (lastB 14) = true := by kernel_rfl
theorem pC0_14 : pathX envC 0 14 (lastC 14) = true := by kernel_rfl
theorem pD0_14 : pathD 0 14 = true := by kernel_rfl
theorem pA0_15 : pathX env 0 15 (lastA 15) = true := by kernel_rfl
theorem pB0_15 : pathX env 0 15 (lastB 15) = true := by kernel_rfl
theorem pC0_15 : pathX envC 0 15 (lastC 15) = true := by kernel_rfl
theorem pD0_15 : pathD 0 15 = true := by kernel_rfl

end Go.Proofs.YtianjdlnljhgoaaGreatDoor
