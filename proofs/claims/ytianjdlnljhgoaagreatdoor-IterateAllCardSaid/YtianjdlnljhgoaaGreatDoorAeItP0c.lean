/-
  IterateAll: the paths of variant 0 with 16 to 23 steps that go on.
-/
import Derived.Test.YtianjdlnljhgoaaGreatDoorAeItPath
namespace Go.Proofs.YtianjdlnljhgoaaGreatDoor
open Go.AE
set_option maxRecDepth 100000

theorem pA0_16 : pathX env 0 16 (lastA 16) = true := by kernel_rfl
theorem pB0_16 : pathX env 0 16 (lastB 16) = true := by kernel_rfl
theorem pC0_16 : pathX envC 0 16 (lastC 16) = true := by kernel_rfl
theorem pD0_16 : pathD 0 16 = true := by kernel_rfl
theorem pA0_17 : pathX env 0 17 (lastA 17) = true := by kernel_rfl
theorem pB0_17 : pathX env 0 17 (lastB 17) = true := by kernel_rfl
theorem pC0_17 : pathX envC 0 17 (lastC 17) = true := by kernel_rfl
theorem pD0_17 : pathD 0 17 = true := by kernel_rfl
theorem pA0_18 : pathX env 0 18 (lastA 18) = true := by kernel_rfl
theorem pB0_18 : pathX env 0 18 (lastB 18) = true := by kernel_rfl
theorem pC0_18 : pathX envC 0 18 (lastC 18) = true := by kernel_rfl
theorem pD0_18 : pathD 0 18 = true := by kernel_rfl
theorem pA0_19 : pathX env 0 19 (lastA 19) = true := by kernel_rfl
theorem pB0_19 : pathX env 0 19 (lastB 19) = true := by kernel_rfl
theorem pC0_19 : pathX envC 0 19 (lastC 19) = true := by kernel_rfl
theorem pD0_19 : pathD 0 19 = true := by kernel_rfl
theorem pA0_20 : pathX env 0 20 (lastA 20) = true := by kernel_rfl
theorem pB0_20 : pathX env 0 20 (lastB 20) = true := by kernel_rfl
theorem pC0_20 : pathX envC 0 20 (lastC 20) = true := by kernel_rfl
theorem pD0_20 : pathD 0 20 = true := by kernel_rfl
theorem pA0_21 : pathX env 0 21 (lastA 21) = true := by kernel_rfl
theorem pB0_21 : pathX env 0 21 (lastB 21) = true := by kernel_rfl
theorem pC0_21 : pathX envC 0 21 (lastC 21) = true := by kernel_rfl
theorem pD0_21 : pathD 0 21 = true := by kernel_rfl
theorem pA0_22 : pathX env 0 22 (lastA 22) = true := by kernel_rfl
theorem pB0_22 : pathX env 0 22 (lastB 22) = true := by kernel_rfl
theorem pC0_22 : pathX envC 0 22 (lastC 22) = true := by kernel_rfl
theorem pD0_22 : pathD 0 22 = true := by kernel_rfl
theorem pA0_23 : pathX env 0 23 (lastA 23) = true := by kernel_rfl
theorem pB0_23 : pathX env 0 23 (lastB 23) = true := by kernel_rfl
theorem pC0_23 : pathX envC 0 23 (lastC 23) = true := by kernel_rfl
theorem pD0_23 : pathD 0 23 = true := by kernel_rfl

end Go.Proofs.YtianjdlnljhgoaaGreatDoor
