/-
  IterateAll: the paths of variant 0 with 24 to 30 steps that go on.
-/
import Derived.Test.YtianjdlnljhgoaaGreatDoorAeItPath
namespace Go.Proofs.YtianjdlnljhgoaaGreatDoor
open Go.AE
set_option maxRecDepth 100000

theorem pA0_24 : pathX env 0 24 (lastA 24) = true := by kernel_rfl
theorem pB0_24 : pathX env 0 24 (lastB 24) = true := by kernel_rfl
theorem pC0_24 : pathX envC 0 24 (lastC 24) = true := by kernel_rfl
theorem pD0_24 : pathD 0 24 = true := by kernel_rfl
theorem pA0_25 : pathX env 0 25 (lastA 25) = true := by kernel_rfl
theorem pB0_25 : pathX env 0 25 (lastB 25) = true := by kernel_rfl
theorem pC0_25 : pathX envC 0 25 (lastC 25) = true := by kernel_rfl
theorem pD0_25 : pathD 0 25 = true := by kernel_rfl
theorem pA0_26 : pathX env 0 26 (lastA 26) = true := by kernel_rfl
theorem pB0_26 : pathX env 0 26 (lastB 26) = true := by kernel_rfl
theorem pC0_26 : pathX envC 0 26 (lastC 26) = true := by kernel_rfl
theorem pD0_26 : pathD 0 26 = true := by kernel_rfl
theorem pA0_27 : pathX env 0 27 (lastA 27) = true := by kernel_rfl
theorem pB0_27 : pathX env 0 27 (lastB 27) = true := by kernel_rfl
theorem pC0_27 : pathX envC 0 27 (lastC 27) = true := by kernel_rfl
theorem pD0_27 : pathD 0 27 = true := by kernel_rfl
theorem pA0_28 : pathX env 0 28 (lastA 28) = true := by kernel_rfl
theorem pB0_28 : pathX env 0 28 (lastB 28) = true := by kernel_rfl
theorem pC0_28 : pathX envC 0 28 (lastC 28) = true := by kernel_rfl
theorem pD0_28 : pathD 0 28 = true := by kernel_rfl
theorem pA0_29 : pathX env 0 29 (lastA 29) = true := by kernel_rfl
theorem pB0_29 : pathX env 0 29 (lastB 29) = true := by kernel_rfl
theorem pC0_29 : pathX envC 0 29 (lastC 29) = true := by kernel_rfl
theorem pD0_29 : pathD 0 29 = true := by kernel_rfl
theorem pD0_30 : pathD 0 30 = true := by kernel_rfl

end Go.Proofs.YtianjdlnljhgoaaGreatDoor
