/-
  IterateAll: the paths of variant 1 with 24 to 30 steps that go on.
-/
import Derived.Test.YtianjdlnljhgoaaGreatDoorAeItPath
namespace Go.Proofs.YtianjdlnljhgoaaGreatDoor
open Go.AE
set_option maxRecDepth 100000

theorem pA1_24 : pathX env 1 24 (lastA 24) = true := by kernel_rfl
theorem pB1_24 : pathX env 1 24 (lastB 24) = true := by kernel_rfl
theorem pC1_24 : pathX envC 1 24 (lastC 24) = true := by kernel_rfl
theorem pD1_24 : pathD 1 24 = true := by kernel_rfl
theorem pA1_25 : pathX env 1 25 (lastA 25) = true := by kernel_rfl
theorem pB1_25 : pathX env 1 25 (lastB 25) = true := by kernel_rfl
theorem pC1_25 : pathX envC 1 25 (lastC 25) = true := by kernel_rfl
theorem pD1_25 : pathD 1 25 = true := by kernel_rfl
theorem pA1_26 : pathX env 1 26 (lastA 26) = true := by kernel_rfl
theorem pB1_26 : pathX env 1 26 (lastB 26) = true := by kernel_rfl
theorem pC1_26 : pathX envC 1 26 (lastC 26) = true := by kernel_rfl
theorem pD1_26 : pathD 1 26 = true := by kernel_rfl
theorem pA1_27 : pathX env 1 27 (lastA 27) = true := by kernel_rfl
theorem pB1_27 : pathX env 1 27 (lastB 27) = true := by kernel_rfl
theorem pC1_27 : pathX envC 1 27 (lastC 27) = true := by kernel_rfl
theorem pD1_27 : pathD 1 27 = true := by kernel_rfl
theorem pA1_28 : pathX env 1 28 (lastA 28) = true := by kernel_rfl
theorem pB1_28 : pathX env 1 28 (lastB 28) = true := by kernel_rfl
theorem pC1_28 : pathX envC 1 28 (lastC 28) = true := by kernel_rfl
theorem pD1_28 : pathD 1 28 = true := by kernel_rfl
theorem pA1_29 : pathX env 1 29 (lastA 29) = true := by kernel_rfl
theorem pB1_29 : pathX env 1 29 (lastB 29) = true := by kernel_rfl
theorem pC1_29 : pathX envC 1 29 (lastC 29) = true := by kernel_rfl
theorem pD1_29 : pathD 1 29 = true := by kernel_rfl
theorem pD1_30 : pathD 1 30 = true := by kernel_rfl

end Go.Proofs.YtianjdlnljhgoaaGreatDoor
