/-
  IterateAll: the paths of variant 2 with 24 to 30 steps that go on.
-/
import Derived.Test.YtianjdlnljhgoaaGreatDoorAeItPath
namespace Go.Proofs.YtianjdlnljhgoaaGreatDoor
open Go.AE
set_option maxRecDepth 100000

theorem pA2_24 : pathX env 2 24 (lastA 24) = true := by kernel_rfl
theorem pB2_24 : pathX env 2 24 (lastB 24) = true := by kernel_rfl
theorem pC2_24 : pathX envC 2 24 (lastC 24) = true := by kernel_rfl
theorem pD2_24 : pathD 2 24 = true := by kernel_rfl
theorem pA2_25 : pathX env 2 25 (lastA 25) = true := by kernel_rfl
theorem pB2_25 : pathX env 2 25 (lastB 25) = true := by kernel_rfl
theorem pC2_25 : pathX envC 2 25 (lastC 25) = true := by kernel_rfl
theorem pD2_25 : pathD 2 25 = true := by kernel_rfl
theorem pA2_26 : pathX env 2 26 (lastA 26) = true := by kernel_rfl
theorem pB2_26 : pathX env 2 26 (lastB 26) = true := by kernel_rfl
theorem pC2_26 : pathX envC 2 26 (lastC 26) = true := by kernel_rfl
theorem pD2_26 : pathD 2 26 = true := by kernel_rfl
theorem pA2_27 : pathX env 2 27 (lastA 27) = true := by kernel_rfl
theorem pB2_27 : pathX env 2 27 (lastB 27) = true := by kernel_rfl
theorem pC2_27 : pathX envC 2 27 (lastC 27) = true := by kernel_rfl
theorem pD2_27 : pathD 2 27 = true := by kernel_rfl
theorem pA2_28 : pathX env 2 28 (lastA 28) = true := by kernel_rfl
theorem pB2_28 : pathX env 2 28 (lastB 28) = true := by kernel_rfl
theorem pC2_28 : pathX envC 2 28 (lastC 28) = true := by kernel_rfl
theorem pD2_28 : pathD 2 28 = true := by kernel_rfl
theorem pA2_29 : pathX env 2 29 (lastA 29) = true := by kernel_rfl
theorem pB2_29 : pathX env 2 29 (lastB 29) = true := by kernel_rfl
theorem pC2_29 : pathX envC 2 29 (lastC 29) = true := by kernel_rfl
theorem pD2_29 : pathD 2 29 = true := by kernel_rfl
theorem pD2_30 : pathD 2 30 = true := by kernel_rfl

end Go.Proofs.YtianjdlnljhgoaaGreatDoor
