/-
  IterateAll: the paths of variant 3 with 24 to 30 steps that go on.
-/
import Derived.Test.YtianjdlnljhgoaaGreatDoorAeItPath
namespace Go.Proofs.YtianjdlnljhgoaaGreatDoor
open Go.AE
set_option maxRecDepth 100000

theorem pA3_24 : pathX env 3 24 (lastA 24) = true := by kernel_rfl
theorem pB3_24 : pathX env 3 24 (lastB 24) = true := by kernel_rfl
theorem pC3_24 : pathX envC 3 24 (lastC 24) = true := by kernel_rfl
theorem pD3_24 : pathD 3 24 = true := by kernel_rfl
theorem pA3_25 : pathX env 3 25 (lastA 25) = true := by kernel_rfl
theorem pB3_25 : pathX env 3 25 (lastB 25) = true := by kernel_rfl
theorem pC3_25 : pathX envC 3 25 (lastC 25) = true := by kernel_rfl
theorem pD3_25 : pathD 3 25 = true := by kernel_rfl
theorem pA3_26 : pathX env 3 26 (lastA 26) = true := by kernel_rfl
theorem pB3_26 : pathX env 3 26 (lastB 26) = true := by kernel_rfl
theorem pC3_26 : pathX envC 3 26 (lastC 26) = true := by kernel_rfl
theorem pD3_26 : pathD 3 26 = true := by kernel_rfl
theorem pA3_27 : pathX env 3 27 (lastA 27) = true := by kernel_rfl
theorem pB3_27 : pathX env 3 27 (lastB 27) = true := by kernel_rfl
theorem pC3_27 : pathX envC 3 27 (lastC 27) = true := by kernel_rfl
theorem pD3_27 : pathD 3 27 = true := by kernel_rfl
theorem pA3_28 : pathX env 3 28 (lastA 28) = true := by kernel_rfl
theorem pB3_28 : pathX env 3 28 (lastB 28) = true := by kernel_rfl
theorem pC3_28 : pathX envC 3 28 (lastC 28) = true := by kernel_rfl
theorem pD3_28 : pathD 3 28 = true := by kernel_rfl
theorem pA3_29 : pathX env 3 29 (lastA 29) = true := by kernel_rfl
theorem pB3_29 : pathX env 3 29 (lastB 29) = true := by kernel_rfl
theorem pC3_29 : pathX envC 3 29 (lastC 29) = true := by kernel_rfl
theorem pD3_29 : pathD 3 29 = true := by kernel_rfl
theorem pD3_30 : pathD 3 30 = true := by kernel_rfl

end Go.Proofs.YtianjdlnljhgoaaGreatDoor
