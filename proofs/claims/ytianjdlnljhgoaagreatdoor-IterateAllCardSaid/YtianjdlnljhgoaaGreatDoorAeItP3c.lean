/-
  IterateAll: the paths of variant 3 with 16 to 23 steps that go on.
-/
import Derived.Test.YtianjdlnljhgoaaGreatDoorAeItPath
namespace Go.Proofs.YtianjdlnljhgoaaGreatDoor
open Go.AE
set_option maxRecDepth 100000

theorem pA3_16 : pathX env 3 16 (lastA 16) = true := by kernel_rfl
theorem pB3_16 : pathX env 3 16 (lastB 16) = true := by kernel_rfl
theorem pC3_16 : pathX envC 3 16 (lastC 16) = true := by kernel_rfl
theorem pD3_16 : pathD 3 16 = true := by kernel_rfl
theorem pA3_17 : pathX env 3 17 (lastA 17) = true := by kernel_rfl
theorem pB3_17 : pathX env 3 17 (lastB 17) = true := by kernel_rfl
theorem pC3_17 : pathX envC 3 17 (lastC 17) = true := by kernel_rfl
theorem pD3_17 : pathD 3 17 = true := by kernel_rfl
theorem pA3_18 : pathX env 3 18 (lastA 18) = true := by kernel_rfl
theorem pB3_18 : pathX env 3 18 (lastB 18) = true := by kernel_rfl
theorem pC3_18 : pathX envC 3 18 (lastC 18) = true := by kernel_rfl
theorem pD3_18 : pathD 3 18 = true := by kernel_rfl
theorem pA3_19 : pathX env 3 19 (lastA 19) = true := by kernel_rfl
theorem pB3_19 : pathX env 3 19 (lastB 19) = true := by kernel_rfl
theorem pC3_19 : pathX envC 3 19 (lastC 19) = true := by kernel_rfl
theorem pD3_19 : pathD 3 19 = true := by kernel_rfl
theorem pA3_20 : pathX env 3 20 (lastA 20) = true := by kernel_rfl
theorem pB3_20 : pathX env 3 20 (lastB 20) = true := by kernel_rfl
theorem pC3_20 : pathX envC 3 20 (lastC 20) = true := by kernel_rfl
theorem pD3_20 : pathD 3 20 = true := by kernel_rfl
theorem pA3_21 : pathX env 3 21 (lastA 21) = true := by kernel_rfl
theorem pB3_21 : pathX env 3 21 (lastB 21) = true := by kernel_rfl
theorem pC3_21 : pathX envC 3 21 (lastC 21) = true := by kernel_rfl
theorem pD3_21 : pathD 3 21 = true := by kernel_rfl
theorem pA3_22 : pathX env 3 22 (lastA 22) = true := by kernel_rfl
theorem pB3_22 : pathX env 3 22 (lastB 22) = true := by kernel_rfl
theorem pC3_22 : pathX envC 3 22 (lastC 22) = true := by kernel_rfl
theorem pD3_22 : pathD 3 22 = true := by kernel_rfl
theorem pA3_23 : pathX env 3 23 (lastA 23) = true := by kernel_rfl
theorem pB3_23 : pathX env 3 23 (lastB 23) = true := by kernel_rfl
theorem pC3_23 : pathX envC 3 23 (lastC 23) = true := by kernel_rfl
theorem pD3_23 : pathD 3 23 = true := by kernel_rfl

end Go.Proofs.YtianjdlnljhgoaaGreatDoor
