/-
  IterateAll: the paths of variant 1 with 16 to 23 steps that go on.
-/
import Derived.Test.YtianjdlnljhgoaaGreatDoorAeItPath
namespace Go.Proofs.YtianjdlnljhgoaaGreatDoor
open Go.AE
set_option maxRecDepth 100000

theorem pA1_16 : pathX env 1 16 (lastA 16) = true := by kernel_rfl
theorem pB1_16 : pathX env 1 16 (lastB 16) = true := by kernel_rfl
theorem pC1_16 : pathX envC 1 16 (lastC 16) = true := by kernel_rfl
theorem pD1_16 : pathD 1 16 = true := by kernel_rfl
theorem pA1_17 : pathX env 1 17 (lastA 17) = true := by kernel_rfl
theorem pB1_17 : pathX env 1 17 (lastB 17) = true := by kernel_rfl
theorem pC1_17 : pathX envC 1 17 (lastC 17) = true := by kernel_rfl
theorem pD1_17 : pathD 1 17 = true := by kernel_rfl
theorem pA1_18 : pathX env 1 18 (lastA 18) = true := by kernel_rfl
theorem pB1_18 : pathX env 1 18 (lastB 18) = true := by kernel_rfl
theorem pC1_18 : pathX envC 1 18 (lastC 18) = true := by kernel_rfl
theorem pD1_18 : pathD 1 18 = true := by kernel_rfl
theorem pA1_19 : pathX env 1 19 (lastA 19) = true := by kernel_rfl
theorem pB1_19 : pathX env 1 19 (lastB 19) = true := by kernel_rfl
theorem pC1_19 : pathX envC 1 19 (lastC 19) = true := by kernel_rfl
theorem pD1_19 : pathD 1 19 = true := by kernel_rfl
theorem pA1_20 : pathX env 1 20 (lastA 20) = true := by kernel_rfl
theorem pB1_20 : pathX env 1 20 (lastB 20) = true := by kernel_rfl
theorem pC1_20 : pathX envC 1 20 (lastC 20) = true := by kernel_rfl
theorem pD1_20 : pathD 1 20 = true := by kernel_rfl
theorem pA1_21 : pathX env 1 21 (lastA 21) = true := by kernel_rfl
theorem pB1_21 : pathX env 1 21 (lastB 21) = true := by kernel_rfl
theorem pC1_21 : pathX envC 1 21 (lastC 21) = true := by kernel_rfl
theorem pD1_21 : pathD 1 21 = true := by kernel_rfl
theorem pA1_22 : pathX env 1 22 (lastA 22) = true := by kernel_rfl
theorem pB1_22 : pathX env 1 22 (lastB 22) = true := by kernel_rfl
theorem pC1_22 : pathX envC 1 22 (lastC 22) = true := by kernel_rfl
theorem pD1_22 : pathD 1 22 = true := by kernel_rfl
theorem pA1_23 : pathX env 1 23 (lastA 23) = true := by kernel_rfl
theorem pB1_23 : pathX env 1 23 (lastB 23) = true := by kernel_rfl
theorem pC1_23 : pathX envC 1 23 (lastC 23) = true := by kernel_rfl
theorem pD1_23 : pathD 1 23 = true := by kernel_rfl

end Go.Proofs.YtianjdlnljhgoaaGreatDoor
