/-
  IterateAll: the paths of variant 2 with 16 to 23 steps that go on.
-/
import Derived.Test.YtianjdlnljhgoaaGreatDoorAeItPath
namespace Go.Proofs.YtianjdlnljhgoaaGreatDoor
open Go.AE
set_option maxRecDepth 100000

theorem pA2_16 : pathX env 2 16 (lastA 16) = true := by kernel_rfl
theorem pB2_16 : pathX env 2 16 (lastB 16) = true := by kernel_rfl
theorem pC2_16 : pathX envC 2 16 (lastC 16) = true := by kernel_rfl
theorem pD2_16 : pathD 2 16 = true := by kernel_rfl
theorem pA2_17 : pathX env 2 17 (lastA 17) = true := by kernel_rfl
theorem pB2_17 : pathX env 2 17 (lastB 17) = true := by kernel_rfl
theorem pC2_17 : pathX envC 2 17 (lastC 17) = true := by kernel_rfl
theorem pD2_17 : pathD 2 17 = true := by kernel_rfl
theorem pA2_18 : pathX env 2 18 (lastA 18) = true := by kernel_rfl
theorem pB2_18 : pathX env 2 18 (lastB 18) = true := by kernel_rfl
theorem pC2_18 : pathX envC 2 18 (lastC 18) = true := by kernel_rfl
theorem pD2_18 : pathD 2 18 = true := by kernel_rfl
theorem pA2_19 : pathX env 2 19 (lastA 19) = true := by kernel_rfl
theorem pB2_19 : pathX env 2 19 (lastB 19) = true := by kernel_rfl
theorem pC2_19 : pathX envC 2 19 (lastC 19) = true := by kernel_rfl
theorem pD2_19 : pathD 2 19 = true := by kernel_rfl
theorem pA2_20 : pathX env 2 20 (lastA 20) = true := by kernel_rfl
theorem pB2_20 : pathX env 2 20 (lastB 20) = true := by kernel_rfl
theorem pC2_20 : pathX envC 2 20 (lastC 20) = true := by kernel_rfl
theorem pD2_20 : pathD 2 20 = true := by kernel_rfl
theorem pA2_21 : pathX env 2 21 (lastA 21) = true := by kernel_rfl
theorem pB2_21 : pathX env 2 21 (lastB 21) = true := by kernel_rfl
theorem pC2_21 : pathX envC 2 21 (lastC 21) = true := by kernel_rfl
theorem pD2_21 : pathD 2 21 = true := by kernel_rfl
theorem pA2_22 : pathX env 2 22 (lastA 22) = true := by kernel_rfl
theorem pB2_22 : pathX env 2 22 (lastB 22) = true := by kernel_rfl
theorem pC2_22 : pathX envC 2 22 (lastC 22) = true := by kernel_rfl
theorem pD2_22 : pathD 2 22 = true := by kernel_rfl
theorem pA2_23 : pathX env 2 23 (lastA 23) = true := by kernel_rfl
theorem pB2_23 : pathX env 2 23 (lastB 23) = true := by kernel_rfl
theorem pC2_23 : pathX envC 2 23 (lastC 23) = true := by kernel_rfl
theorem pD2_23 : pathD 2 23 = true := by kernel_rfl

end Go.Proofs.YtianjdlnljhgoaaGreatDoor
