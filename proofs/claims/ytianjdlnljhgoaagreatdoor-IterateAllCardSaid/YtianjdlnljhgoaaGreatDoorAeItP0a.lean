/-
  IterateAll: the paths of variant 0 with 0 to 7 steps that go on.
-/
import Derived.Test.YtianjdlnljhgoaaGreatDoorAeItPath
namespace Go.Proofs.YtianjdlnljhgoaaGreatDoor
open Go.AE
set_option maxRecDepth 100000

theorem pA0_0 : pathX env 0 0 (lastA 0) = true := by kernel_rfl
theorem pB0_0 : pathX env 0 0 (lastB 0) = true := by kernel_rfl
theorem pC0_0 : pathX envC 0 0 (lastC 0) = true := by kernel_rfl
theorem pD0_0 : pathD 0 0 = true := by kernel_rfl
theorem pA0_1 : pathX env 0 1 (lastA 1) = true := by kernel_rfl
theorem pB0_1 : pathX env 0 1 (lastB 1) = true := by kernel_rfl
theorem pC0_1 : pathX envC 0 1 (lastC 1) = true := by kernel_rfl
theorem pD0_1 : pathD 0 1 = true := by kernel_rfl
theorem pA0_2 : pathX env 0 2 (lastA 2) = true := by kernel_rfl
theorem pB0_2 : pathX env 0 2 (lastB 2) = true := by kernel_rfl
theorem pC0_2 : pathX envC 0 2 (lastC 2) = true := by kernel_rfl
theorem pD0_2 : pathD 0 2 = true := by kernel_rfl
theorem pA0_3 : pathX env 0 3 (lastA 3) = true := by kernel_rfl
theorem pB0_3 : pathX env 0 3 (lastB 3) = true := by kernel_rfl
theorem pC0_3 : pathX envC 0 3 (lastC 3) = true := by kernel_rfl
theorem pD0_3 : pathD 0 3 = true := by kernel_rfl
theorem pA0_4 : pathX env 0 4 (lastA 4) = true := by kernel_rfl
theorem pB0_4 : pathX env 0 4 (lastB 4) = true := by kernel_rfl
theorem pC0_4 : pathX envC 0 4 (lastC 4) = true := by kernel_rfl
theorem pD0_4 : pathD 0 4 = true := by kernel_rfl
theorem pA0_5 : pathX env 0 5 (lastA 5) = true := by kernel_rfl
theorem pB0_5 : pathX env 0 5 (lastB 5) = true := by kernel_rfl
theorem pC0_5 : pathX envC 0 5 (lastC 5) = true := by kernel_rfl
theorem pD0_5 : pathD 0 5 = true := by kernel_rfl
theorem pA0_6 : pathX env 0 6 (lastA 6) = true := by kernel_rfl
theorem pB0_6 : pathX env 0 6 (lastB 6) = true := by kernel_rfl
theorem pC0_6 : pathX envC 0 6 (lastC 6) = true := by kernel_rfl
theorem pD0_6 : pathD 0 6 = true := by kernel_rfl
theorem pA0_7 : pathX env 0 7 (lastA 7) = true := by kernel_rfl
theorem pB0_7 : pathX env 0 7 (lastB 7) = true := by kernel_rfl
theorem pC0_7 : pathX envC 0 7 (lastC 7) = true := by kernel_rfl
theorem pD0_7 : pathD 0 7 = true := by kernel_rfl

end Go.Proofs.YtianjdlnljhgoaaGreatDoor
