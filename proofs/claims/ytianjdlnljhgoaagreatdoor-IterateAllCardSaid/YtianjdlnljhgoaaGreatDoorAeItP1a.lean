/-
  IterateAll: the paths of variant 1 with 0 to 7 steps that go on.
-/
import Derived.Test.YtianjdlnljhgoaaGreatDoorAeItPath
namespace Go.Proofs.YtianjdlnljhgoaaGreatDoor
open Go.AE
set_option maxRecDepth 100000

theorem pA1_0 : pathX env 1 0 (lastA 0) = true := by kernel_rfl
theorem pB1_0 : pathX env 1 0 (lastB 0) = true := by kernel_rfl
theorem pC1_0 : pathX envC 1 0 (lastC 0) = true := by kernel_rfl
theorem pD1_0 : pathD 1 0 = true := by kernel_rfl
theorem pA1_1 : pathX env 1 1 (lastA 1) = true := by kernel_rfl
theorem pB1_1 : pathX env 1 1 (lastB 1) = true := by kernel_rfl
theorem pC1_1 : pathX envC 1 1 (lastC 1) = true := by kernel_rfl
theorem pD1_1 : pathD 1 1 = true := by kernel_rfl
theorem pA1_2 : pathX env 1 2 (lastA 2) = true := by kernel_rfl
theorem pB1_2 : pathX env 1 2 (lastB 2) = true := by kernel_rfl
theorem pC1_2 : pathX envC 1 2 (lastC 2) = true := by kernel_rfl
theorem pD1_2 : pathD 1 2 = true := by kernel_rfl
theorem pA1_3 : pathX env 1 3 (lastA 3) = true := by kernel_rfl
theorem pB1_3 : pathX env 1 3 (lastB 3) = true := by kernel_rfl
theorem pC1_3 : pathX envC 1 3 (lastC 3) = true := by kernel_rfl
theorem pD1_3 : pathD 1 3 = true := by kernel_rfl
theorem pA1_4 : pathX env 1 4 (lastA 4) = true := by kernel_rfl
theorem pB1_4 : pathX env 1 4 (lastB 4) = true := by kernel_rfl
theorem pC1_4 : pathX envC 1 4 (lastC 4) = true := by kernel_rfl
theorem pD1_4 : pathD 1 4 = true := by kernel_rfl
theorem pA1_5 : pathX env 1 5 (lastA 5) = true := by kernel_rfl
theorem pB1_5 : pathX env 1 5 (lastB 5) = true := by kernel_rfl
theorem pC1_5 : pathX envC 1 5 (lastC 5) = true := by kernel_rfl
theorem pD1_5 : pathD 1 5 = true := by kernel_rfl
theorem pA1_6 : pathX env 1 6 (lastA 6) = true := by kernel_rfl
theorem pB1_6 : pathX env 1 6 (lastB 6) = true := by kernel_rfl
theorem pC1_6 : pathX envC 1 6 (lastC 6) = true := by kernel_rfl
theorem pD1_6 : pathD 1 6 = true := by kernel_rfl
theorem pA1_7 : pathX env 1 7 (lastA 7) = true := by kernel_rfl
theorem pB1_7 : pathX env 1 7 (lastB 7) = true := by kernel_rfl
theorem pC1_7 : pathX envC 1 7 (lastC 7) = true := by kernel_rfl
theorem pD1_7 : pathD 1 7 = true := by kernel_rfl

end Go.Proofs.YtianjdlnljhgoaaGreatDoor
