/-
  IterateAll: the paths of variant 1 with 8 to 15 steps that go on.
-/
import Derived.Test.YtianjdlnljhgoaaGreatDoorAeItPath
namespace Go.Proofs.YtianjdlnljhgoaaGreatDoor
open Go.AE
set_option maxRecDepth 100000

theorem pA1_8 : pathX env 1 8 (lastA 8) = true := by kernel_rfl
theorem pB1_8 : pathX env 1 8 (lastB 8) = true := by kernel_rfl
theorem pC1_8 : pathX envC 1 8 (lastC 8) = true := by kernel_rfl
theorem pD1_8 : pathD 1 8 = true := by kernel_rfl
theorem pA1_9 : pathX env 1 9 (lastA 9) = true := by kernel_rfl
theorem pB1_9 : pathX env 1 9 (lastB 9) = true := by kernel_rfl
theorem pC1_9 : pathX envC 1 9 (lastC 9) = true := by kernel_rfl
theorem pD1_9 : pathD 1 9 = true := by kernel_rfl
theorem pA1_10 : pathX env 1 10 (lastA 10) = true := by kernel_rfl
theorem pB1_10 : pathX env 1 10 (lastB 10) = true := by kernel_rfl
theorem pC1_10 : pathX envC 1 10 (lastC 10) = true := by kernel_rfl
theorem pD1_10 : pathD 1 10 = true := by kernel_rfl
theorem pA1_11 : pathX env 1 11 (lastA 11) = true := by kernel_rfl
theorem pB1_11 : pathX env 1 11 (lastB 11) = true := by kernel_rfl
theorem pC1_11 : pathX envC 1 11 (lastC 11) = true := by kernel_rfl
theorem pD1_11 : pathD 1 11 = true := by kernel_rfl
theorem pA1_12 : pathX env 1 12 (lastA 12) = true := by kernel_rfl
theorem pB1_12 : pathX env 1 12 (lastB 12) = true := by kernel_rfl
theorem pC1_12 : pathX envC 1 12 (lastC 12) = true := by kernel_rfl
theorem pD1_12 : pathD 1 12 = true := by kernel_rfl
theorem pA1_13 : pathX env 1 13 (lastA 13) = true := by kernel_rfl
theorem pB1_13 : pathX env 1 13 (lastB 13) = true := by kernel_rfl
theorem pC1_13 : pathX envC 1 13 (lastC 13) = true := by kernel_rfl
theorem pD1_13 : pathD 1 13 = true := by kernel_rfl
theorem pA1_14 : pathX env 1 14 (lastA 14) = true := by kernel_rfl
theorem pB1_14 : pathX env 1 14 (lastB 14) = true := by kernel_rfl
theorem pC1_14 : pathX envC 1 14 (lastC 14) = true := by kernel_rfl
theorem pD1_14 : pathD 1 14 = true := by kernel_rfl
theorem pA1_15 : pathX env 1 15 (lastA 15) = true := by kernel_rfl
theorem pB1_15 : pathX env 1 15 (lastB 15) = true := by kernel_rfl
theorem pC1_15 : pathX envC 1 15 (lastC 15) = true := by kernel_rfl
theorem pD1_15 : pathD 1 15 = true := by kernel_rfl

end Go.Proofs.YtianjdlnljhgoaaGreatDoor
