/-
  IterateAll: the paths of variant 2 with 8 to 15 steps that go on.
-/
import Derived.Test.YtianjdlnljhgoaaGreatDoorAeItPath
namespace Go.Proofs.YtianjdlnljhgoaaGreatDoor
open Go.AE
set_option maxRecDepth 100000

theorem pA2_8 : pathX env 2 8 (lastA 8) = true := by kernel_rfl
theorem pB2_8 : pathX env 2 8 (lastB 8) = true := by kernel_rfl
theorem pC2_8 : pathX envC 2 8 (lastC 8) = true := by kernel_rfl
theorem pD2_8 : pathD 2 8 = true := by kernel_rfl
theorem pA2_9 : pathX env 2 9 (lastA 9) = true := by kernel_rfl
theorem pB2_9 : pathX env 2 9 (lastB 9) = true := by kernel_rfl
theorem pC2_9 : pathX envC 2 9 (lastC 9) = true := by kernel_rfl
theorem pD2_9 : pathD 2 9 = true := by kernel_rfl
theorem pA2_10 : pathX env 2 10 (lastA 10) = true := by kernel_rfl
theorem pB2_10 : pathX env 2 10 (lastB 10) = true := by kernel_rfl
theorem pC2_10 : pathX envC 2 10 (lastC 10) = true := by kernel_rfl
theorem pD2_10 : pathD 2 10 = true := by kernel_rfl
theorem pA2_11 : pathX env 2 11 (lastA 11) = true := by kernel_rfl
theorem pB2_11 : pathX env 2 11 (lastB 11) = true := by kernel_rfl
theorem pC2_11 : pathX envC 2 11 (lastC 11) = true := by kernel_rfl
theorem pD2_11 : pathD 2 11 = true := by kernel_rfl
theorem pA2_12 : pathX env 2 12 (lastA 12) = true := by kernel_rfl
theorem pB2_12 : pathX env 2 12 (lastB 12) = true := by kernel_rfl
theorem pC2_12 : pathX envC 2 12 (lastC 12) = true := by kernel_rfl
theorem pD2_12 : pathD 2 12 = true := by kernel_rfl
theorem pA2_13 : pathX env 2 13 (lastA 13) = true := by kernel_rfl
theorem pB2_13 : pathX env 2 13 (lastB 13) = true := by kernel_rfl
theorem pC2_13 : pathX envC 2 13 (lastC 13) = true := by kernel_rfl
theorem pD2_13 : pathD 2 13 = true := by kernel_rfl
theorem pA2_14 : pathX env 2 14 (lastA 14) = true := by kernel_rfl
theorem pB2_14 : pathX env 2 14 (lastB 14) = true := by kernel_rfl
theorem pC2_14 : pathX envC 2 14 (lastC 14) = true := by kernel_rfl
theorem pD2_14 : pathD 2 14 = true := by kernel_rfl
theorem pA2_15 : pathX env 2 15 (lastA 15) = true := by kernel_rfl
theorem pB2_15 : pathX env 2 15 (lastB 15) = true := by kernel_rfl
theorem pC2_15 : pathX envC 2 15 (lastC 15) = true := by kernel_rfl
theorem pD2_15 : pathD 2 15 = true := by kernel_rfl

end Go.Proofs.YtianjdlnljhgoaaGreatDoor
