/-
  IterateAll: the paths of variant 3 with 8 to 15 steps that go on.
-/
import Derived.Test.YtianjdlnljhgoaaGreatDoorAeItPath
namespace Go.Proofs.YtianjdlnljhgoaaGreatDoor
open Go.AE
set_option maxRecDepth 100000

theorem pA3_8 : pathX env 3 8 (lastA 8) = true := by kernel_rfl
theorem pB3_8 : pathX env 3 8 (lastB 8) = true := by kernel_rfl
theorem pC3_8 : pathX envC 3 8 (lastC 8) = true := by kernel_rfl
theorem pD3_8 : pathD 3 8 = true := by kernel_rfl
theorem pA3_9 : pathX env 3 9 (lastA 9) = true := by kernel_rfl
theorem pB3_9 : pathX env 3 9 (lastB 9) = true := by kernel_rfl
theorem pC3_9 : pathX envC 3 9 (lastC 9) = true := by kernel_rfl
theorem pD3_9 : pathD 3 9 = true := by kernel_rfl
theorem pA3_10 : pathX env 3 10 (lastA 10) = true := by kernel_rfl
theorem pB3_10 : pathX env 3 10 (lastB 10) = true := by kernel_rfl
theorem pC3_10 : pathX envC 3 10 (lastC 10) = true := by kernel_rfl
theorem pD3_10 : pathD 3 10 = true := by kernel_rfl
theorem pA3_11 : pathX env 3 11 (lastA 11) = true := by kernel_rfl
theorem pB3_11 : pathX env 3 11 (lastB 11) = true := by kernel_rfl
theorem pC3_11 : pathX envC 3 11 (lastC 11) = true := by kernel_rfl
theorem pD3_11 : pathD 3 11 = true := by kernel_rfl
theorem pA3_12 : pathX env 3 12 (lastA 12) = true := by kernel_rfl
theorem pB3_12 : pathX env 3 12 (lastB 12) = true := by kernel_rfl
theorem pC3_12 : pathX envC 3 12 (lastC 12) = true := by kernel_rfl
theorem pD3_12 : pathD 3 12 = true := by kernel_rfl
theorem pA3_13 : pathX env 3 13 (lastA 13) = true := by kernel_rfl
theorem pB3_13 : pathX env 3 13 (lastB 13) = true := by kernel_rfl
theorem pC3_13 : pathX envC 3 13 (lastC 13) = true := by kernel_rfl
theorem pD3_13 : pathD 3 13 = true := by kernel_rfl
theorem pA3_14 : pathX env 3 14 (lastA 14) = true := by kernel_rfl
theorem pB3_14 : pathX env 3 14 (lastB 14) = true := by kernel_rfl
theorem pC3_14 : pathX envC 3 14 (lastC 14) = true := by kernel_rfl
theorem pD3_14 : pathD 3 14 = true := by kernel_rfl
theorem pA3_15 : pathX env 3 15 (lastA 15) = true := by kernel_rfl
theorem pB3_15 : pathX env 3 15 (lastB 15) = true := by kernel_rfl
theorem pC3_15 : pathX envC 3 15 (lastC 15) = true := by kernel_rfl
theorem pD3_15 : pathD 3 15 = true := by kernel_rfl

end Go.Proofs.YtianjdlnljhgoaaGreatDoor
