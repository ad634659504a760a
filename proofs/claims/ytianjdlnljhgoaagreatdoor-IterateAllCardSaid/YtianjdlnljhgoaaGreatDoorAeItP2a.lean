/-
  IterateAll: the paths of variant 2 with 0 to 7 steps that go on.
-/
import Derived.Test.YtianjdlnljhgoaaGreatDoorAeItPath
namespace Go.Proofs.YtianjdlnljhgoaaGreatDoor
open Go.AE
set_option maxRecDepth 100000

theorem pA2_0 : pathX env 2 0 (lastA 0) = true := by kernel_rfl
theorem pB2_0 : pathX env 2 0 (lastB 0) = true := by kernel_rfl
theorem pC2_0 : pathX envC 2 0 (lastC 0) = true := by kernel_rfl
theorem pD2_0 : pathD 2 0 = true := by kernel_rfl
theorem pA2_1 : pathX env 2 1 (lastA 1) = true := by kernel_rfl
theorem pB2_1 : pathX env 2 1 (lastB 1) = true := by kernel_rfl
theorem pC2_1 : pathX envC 2 1 (lastC 1) = true := by kernel_rfl
theorem pD2_1 : pathD 2 1 = true := by kernel_rfl
theorem pA2_2 : pathX env 2 2 (lastA 2) = true := by kernel_rfl
theorem pB2_2 : pathX env 2 2 (lastB 2) = true := by kernel_rfl
theorem pC2_2 : pathX envC 2 2 (lastC 2) = true := by kernel_rfl
theorem pD2_2 : pathD 2 2 = true := by kernel_rfl
theorem pA2_3 : pathX env 2 3 (lastA 3) = true := by kernel_rfl
theorem pB2_3 : pathX env 2 3 (lastB 3) = true := by kernel_rfl
theorem pC2_3 : pathX envC 2 3 (lastC 3) = true := by kernel_rfl
theorem pD2_3 : pathD 2 3 = true := by kernel_rfl
theorem pA2_4 : pathX env 2 4 (lastA 4) = true := by kernel_rfl
theorem pB2_4 : pathX env 2 4 (lastB 4) = true := by kernel_rfl
theorem pC2_4 : pathX envC 2 4 (lastC 4) = true := by kernel_rfl
theorem pD2_4 : pathD 2 4 = true := by kernel_rfl
theorem pA2_5 : pathX env 2 5 (lastA 5) = true := by kernel_rfl
theorem pB2_5 : pathX env 2 5 (lastB 5) = true := by kernel_rfl
theorem pC2_5 : pathX envC 2 5 (lastC 5) = true := by kernel_rfl
theorem pD2_5 : pathD 2 5 = true := by kernel_rfl
theorem pA2_6 : pathX env 2 6 (lastA 6) = true := by kernel_rfl
theorem pB2_6 : pathX env 2 6 (lastB 6) = true := by kernel_rfl
theorem pC2_6 : pathX envC 2 6 (lastC 6) = true := by kernel_rfl
theorem pD2_6 : pathD 2 6 = true := by kernel_rfl
theorem pA2_7 : pathX env 2 7 (lastA 7) = true := by kernel_rfl
theorem pB2_7 : pathX env 2 7 (lastB 7) = true := by kernel_rfl
theorem pC2_7 : pathX envC 2 7 (lastC 7) = true := by kernel_rfl
theorem pD2_7 : pathD 2 7 = true := by kernel_rfl

end Go.Proofs.YtianjdlnljhgoaaGreatDoor
