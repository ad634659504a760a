/-
  IterateAll: the paths of variant 3 with 0 to 7 steps that go on.
-/
import Derived.Test.YtianjdlnljhgoaaGreatDoorAeItPath
namespace Go.Proofs.YtianjdlnljhgoaaGreatDoor
open Go.AE
set_option maxRecDepth 100000

theorem pA3_0 : pathX env 3 0 (lastA 0) = true := by kernel_rfl
theorem pB3_0 : pathX env 3 0 (lastB 0) = true := by kernel_rfl
theorem pC3_0 : pathX envC 3 0 (lastC 0) = true := by kernel_rfl
theorem pD3_0 : pathD 3 0 = true := by kernel_rfl
theorem pA3_1 : pathX env 3 1 (lastA 1) = true := by kernel_rfl
theorem pB3_1 : pathX env 3 1 (lastB 1) = true := by kernel_rfl
theorem pC3_1 : pathX envC 3 1 (lastC 1) = true := by kernel_rfl
theorem pD3_1 : pathD 3 1 = true := by kernel_rfl
theorem pA3_2 : pathX env 3 2 (lastA 2) = true := by kernel_rfl
theorem pB3_2 : pathX env 3 2 (lastB 2) = true := by kernel_rfl
theorem pC3_2 : pathX envC 3 2 (lastC 2) = true := by kernel_rfl
theorem pD3_2 : pathD 3 2 = true := by kernel_rfl
theorem pA3_3 : pathX env 3 3 (lastA 3) = true := by kernel_rfl
theorem pB3_3 : pathX env 3 3 (lastB 3) = true := by kernel_rfl
theorem pC3_3 : pathX envC 3 3 (lastC 3) = true := by kernel_rfl
theorem pD3_3 : pathD 3 3 = true := by kernel_rfl
theorem pA3_4 : pathX env 3 4 (lastA 4) = true := by kernel_rfl
theorem pB3_4 : pathX env 3 4 (lastB 4) = true := by kernel_rfl
theorem pC3_4 : pathX envC 3 4 (lastC 4) = true := by kernel_rfl
theorem pD3_4 : pathD 3 4 = true := by kernel_rfl
theorem pA3_5 : pathX env 3 5 (lastA 5) = true := by kernel_rfl
theorem pB3_5 : pathX env 3 5 (lastB 5) = true := by kernel_rfl
theorem pC3_5 : pathX envC 3 5 (lastC 5) = true := by kernel_rfl
theorem pD3_5 : pathD 3 5 = true := by kernel_rfl
theorem pA3_6 : pathX env 3 6 (lastA 6) = true := by kernel_rfl
theorem pB3_6 : pathX env 3 6 (lastB 6) = true := by kernel_rfl
theorem pC3_6 : pathX envC 3 6 (lastC 6) = true := by kernel_rfl
theorem pD3_6 : pathD 3 6 = true := by kernel_rfl
theorem pA3_7 : pathX env 3 7 (lastA 7) = true := by kernel_rfl
theorem pB3_7 : pathX env 3 7 (lastB 7) = true := by kernel_rfl
theorem pC3_7 : pathX envC 3 7 (lastC 7) = true := by kernel_rfl
theorem pD3_7 : pathD 3 7 = true := by kernel_rfl

end Go.Proofs.YtianjdlnljhgoaaGreatDoor
