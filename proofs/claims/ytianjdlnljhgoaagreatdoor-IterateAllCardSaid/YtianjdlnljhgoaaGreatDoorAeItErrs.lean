/-
  IterateAll: all plans that end at once.
-/
import Derived.Test.YtianjdlnljhgoaaGreatDoorAeItE0
import Derived.Test.YtianjdlnljhgoaaGreatDoorAeItE1
import Derived.Test.YtianjdlnljhgoaaGreatDoorAeItE2
import Derived.Test.YtianjdlnljhgoaaGreatDoorAeItE3
namespace Go.Proofs.YtianjdlnljhgoaaGreatDoor
open Go.AE
set_option maxRecDepth 100000

theorem allE1 (m n r : Nat) (hm : m = 1 ∨ m = 2) (hn : n = 0 ∨ n = 1 ∨ n = 2) (hr : r = 0 ∨ r = 1 ∨ r = 2 ∨ r = 3) : err1 m n r = true := by
  rcases hm with rfl | rfl
  · rcases hn with rfl | rfl | rfl
    · rcases hr with rfl | rfl | rfl | rfl
      · exact e1_1_0_0
      · exact e1_1_0_1
      · exact e1_1_0_2
      · exact e1_1_0_3
    · rcases hr with rfl | rfl | rfl | rfl
      · exact e1_1_1_0
      · exact e1_1_1_1
      · exact e1_1_1_2
      · exact e1_1_1_3
    · rcases hr with rfl | rfl | rfl | rfl
      · exact e1_1_2_0
      · exact e1_1_2_1
      · exact e1_1_2_2
      · exact e1_1_2_3
  · rcases hn with rfl | rfl | rfl
    · rcases hr with rfl | rfl | rfl | rfl
      · exact e1_2_0_0
      · exact e1_2_0_1
      · exact e1_2_0_2
      · exact e1_2_0_3
    · rcases hr with rfl | rfl | rfl | rfl
      · exact e1_2_1_0
      · exact e1_2_1_1
      · exact e1_2_1_2
      · exact e1_2_1_3
    · rcases hr with rfl | rfl | rfl | rfl
      · exact e1_2_2_0
      · exact e1_2_2_1
      · exact e1_2_2_2
      · exact e1_2_2_3
theorem allE2 (n r : Nat) (hn : n = 0 ∨ n = 1 ∨ n = 2) (hr : r = 0 ∨ r = 1 ∨ r = 2 ∨ r = 3) : err2 n r = true := by
  rcases hn with rfl | rfl | rfl
  · rcases hr with rfl | rfl | rfl | rfl
    · exact e2_0_0
    · exact e2_0_1
    · exact e2_0_2
    · exact e2_0_3
  · rcases hr with rfl | rfl | rfl | rfl
    · exact e2_1_0
    · exact e2_1_1
    · exact e2_1_2
    · exact e2_1_3
  · rcases hr with rfl | rfl | rfl | rfl
    · exact e2_2_0
    · exact e2_2_1
    · exact e2_2_2
    · exact e2_2_3
theorem allE2c (n r : Nat) (hn : n = 0 ∨ n = 1 ∨ n = 2) (hr : r = 0 ∨ r = 1 ∨ r = 2 ∨ r = 3) : err2c n r = true := by
  rcases hn with rfl | rfl | rfl
  · rcases hr with rfl | rfl | rfl | rfl
    · exact e2c_0_0
    · exact e2c_0_1
    · exact e2c_0_2
    · exact e2c_0_3
  · rcases hr with rfl | rfl | rfl | rfl
    · exact e2c_1_0
    · exact e2c_1_1
    · exact e2c_1_2
    · exact e2c_1_3
  · rcases hr with rfl | rfl | rfl | rfl
    · exact e2c_2_0
    · exact e2c_2_1
    · exact e2c_2_2
    · exact e2c_2_3
theorem allE3 (n r : Nat) (hn : n = 1 ∨ n = 2) (hr : r = 0 ∨ r = 1 ∨ r = 2 ∨ r = 3) : err3 n r = true := by
  rcases hn with rfl | rfl
  · rcases hr with rfl | rfl | rfl | rfl
    · exact e3_1_0
    · exact e3_1_1
    · exact e3_1_2
    · exact e3_1_3
  · rcases hr with rfl | rfl | rfl | rfl
    · exact e3_2_0
    · exact e3_2_1
    · exact e3_2_2
    · exact e3_2_3

end Go.Proofs.YtianjdlnljhgoaaGreatDoor
