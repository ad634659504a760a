/-
  GeneratorBoxes: ten rounds of its second loop, by the kernel (part 3).
-/
import Derived.Test.YtnkjembkhjellaaGreatDoorAeBoxDef
namespace Go.Proofs.YtnkjembkhjellaaGreatDoor
open Go.AE
set_option maxRecDepth 100000

theorem round20 : roundB 20 = true := by kernel_rfl
theorem round21 : roundB 21 = true := by kernel_rfl
theorem round22 : roundB 22 = true := by kernel_rfl
theorem round23 : roundB 23 = true := by kernel_rfl
theorem round24 : roundB 24 = true := by kernel_rfl
theorem round25 : roundB 25 = true := by kernel_rfl
theorem round26 : roundB 26 = true := by kernel_rfl
theorem round27 : roundB 27 = true := by kernel_rfl
theorem round28 : roundB 28 = true := by kernel_rfl
theorem round29 : roundB 29 = true := by kernel_rfl
theorem exits2 : ((List.range 10).all fun i => exitB (i + 20)) = true := by kernel_rfl
theorem lasts2 : ((List.range 10).all fun i => lastB (i + 20)) = true := by kernel_rfl

end Go.Proofs.YtnkjembkhjellaaGreatDoor
