/-
  GeneratorBoxes: ten rounds of its second loop, by the kernel (part 2).
-/
import Derived.Test.YtnkjembkhjellaaGreatDoorAeBoxDef
namespace Go.Proofs.YtnkjembkhjellaaGreatDoor
open Go.AE
set_option maxRecDepth 100000

theorem round10 : roundB 10 = true := by kernel_rfl
theorem round11 : roundB 11 = true := by kernel_rfl
theorem round12 : roundB 12 = true := by kernel_rfl
theorem round13 : roundB 13 = true := by kernel_rfl
theorem round14 : roundB 14 = true := by kernel_rfl
theorem round15 : roundB 15 = true := by kernel_rfl
theorem round16 : roundB 16 = true := by kernel_rfl
theorem round17 : roundB 17 = true := by kernel_rfl
theorem round18 : roundB 18 = true := by kernel_rfl
theorem round19 : roundB 19 = true := by kernel_rfl
theorem exits1 : ((List.range 10).all fun i => exitB (i + 10)) = true := by kernel_rfl
theorem lasts1 : ((List.range 10).all fun i => lastB (i + 10)) = true := by kernel_rfl

end Go.Proofs.YtnkjembkhjellaaGreatDoor
