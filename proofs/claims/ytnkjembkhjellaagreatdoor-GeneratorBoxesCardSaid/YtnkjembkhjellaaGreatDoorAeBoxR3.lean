/-
  GeneratorBoxes: ten rounds of its second loop, by the kernel (part 4).
-/
import Derived.Test.YtnkjembkhjellaaGreatDoorAeBoxDef
namespace Go.Proofs.YtnkjembkhjellaaGreatDoor
open Go.AE
set_option maxRecDepth 100000

theorem round30 : roundB 30 = true := by kernel_rfl
theorem round31 : roundB 31 = true := by kernel_rfl
theorem round32 : roundB 32 = true := by kernel_rfl
theorem round33 : roundB 33 = true := by kernel_rfl
theorem round34 : roundB 34 = true := by kernel_rfl
theorem round35 : roundB 35 = true := by kernel_rfl
theorem round36 : roundB 36 = true := by kernel_rfl
theorem round37 : roundB 37 = true := by kernel_rfl
theorem round38 : roundB 38 = true := by kernel_rfl
theorem round39 : roundB 39 = true := by kernel_rfl
theorem exits3 : ((List.range 10).all fun i => exitB (i + 30)) = true := by kernel_rfl
theorem lasts3 : ((List.range 10).all fun i => lastB (i + 30)) = true := by kernel_rfl

end Go.Proofs.YtnkjembkhjellaaGreatDoor
