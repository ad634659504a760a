/-
  GeneratorBoxes: ten rounds of its second loop, by the kernel (part 5).
-/
import Derived.Test.YtnkjembkhjellaaGreatDoorAeBoxDef
namespace Go.Proofs.YtnkjembkhjellaaGreatDoor
open Go.AE
set_option maxRecDepth 100000

theorem round40 : roundB 40 = true := by kernel_rfl
theorem round41 : roundB 41 = true := by kernel_rfl
theorem round42 : roundB 42 = true := by kernel_rfl
theorem round43 : roundB 43 = true := by kernel_rfl
theorem round44 : roundB 44 = true := by kernel_rfl
theorem round45 : roundB 45 = true := by kernel_rfl
theorem round46 : roundB 46 = true := by kernel_rfl
theorem round47 : roundB 47 = true := by kernel_rfl
theorem round48 : roundB 48 = true := by kernel_rfl
theorem round49 : roundB 49 = true := by kernel_rfl
theorem exits4 : ((List.range 11).all fun i => exitB (i + 40)) = true := by kernel_rfl
theorem lasts4 : ((List.range 11).all fun i => lastB (i + 40)) = true := by kernel_rfl

end Go.Proofs.YtnkjembkhjellaaGreatDoor
