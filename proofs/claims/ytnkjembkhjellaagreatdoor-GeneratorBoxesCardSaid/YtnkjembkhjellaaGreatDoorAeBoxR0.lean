/-
  GeneratorBoxes: ten rounds of its second loop, by the kernel (part 1).
-/
import Derived.Test.YtnkjembkhjellaaGreatDoorAeBoxDef
namespace Go.Proofs.YtnkjembkhjellaaGreatDoor
open Go.AE
set_option maxRecDepth 100000

theorem pre_run : preRun = true := by kernel_rfl
theorem round0 : roundB 0 = true := by kernel_rfl
theorem round1 : roundB 1 = true := by kernel_rfl
theorem round2 : roundB 2 = true := by kernel_rfl
theorem round3 : roundB 3 = true := by kernel_rfl
theorem round4 : roundB 4 = true := by kernel_rfl
theorem round5 : roundB 5 = true := by kernel_rfl
theorem round6 : roundB 6 = true := by kernel_rfl
theorem round7 : roundB 7 = true := by kernel_rfl
theorem round8 : roundB 8 = true := by kernel_rfl
theorem round9 : roundB 9 = true := by kernel_rfl
theorem exits0 : ((List.range 10).all fun i => exitB (i + 0)) = true := by kernel_rfl
theorem lasts0 : ((List.range 10).all fun i => lastB (i + 0)) = true := by kernel_rfl

end Go.Proofs.YtnkjembkhjellaaGreatDoor
