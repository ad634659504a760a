/-
  GeneratorEnded: rounds of its loop, by the kernel (part 1).
-/
import Derived.Test.YthjlmclljakobaaGreatAeEndDef
namespace Go.Proofs.YthjlmclljakobaaGreat
open Go.AE
set_option maxRecDepth 100000

theorem round0 : ((List.range 4).all fun c => roundB 0 c) = true := by kernel_rfl
theorem round1 : ((List.range 4).all fun c => roundB 1 c) = true := by kernel_rfl
theorem round2 : ((List.range 4).all fun c => roundB 2 c) = true := by kernel_rfl
theorem round3 : ((List.range 4).all fun c => roundB 3 c) = true := by kernel_rfl
theorem round4 : ((List.range 4).all fun c => roundB 4 c) = true := by kernel_rfl

end Go.Proofs.YthjlmclljakobaaGreat
