/-
  GeneratorEnded: rounds of its loop, by the kernel (part 4).
-/
import Derived.Test.YthjlmclljakobaaGreatAeEndDef
namespace Go.Proofs.YthjlmclljakobaaGreat
open Go.AE
set_option maxRecDepth 100000

theorem round15 : ((List.range 4).all fun c => roundB 15 c) = true := by kernel_rfl
theorem round16 : ((List.range 4).all fun c => roundB 16 c) = true := by kernel_rfl
theorem round17 : ((List.range 4).all fun c => roundB 17 c) = true := by kernel_rfl
theorem round18 : ((List.range 4).all fun c => roundB 18 c) = true := by kernel_rfl
theorem round19 : ((List.range 4).all fun c => roundB 19 c) = true := by kernel_rfl

end Go.Proofs.YthjlmclljakobaaGreat
