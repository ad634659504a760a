/-
  GeneratorEnded: rounds of its loop, by the kernel (part 2).
-/
import Derived.Test.YthjlmclljakobaaGreatAeEndDef
namespace Go.Proofs.YthjlmclljakobaaGreat
open Go.AE
set_option maxRecDepth 100000

theorem round5 : ((List.range 4).all fun c => roundB 5 c) = true := by kernel_rfl
theorem round6 : ((List.range 4).all fun c => roundB 6 c) = true := by kernel_rfl
theorem round7 : ((List.range 4).all fun c => roundB 7 c) = true := by kernel_rfl
theorem round8 : ((List.range 4).all fun c => roundB 8 c) = true := by kernel_rfl
theorem round9 : ((List.range 4).all fun c => roundB 9 c) = true := by kernel_rfl

end Go.Proofs.YthjlmclljakobaaGreat
