/-
  GeneratorEnded: rounds of its loop, by the kernel (part 3).
-/
import Derived.Test.YthjlmclljakobaaGreatAeEndDef
namespace Go.Proofs.YthjlmclljakobaaGreat
open Go.AE
set_option maxRecDepth 100000

theorem round10 : ((List.range 4).all fun c => roundB 10 c) = true := by kernel_rfl
theorem round11 : ((List.range 4).all fun c => roundB 11 c) = true := by kernel_rfl
theorem round12 : ((List.range 4).all fun c => roundB 12 c) = true := by kernel_rfl
theorem round13 : ((List.range 4).all fun c => roundB 13 c) = true := by kernel_rfl
theorem round14 : ((List.range 4).all fun c => roundB 14 c) = true := by kernel_rfl

end Go.Proofs.YthjlmclljakobaaGreat
