/-
  GeneratorEnded up to its loop, by the kernel.
-/
import Derived.Test.YthjlmclljakobaaGreatAeEndDef
namespace Go.Proofs.YthjlmclljakobaaGreat
open Go.AE
set_option maxRecDepth 100000

theorem pre_run : preB = true := by kernel_rfl

end Go.Proofs.YthjlmclljakobaaGreat
