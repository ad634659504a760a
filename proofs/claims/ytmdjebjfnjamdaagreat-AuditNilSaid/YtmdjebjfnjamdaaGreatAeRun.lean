/-
  The run of the law, by the kernel.
-/
import Derived.Test.YtmdjebjfnjamdaaGreatAeEnv
namespace Go.Proofs.YtmdjebjfnjamdaaGreat
open Go.AE

theorem run : evGo env 100 40 (.fn 3) [.sint .i64 0] ⟨.nil, 0, [], []⟩ (fun v _ => isTrueA v) = true := by kernel_rfl

end Go.Proofs.YtmdjebjfnjamdaaGreat
