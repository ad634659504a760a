/-
  The tables of the evaluator for this seat.
-/
import Derived.Test.YtaihegddgohaoaaGreatRows
import Derived.Test.YtaihegddgohaoaaGreatAeSum
import Derived.Test.YtaihegddgohaoaaGreatAeCls
namespace Go.Proofs.YtaihegddgohaoaaGreat
open Go.AE

noncomputable def env : Env := envOf Tryz.prog [(23, [1, 1, 2]), (35, [1, 1, 1, 1, 2]), (42, [1, 1, 2]), (214, [1, 1, 1, 2, 1])] 0 []

theorem env_ok (Y : Sy) : EnvOk Y env := envOk_of (by kernel_rfl) (by kernel_rfl) (by kernel_rfl) (by kernel_rfl) (fun _ _ _ h => by cases h)

end Go.Proofs.YtaihegddgohaoaaGreat
