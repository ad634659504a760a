/-
  The tables of the evaluator for this seat.
-/
import Derived.Test.YtmdjebjfnjamdaaGreatRows
import Derived.Test.YtmdjebjfnjamdaaGreatAeUse
namespace Go.Proofs.YtmdjebjfnjamdaaGreat
open Go.AE

noncomputable def env : Env := envOf Tryz.prog [(32, [1, 1]), (55, [1, 1, 2]), (180, [1, 1, 1, 2, 1])] 0

theorem env_ok : EnvOk env := envOk_of (by kernel_rfl) (by kernel_rfl) (by kernel_rfl) (by kernel_rfl)

end Go.Proofs.YtmdjebjfnjamdaaGreat
