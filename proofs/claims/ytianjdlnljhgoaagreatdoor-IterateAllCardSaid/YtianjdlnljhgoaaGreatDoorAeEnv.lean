/-
  The tables of the evaluator for this seat.
-/
import Derived.Test.YtianjdlnljhgoaaGreatDoorRows
import Derived.Test.YtianjdlnljhgoaaGreatDoorAeKit4
namespace Go.Proofs.YtianjdlnljhgoaaGreatDoor
open Go.AE

noncomputable def env : Env := envOf Tryz.prog [(23, [1, 1, 2]), (42, [1, 1, 1, 1, 2]), (68, [1, 1, 2]), (93, [1, 1, 1, 2, 2]), (205, [1, 1, 1, 2, 1])] 0 []

theorem env_ok (Y : Sy) : EnvOk Y env := envOk_of (by kernel_rfl) (by kernel_rfl) (by kernel_rfl) (by kernel_rfl) (fun _ _ _ h => by cases h)

end Go.Proofs.YtianjdlnljhgoaaGreatDoor
