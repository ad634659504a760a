/-
  The tables of the evaluator for this seat.
-/
import Derived.Test.YtfiainenbpldgaaGreatDoorRows
import Derived.Test.YtfiainenbpldgaaGreatDoorAeKit4
namespace Go.Proofs.YtfiainenbpldgaaGreatDoor
open Go.AE

noncomputable def env : Env := envOf Tryz.prog [(23, [1, 1, 2]), (29, [1, 1, 1, 1, 2]), (56, [1, 1, 2]), (58, [1, 1, 1, 2, 2]), (215, [1, 1, 1, 2, 1])] 0 []

theorem env_ok (Y : Sy) : EnvOk Y env := envOk_of (by kernel_rfl) (by kernel_rfl) (by kernel_rfl) (by kernel_rfl) (fun _ _ _ h => by cases h)

end Go.Proofs.YtfiainenbpldgaaGreatDoor
