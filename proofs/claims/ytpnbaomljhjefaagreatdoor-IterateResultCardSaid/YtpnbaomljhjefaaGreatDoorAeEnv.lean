/-
  The tables of the evaluator for this seat.
-/
import Derived.Test.YtpnbaomljhjefaaGreatDoorRows
import Derived.Test.YtpnbaomljhjefaaGreatDoorAeSum
import Derived.Test.YtpnbaomljhjefaaGreatDoorAeCls
namespace Go.Proofs.YtpnbaomljhjefaaGreatDoor
open Go.AE

noncomputable def env : Env := envOf Tryz.prog [(23, [1, 1, 2]), (37, [1, 1, 2]), (39, [1, 1, 2, 1, 1, 1, 2, 1, 1, 2, 1, 1, 2]), (207, [1, 1, 1, 2, 1])] 0 []

theorem env_ok (Y : Sy) : EnvOk Y env := envOk_of (by kernel_rfl) (by kernel_rfl) (by kernel_rfl) (by kernel_rfl) (fun _ _ _ h => by cases h)

end Go.Proofs.YtpnbaomljhjefaaGreatDoor
