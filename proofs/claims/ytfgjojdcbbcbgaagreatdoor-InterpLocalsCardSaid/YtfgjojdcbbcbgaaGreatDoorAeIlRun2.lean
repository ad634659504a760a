/-
  The law InterpLocals: runs whose third number is a local's.
-/
import Derived.Test.YtfgjojdcbbcbgaaGreatDoorAeIlRun
namespace Go.Proofs.YtfgjojdcbbcbgaaGreatDoor
open Go.AE
set_option maxRecDepth 100000

theorem run_n0 : Il (ilArgs0 0) := by unfold Il; kernel_rfl
theorem run_n1 : Il (ilArgs0 1) := by unfold Il; kernel_rfl

end Go.Proofs.YtfgjojdcbbcbgaaGreatDoor
