/-
  The law InterpLocals: runs whose third number is none of the locals'.
-/
import Derived.Test.YtfgjojdcbbcbgaaGreatDoorAeIlRun
namespace Go.Proofs.YtfgjojdcbbcbgaaGreatDoor
open Go.AE
set_option maxRecDepth 100000

theorem run_n_lo : Il (ilArgs (-9007199254740992) 9007199254740992 (-9007199254740992) 9007199254740992 lo64 (-1)) := by unfold Il; kernel_rfl
theorem run_n_hi : Il (ilArgs (-9007199254740992) 9007199254740992 (-9007199254740992) 9007199254740992 2 hi64) := by unfold Il; kernel_rfl

end Go.Proofs.YtfgjojdcbbcbgaaGreatDoor
