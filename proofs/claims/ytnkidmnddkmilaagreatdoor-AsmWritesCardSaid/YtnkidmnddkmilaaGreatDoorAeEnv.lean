/-
  The tables of the evaluator for this seat.
-/
import Derived.Test.YtnkidmnddkmilaaGreatDoorRows
import Derived.Test.YtnkidmnddkmilaaGreatDoorAeKit4
namespace Go.Proofs.YtnkidmnddkmilaaGreatDoor
open Go.AE
set_option maxRecDepth 100000

noncomputable def eqsT : List (TypeId × List Nat) := [(39, [1, 1, 2]), (40, [1, 1, 2]), (42, [1, 1, 1, 1]), (61, [1, 1, 1, 1])]
/-- runs in which no package variable is read -/
noncomputable def env : Env := envOf Tryz.prog eqsT 0 []
/-- runs in which they are -/
noncomputable def envG : Env := envOf Tryz.prog eqsT 7 []

theorem env_noNum : noNum Tryz.prog.funcs.toList = true := by kernel_rfl
theorem env_eqs : eqsOk Tryz.prog eqsT = true := by kernel_rfl
theorem env_mixed : Tryz.prog.follows .mixedOrders = true := by kernel_rfl
theorem env_types : Nat.blt 0 Tryz.prog.types.size = true := by kernel_rfl

theorem env_ok (Y : Sy) : EnvOk Y env := envOk_of env_noNum env_eqs env_mixed env_types (fun _ _ _ h => by cases h)
theorem envG_ok (Y : Sy) : EnvOk Y envG := envOk_of env_noNum env_eqs env_mixed env_types (fun _ _ _ h => by cases h)

end Go.Proofs.YtnkidmnddkmilaaGreatDoor
