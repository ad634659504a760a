/-
  The law's own closed example, by the kernel.
-/
import Derived.Test.YtbldcbjmfldbfaaGreatDoorAeEnv
import Derived.Test.YtbldcbjmfldbfaaGreatDoorAeSum
namespace Go.Proofs.YtbldcbjmfldbfaaGreatDoor
open Go.AE
set_option maxRecDepth 100000

theorem awake_run : evKn env [] 300 100 (.fn 4) [] ⟨.nil, 0, [], []⟩ (fun v _ => sameV v (.bool true)) = true := by kernel_rfl

theorem awake_gives (Y : Sy) : Gives Y env 4 [] (.bool true) := gives_of_run (env_ok Y) KnownOk.nil rfl awake_run

end Go.Proofs.YtbldcbjmfldbfaaGreatDoor
