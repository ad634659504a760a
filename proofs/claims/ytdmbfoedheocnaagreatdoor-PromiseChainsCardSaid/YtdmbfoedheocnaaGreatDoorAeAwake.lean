/-
  The example of the specification, by the kernel.
-/
import Derived.Test.YtdmbfoedheocnaaGreatDoorAeEnv
namespace Go.Proofs.YtdmbfoedheocnaaGreatDoor
open Go.AE
set_option maxRecDepth 100000

noncomputable def awakeSums : List Sum := []
theorem awakeSums_ok (Y : Sy) : SumsOk Y env awakeSums := SumsOk.nil

theorem awake_run : evSm env [] awakeSums 300 100 (.fn 4) [] ⟨.nil, 0, [], []⟩ (fun v _ => sameV v (.bool true)) = true := by kernel_rfl

theorem awake_gives (Y : Sy) : Gives Y env 4 [] (.bool true) := gives_of_sums (env_ok Y) KnownOk.nil (awakeSums_ok Y) rfl awake_run

end Go.Proofs.YtdmbfoedheocnaaGreatDoor
