/-
  The law AbsopStores: the runs of some classes of keys.
-/
import Derived.Test.YtbldcbjmfldbfaaGreatDoorAeStoK
namespace Go.Proofs.YtbldcbjmfldbfaaGreatDoor
open Go.AE
set_option maxRecDepth 100000
theorem run_und_0 : evSm (envG []) (k0 ++ kN) (sN) 300 100 (.fn 3) [a_und, (g0.av 1)] (heapG gItoa 5) (fun v _ => sameV v (.bool true)) = true := by kernel_rfl
theorem run_und_6 : evSm (envG []) (k6 ++ kN) (sN) 300 100 (.fn 3) [a_und, g6A] (heapG gItoa 5) (fun v _ => sameV v (.bool true)) = true := by kernel_rfl
theorem run_nul_0 : evSm (envG []) (k0 ++ kN) (sN) 300 100 (.fn 3) [a_nul, (g0.av 1)] (heapG gItoa 5) (fun v _ => sameV v (.bool true)) = true := by kernel_rfl
theorem run_nul_6 : evSm (envG []) (k6 ++ kN) (sN) 300 100 (.fn 3) [a_nul, g6A] (heapG gItoa 5) (fun v _ => sameV v (.bool true)) = true := by kernel_rfl
theorem run_bo0_0 : evSm (envG []) (k0 ++ kN) (sN) 300 100 (.fn 3) [a_bo0, (g0.av 1)] (heapG gItoa 5) (fun v _ => sameV v (.bool true)) = true := by kernel_rfl
theorem run_bo0_6 : evSm (envG []) (k6 ++ kN) (sN) 300 100 (.fn 3) [a_bo0, g6A] (heapG gItoa 5) (fun v _ => sameV v (.bool true)) = true := by kernel_rfl

end Go.Proofs.YtbldcbjmfldbfaaGreatDoor
