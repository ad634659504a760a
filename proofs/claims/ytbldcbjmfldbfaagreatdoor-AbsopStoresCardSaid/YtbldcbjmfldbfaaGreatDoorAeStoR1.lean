/-
  The law AbsopStores: the runs of some classes of keys.
-/
import Derived.Test.YtbldcbjmfldbfaaGreatDoorAeStoK
namespace Go.Proofs.YtbldcbjmfldbfaaGreatDoor
open Go.AE
set_option maxRecDepth 100000
theorem run_bo1_0 : evSm (envG []) (k0 ++ kN) (sN) 300 100 (.fn 3) [a_bo1, (g0.av 1)] (heapG gItoa 5) (fun v _ => sameV v (.bool true)) = true := by kernel_rfl
theorem run_bo1_6 : evSm (envG []) (k6 ++ kN) (sN) 300 100 (.fn 3) [a_bo1, g6A] (heapG gItoa 5) (fun v _ => sameV v (.bool true)) = true := by kernel_rfl
theorem run_nan_0 : evSm (envG []) (k0 ++ kN) (sN) 300 100 (.fn 3) [a_nan, (g0.av 1)] (heapG gItoa 5) (fun v _ => sameV v (.bool true)) = true := by kernel_rfl
theorem run_nan_6 : evSm (envG []) (k6 ++ kN) (sN) 300 100 (.fn 3) [a_nan, g6A] (heapG gItoa 5) (fun v _ => sameV v (.bool true)) = true := by kernel_rfl
theorem run_sym_0 : evSm (envG []) (k0 ++ kN) (sN) 300 100 (.fn 3) [a_sym, (g0.av 1)] (heapG gItoa 5) (fun v _ => sameV v (.bool true)) = true := by kernel_rfl
theorem run_sym_6 : evSm (envG []) (k6 ++ kN) (sN) 300 100 (.fn 3) [a_sym, g6A] (heapG gItoa 5) (fun v _ => sameV v (.bool true)) = true := by kernel_rfl

end Go.Proofs.YtbldcbjmfldbfaaGreatDoor
