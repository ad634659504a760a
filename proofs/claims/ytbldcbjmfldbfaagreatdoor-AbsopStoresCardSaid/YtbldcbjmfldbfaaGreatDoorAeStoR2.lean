/-
  The law AbsopStores: the runs of some classes of keys.
-/
import Derived.Test.YtbldcbjmfldbfaaGreatDoorAeStoK
namespace Go.Proofs.YtbldcbjmfldbfaaGreatDoor
open Go.AE
set_option maxRecDepth 100000
theorem run_len_0 : evSm (envG []) (k0 ++ kN) (sN) 300 100 (.fn 3) [a_len, (g0.av 1)] (heapG gItoa 5) (fun v _ => sameV v (.bool true)) = true := by kernel_rfl
theorem run_len_6 : evSm (envG []) (k6 ++ kN) (sN) 300 100 (.fn 3) [a_len, g6A] (heapG gItoa 5) (fun v _ => sameV v (.bool true)) = true := by kernel_rfl
theorem run_tno_0 : evSm (envG []) (k0 ++ kTno) (sN) 300 100 (.fn 3) [a_tno, (g0.av 1)] (heapG gItoa 5) (fun v _ => sameV v (.bool true)) = true := by kernel_rfl
theorem run_tno_6 : evSm (envG []) (k6 ++ kTno) (sN) 300 100 (.fn 3) [a_tno, g6A] (heapG gItoa 5) (fun v _ => sameV v (.bool true)) = true := by kernel_rfl

end Go.Proofs.YtbldcbjmfldbfaaGreatDoor
