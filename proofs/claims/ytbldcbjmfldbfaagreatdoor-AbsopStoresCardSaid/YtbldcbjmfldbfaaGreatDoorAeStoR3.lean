/-
  The law AbsopStores: the runs of some classes of keys.
-/
import Derived.Test.YtbldcbjmfldbfaaGreatDoorAeStoK
namespace Go.Proofs.YtbldcbjmfldbfaaGreatDoor
open Go.AE
set_option maxRecDepth 100000
theorem run_tix_0 : evSm (envG []) (k0 ++ kTix) (sB) 300 100 (.fn 3) [a_tix, (g0.av 1)] (heapG gItoa 5) (fun v _ => sameV v (.bool true)) = true := by kernel_rfl
theorem run_tix_6 : evSm (envG []) (k6 ++ kTix) (sB) 300 100 (.fn 3) [a_tix, g6A] (heapG gItoa 5) (fun v _ => sameV v (.bool true)) = true := by kernel_rfl
theorem run_nno_0 : evSm (envG []) (k0 ++ kNno) (sA) 300 100 (.fn 3) [a_nno, (g0.av 1)] (heapG gItoa 5) (fun v _ => sameV v (.bool true)) = true := by kernel_rfl
theorem run_nno_6 : evSm (envG []) (k6 ++ kNno) (sA) 300 100 (.fn 3) [a_nno, g6A] (heapG gItoa 5) (fun v _ => sameV v (.bool true)) = true := by kernel_rfl

end Go.Proofs.YtbldcbjmfldbfaaGreatDoor
