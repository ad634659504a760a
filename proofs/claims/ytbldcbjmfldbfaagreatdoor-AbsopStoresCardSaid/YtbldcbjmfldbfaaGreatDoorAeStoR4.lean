/-
  The law AbsopStores: the runs of some classes of keys.
-/
import Derived.Test.YtbldcbjmfldbfaaGreatDoorAeStoK
namespace Go.Proofs.YtbldcbjmfldbfaaGreatDoor
open Go.AE
set_option maxRecDepth 100000
theorem run_nix_0 : evSm (envG []) (k0 ++ kNix) (sA ++ sB) 300 100 (.fn 3) [a_nix, (g0.av 1)] (heapG gItoa 5) (fun v _ => sameV v (.bool true)) = true := by kernel_rfl
theorem run_nix_6 : evSm (envG []) (k6 ++ kNix) (sA ++ sB) 300 100 (.fn 3) [a_nix, g6A] (heapG gItoa 5) (fun v _ => sameV v (.bool true)) = true := by kernel_rfl

end Go.Proofs.YtbldcbjmfldbfaaGreatDoor
