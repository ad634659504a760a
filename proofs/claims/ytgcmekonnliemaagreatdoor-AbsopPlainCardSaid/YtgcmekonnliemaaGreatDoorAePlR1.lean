/-
  The law AbsopPlain: some of its runs, by the kernel.
-/
import Derived.Test.YtgcmekonnliemaaGreatDoorAePlK
namespace Go.Proofs.YtgcmekonnliemaaGreatDoor
open Go.AE
set_option maxRecDepth 100000
theorem rn27 : evSm (envG [] []) (k4) [qNew] 300 100 (.fn 3) [.str [94], aS 0, aS 1] (heapG gItoa 5) (fun v _ => sameV v (.bool true)) = true := by kernel_rfl
theorem rn28 : evSm (envG [] []) (k4 ++ knV (aG 0) 0 ++ knV (aG 1) 1 ++ [⟨36, [.str [60, 60], xA 0, xA 1], rA 8⟩]) [qNew] 300 100 (.fn 3) [.str [60, 60], aG 0, aG 1] (heapG gItoa 5) (fun v _ => sameV v (.bool true)) = true := by kernel_rfl
theorem rn29 : evSm (envG [] []) (k4 ++ knV (aG 0) 0) [qNew] 300 100 (.fn 3) [.str [60, 60], aG 0, aS 1] (heapG gItoa 5) (fun v _ => sameV v (.bool true)) = true := by kernel_rfl
theorem rn30 : evSm (envG [] []) (k4 ++ knV (aG 1) 1) [qNew] 300 100 (.fn 3) [.str [60, 60], aS 0, aG 1] (heapG gItoa 5) (fun v _ => sameV v (.bool true)) = true := by kernel_rfl
theorem rn31 : evSm (envG [] []) (k4) [qNew] 300 100 (.fn 3) [.str [60, 60], aS 0, aS 1] (heapG gItoa 5) (fun v _ => sameV v (.bool true)) = true := by kernel_rfl
theorem rn32 : evSm (envG [] []) (k4 ++ knV (aG 0) 0 ++ knV (aG 1) 1 ++ [⟨36, [.str [62, 62], xA 0, xA 1], rA 8⟩]) [qNew] 300 100 (.fn 3) [.str [62, 62], aG 0, aG 1] (heapG gItoa 5) (fun v _ => sameV v (.bool true)) = true := by kernel_rfl
theorem rn33 : evSm (envG [] []) (k4 ++ knV (aG 0) 0) [qNew] 300 100 (.fn 3) [.str [62, 62], aG 0, aS 1] (heapG gItoa 5) (fun v _ => sameV v (.bool true)) = true := by kernel_rfl
theorem rn34 : evSm (envG [] []) (k4 ++ knV (aG 1) 1) [qNew] 300 100 (.fn 3) [.str [62, 62], aS 0, aG 1] (heapG gItoa 5) (fun v _ => sameV v (.bool true)) = true := by kernel_rfl
theorem rn35 : evSm (envG [] []) (k4) [qNew] 300 100 (.fn 3) [.str [62, 62], aS 0, aS 1] (heapG gItoa 5) (fun v _ => sameV v (.bool true)) = true := by kernel_rfl
theorem rn36 : evSm (envG [] []) (k4 ++ knV (aG 0) 0 ++ knV (aG 1) 1 ++ [⟨51, [.str [126], xA 0], rA 10⟩]) [qNew] 300 100 (.fn 3) [.str [126], aG 0, aG 1] (heapG gItoa 5) (fun v _ => sameV v (.bool true)) = true := by kernel_rfl
theorem rn37 : evSm (envG [] []) (k4 ++ knV (aG 0) 0 ++ [⟨51, [.str [126], xA 0], rA 10⟩]) [qNew] 300 100 (.fn 3) [.str [126], aG 0, aS 1] (heapG gItoa 5) (fun v _ => sameV v (.bool true)) = true := by kernel_rfl
theorem rn38 : evSm (envG [] []) (k4 ++ knV (aG 1) 1) [qNew] 300 100 (.fn 3) [.str [126], aS 0, aG 1] (heapG gItoa 5) (fun v _ => sameV v (.bool true)) = true := by kernel_rfl
theorem rn39 : evSm (envG [] []) (k4) [qNew] 300 100 (.fn 3) [.str [126], aS 0, aS 1] (heapG gItoa 5) (fun v _ => sameV v (.bool true)) = true := by kernel_rfl
theorem rn40 : evSm (envG [] []) (k4 ++ knV (aG 0) 0 ++ knV (aG 1) 1) [qNew] 300 100 (.fn 3) [.str [118, 111, 105, 100], aG 0, aG 1] (heapG gItoa 5) (fun v _ => sameV v (.bool true)) = true := by kernel_rfl
theorem rn41 : evSm (envG [] []) (k4 ++ knV (aG 0) 0) [qNew] 300 100 (.fn 3) [.str [118, 111, 105, 100], aG 0, aS 1] (heapG gItoa 5) (fun v _ => sameV v (.bool true)) = true := by kernel_rfl
theorem rn42 : evSm (envG [] []) (k4 ++ knV (aG 1) 1) [qNew] 300 100 (.fn 3) [.str [118, 111, 105, 100], aS 0, aG 1] (heapG gItoa 5) (fun v _ => sameV v (.bool true)) = true := by kernel_rfl
theorem rn43 : evSm (envG [] []) (k4) [qNew] 300 100 (.fn 3) [.str [118, 111, 105, 100], aS 0, aS 1] (heapG gItoa 5) (fun v _ => sameV v (.bool true)) = true := by kernel_rfl
theorem rn44 : evSm (envG [] []) (k4 ++ knV (aG 0) 0 ++ knV (aG 1) 1) [qNew] 300 100 (.fn 3) [.str [105, 110, 115, 116, 97, 110, 99, 101, 111, 102], aG 0, aG 1] (heapG gItoa 5) (fun v _ => sameV v (.bool true)) = true := by kernel_rfl
theorem rn45 : evSm (envG [] []) (k4 ++ knV (aG 0) 0) [qNew] 300 100 (.fn 3) [.str [105, 110, 115, 116, 97, 110, 99, 101, 111, 102], aG 0, aS 1] (heapG gItoa 5) (fun v _ => sameV v (.bool true)) = true := by kernel_rfl
theorem rn46 : evSm (envG [] []) (k4 ++ knV (aG 1) 1) [qNew] 300 100 (.fn 3) [.str [105, 110, 115, 116, 97, 110, 99, 101, 111, 102], aS 0, aG 1] (heapG gItoa 5) (fun v _ => sameV v (.bool true)) = true := by kernel_rfl
theorem rn47 : evSm (envG [] []) (k4) [qNew] 300 100 (.fn 3) [.str [105, 110, 115, 116, 97, 110, 99, 101, 111, 102], aS 0, aS 1] (heapG gItoa 5) (fun v _ => sameV v (.bool true)) = true := by kernel_rfl
theorem rn48 : evSm (envG [] []) (k4 ++ knV (aG 0) 0 ++ knV (aG 1) 1) [qNew] 300 100 (.fn 3) [.str [105, 110], aG 0, aG 1] (heapG gItoa 5) (fun v _ => sameV v (.bool true)) = true := by kernel_rfl
theorem rn49 : evSm (envG [] []) (k4 ++ knV (aG 0) 0) [qNew] 300 100 (.fn 3) [.str [105, 110], aG 0, aS 1] (heapG gItoa 5) (fun v _ => sameV v (.bool true)) = true := by kernel_rfl
theorem rn50 : evSm (envG [] []) (k4 ++ knV (aG 1) 1) [qNew] 300 100 (.fn 3) [.str [105, 110], aS 0, aG 1] (heapG gItoa 5) (fun v _ => sameV v (.bool true)) = true := by kernel_rfl
theorem rn51 : evSm (envG [] []) (k4) [qNew] 300 100 (.fn 3) [.str [105, 110], aS 0, aS 1] (heapG gItoa 5) (fun v _ => sameV v (.bool true)) = true := by kernel_rfl
theorem rn52 : evSm (envG [] []) (k4 ++ knV (aG 0) 0 ++ knV (aG 1) 1 ++ [⟨49, [aG 0], .bool false⟩]) [qNew] 300 100 (.fn 3) [.str [33], aG 0, aG 1] (heapG gItoa 5) (fun v _ => sameV v (.bool true)) = true := by kernel_rfl
theorem rn53 : evSm (envG [] []) (k4 ++ knV (aG 0) 0 ++ knV (aG 1) 1 ++ [⟨49, [aG 0], .bool true⟩]) [qNew] 300 100 (.fn 3) [.str [33], aG 0, aG 1] (heapG gItoa 5) (fun v _ => sameV v (.bool true)) = true := by kernel_rfl

end Go.Proofs.YtgcmekonnliemaaGreatDoor
