/-
  The law AbsopPlain: some of its runs, by the kernel.
-/
import Derived.Test.YtgcmekonnliemaaGreatDoorAePlK
namespace Go.Proofs.YtgcmekonnliemaaGreatDoor
open Go.AE
set_option maxRecDepth 100000
theorem rn0 : evSm (envG [] []) (k4 ++ knV (aG 0) 0 ++ knV (aG 1) 1 ++ [⟨36, [.str [45], xA 0, xA 1], rA 8⟩, ⟨51, [.str [45], xA 0], rA 10⟩]) [qNew] 300 100 (.fn 3) [.str [45], aG 0, aG 1] (heapG gItoa 5) (fun v _ => sameV v (.bool true)) = true := by kernel_rfl
theorem rn1 : evSm (envG [] []) (k4 ++ knV (aG 0) 0 ++ [⟨51, [.str [45], xA 0], rA 10⟩]) [qNew] 300 100 (.fn 3) [.str [45], aG 0, aS 1] (heapG gItoa 5) (fun v _ => sameV v (.bool true)) = true := by kernel_rfl
theorem rn2 : evSm (envG [] []) (k4 ++ knV (aG 1) 1) [qNew] 300 100 (.fn 3) [.str [45], aS 0, aG 1] (heapG gItoa 5) (fun v _ => sameV v (.bool true)) = true := by kernel_rfl
theorem rn3 : evSm (envG [] []) (k4) [qNew] 300 100 (.fn 3) [.str [45], aS 0, aS 1] (heapG gItoa 5) (fun v _ => sameV v (.bool true)) = true := by kernel_rfl
theorem rn4 : evSm (envG [] []) (k4 ++ knV (aG 0) 0 ++ knV (aG 1) 1 ++ [⟨36, [.str [42], xA 0, xA 1], rA 8⟩]) [qNew] 300 100 (.fn 3) [.str [42], aG 0, aG 1] (heapG gItoa 5) (fun v _ => sameV v (.bool true)) = true := by kernel_rfl
theorem rn5 : evSm (envG [] []) (k4 ++ knV (aG 0) 0) [qNew] 300 100 (.fn 3) [.str [42], aG 0, aS 1] (heapG gItoa 5) (fun v _ => sameV v (.bool true)) = true := by kernel_rfl
theorem rn6 : evSm (envG [] []) (k4 ++ knV (aG 1) 1) [qNew] 300 100 (.fn 3) [.str [42], aS 0, aG 1] (heapG gItoa 5) (fun v _ => sameV v (.bool true)) = true := by kernel_rfl
theorem rn7 : evSm (envG [] []) (k4) [qNew] 300 100 (.fn 3) [.str [42], aS 0, aS 1] (heapG gItoa 5) (fun v _ => sameV v (.bool true)) = true := by kernel_rfl
theorem rn8 : evSm (envG [] []) (k4 ++ knV (aG 0) 0 ++ knV (aG 1) 1 ++ [⟨36, [.str [47], xA 0, xA 1], rA 8⟩]) [qNew] 300 100 (.fn 3) [.str [47], aG 0, aG 1] (heapG gItoa 5) (fun v _ => sameV v (.bool true)) = true := by kernel_rfl
theorem rn9 : evSm (envG [] []) (k4 ++ knV (aG 0) 0) [qNew] 300 100 (.fn 3) [.str [47], aG 0, aS 1] (heapG gItoa 5) (fun v _ => sameV v (.bool true)) = true := by kernel_rfl
theorem rn10 : evSm (envG [] []) (k4 ++ knV (aG 1) 1) [qNew] 300 100 (.fn 3) [.str [47], aS 0, aG 1] (heapG gItoa 5) (fun v _ => sameV v (.bool true)) = true := by kernel_rfl
theorem rn11 : evSm (envG [] []) (k4) [qNew] 300 100 (.fn 3) [.str [47], aS 0, aS 1] (heapG gItoa 5) (fun v _ => sameV v (.bool true)) = true := by kernel_rfl
theorem rn12 : evSm (envG [] []) (k4 ++ knV (aG 0) 0 ++ knV (aG 1) 1 ++ [⟨36, [.str [37], xA 0, xA 1], rA 8⟩]) [qNew] 300 100 (.fn 3) [.str [37], aG 0, aG 1] (heapG gItoa 5) (fun v _ => sameV v (.bool true)) = true := by kernel_rfl
theorem rn13 : evSm (envG [] []) (k4 ++ knV (aG 0) 0) [qNew] 300 100 (.fn 3) [.str [37], aG 0, aS 1] (heapG gItoa 5) (fun v _ => sameV v (.bool true)) = true := by kernel_rfl
theorem rn14 : evSm (envG [] []) (k4 ++ knV (aG 1) 1) [qNew] 300 100 (.fn 3) [.str [37], aS 0, aG 1] (heapG gItoa 5) (fun v _ => sameV v (.bool true)) = true := by kernel_rfl
theorem rn15 : evSm (envG [] []) (k4) [qNew] 300 100 (.fn 3) [.str [37], aS 0, aS 1] (heapG gItoa 5) (fun v _ => sameV v (.bool true)) = true := by kernel_rfl
theorem rn16 : evSm (envG [] []) (k4 ++ knV (aG 0) 0 ++ knV (aG 1) 1 ++ [⟨36, [.str [38], xA 0, xA 1], rA 8⟩]) [qNew] 300 100 (.fn 3) [.str [38], aG 0, aG 1] (heapG gItoa 5) (fun v _ => sameV v (.bool true)) = true := by kernel_rfl
theorem rn17 : evSm (envG [] []) (k4 ++ knV (aG 0) 0) [qNew] 300 100 (.fn 3) [.str [38], aG 0, aS 1] (heapG gItoa 5) (fun v _ => sameV v (.bool true)) = true := by kernel_rfl
theorem rn18 : evSm (envG [] []) (k4 ++ knV (aG 1) 1) [qNew] 300 100 (.fn 3) [.str [38], aS 0, aG 1] (heapG gItoa 5) (fun v _ => sameV v (.bool true)) = true := by kernel_rfl
theorem rn19 : evSm (envG [] []) (k4) [qNew] 300 100 (.fn 3) [.str [38], aS 0, aS 1] (heapG gItoa 5) (fun v _ => sameV v (.bool true)) = true := by kernel_rfl
theorem rn20 : evSm (envG [] []) (k4 ++ knV (aG 0) 0 ++ knV (aG 1) 1 ++ [⟨36, [.str [124], xA 0, xA 1], rA 8⟩]) [qNew] 300 100 (.fn 3) [.str [124], aG 0, aG 1] (heapG gItoa 5) (fun v _ => sameV v (.bool true)) = true := by kernel_rfl
theorem rn21 : evSm (envG [] []) (k4 ++ knV (aG 0) 0) [qNew] 300 100 (.fn 3) [.str [124], aG 0, aS 1] (heapG gItoa 5) (fun v _ => sameV v (.bool true)) = true := by kernel_rfl
theorem rn22 : evSm (envG [] []) (k4 ++ knV (aG 1) 1) [qNew] 300 100 (.fn 3) [.str [124], aS 0, aG 1] (heapG gItoa 5) (fun v _ => sameV v (.bool true)) = true := by kernel_rfl
theorem rn23 : evSm (envG [] []) (k4) [qNew] 300 100 (.fn 3) [.str [124], aS 0, aS 1] (heapG gItoa 5) (fun v _ => sameV v (.bool true)) = true := by kernel_rfl
theorem rn24 : evSm (envG [] []) (k4 ++ knV (aG 0) 0 ++ knV (aG 1) 1 ++ [⟨36, [.str [94], xA 0, xA 1], rA 8⟩]) [qNew] 300 100 (.fn 3) [.str [94], aG 0, aG 1] (heapG gItoa 5) (fun v _ => sameV v (.bool true)) = true := by kernel_rfl
theorem rn25 : evSm (envG [] []) (k4 ++ knV (aG 0) 0) [qNew] 300 100 (.fn 3) [.str [94], aG 0, aS 1] (heapG gItoa 5) (fun v _ => sameV v (.bool true)) = true := by kernel_rfl
theorem rn26 : evSm (envG [] []) (k4 ++ knV (aG 1) 1) [qNew] 300 100 (.fn 3) [.str [94], aS 0, aG 1] (heapG gItoa 5) (fun v _ => sameV v (.bool true)) = true := by kernel_rfl

end Go.Proofs.YtgcmekonnliemaaGreatDoor
