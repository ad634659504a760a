/-
  The law AbsopPlain: some of its runs, by the kernel.
-/
import Derived.Test.YtgcmekonnliemaaGreatDoorAePlK
namespace Go.Proofs.YtgcmekonnliemaaGreatDoor
open Go.AE
set_option maxRecDepth 100000
theorem rn54 : evSm (envG [] []) (k4 ++ knV (aG 0) 0 ++ [⟨49, [aG 0], .bool false⟩]) [qNew] 300 100 (.fn 3) [.str [33], aG 0, aS 1] (heapG gItoa 5) (fun v _ => sameV v (.bool true)) = true := by kernel_rfl
theorem rn55 : evSm (envG [] []) (k4 ++ knV (aG 0) 0 ++ [⟨49, [aG 0], .bool true⟩]) [qNew] 300 100 (.fn 3) [.str [33], aG 0, aS 1] (heapG gItoa 5) (fun v _ => sameV v (.bool true)) = true := by kernel_rfl
theorem rn56 : evSm (envG [] []) (k4 ++ knV (aG 1) 1 ++ [⟨49, [aS 0], .bool false⟩]) [qNew] 300 100 (.fn 3) [.str [33], aS 0, aG 1] (heapG gItoa 5) (fun v _ => sameV v (.bool true)) = true := by kernel_rfl
theorem rn57 : evSm (envG [] []) (k4 ++ knV (aG 1) 1 ++ [⟨49, [aS 0], .bool true⟩]) [qNew] 300 100 (.fn 3) [.str [33], aS 0, aG 1] (heapG gItoa 5) (fun v _ => sameV v (.bool true)) = true := by kernel_rfl
theorem rn58 : evSm (envG [] []) (k4 ++ [⟨49, [aS 0], .bool false⟩]) [qNew] 300 100 (.fn 3) [.str [33], aS 0, aS 1] (heapG gItoa 5) (fun v _ => sameV v (.bool true)) = true := by kernel_rfl
theorem rn59 : evSm (envG [] []) (k4 ++ [⟨49, [aS 0], .bool true⟩]) [qNew] 300 100 (.fn 3) [.str [33], aS 0, aS 1] (heapG gItoa 5) (fun v _ => sameV v (.bool true)) = true := by kernel_rfl
theorem rn60 : evSm (envG [] []) (k4 ++ knV (aG 0) 0 ++ knV (aG 1) 1 ++ [⟨30, [aG 0, aG 1], .bool false⟩]) [qNew] 300 100 (.fn 3) [.str [61, 61, 61], aG 0, aG 1] (heapG gItoa 5) (fun v _ => sameV v (.bool true)) = true := by kernel_rfl
theorem rn61 : evSm (envG [] []) (k4 ++ knV (aG 0) 0 ++ knV (aG 1) 1 ++ [⟨30, [aG 0, aG 1], .bool true⟩]) [qNew] 300 100 (.fn 3) [.str [61, 61, 61], aG 0, aG 1] (heapG gItoa 5) (fun v _ => sameV v (.bool true)) = true := by kernel_rfl
theorem rn62 : evSm (envG [] []) (k4 ++ knV (aG 0) 0 ++ [⟨30, [aG 0, aS 1], .bool false⟩]) [qNew] 300 100 (.fn 3) [.str [61, 61, 61], aG 0, aS 1] (heapG gItoa 5) (fun v _ => sameV v (.bool true)) = true := by kernel_rfl
theorem rn63 : evSm (envG [] []) (k4 ++ knV (aG 0) 0 ++ [⟨30, [aG 0, aS 1], .bool true⟩]) [qNew] 300 100 (.fn 3) [.str [61, 61, 61], aG 0, aS 1] (heapG gItoa 5) (fun v _ => sameV v (.bool true)) = true := by kernel_rfl
theorem rn64 : evSm (envG [] []) (k4 ++ knV (aG 1) 1 ++ [⟨30, [aS 0, aG 1], .bool false⟩]) [qNew] 300 100 (.fn 3) [.str [61, 61, 61], aS 0, aG 1] (heapG gItoa 5) (fun v _ => sameV v (.bool true)) = true := by kernel_rfl
theorem rn65 : evSm (envG [] []) (k4 ++ knV (aG 1) 1 ++ [⟨30, [aS 0, aG 1], .bool true⟩]) [qNew] 300 100 (.fn 3) [.str [61, 61, 61], aS 0, aG 1] (heapG gItoa 5) (fun v _ => sameV v (.bool true)) = true := by kernel_rfl
theorem rn66 : evSm (envG [] []) (k4 ++ [⟨30, [aS 0, aS 1], .bool false⟩]) [qNew] 300 100 (.fn 3) [.str [61, 61, 61], aS 0, aS 1] (heapG gItoa 5) (fun v _ => sameV v (.bool true)) = true := by kernel_rfl
theorem rn67 : evSm (envG [] []) (k4 ++ [⟨30, [aS 0, aS 1], .bool true⟩]) [qNew] 300 100 (.fn 3) [.str [61, 61, 61], aS 0, aS 1] (heapG gItoa 5) (fun v _ => sameV v (.bool true)) = true := by kernel_rfl
theorem rn68 : evSm (envG [] []) (k4 ++ knV (aG 0) 0 ++ knV (aG 1) 1 ++ [⟨30, [aG 0, aG 1], .bool false⟩]) [qNew] 300 100 (.fn 3) [.str [33, 61, 61], aG 0, aG 1] (heapG gItoa 5) (fun v _ => sameV v (.bool true)) = true := by kernel_rfl
theorem rn69 : evSm (envG [] []) (k4 ++ knV (aG 0) 0 ++ knV (aG 1) 1 ++ [⟨30, [aG 0, aG 1], .bool true⟩]) [qNew] 300 100 (.fn 3) [.str [33, 61, 61], aG 0, aG 1] (heapG gItoa 5) (fun v _ => sameV v (.bool true)) = true := by kernel_rfl
theorem rn70 : evSm (envG [] []) (k4 ++ knV (aG 0) 0 ++ [⟨30, [aG 0, aS 1], .bool false⟩]) [qNew] 300 100 (.fn 3) [.str [33, 61, 61], aG 0, aS 1] (heapG gItoa 5) (fun v _ => sameV v (.bool true)) = true := by kernel_rfl
theorem rn71 : evSm (envG [] []) (k4 ++ knV (aG 0) 0 ++ [⟨30, [aG 0, aS 1], .bool true⟩]) [qNew] 300 100 (.fn 3) [.str [33, 61, 61], aG 0, aS 1] (heapG gItoa 5) (fun v _ => sameV v (.bool true)) = true := by kernel_rfl
theorem rn72 : evSm (envG [] []) (k4 ++ knV (aG 1) 1 ++ [⟨30, [aS 0, aG 1], .bool false⟩]) [qNew] 300 100 (.fn 3) [.str [33, 61, 61], aS 0, aG 1] (heapG gItoa 5) (fun v _ => sameV v (.bool true)) = true := by kernel_rfl
theorem rn73 : evSm (envG [] []) (k4 ++ knV (aG 1) 1 ++ [⟨30, [aS 0, aG 1], .bool true⟩]) [qNew] 300 100 (.fn 3) [.str [33, 61, 61], aS 0, aG 1] (heapG gItoa 5) (fun v _ => sameV v (.bool true)) = true := by kernel_rfl
theorem rn74 : evSm (envG [] []) (k4 ++ [⟨30, [aS 0, aS 1], .bool false⟩]) [qNew] 300 100 (.fn 3) [.str [33, 61, 61], aS 0, aS 1] (heapG gItoa 5) (fun v _ => sameV v (.bool true)) = true := by kernel_rfl
theorem rn75 : evSm (envG [] []) (k4 ++ [⟨30, [aS 0, aS 1], .bool true⟩]) [qNew] 300 100 (.fn 3) [.str [33, 61, 61], aS 0, aS 1] (heapG gItoa 5) (fun v _ => sameV v (.bool true)) = true := by kernel_rfl
theorem rn76 : evSm (envG [] []) (k4 ++ knV (aG 0) 0 ++ knV (aG 1) 1 ++ [⟨31, [aG 0, aG 1], .tuple [.bool false, .bool true]⟩]) [qNew] 300 100 (.fn 3) [.str [61, 61], aG 0, aG 1] (heapG gItoa 5) (fun v _ => sameV v (.bool true)) = true := by kernel_rfl
theorem rn77 : evSm (envG [] []) (k4 ++ knV (aG 0) 0 ++ knV (aG 1) 1 ++ [⟨31, [aG 0, aG 1], .tuple [.bool true, .bool true]⟩]) [qNew] 300 100 (.fn 3) [.str [61, 61], aG 0, aG 1] (heapG gItoa 5) (fun v _ => sameV v (.bool true)) = true := by kernel_rfl
theorem rn78 : evSm (envG [] []) (k4 ++ knV (aG 0) 0 ++ [⟨31, [aG 0, aS 1], .tuple [.bool false, .bool true]⟩]) [qNew] 300 100 (.fn 3) [.str [61, 61], aG 0, aS 1] (heapG gItoa 5) (fun v _ => sameV v (.bool true)) = true := by kernel_rfl
theorem rn79 : evSm (envG [] []) (k4 ++ knV (aG 0) 0 ++ [⟨31, [aG 0, aS 1], .tuple [.bool true, .bool true]⟩]) [qNew] 300 100 (.fn 3) [.str [61, 61], aG 0, aS 1] (heapG gItoa 5) (fun v _ => sameV v (.bool true)) = true := by kernel_rfl
theorem rn80 : evSm (envG [] []) (k4 ++ knV (aG 1) 1 ++ [⟨31, [aS 0, aG 1], .tuple [.bool false, .bool true]⟩]) [qNew] 300 100 (.fn 3) [.str [61, 61], aS 0, aG 1] (heapG gItoa 5) (fun v _ => sameV v (.bool true)) = true := by kernel_rfl

end Go.Proofs.YtgcmekonnliemaaGreatDoor
