/-
  The law AbsopPlain: some of its runs, by the kernel.
-/
import Derived.Test.YtgcmekonnliemaaGreatDoorAePlK
namespace Go.Proofs.YtgcmekonnliemaaGreatDoor
open Go.AE
set_option maxRecDepth 100000
theorem rn81 : evSm (envG [] []) (k4 ++ knV (aG 1) 1 ++ [⟨31, [aS 0, aG 1], .tuple [.bool true, .bool true]⟩]) [qNew] 300 100 (.fn 3) [.str [61, 61], aS 0, aG 1] (heapG gItoa 5) (fun v _ => sameV v (.bool true)) = true := by kernel_rfl
theorem rn82 : evSm (envG [] []) (k4 ++ [⟨31, [aS 0, aS 1], .tuple [.bool false, .bool true]⟩]) [qNew] 300 100 (.fn 3) [.str [61, 61], aS 0, aS 1] (heapG gItoa 5) (fun v _ => sameV v (.bool true)) = true := by kernel_rfl
theorem rn83 : evSm (envG [] []) (k4 ++ [⟨31, [aS 0, aS 1], .tuple [.bool true, .bool true]⟩]) [qNew] 300 100 (.fn 3) [.str [61, 61], aS 0, aS 1] (heapG gItoa 5) (fun v _ => sameV v (.bool true)) = true := by kernel_rfl
theorem rn84 : evSm (envG [] []) (k4 ++ knV (aG 0) 0 ++ knV (aG 1) 1 ++ [⟨31, [aG 0, aG 1], .tuple [.bool false, .bool true]⟩]) [qNew] 300 100 (.fn 3) [.str [33, 61], aG 0, aG 1] (heapG gItoa 5) (fun v _ => sameV v (.bool true)) = true := by kernel_rfl
theorem rn85 : evSm (envG [] []) (k4 ++ knV (aG 0) 0 ++ knV (aG 1) 1 ++ [⟨31, [aG 0, aG 1], .tuple [.bool true, .bool true]⟩]) [qNew] 300 100 (.fn 3) [.str [33, 61], aG 0, aG 1] (heapG gItoa 5) (fun v _ => sameV v (.bool true)) = true := by kernel_rfl
theorem rn86 : evSm (envG [] []) (k4 ++ knV (aG 0) 0 ++ [⟨31, [aG 0, aS 1], .tuple [.bool false, .bool true]⟩]) [qNew] 300 100 (.fn 3) [.str [33, 61], aG 0, aS 1] (heapG gItoa 5) (fun v _ => sameV v (.bool true)) = true := by kernel_rfl
theorem rn87 : evSm (envG [] []) (k4 ++ knV (aG 0) 0 ++ [⟨31, [aG 0, aS 1], .tuple [.bool true, .bool true]⟩]) [qNew] 300 100 (.fn 3) [.str [33, 61], aG 0, aS 1] (heapG gItoa 5) (fun v _ => sameV v (.bool true)) = true := by kernel_rfl
theorem rn88 : evSm (envG [] []) (k4 ++ knV (aG 1) 1 ++ [⟨31, [aS 0, aG 1], .tuple [.bool false, .bool true]⟩]) [qNew] 300 100 (.fn 3) [.str [33, 61], aS 0, aG 1] (heapG gItoa 5) (fun v _ => sameV v (.bool true)) = true := by kernel_rfl
theorem rn89 : evSm (envG [] []) (k4 ++ knV (aG 1) 1 ++ [⟨31, [aS 0, aG 1], .tuple [.bool true, .bool true]⟩]) [qNew] 300 100 (.fn 3) [.str [33, 61], aS 0, aG 1] (heapG gItoa 5) (fun v _ => sameV v (.bool true)) = true := by kernel_rfl
theorem rn90 : evSm (envG [] []) (k4 ++ [⟨31, [aS 0, aS 1], .tuple [.bool false, .bool true]⟩]) [qNew] 300 100 (.fn 3) [.str [33, 61], aS 0, aS 1] (heapG gItoa 5) (fun v _ => sameV v (.bool true)) = true := by kernel_rfl
theorem rn91 : evSm (envG [] []) (k4 ++ [⟨31, [aS 0, aS 1], .tuple [.bool true, .bool true]⟩]) [qNew] 300 100 (.fn 3) [.str [33, 61], aS 0, aS 1] (heapG gItoa 5) (fun v _ => sameV v (.bool true)) = true := by kernel_rfl
theorem rn92 : evSm (envG [] []) (k4 ++ knV (aP 0) 0 ++ knV (aP 1) 1 ++ [⟨36, [.str [60], xA 0, xA 1], rA 8⟩]) [qNew] 300 100 (.fn 3) [.str [60], aP 0, aP 1] (heapG gItoa 5) (fun v _ => sameV v (.bool true)) = true := by kernel_rfl
theorem rn93 : evSm (envG [] []) (k4 ++ knV (aP 0) 0 ++ knV (aT 1) 1 ++ [⟨36, [.str [60], xA 0, xA 1], rA 8⟩]) [qNew] 300 100 (.fn 3) [.str [60], aP 0, aT 1] (heapG gItoa 5) (fun v _ => sameV v (.bool true)) = true := by kernel_rfl
theorem rn94 : evSm (envG [] []) (k4 ++ knV (aT 0) 0 ++ knV (aP 1) 1 ++ [⟨36, [.str [60], xA 0, xA 1], rA 8⟩]) [qNew] 300 100 (.fn 3) [.str [60], aT 0, aP 1] (heapG gItoa 5) (fun v _ => sameV v (.bool true)) = true := by kernel_rfl
theorem rn95 : evSm (envG [] []) (k4 ++ knV (aT 0) 0 ++ knV (aT 1) 1 ++ [⟨34, [.sstr 0 0 300, .sstr 1 0 300], .i64 (-1)⟩]) [qNew] 300 100 (.fn 3) [.str [60], aT 0, aT 1] (heapG gItoa 5) (fun v _ => sameV v (.bool true)) = true := by kernel_rfl
theorem rn96 : evSm (envG [] []) (k4 ++ knV (aT 0) 0 ++ knV (aT 1) 1 ++ [⟨34, [.sstr 0 0 300, .sstr 1 0 300], .i64 0⟩]) [qNew] 300 100 (.fn 3) [.str [60], aT 0, aT 1] (heapG gItoa 5) (fun v _ => sameV v (.bool true)) = true := by kernel_rfl
theorem rn97 : evSm (envG [] []) (k4 ++ knV (aT 0) 0 ++ knV (aT 1) 1 ++ [⟨34, [.sstr 0 0 300, .sstr 1 0 300], .i64 1⟩]) [qNew] 300 100 (.fn 3) [.str [60], aT 0, aT 1] (heapG gItoa 5) (fun v _ => sameV v (.bool true)) = true := by kernel_rfl
theorem rn98 : evSm (envG [] []) (k4 ++ knV (aG 1) 1) [qNew] 300 100 (.fn 3) [.str [60], aS 0, aG 1] (heapG gItoa 5) (fun v _ => sameV v (.bool true)) = true := by kernel_rfl
theorem rn99 : evSm (envG [] []) (k4) [qNew] 300 100 (.fn 3) [.str [60], aS 0, aS 1] (heapG gItoa 5) (fun v _ => sameV v (.bool true)) = true := by kernel_rfl
theorem rn100 : evSm (envG [] []) (k4 ++ knV (aP 0) 0) [qNew] 300 100 (.fn 3) [.str [60], aP 0, aS 1] (heapG gItoa 5) (fun v _ => sameV v (.bool true)) = true := by kernel_rfl
theorem rn101 : evSm (envG [] []) (k4 ++ knV (aT 0) 0) [qNew] 300 100 (.fn 3) [.str [60], aT 0, aS 1] (heapG gItoa 5) (fun v _ => sameV v (.bool true)) = true := by kernel_rfl
theorem rn102 : evSm (envG [] []) (k4 ++ knV (aP 0) 0 ++ knV (aP 1) 1 ++ [⟨36, [.str [62], xA 0, xA 1], rA 8⟩]) [qNew] 300 100 (.fn 3) [.str [62], aP 0, aP 1] (heapG gItoa 5) (fun v _ => sameV v (.bool true)) = true := by kernel_rfl
theorem rn103 : evSm (envG [] []) (k4 ++ knV (aP 0) 0 ++ knV (aT 1) 1 ++ [⟨36, [.str [62], xA 0, xA 1], rA 8⟩]) [qNew] 300 100 (.fn 3) [.str [62], aP 0, aT 1] (heapG gItoa 5) (fun v _ => sameV v (.bool true)) = true := by kernel_rfl
theorem rn104 : evSm (envG [] []) (k4 ++ knV (aT 0) 0 ++ knV (aP 1) 1 ++ [⟨36, [.str [62], xA 0, xA 1], rA 8⟩]) [qNew] 300 100 (.fn 3) [.str [62], aT 0, aP 1] (heapG gItoa 5) (fun v _ => sameV v (.bool true)) = true := by kernel_rfl
theorem rn105 : evSm (envG [] []) (k4 ++ knV (aT 0) 0 ++ knV (aT 1) 1 ++ [⟨34, [.sstr 0 0 300, .sstr 1 0 300], .i64 (-1)⟩]) [qNew] 300 100 (.fn 3) [.str [62], aT 0, aT 1] (heapG gItoa 5) (fun v _ => sameV v (.bool true)) = true := by kernel_rfl
theorem rn106 : evSm (envG [] []) (k4 ++ knV (aT 0) 0 ++ knV (aT 1) 1 ++ [⟨34, [.sstr 0 0 300, .sstr 1 0 300], .i64 0⟩]) [qNew] 300 100 (.fn 3) [.str [62], aT 0, aT 1] (heapG gItoa 5) (fun v _ => sameV v (.bool true)) = true := by kernel_rfl
theorem rn107 : evSm (envG [] []) (k4 ++ knV (aT 0) 0 ++ knV (aT 1) 1 ++ [⟨34, [.sstr 0 0 300, .sstr 1 0 300], .i64 1⟩]) [qNew] 300 100 (.fn 3) [.str [62], aT 0, aT 1] (heapG gItoa 5) (fun v _ => sameV v (.bool true)) = true := by kernel_rfl

end Go.Proofs.YtgcmekonnliemaaGreatDoor
