/-
  The law AbsopPlain: some of its runs, by the kernel.
-/
import Derived.Test.YtgcmekonnliemaaGreatDoorAePlK
namespace Go.Proofs.YtgcmekonnliemaaGreatDoor
open Go.AE
set_option maxRecDepth 100000
theorem rn108 : evSm (envG [] []) (k4 ++ knV (aG 1) 1) [qNew] 300 100 (.fn 3) [.str [62], aS 0, aG 1] (heapG gItoa 5) (fun v _ => sameV v (.bool true)) = true := by kernel_rfl
theorem rn109 : evSm (envG [] []) (k4) [qNew] 300 100 (.fn 3) [.str [62], aS 0, aS 1] (heapG gItoa 5) (fun v _ => sameV v (.bool true)) = true := by kernel_rfl
theorem rn110 : evSm (envG [] []) (k4 ++ knV (aP 0) 0) [qNew] 300 100 (.fn 3) [.str [62], aP 0, aS 1] (heapG gItoa 5) (fun v _ => sameV v (.bool true)) = true := by kernel_rfl
theorem rn111 : evSm (envG [] []) (k4 ++ knV (aT 0) 0) [qNew] 300 100 (.fn 3) [.str [62], aT 0, aS 1] (heapG gItoa 5) (fun v _ => sameV v (.bool true)) = true := by kernel_rfl
theorem rn112 : evSm (envG [] []) (k4 ++ knV (aP 0) 0 ++ knV (aP 1) 1 ++ [⟨36, [.str [60, 61], xA 0, xA 1], rA 8⟩]) [qNew] 300 100 (.fn 3) [.str [60, 61], aP 0, aP 1] (heapG gItoa 5) (fun v _ => sameV v (.bool true)) = true := by kernel_rfl
theorem rn113 : evSm (envG [] []) (k4 ++ knV (aP 0) 0 ++ knV (aT 1) 1 ++ [⟨36, [.str [60, 61], xA 0, xA 1], rA 8⟩]) [qNew] 300 100 (.fn 3) [.str [60, 61], aP 0, aT 1] (heapG gItoa 5) (fun v _ => sameV v (.bool true)) = true := by kernel_rfl
theorem rn114 : evSm (envG [] []) (k4 ++ knV (aT 0) 0 ++ knV (aP 1) 1 ++ [⟨36, [.str [60, 61], xA 0, xA 1], rA 8⟩]) [qNew] 300 100 (.fn 3) [.str [60, 61], aT 0, aP 1] (heapG gItoa 5) (fun v _ => sameV v (.bool true)) = true := by kernel_rfl
theorem rn115 : evSm (envG [] []) (k4 ++ knV (aT 0) 0 ++ knV (aT 1) 1 ++ [⟨34, [.sstr 0 0 300, .sstr 1 0 300], .i64 (-1)⟩]) [qNew] 300 100 (.fn 3) [.str [60, 61], aT 0, aT 1] (heapG gItoa 5) (fun v _ => sameV v (.bool true)) = true := by kernel_rfl
theorem rn116 : evSm (envG [] []) (k4 ++ knV (aT 0) 0 ++ knV (aT 1) 1 ++ [⟨34, [.sstr 0 0 300, .sstr 1 0 300], .i64 0⟩]) [qNew] 300 100 (.fn 3) [.str [60, 61], aT 0, aT 1] (heapG gItoa 5) (fun v _ => sameV v (.bool true)) = true := by kernel_rfl
theorem rn117 : evSm (envG [] []) (k4 ++ knV (aT 0) 0 ++ knV (aT 1) 1 ++ [⟨34, [.sstr 0 0 300, .sstr 1 0 300], .i64 1⟩]) [qNew] 300 100 (.fn 3) [.str [60, 61], aT 0, aT 1] (heapG gItoa 5) (fun v _ => sameV v (.bool true)) = true := by kernel_rfl
theorem rn118 : evSm (envG [] []) (k4 ++ knV (aG 1) 1) [qNew] 300 100 (.fn 3) [.str [60, 61], aS 0, aG 1] (heapG gItoa 5) (fun v _ => sameV v (.bool true)) = true := by kernel_rfl
theorem rn119 : evSm (envG [] []) (k4) [qNew] 300 100 (.fn 3) [.str [60, 61], aS 0, aS 1] (heapG gItoa 5) (fun v _ => sameV v (.bool true)) = true := by kernel_rfl
theorem rn120 : evSm (envG [] []) (k4 ++ knV (aP 0) 0) [qNew] 300 100 (.fn 3) [.str [60, 61], aP 0, aS 1] (heapG gItoa 5) (fun v _ => sameV v (.bool true)) = true := by kernel_rfl
theorem rn121 : evSm (envG [] []) (k4 ++ knV (aT 0) 0) [qNew] 300 100 (.fn 3) [.str [60, 61], aT 0, aS 1] (heapG gItoa 5) (fun v _ => sameV v (.bool true)) = true := by kernel_rfl
theorem rn122 : evSm (envG [] []) (k4 ++ knV (aP 0) 0 ++ knV (aP 1) 1 ++ [⟨36, [.str [62, 61], xA 0, xA 1], rA 8⟩]) [qNew] 300 100 (.fn 3) [.str [62, 61], aP 0, aP 1] (heapG gItoa 5) (fun v _ => sameV v (.bool true)) = true := by kernel_rfl
theorem rn123 : evSm (envG [] []) (k4 ++ knV (aP 0) 0 ++ knV (aT 1) 1 ++ [⟨36, [.str [62, 61], xA 0, xA 1], rA 8⟩]) [qNew] 300 100 (.fn 3) [.str [62, 61], aP 0, aT 1] (heapG gItoa 5) (fun v _ => sameV v (.bool true)) = true := by kernel_rfl
theorem rn124 : evSm (envG [] []) (k4 ++ knV (aT 0) 0 ++ knV (aP 1) 1 ++ [⟨36, [.str [62, 61], xA 0, xA 1], rA 8⟩]) [qNew] 300 100 (.fn 3) [.str [62, 61], aT 0, aP 1] (heapG gItoa 5) (fun v _ => sameV v (.bool true)) = true := by kernel_rfl
theorem rn125 : evSm (envG [] []) (k4 ++ knV (aT 0) 0 ++ knV (aT 1) 1 ++ [⟨34, [.sstr 0 0 300, .sstr 1 0 300], .i64 (-1)⟩]) [qNew] 300 100 (.fn 3) [.str [62, 61], aT 0, aT 1] (heapG gItoa 5) (fun v _ => sameV v (.bool true)) = true := by kernel_rfl
theorem rn126 : evSm (envG [] []) (k4 ++ knV (aT 0) 0 ++ knV (aT 1) 1 ++ [⟨34, [.sstr 0 0 300, .sstr 1 0 300], .i64 0⟩]) [qNew] 300 100 (.fn 3) [.str [62, 61], aT 0, aT 1] (heapG gItoa 5) (fun v _ => sameV v (.bool true)) = true := by kernel_rfl
theorem rn127 : evSm (envG [] []) (k4 ++ knV (aT 0) 0 ++ knV (aT 1) 1 ++ [⟨34, [.sstr 0 0 300, .sstr 1 0 300], .i64 1⟩]) [qNew] 300 100 (.fn 3) [.str [62, 61], aT 0, aT 1] (heapG gItoa 5) (fun v _ => sameV v (.bool true)) = true := by kernel_rfl
theorem rn128 : evSm (envG [] []) (k4 ++ knV (aG 1) 1) [qNew] 300 100 (.fn 3) [.str [62, 61], aS 0, aG 1] (heapG gItoa 5) (fun v _ => sameV v (.bool true)) = true := by kernel_rfl
theorem rn129 : evSm (envG [] []) (k4) [qNew] 300 100 (.fn 3) [.str [62, 61], aS 0, aS 1] (heapG gItoa 5) (fun v _ => sameV v (.bool true)) = true := by kernel_rfl
theorem rn130 : evSm (envG [] []) (k4 ++ knV (aP 0) 0) [qNew] 300 100 (.fn 3) [.str [62, 61], aP 0, aS 1] (heapG gItoa 5) (fun v _ => sameV v (.bool true)) = true := by kernel_rfl
theorem rn131 : evSm (envG [] []) (k4 ++ knV (aT 0) 0) [qNew] 300 100 (.fn 3) [.str [62, 61], aT 0, aS 1] (heapG gItoa 5) (fun v _ => sameV v (.bool true)) = true := by kernel_rfl
theorem rn132 : evSm (envG [] []) (k4 ++ knV (aP 0) 0 ++ knV (aP 1) 1 ++ [⟨36, [.str [43], xA 0, xA 1], rA 8⟩]) [qNew] 300 100 (.fn 3) [.str [43], aP 0, aP 1] (heapG gItoa 5) (fun v _ => sameV v (.bool true)) = true := by kernel_rfl
theorem rn133 : evSm (envG [] []) (k4 ++ knV (aP 1) 1) [qNew] 300 100 (.fn 3) [.str [43], aS 0, aP 1] (heapG gItoa 5) (fun v _ => sameV v (.bool true)) = true := by kernel_rfl
theorem rn134 : evSm (envG [] []) (k4 ++ knV (aT 1) 1) [qNew] 300 100 (.fn 3) [.str [43], aS 0, aT 1] (heapG gItoa 5) (fun v _ => sameV v (.bool true)) = true := by kernel_rfl

end Go.Proofs.YtgcmekonnliemaaGreatDoor
