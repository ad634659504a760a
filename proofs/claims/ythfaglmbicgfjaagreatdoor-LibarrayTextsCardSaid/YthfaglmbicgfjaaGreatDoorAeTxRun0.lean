/-
  The law LibarrayTexts: some of its runs, by the kernel.
-/
import Derived.Test.YthfaglmbicgfjaaGreatDoorAeTxK
namespace Go.Proofs.YthfaglmbicgfjaaGreatDoor
open Go.AE
set_option maxRecDepth 100000
theorem rn0111 : evSm (envG txFacts (txOrcs false true true true)) [] [qAwake, qIdx] 300 100 (.fn 3) (txArgs false) (heapG gTx 2) (fun v _ => sameV v (.bool true)) = true := by kernel_rfl
theorem rn0110 : evSm (envG txFacts (txOrcs false true true false)) [] [qAwake, qIdx] 300 100 (.fn 3) (txArgs false) (heapG gTx 2) (fun v _ => sameV v (.bool true)) = true := by kernel_rfl
theorem rn0011 : evSm (envG txFacts (txOrcs false false true true)) [] [qAwake, qIdx] 300 100 (.fn 3) (txArgs false) (heapG gTx 2) (fun v _ => sameV v (.bool true)) = true := by kernel_rfl
theorem rn0010 : evSm (envG txFacts (txOrcs false false true false)) [] [qAwake, qIdx] 300 100 (.fn 3) (txArgs false) (heapG gTx 2) (fun v _ => sameV v (.bool true)) = true := by kernel_rfl

end Go.Proofs.YthfaglmbicgfjaaGreatDoor
