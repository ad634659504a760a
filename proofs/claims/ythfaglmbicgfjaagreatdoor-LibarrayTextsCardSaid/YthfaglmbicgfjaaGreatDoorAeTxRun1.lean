/-
  The law LibarrayTexts: some of its runs, by the kernel.
-/
import Derived.Test.YthfaglmbicgfjaaGreatDoorAeTxK
namespace Go.Proofs.YthfaglmbicgfjaaGreatDoor
open Go.AE
set_option maxRecDepth 100000
theorem rn0001 : evSm (envG txFacts (txOrcs false false false true)) [] [qAwake, qIdx] 300 100 (.fn 3) (txArgs false) (heapG gTx 2) (fun v _ => sameV v (.bool true)) = true := by kernel_rfl
theorem rn0000 : evSm (envG txFacts (txOrcs false false false false)) [] [qAwake, qIdx] 300 100 (.fn 3) (txArgs false) (heapG gTx 2) (fun v _ => sameV v (.bool true)) = true := by kernel_rfl
theorem rn1111 : evSm (envG txFacts (txOrcs true true true true)) [] [qAwake, qIdx] 300 100 (.fn 3) (txArgs true) (heapG gTx 2) (fun v _ => sameV v (.bool true)) = true := by kernel_rfl
theorem rn1110 : evSm (envG txFacts (txOrcs true true true false)) [] [qAwake, qIdx] 300 100 (.fn 3) (txArgs true) (heapG gTx 2) (fun v _ => sameV v (.bool true)) = true := by kernel_rfl

end Go.Proofs.YthfaglmbicgfjaaGreatDoor
