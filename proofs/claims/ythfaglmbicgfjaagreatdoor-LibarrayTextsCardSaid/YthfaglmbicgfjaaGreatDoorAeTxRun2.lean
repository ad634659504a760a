/-
  The law LibarrayTexts: some of its runs, by the kernel.
-/
import Derived.Test.YthfaglmbicgfjaaGreatDoorAeTxK
namespace Go.Proofs.YthfaglmbicgfjaaGreatDoor
open Go.AE
set_option maxRecDepth 100000
theorem rn1011 : evSm (envG txFacts (txOrcs true false true true)) [] [qAwake, qIdx] 300 100 (.fn 3) (txArgs true) (heapG gTx 2) (fun v _ => sameV v (.bool true)) = true := by kernel_rfl
theorem rn1010 : evSm (envG txFacts (txOrcs true false true false)) [] [qAwake, qIdx] 300 100 (.fn 3) (txArgs true) (heapG gTx 2) (fun v _ => sameV v (.bool true)) = true := by kernel_rfl
theorem rn1001 : evSm (envG txFacts (txOrcs true false false true)) [] [qAwake, qIdx] 300 100 (.fn 3) (txArgs true) (heapG gTx 2) (fun v _ => sameV v (.bool true)) = true := by kernel_rfl
theorem rn1000 : evSm (envG txFacts (txOrcs true false false false)) [] [qAwake, qIdx] 300 100 (.fn 3) (txArgs true) (heapG gTx 2) (fun v _ => sameV v (.bool true)) = true := by kernel_rfl

end Go.Proofs.YthfaglmbicgfjaaGreatDoor
