/-
  The law AbsopPlain: some of its runs, by the kernel.
-/
import Derived.Test.YtgcmekonnliemaaGreatDoorAePlK
namespace Go.Proofs.YtgcmekonnliemaaGreatDoor
open Go.AE
set_option maxRecDepth 100000
theorem rn135 : evSm (envG [] []) (k4) [qNew] 300 100 (.fn 3) [.str [43], aS 0, aS 1] (heapG gItoa 5) (fun v _ => sameV v (.bool true)) = true := by kernel_rfl
theorem rn136 : evSm (envG [] []) (k4 ++ knV (aP 0) 0) [qNew] 300 100 (.fn 3) [.str [43], aP 0, aS 1] (heapG gItoa 5) (fun v _ => sameV v (.bool true)) = true := by kernel_rfl
theorem rn137 : evSm (envG [] []) (k4 ++ knV (aT 0) 0) [qNew] 300 100 (.fn 3) [.str [43], aT 0, aS 1] (heapG gItoa 5) (fun v _ => sameV v (.bool true)) = true := by kernel_rfl
theorem rn138 : evSm (envG [] [.bin .add (.sstr 0 0 300) (.sstr 1 0 300) (.sstr 2 0 600)]) (k4 ++ knV (aT 0) 0 ++ knV (aT 1) 1) [qNew] 300 100 (.fn 3) [.str [43], aT 0, aT 1] (heapG gItoa 5) (fun v _ => sameV v (.bool true)) = true := by kernel_rfl
theorem rn139 : evSm (envG [] [.bin .add (.sstr 0 0 300) (.str [117, 110, 100, 101, 102, 105, 110, 101, 100]) (.sstr 2 0 600)]) (k4 ++ knV (aT 0) 0 ++ knV (aC 0 0) 1) [qNew] 300 100 (.fn 3) [.str [43], aT 0, aC 0 0] (heapG gItoa 5) (fun v _ => sameV v (.bool true)) = true := by kernel_rfl
theorem rn140 : evSm (envG [] [.bin .add (.sstr 0 0 300) (.str [110, 117, 108, 108]) (.sstr 2 0 600)]) (k4 ++ knV (aT 0) 0 ++ knV (aC 1 0) 1) [qNew] 300 100 (.fn 3) [.str [43], aT 0, aC 1 0] (heapG gItoa 5) (fun v _ => sameV v (.bool true)) = true := by kernel_rfl
theorem rn141 : evSm (envG [] [.bin .add (.sstr 0 0 300) (.str [102, 97, 108, 115, 101]) (.sstr 2 0 600)]) (k4 ++ knV (aT 0) 0 ++ knV (aC 2 0) 1) [qNew] 300 100 (.fn 3) [.str [43], aT 0, aC 2 0] (heapG gItoa 5) (fun v _ => sameV v (.bool true)) = true := by kernel_rfl
theorem rn142 : evSm (envG [] [.bin .add (.sstr 0 0 300) (.str [116, 114, 117, 101]) (.sstr 2 0 600)]) (k4 ++ knV (aT 0) 0 ++ knV (aC 2 1) 1) [qNew] 300 100 (.fn 3) [.str [43], aT 0, aC 2 1] (heapG gItoa 5) (fun v _ => sameV v (.bool true)) = true := by kernel_rfl
theorem rn143 : evSm (envG [] [.bin .add (.sstr 0 0 300) (.sstr 3 1 21) (.sstr 2 0 600)]) (k4 ++ knV (aT 0) 0 ++ knV (aN 1) 1) [qItoa (.sint .i64 (.var 3) (-9007199254740992) 9007199254740992) 3 0, qItoa (.sint .i64 (.var 3) (-9007199254740992) 9007199254740992) 3 1, qItoa (.sint .i64 (.var 3) (-9007199254740992) 9007199254740992) 3 2, qItoa (.sint .i64 (.var 3) (-9007199254740992) 9007199254740992) 3 3, qNew] 300 100 (.fn 3) [.str [43], aT 0, aN 1] (heapG gItoa 5) (fun v _ => sameV v (.bool true)) = true := by kernel_rfl
theorem rn144 : evSm (envG [] [.bin .add (.sstr 0 0 300) (.str [78, 97, 78]) (.sstr 2 0 600)]) (k4 ++ knV (aT 0) 0 ++ knV (aC 4 0) 1) [qNew] 300 100 (.fn 3) [.str [43], aT 0, aC 4 0] (heapG gItoa 5) (fun v _ => sameV v (.bool true)) = true := by kernel_rfl
theorem rn145 : evSm (envG [] [.bin .add (.str [117, 110, 100, 101, 102, 105, 110, 101, 100]) (.sstr 1 0 300) (.sstr 2 0 600)]) (k4 ++ knV (aC 0 0) 0 ++ knV (aT 1) 1) [qNew] 300 100 (.fn 3) [.str [43], aC 0 0, aT 1] (heapG gItoa 5) (fun v _ => sameV v (.bool true)) = true := by kernel_rfl
theorem rn146 : evSm (envG [] [.bin .add (.str [110, 117, 108, 108]) (.sstr 1 0 300) (.sstr 2 0 600)]) (k4 ++ knV (aC 1 0) 0 ++ knV (aT 1) 1) [qNew] 300 100 (.fn 3) [.str [43], aC 1 0, aT 1] (heapG gItoa 5) (fun v _ => sameV v (.bool true)) = true := by kernel_rfl
theorem rn147 : evSm (envG [] [.bin .add (.str [102, 97, 108, 115, 101]) (.sstr 1 0 300) (.sstr 2 0 600)]) (k4 ++ knV (aC 2 0) 0 ++ knV (aT 1) 1) [qNew] 300 100 (.fn 3) [.str [43], aC 2 0, aT 1] (heapG gItoa 5) (fun v _ => sameV v (.bool true)) = true := by kernel_rfl
theorem rn148 : evSm (envG [] [.bin .add (.str [116, 114, 117, 101]) (.sstr 1 0 300) (.sstr 2 0 600)]) (k4 ++ knV (aC 2 1) 0 ++ knV (aT 1) 1) [qNew] 300 100 (.fn 3) [.str [43], aC 2 1, aT 1] (heapG gItoa 5) (fun v _ => sameV v (.bool true)) = true := by kernel_rfl
theorem rn149 : evSm (envG [] [.bin .add (.sstr 3 1 21) (.sstr 1 0 300) (.sstr 2 0 600)]) (k4 ++ knV (aN 0) 0 ++ knV (aT 1) 1) [qItoa (.sint .i64 (.var 1) (-9007199254740992) 9007199254740992) 3 0, qItoa (.sint .i64 (.var 1) (-9007199254740992) 9007199254740992) 3 1, qItoa (.sint .i64 (.var 1) (-9007199254740992) 9007199254740992) 3 2, qItoa (.sint .i64 (.var 1) (-9007199254740992) 9007199254740992) 3 3, qNew] 300 100 (.fn 3) [.str [43], aN 0, aT 1] (heapG gItoa 5) (fun v _ => sameV v (.bool true)) = true := by kernel_rfl
theorem rn150 : evSm (envG [] [.bin .add (.str [78, 97, 78]) (.sstr 1 0 300) (.sstr 2 0 600)]) (k4 ++ knV (aC 4 0) 0 ++ knV (aT 1) 1) [qNew] 300 100 (.fn 3) [.str [43], aC 4 0, aT 1] (heapG gItoa 5) (fun v _ => sameV v (.bool true)) = true := by kernel_rfl
theorem rn151 : evSm (envG [] []) (k4 ++ knV (aG 0) 0 ++ knV (aG 1) 1) [qNew] 300 100 (.fn 3) [.sstr 100 0 9223372036854775807, aG 0, aG 1] (heapG gItoa 5) (fun v _ => sameV v (.bool true)) = true := by kernel_rfl
theorem rn152 : evSm (envG [] []) (k4 ++ knV (aG 0) 0) [qNew] 300 100 (.fn 3) [.sstr 100 0 9223372036854775807, aG 0, aS 1] (heapG gItoa 5) (fun v _ => sameV v (.bool true)) = true := by kernel_rfl
theorem rn153 : evSm (envG [] []) (k4 ++ knV (aG 1) 1) [qNew] 300 100 (.fn 3) [.sstr 100 0 9223372036854775807, aS 0, aG 1] (heapG gItoa 5) (fun v _ => sameV v (.bool true)) = true := by kernel_rfl
theorem rn154 : evSm (envG [] []) (k4) [qNew] 300 100 (.fn 3) [.sstr 100 0 9223372036854775807, aS 0, aS 1] (heapG gItoa 5) (fun v _ => sameV v (.bool true)) = true := by kernel_rfl
theorem rn155 : evSm (envG [] []) (k4 ++ knV (aG 0) 0 ++ knV (aG 1) 1) [qNew] 300 100 (.fn 3) [.str [108, 101, 110, 103, 116, 104], aG 0, aG 1] (heapG gItoa 5) (fun v _ => sameV v (.bool true)) = true := by kernel_rfl
theorem rn156 : evSm (envG [] []) (k4 ++ knV (aG 0) 0) [qNew] 300 100 (.fn 3) [.str [108, 101, 110, 103, 116, 104], aG 0, aS 1] (heapG gItoa 5) (fun v _ => sameV v (.bool true)) = true := by kernel_rfl
theorem rn157 : evSm (envG [] []) (k4 ++ knV (aG 1) 1) [qNew] 300 100 (.fn 3) [.str [108, 101, 110, 103, 116, 104], aS 0, aG 1] (heapG gItoa 5) (fun v _ => sameV v (.bool true)) = true := by kernel_rfl
theorem rn158 : evSm (envG [] []) (k4) [qNew] 300 100 (.fn 3) [.str [108, 101, 110, 103, 116, 104], aS 0, aS 1] (heapG gItoa 5) (fun v _ => sameV v (.bool true)) = true := by kernel_rfl

end Go.Proofs.YtgcmekonnliemaaGreatDoor
