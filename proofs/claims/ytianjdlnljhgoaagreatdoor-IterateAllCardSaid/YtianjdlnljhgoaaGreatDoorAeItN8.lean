/-
  IterateAll: rounds of the loop (variant, round): 2.20 2.21 2.22 2.23 2.24 2.25 2.26 2.27 2.28 2.29.
-/
import Derived.Test.YtianjdlnljhgoaaGreatDoorAeItDef
namespace Go.Proofs.YtianjdlnljhgoaaGreatDoor
open Go.AE
set_option maxRecDepth 100000
section
variable {Y : Sy}

theorem tick2_20 : SumOk Y env (tck2 20) := sum_of_run (env_ok Y) KnownOk.nil SumsOk.nil (lf := 300) (n := 100) (by kernel_rfl) (by kernel_rfl)
theorem next2_20 : SumOk Y env (nxt2 20 (us 21) (rw 21)) := sum_of_run (env_ok Y) KnownOk.nil (SumsOk.cons tick2_20 SumsOk.nil) (lf := 300) (n := 100) (by kernel_rfl) (by kernel_rfl)
theorem tick2_21 : SumOk Y env (tck2 21) := sum_of_run (env_ok Y) KnownOk.nil SumsOk.nil (lf := 300) (n := 100) (by kernel_rfl) (by kernel_rfl)
theorem next2_21 : SumOk Y env (nxt2 21 (us 22) (rw 22)) := sum_of_run (env_ok Y) KnownOk.nil (SumsOk.cons tick2_21 SumsOk.nil) (lf := 300) (n := 100) (by kernel_rfl) (by kernel_rfl)
theorem tick2_22 : SumOk Y env (tck2 22) := sum_of_run (env_ok Y) KnownOk.nil SumsOk.nil (lf := 300) (n := 100) (by kernel_rfl) (by kernel_rfl)
theorem next2_22 : SumOk Y env (nxt2 22 (us 23) (rw 23)) := sum_of_run (env_ok Y) KnownOk.nil (SumsOk.cons tick2_22 SumsOk.nil) (lf := 300) (n := 100) (by kernel_rfl) (by kernel_rfl)
theorem tick2_23 : SumOk Y env (tck2 23) := sum_of_run (env_ok Y) KnownOk.nil SumsOk.nil (lf := 300) (n := 100) (by kernel_rfl) (by kernel_rfl)
theorem next2_23 : SumOk Y env (nxt2 23 (us 24) (rw 24)) := sum_of_run (env_ok Y) KnownOk.nil (SumsOk.cons tick2_23 SumsOk.nil) (lf := 300) (n := 100) (by kernel_rfl) (by kernel_rfl)
theorem tick2_24 : SumOk Y env (tck2 24) := sum_of_run (env_ok Y) KnownOk.nil SumsOk.nil (lf := 300) (n := 100) (by kernel_rfl) (by kernel_rfl)
theorem next2_24 : SumOk Y env (nxt2 24 (us 25) (rw 25)) := sum_of_run (env_ok Y) KnownOk.nil (SumsOk.cons tick2_24 SumsOk.nil) (lf := 300) (n := 100) (by kernel_rfl) (by kernel_rfl)
theorem tick2_25 : SumOk Y env (tck2 25) := sum_of_run (env_ok Y) KnownOk.nil SumsOk.nil (lf := 300) (n := 100) (by kernel_rfl) (by kernel_rfl)
theorem next2_25 : SumOk Y env (nxt2 25 (us 26) (rw 26)) := sum_of_run (env_ok Y) KnownOk.nil (SumsOk.cons tick2_25 SumsOk.nil) (lf := 300) (n := 100) (by kernel_rfl) (by kernel_rfl)
theorem tick2_26 : SumOk Y env (tck2 26) := sum_of_run (env_ok Y) KnownOk.nil SumsOk.nil (lf := 300) (n := 100) (by kernel_rfl) (by kernel_rfl)
theorem next2_26 : SumOk Y env (nxt2 26 (us 27) (rw 27)) := sum_of_run (env_ok Y) KnownOk.nil (SumsOk.cons tick2_26 SumsOk.nil) (lf := 300) (n := 100) (by kernel_rfl) (by kernel_rfl)
theorem tick2_27 : SumOk Y env (tck2 27) := sum_of_run (env_ok Y) KnownOk.nil SumsOk.nil (lf := 300) (n := 100) (by kernel_rfl) (by kernel_rfl)
theorem next2_27 : SumOk Y env (nxt2 27 (us 28) (rw 28)) := sum_of_run (env_ok Y) KnownOk.nil (SumsOk.cons tick2_27 SumsOk.nil) (lf := 300) (n := 100) (by kernel_rfl) (by kernel_rfl)
theorem tick2_28 : SumOk Y env (tck2 28) := sum_of_run (env_ok Y) KnownOk.nil SumsOk.nil (lf := 300) (n := 100) (by kernel_rfl) (by kernel_rfl)
theorem next2_28 : SumOk Y env (nxt2 28 (us 29) (rw 29)) := sum_of_run (env_ok Y) KnownOk.nil (SumsOk.cons tick2_28 SumsOk.nil) (lf := 300) (n := 100) (by kernel_rfl) (by kernel_rfl)
theorem tick2_29 : SumOk Y env (tck2 29) := sum_of_run (env_ok Y) KnownOk.nil SumsOk.nil (lf := 300) (n := 100) (by kernel_rfl) (by kernel_rfl)
theorem next2_29 : SumOk Y env (nxt2 29 (us 30) (rw 30)) := sum_of_run (env_ok Y) KnownOk.nil (SumsOk.cons tick2_29 SumsOk.nil) (lf := 300) (n := 100) (by kernel_rfl) (by kernel_rfl)

end
end Go.Proofs.YtianjdlnljhgoaaGreatDoor
