/-
  IterateAll: rounds of the loop (variant, round): 1.20 1.21 1.22 1.23 1.24 1.25 1.26 1.27 1.28 1.29.
-/
import Derived.Test.YtianjdlnljhgoaaGreatDoorAeItDef
namespace Go.Proofs.YtianjdlnljhgoaaGreatDoor
open Go.AE
set_option maxRecDepth 100000
section
variable {Y : Sy}

theorem tick1_20 : SumOk Y env (tck1 20) := sum_of_run (env_ok Y) KnownOk.nil SumsOk.nil (lf := 300) (n := 100) (by kernel_rfl) (by kernel_rfl)
theorem next1_20 : SumOk Y env (nxt1 20 (us 21) (rw 21)) := sum_of_run (env_ok Y) KnownOk.nil (SumsOk.cons tick1_20 SumsOk.nil) (lf := 300) (n := 100) (by kernel_rfl) (by kernel_rfl)
theorem tick1_21 : SumOk Y env (tck1 21) := sum_of_run (env_ok Y) KnownOk.nil SumsOk.nil (lf := 300) (n := 100) (by kernel_rfl) (by kernel_rfl)
theorem next1_21 : SumOk Y env (nxt1 21 (us 22) (rw 22)) := sum_of_run (env_ok Y) KnownOk.nil (SumsOk.cons tick1_21 SumsOk.nil) (lf := 300) (n := 100) (by kernel_rfl) (by kernel_rfl)
theorem tick1_22 : SumOk Y env (tck1 22) := sum_of_run (env_ok Y) KnownOk.nil SumsOk.nil (lf := 300) (n := 100) (by kernel_rfl) (by kernel_rfl)
theorem next1_22 : SumOk Y env (nxt1 22 (us 23) (rw 23)) := sum_of_run (env_ok Y) KnownOk.nil (SumsOk.cons tick1_22 SumsOk.nil) (lf := 300) (n := 100) (by kernel_rfl) (by kernel_rfl)
theorem tick1_23 : SumOk Y env (tck1 23) := sum_of_run (env_ok Y) KnownOk.nil SumsOk.nil (lf := 300) (n := 100) (by kernel_rfl) (by kernel_rfl)
theorem next1_23 : SumOk Y env (nxt1 23 (us 24) (rw 24)) := sum_of_run (env_ok Y) KnownOk.nil (SumsOk.cons tick1_23 SumsOk.nil) (lf := 300) (n := 100) (by kernel_rfl) (by kernel_rfl)
theorem tick1_24 : SumOk Y env (tck1 24) := sum_of_run (env_ok Y) KnownOk.nil SumsOk.nil (lf := 300) (n := 100) (by kernel_rfl) (by kernel_rfl)
theorem next1_24 : SumOk Y env (nxt1 24 (us 25) (rw 25)) := sum_of_run (env_ok Y) KnownOk.nil (SumsOk.cons tick1_24 SumsOk.nil) (lf := 300) (n := 100) (by kernel_rfl) (by kernel_rfl)
theorem tick1_25 : SumOk Y env (tck1 25) := sum_of_run (env_ok Y) KnownOk.nil SumsOk.nil (lf := 300) (n := 100) (by kernel_rfl) (by kernel_rfl)
theorem next1_25 : SumOk Y env (nxt1 25 (us 26) (rw 26)) := sum_of_run (env_ok Y) KnownOk.nil (SumsOk.cons tick1_25 SumsOk.nil) (lf := 300) (n := 100) (by kernel_rfl) (by kernel_rfl)
theorem tick1_26 : SumOk Y env (tck1 26) := sum_of_run (env_ok Y) KnownOk.nil SumsOk.nil (lf := 300) (n := 100) (by kernel_rfl) (by kernel_rfl)
theorem next1_26 : SumOk Y env (nxt1 26 (us 27) (rw 27)) := sum_of_run (env_ok Y) KnownOk.nil (SumsOk.cons tick1_26 SumsOk.nil) (lf := 300) (n := 100) (by kernel_rfl) (by kernel_rfl)
theorem tick1_27 : SumOk Y env (tck1 27) := sum_of_run (env_ok Y) KnownOk.nil SumsOk.nil (lf := 300) (n := 100) (by kernel_rfl) (by kernel_rfl)
theorem next1_27 : SumOk Y env (nxt1 27 (us 28) (rw 28)) := sum_of_run (env_ok Y) KnownOk.nil (SumsOk.cons tick1_27 SumsOk.nil) (lf := 300) (n := 100) (by kernel_rfl) (by kernel_rfl)
theorem tick1_28 : SumOk Y env (tck1 28) := sum_of_run (env_ok Y) KnownOk.nil SumsOk.nil (lf := 300) (n := 100) (by kernel_rfl) (by kernel_rfl)
theorem next1_28 : SumOk Y env (nxt1 28 (us 29) (rw 29)) := sum_of_run (env_ok Y) KnownOk.nil (SumsOk.cons tick1_28 SumsOk.nil) (lf := 300) (n := 100) (by kernel_rfl) (by kernel_rfl)
theorem tick1_29 : SumOk Y env (tck1 29) := sum_of_run (env_ok Y) KnownOk.nil SumsOk.nil (lf := 300) (n := 100) (by kernel_rfl) (by kernel_rfl)
theorem next1_29 : SumOk Y env (nxt1 29 (us 30) (rw 30)) := sum_of_run (env_ok Y) KnownOk.nil (SumsOk.cons tick1_29 SumsOk.nil) (lf := 300) (n := 100) (by kernel_rfl) (by kernel_rfl)

end
end Go.Proofs.YtianjdlnljhgoaaGreatDoor
