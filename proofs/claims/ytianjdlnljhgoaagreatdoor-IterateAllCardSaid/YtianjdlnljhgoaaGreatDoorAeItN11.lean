/-
  IterateAll: rounds of the loop (variant, round): 3.20 3.21 3.22 3.23 3.24 3.25 3.26 3.27 3.28 3.29.
-/
import Derived.Test.YtianjdlnljhgoaaGreatDoorAeItDef
namespace Go.Proofs.YtianjdlnljhgoaaGreatDoor
open Go.AE
set_option maxRecDepth 100000
section
variable {Y : Sy}

theorem tick3_20 : SumOk Y env (tck3 20) := sum_of_run (env_ok Y) KnownOk.nil SumsOk.nil (lf := 300) (n := 100) (by kernel_rfl) (by kernel_rfl)
theorem next3_20 : SumOk Y env (nxt3 20 (us 21) (rw 21)) := sum_of_run (env_ok Y) KnownOk.nil (SumsOk.cons tick3_20 SumsOk.nil) (lf := 300) (n := 100) (by kernel_rfl) (by kernel_rfl)
theorem tick3_21 : SumOk Y env (tck3 21) := sum_of_run (env_ok Y) KnownOk.nil SumsOk.nil (lf := 300) (n := 100) (by kernel_rfl) (by kernel_rfl)
theorem next3_21 : SumOk Y env (nxt3 21 (us 22) (rw 22)) := sum_of_run (env_ok Y) KnownOk.nil (SumsOk.cons tick3_21 SumsOk.nil) (lf := 300) (n := 100) (by kernel_rfl) (by kernel_rfl)
theorem tick3_22 : SumOk Y env (tck3 22) := sum_of_run (env_ok Y) KnownOk.nil SumsOk.nil (lf := 300) (n := 100) (by kernel_rfl) (by kernel_rfl)
theorem next3_22 : SumOk Y env (nxt3 22 (us 23) (rw 23)) := sum_of_run (env_ok Y) KnownOk.nil (SumsOk.cons tick3_22 SumsOk.nil) (lf := 300) (n := 100) (by kernel_rfl) (by kernel_rfl)
theorem tick3_23 : SumOk Y env (tck3 23) := sum_of_run (env_ok Y) KnownOk.nil SumsOk.nil (lf := 300) (n := 100) (by kernel_rfl) (by kernel_rfl)
theorem next3_23 : SumOk Y env (nxt3 23 (us 24) (rw 24)) := sum_of_run (env_ok Y) KnownOk.nil (SumsOk.cons tick3_23 SumsOk.nil) (lf := 300) (n := 100) (by kernel_rfl) (by kernel_rfl)
theorem tick3_24 : SumOk Y env (tck3 24) := sum_of_run (env_ok Y) KnownOk.nil SumsOk.nil (lf := 300) (n := 100) (by kernel_rfl) (by kernel_rfl)
theorem next3_24 : SumOk Y env (nxt3 24 (us 25) (rw 25)) := sum_of_run (env_ok Y) KnownOk.nil (SumsOk.cons tick3_24 SumsOk.nil) (lf := 300) (n := 100) (by kernel_rfl) (by kernel_rfl)
theorem tick3_25 : SumOk Y env (tck3 25) := sum_of_run (env_ok Y) KnownOk.nil SumsOk.nil (lf := 300) (n := 100) (by kernel_rfl) (by kernel_rfl)
theorem next3_25 : SumOk Y env (nxt3 25 (us 26) (rw 26)) := sum_of_run (env_ok Y) KnownOk.nil (SumsOk.cons tick3_25 SumsOk.nil) (lf := 300) (n := 100) (by kernel_rfl) (by kernel_rfl)
theorem tick3_26 : SumOk Y env (tck3 26) := sum_of_run (env_ok Y) KnownOk.nil SumsOk.nil (lf := 300) (n := 100) (by kernel_rfl) (by kernel_rfl)
theorem next3_26 : SumOk Y env (nxt3 26 (us 27) (rw 27)) := sum_of_run (env_ok Y) KnownOk.nil (SumsOk.cons tick3_26 SumsOk.nil) (lf := 300) (n := 100) (by kernel_rfl) (by kernel_rfl)
theorem tick3_27 : SumOk Y env (tck3 27) := sum_of_run (env_ok Y) KnownOk.nil SumsOk.nil (lf := 300) (n := 100) (by kernel_rfl) (by kernel_rfl)
theorem next3_27 : SumOk Y env (nxt3 27 (us 28) (rw 28)) := sum_of_run (env_ok Y) KnownOk.nil (SumsOk.cons tick3_27 SumsOk.nil) (lf := 300) (n := 100) (by kernel_rfl) (by kernel_rfl)
theorem tick3_28 : SumOk Y env (tck3 28) := sum_of_run (env_ok Y) KnownOk.nil SumsOk.nil (lf := 300) (n := 100) (by kernel_rfl) (by kernel_rfl)
theorem next3_28 : SumOk Y env (nxt3 28 (us 29) (rw 29)) := sum_of_run (env_ok Y) KnownOk.nil (SumsOk.cons tick3_28 SumsOk.nil) (lf := 300) (n := 100) (by kernel_rfl) (by kernel_rfl)
theorem tick3_29 : SumOk Y env (tck3 29) := sum_of_run (env_ok Y) KnownOk.nil SumsOk.nil (lf := 300) (n := 100) (by kernel_rfl) (by kernel_rfl)
theorem next3_29 : SumOk Y env (nxt3 29 (us 30) (rw 30)) := sum_of_run (env_ok Y) KnownOk.nil (SumsOk.cons tick3_29 SumsOk.nil) (lf := 300) (n := 100) (by kernel_rfl) (by kernel_rfl)

end
end Go.Proofs.YtianjdlnljhgoaaGreatDoor
