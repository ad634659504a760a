/-
  IterateAll: rounds of the loop (variant, round): 0.20 0.21 0.22 0.23 0.24 0.25 0.26 0.27 0.28 0.29.
-/
import Derived.Test.YtianjdlnljhgoaaGreatDoorAeItDef
namespace Go.Proofs.YtianjdlnljhgoaaGreatDoor
open Go.AE
set_option maxRecDepth 100000
section
variable {Y : Sy}

theorem tick0_20 : SumOk Y env (tck0 20) := sum_of_run (env_ok Y) KnownOk.nil SumsOk.nil (lf := 300) (n := 100) (by kernel_rfl) (by kernel_rfl)
theorem next0_20 : SumOk Y env (nxt0 20 (us 21) (rw 21)) := sum_of_run (env_ok Y) KnownOk.nil (SumsOk.cons tick0_20 SumsOk.nil) (lf := 300) (n := 100) (by kernel_rfl) (by kernel_rfl)
theorem tick0_21 : SumOk Y env (tck0 21) := sum_of_run (env_ok Y) KnownOk.nil SumsOk.nil (lf := 300) (n := 100) (by kernel_rfl) (by kernel_rfl)
theorem next0_21 : SumOk Y env (nxt0 21 (us 22) (rw 22)) := sum_of_run (env_ok Y) KnownOk.nil (SumsOk.cons tick0_21 SumsOk.nil) (lf := 300) (n := 100) (by kernel_rfl) (by kernel_rfl)
theorem tick0_22 : SumOk Y env (tck0 22) := sum_of_run (env_ok Y) KnownOk.nil SumsOk.nil (lf := 300) (n := 100) (by kernel_rfl) (by kernel_rfl)
theorem next0_22 : SumOk Y env (nxt0 22 (us 23) (rw 23)) := sum_of_run (env_ok Y) KnownOk.nil (SumsOk.cons tick0_22 SumsOk.nil) (lf := 300) (n := 100) (by kernel_rfl) (by kernel_rfl)
theorem tick0_23 : SumOk Y env (tck0 23) := sum_of_run (env_ok Y) KnownOk.nil SumsOk.nil (lf := 300) (n := 100) (by kernel_rfl) (by kernel_rfl)
theorem next0_23 : SumOk Y env (nxt0 23 (us 24) (rw 24)) := sum_of_run (env_ok Y) KnownOk.nil (SumsOk.cons tick0_23 SumsOk.nil) (lf := 300) (n := 100) (by kernel_rfl) (by kernel_rfl)
theorem tick0_24 : SumOk Y env (tck0 24) := sum_of_run (env_ok Y) KnownOk.nil SumsOk.nil (lf := 300) (n := 100) (by kernel_rfl) (by kernel_rfl)
theorem next0_24 : SumOk Y env (nxt0 24 (us 25) (rw 25)) := sum_of_run (env_ok Y) KnownOk.nil (SumsOk.cons tick0_24 SumsOk.nil) (lf := 300) (n := 100) (by kernel_rfl) (by kernel_rfl)
theorem tick0_25 : SumOk Y env (tck0 25) := sum_of_run (env_ok Y) KnownOk.nil SumsOk.nil (lf := 300) (n := 100) (by kernel_rfl) (by kernel_rfl)
theorem next0_25 : SumOk Y env (nxt0 25 (us 26) (rw 26)) := sum_of_run (env_ok Y) KnownOk.nil (SumsOk.cons tick0_25 SumsOk.nil) (lf := 300) (n := 100) (by kernel_rfl) (by kernel_rfl)
theorem tick0_26 : SumOk Y env (tck0 26) := sum_of_run (env_ok Y) KnownOk.nil SumsOk.nil (lf := 300) (n := 100) (by kernel_rfl) (by kernel_rfl)
theorem next0_26 : SumOk Y env (nxt0 26 (us 27) (rw 27)) := sum_of_run (env_ok Y) KnownOk.nil (SumsOk.cons tick0_26 SumsOk.nil) (lf := 300) (n := 100) (by kernel_rfl) (by kernel_rfl)
theorem tick0_27 : SumOk Y env (tck0 27) := sum_of_run (env_ok Y) KnownOk.nil SumsOk.nil (lf := 300) (n := 100) (by kernel_rfl) (by kernel_rfl)
theorem next0_27 : SumOk Y env (nxt0 27 (us 28) (rw 28)) := sum_of_run (env_ok Y) KnownOk.nil (SumsOk.cons tick0_27 SumsOk.nil) (lf := 300) (n := 100) (by kernel_rfl) (by kernel_rfl)
theorem tick0_28 : SumOk Y env (tck0 28) := sum_of_run (env_ok Y) KnownOk.nil SumsOk.nil (lf := 300) (n := 100) (by kernel_rfl) (by kernel_rfl)
theorem next0_28 : SumOk Y env (nxt0 28 (us 29) (rw 29)) := sum_of_run (env_ok Y) KnownOk.nil (SumsOk.cons tick0_28 SumsOk.nil) (lf := 300) (n := 100) (by kernel_rfl) (by kernel_rfl)
theorem tick0_29 : SumOk Y env (tck0 29) := sum_of_run (env_ok Y) KnownOk.nil SumsOk.nil (lf := 300) (n := 100) (by kernel_rfl) (by kernel_rfl)
theorem next0_29 : SumOk Y env (nxt0 29 (us 30) (rw 30)) := sum_of_run (env_ok Y) KnownOk.nil (SumsOk.cons tick0_29 SumsOk.nil) (lf := 300) (n := 100) (by kernel_rfl) (by kernel_rfl)

end
end Go.Proofs.YtianjdlnljhgoaaGreatDoor
