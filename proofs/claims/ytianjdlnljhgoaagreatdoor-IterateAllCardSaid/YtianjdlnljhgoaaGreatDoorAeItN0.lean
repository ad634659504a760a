/-
  IterateAll: rounds of the loop (variant, round): 0.0 0.1 0.2 0.3 0.4 0.5 0.6 0.7 0.8 0.9.
-/
import Derived.Test.YtianjdlnljhgoaaGreatDoorAeItDef
namespace Go.Proofs.YtianjdlnljhgoaaGreatDoor
open Go.AE
set_option maxRecDepth 100000
section
variable {Y : Sy}

theorem tick0_0 : SumOk Y env (tck0 0) := sum_of_run (env_ok Y) KnownOk.nil SumsOk.nil (lf := 300) (n := 100) (by kernel_rfl) (by kernel_rfl)
theorem next0_0 : SumOk Y env (nxt0 0 (us 1) (rw 1)) := sum_of_run (env_ok Y) KnownOk.nil (SumsOk.cons tick0_0 SumsOk.nil) (lf := 300) (n := 100) (by kernel_rfl) (by kernel_rfl)
theorem tick0_1 : SumOk Y env (tck0 1) := sum_of_run (env_ok Y) KnownOk.nil SumsOk.nil (lf := 300) (n := 100) (by kernel_rfl) (by kernel_rfl)
theorem next0_1 : SumOk Y env (nxt0 1 (us 2) (rw 2)) := sum_of_run (env_ok Y) KnownOk.nil (SumsOk.cons tick0_1 SumsOk.nil) (lf := 300) (n := 100) (by kernel_rfl) (by kernel_rfl)
theorem tick0_2 : SumOk Y env (tck0 2) := sum_of_run (env_ok Y) KnownOk.nil SumsOk.nil (lf := 300) (n := 100) (by kernel_rfl) (by kernel_rfl)
theorem next0_2 : SumOk Y env (nxt0 2 (us 3) (rw 3)) := sum_of_run (env_ok Y) KnownOk.nil (SumsOk.cons tick0_2 SumsOk.nil) (lf := 300) (n := 100) (by kernel_rfl) (by kernel_rfl)
theorem tick0_3 : SumOk Y env (tck0 3) := sum_of_run (env_ok Y) KnownOk.nil SumsOk.nil (lf := 300) (n := 100) (by kernel_rfl) (by kernel_rfl)
theorem next0_3 : SumOk Y env (nxt0 3 (us 4) (rw 4)) := sum_of_run (env_ok Y) KnownOk.nil (SumsOk.cons tick0_3 SumsOk.nil) (lf := 300) (n := 100) (by kernel_rfl) (by kernel_rfl)
theorem tick0_4 : SumOk Y env (tck0 4) := sum_of_run (env_ok Y) KnownOk.nil SumsOk.nil (lf := 300) (n := 100) (by kernel_rfl) (by kernel_rfl)
theorem next0_4 : SumOk Y env (nxt0 4 (us 5) (rw 5)) := sum_of_run (env_ok Y) KnownOk.nil (SumsOk.cons tick0_4 SumsOk.nil) (lf := 300) (n := 100) (by kernel_rfl) (by kernel_rfl)
theorem tick0_5 : SumOk Y env (tck0 5) := sum_of_run (env_ok Y) KnownOk.nil SumsOk.nil (lf := 300) (n := 100) (by kernel_rfl) (by kernel_rfl)
theorem next0_5 : SumOk Y env (nxt0 5 (us 6) (rw 6)) := sum_of_run (env_ok Y) KnownOk.nil (SumsOk.cons tick0_5 SumsOk.nil) (lf := 300) (n := 100) (by kernel_rfl) (by kernel_rfl)
theorem tick0_6 : SumOk Y env (tck0 6) := sum_of_run (env_ok Y) KnownOk.nil SumsOk.nil (lf := 300) (n := 100) (by kernel_rfl) (by kernel_rfl)
theorem next0_6 : SumOk Y env (nxt0 6 (us 7) (rw 7)) := sum_of_run (env_ok Y) KnownOk.nil (SumsOk.cons tick0_6 SumsOk.nil) (lf := 300) (n := 100) (by kernel_rfl) (by kernel_rfl)
theorem tick0_7 : SumOk Y env (tck0 7) := sum_of_run (env_ok Y) KnownOk.nil SumsOk.nil (lf := 300) (n := 100) (by kernel_rfl) (by kernel_rfl)
theorem next0_7 : SumOk Y env (nxt0 7 (us 8) (rw 8)) := sum_of_run (env_ok Y) KnownOk.nil (SumsOk.cons tick0_7 SumsOk.nil) (lf := 300) (n := 100) (by kernel_rfl) (by kernel_rfl)
theorem tick0_8 : SumOk Y env (tck0 8) := sum_of_run (env_ok Y) KnownOk.nil SumsOk.nil (lf := 300) (n := 100) (by kernel_rfl) (by kernel_rfl)
theorem next0_8 : SumOk Y env (nxt0 8 (us 9) (rw 9)) := sum_of_run (env_ok Y) KnownOk.nil (SumsOk.cons tick0_8 SumsOk.nil) (lf := 300) (n := 100) (by kernel_rfl) (by kernel_rfl)
theorem tick0_9 : SumOk Y env (tck0 9) := sum_of_run (env_ok Y) KnownOk.nil SumsOk.nil (lf := 300) (n := 100) (by kernel_rfl) (by kernel_rfl)
theorem next0_9 : SumOk Y env (nxt0 9 (us 10) (rw 10)) := sum_of_run (env_ok Y) KnownOk.nil (SumsOk.cons tick0_9 SumsOk.nil) (lf := 300) (n := 100) (by kernel_rfl) (by kernel_rfl)

end
end Go.Proofs.YtianjdlnljhgoaaGreatDoor
