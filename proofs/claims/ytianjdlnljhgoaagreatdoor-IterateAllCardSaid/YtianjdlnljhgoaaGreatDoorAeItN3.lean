/-
  IterateAll: rounds of the loop (variant, round): 1.0 1.1 1.2 1.3 1.4 1.5 1.6 1.7 1.8 1.9.
-/
import Derived.Test.YtianjdlnljhgoaaGreatDoorAeItDef
namespace Go.Proofs.YtianjdlnljhgoaaGreatDoor
open Go.AE
set_option maxRecDepth 100000
section
variable {Y : Sy}

theorem tick1_0 : SumOk Y env (tck1 0) := sum_of_run (env_ok Y) KnownOk.nil SumsOk.nil (lf := 300) (n := 100) (by kernel_rfl) (by kernel_rfl)
theorem next1_0 : SumOk Y env (nxt1 0 (us 1) (rw 1)) := sum_of_run (env_ok Y) KnownOk.nil (SumsOk.cons tick1_0 SumsOk.nil) (lf := 300) (n := 100) (by kernel_rfl) (by kernel_rfl)
theorem tick1_1 : SumOk Y env (tck1 1) := sum_of_run (env_ok Y) KnownOk.nil SumsOk.nil (lf := 300) (n := 100) (by kernel_rfl) (by kernel_rfl)
theorem next1_1 : SumOk Y env (nxt1 1 (us 2) (rw 2)) := sum_of_run (env_ok Y) KnownOk.nil (SumsOk.cons tick1_1 SumsOk.nil) (lf := 300) (n := 100) (by kernel_rfl) (by kernel_rfl)
theorem tick1_2 : SumOk Y env (tck1 2) := sum_of_run (env_ok Y) KnownOk.nil SumsOk.nil (lf := 300) (n := 100) (by kernel_rfl) (by kernel_rfl)
theorem next1_2 : SumOk Y env (nxt1 2 (us 3) (rw 3)) := sum_of_run (env_ok Y) KnownOk.nil (SumsOk.cons tick1_2 SumsOk.nil) (lf := 300) (n := 100) (by kernel_rfl) (by kernel_rfl)
theorem tick1_3 : SumOk Y env (tck1 3) := sum_of_run (env_ok Y) KnownOk.nil SumsOk.nil (lf := 300) (n := 100) (by kernel_rfl) (by kernel_rfl)
theorem next1_3 : SumOk Y env (nxt1 3 (us 4) (rw 4)) := sum_of_run (env_ok Y) KnownOk.nil (SumsOk.cons tick1_3 SumsOk.nil) (lf := 300) (n := 100) (by kernel_rfl) (by kernel_rfl)
theorem tick1_4 : SumOk Y env (tck1 4) := sum_of_run (env_ok Y) KnownOk.nil SumsOk.nil (lf := 300) (n := 100) (by kernel_rfl) (by kernel_rfl)
theorem next1_4 : SumOk Y env (nxt1 4 (us 5) (rw 5)) := sum_of_run (env_ok Y) KnownOk.nil (SumsOk.cons tick1_4 SumsOk.nil) (lf := 300) (n := 100) (by kernel_rfl) (by kernel_rfl)
theorem tick1_5 : SumOk Y env (tck1 5) := sum_of_run (env_ok Y) KnownOk.nil SumsOk.nil (lf := 300) (n := 100) (by kernel_rfl) (by kernel_rfl)
theorem next1_5 : SumOk Y env (nxt1 5 (us 6) (rw 6)) := sum_of_run (env_ok Y) KnownOk.nil (SumsOk.cons tick1_5 SumsOk.nil) (lf := 300) (n := 100) (by kernel_rfl) (by kernel_rfl)
theorem tick1_6 : SumOk Y env (tck1 6) := sum_of_run (env_ok Y) KnownOk.nil SumsOk.nil (lf := 300) (n := 100) (by kernel_rfl) (by kernel_rfl)
theorem next1_6 : SumOk Y env (nxt1 6 (us 7) (rw 7)) := sum_of_run (env_ok Y) KnownOk.nil (SumsOk.cons tick1_6 SumsOk.nil) (lf := 300) (n := 100) (by kernel_rfl) (by kernel_rfl)
theorem tick1_7 : SumOk Y env (tck1 7) := sum_of_run (env_ok Y) KnownOk.nil SumsOk.nil (lf := 300) (n := 100) (by kernel_rfl) (by kernel_rfl)
theorem next1_7 : SumOk Y env (nxt1 7 (us 8) (rw 8)) := sum_of_run (env_ok Y) KnownOk.nil (SumsOk.cons tick1_7 SumsOk.nil) (lf := 300) (n := 100) (by kernel_rfl) (by kernel_rfl)
theorem tick1_8 : SumOk Y env (tck1 8) := sum_of_run (env_ok Y) KnownOk.nil SumsOk.nil (lf := 300) (n := 100) (by kernel_rfl) (by kernel_rfl)
theorem next1_8 : SumOk Y env (nxt1 8 (us 9) (rw 9)) := sum_of_run (env_ok Y) KnownOk.nil (SumsOk.cons tick1_8 SumsOk.nil) (lf := 300) (n := 100) (by kernel_rfl) (by kernel_rfl)
theorem tick1_9 : SumOk Y env (tck1 9) := sum_of_run (env_ok Y) KnownOk.nil SumsOk.nil (lf := 300) (n := 100) (by kernel_rfl) (by kernel_rfl)
theorem next1_9 : SumOk Y env (nxt1 9 (us 10) (rw 10)) := sum_of_run (env_ok Y) KnownOk.nil (SumsOk.cons tick1_9 SumsOk.nil) (lf := 300) (n := 100) (by kernel_rfl) (by kernel_rfl)

end
end Go.Proofs.YtianjdlnljhgoaaGreatDoor
