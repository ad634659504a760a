/-
  IterateAll: rounds of the loop (variant, round): 3.0 3.1 3.2 3.3 3.4 3.5 3.6 3.7 3.8 3.9.
-/
import Derived.Test.YtianjdlnljhgoaaGreatDoorAeItDef
namespace Go.Proofs.YtianjdlnljhgoaaGreatDoor
open Go.AE
set_option maxRecDepth 100000
section
variable {Y : Sy}

theorem tick3_0 : SumOk Y env (tck3 0) := sum_of_run (env_ok Y) KnownOk.nil SumsOk.nil (lf := 300) (n := 100) (by kernel_rfl) (by kernel_rfl)
theorem next3_0 : SumOk Y env (nxt3 0 (us 1) (rw 1)) := sum_of_run (env_ok Y) KnownOk.nil (SumsOk.cons tick3_0 SumsOk.nil) (lf := 300) (n := 100) (by kernel_rfl) (by kernel_rfl)
theorem tick3_1 : SumOk Y env (tck3 1) := sum_of_run (env_ok Y) KnownOk.nil SumsOk.nil (lf := 300) (n := 100) (by kernel_rfl) (by kernel_rfl)
theorem next3_1 : SumOk Y env (nxt3 1 (us 2) (rw 2)) := sum_of_run (env_ok Y) KnownOk.nil (SumsOk.cons tick3_1 SumsOk.nil) (lf := 300) (n := 100) (by kernel_rfl) (by kernel_rfl)
theorem tick3_2 : SumOk Y env (tck3 2) := sum_of_run (env_ok Y) KnownOk.nil SumsOk.nil (lf := 300) (n := 100) (by kernel_rfl) (by kernel_rfl)
theorem next3_2 : SumOk Y env (nxt3 2 (us 3) (rw 3)) := sum_of_run (env_ok Y) KnownOk.nil (SumsOk.cons tick3_2 SumsOk.nil) (lf := 300) (n := 100) (by kernel_rfl) (by kernel_rfl)
theorem tick3_3 : SumOk Y env (tck3 3) := sum_of_run (env_ok Y) KnownOk.nil SumsOk.nil (lf := 300) (n := 100) (by kernel_rfl) (by kernel_rfl)
theorem next3_3 : SumOk Y env (nxt3 3 (us 4) (rw 4)) := sum_of_run (env_ok Y) KnownOk.nil (SumsOk.cons tick3_3 SumsOk.nil) (lf := 300) (n := 100) (by kernel_rfl) (by kernel_rfl)
theorem tick3_4 : SumOk Y env (tck3 4) := sum_of_run (env_ok Y) KnownOk.nil SumsOk.nil (lf := 300) (n := 100) (by kernel_rfl) (by kernel_rfl)
theorem next3_4 : SumOk Y env (nxt3 4 (us 5) (rw 5)) := sum_of_run (env_ok Y) KnownOk.nil (SumsOk.cons tick3_4 SumsOk.nil) (lf := 300) (n := 100) (by kernel_rfl) (by kernel_rfl)
theorem tick3_5 : SumOk Y env (tck3 5) := sum_of_run (env_ok Y) KnownOk.nil SumsOk.nil (lf := 300) (n := 100) (by kernel_rfl) (by kernel_rfl)
theorem next3_5 : SumOk Y env (nxt3 5 (us 6) (rw 6)) := sum_of_run (env_ok Y) KnownOk.nil (SumsOk.cons tick3_5 SumsOk.nil) (lf := 300) (n := 100) (by kernel_rfl) (by kernel_rfl)
theorem tick3_6 : SumOk Y env (tck3 6) := sum_of_run (env_ok Y) KnownOk.nil SumsOk.nil (lf := 300) (n := 100) (by kernel_rfl) (by kernel_rfl)
theorem next3_6 : SumOk Y env (nxt3 6 (us 7) (rw 7)) := sum_of_run (env_ok Y) KnownOk.nil (SumsOk.cons tick3_6 SumsOk.nil) (lf := 300) (n := 100) (by kernel_rfl) (by kernel_rfl)
theorem tick3_7 : SumOk Y env (tck3 7) := sum_of_run (env_ok Y) KnownOk.nil SumsOk.nil (lf := 300) (n := 100) (by kernel_rfl) (by kernel_rfl)
theorem next3_7 : SumOk Y env (nxt3 7 (us 8) (rw 8)) := sum_of_run (env_ok Y) KnownOk.nil (SumsOk.cons tick3_7 SumsOk.nil) (lf := 300) (n := 100) (by kernel_rfl) (by kernel_rfl)
theorem tick3_8 : SumOk Y env (tck3 8) := sum_of_run (env_ok Y) KnownOk.nil SumsOk.nil (lf := 300) (n := 100) (by kernel_rfl) (by kernel_rfl)
theorem next3_8 : SumOk Y env (nxt3 8 (us 9) (rw 9)) := sum_of_run (env_ok Y) KnownOk.nil (SumsOk.cons tick3_8 SumsOk.nil) (lf := 300) (n := 100) (by kernel_rfl) (by kernel_rfl)
theorem tick3_9 : SumOk Y env (tck3 9) := sum_of_run (env_ok Y) KnownOk.nil SumsOk.nil (lf := 300) (n := 100) (by kernel_rfl) (by kernel_rfl)
theorem next3_9 : SumOk Y env (nxt3 9 (us 10) (rw 10)) := sum_of_run (env_ok Y) KnownOk.nil (SumsOk.cons tick3_9 SumsOk.nil) (lf := 300) (n := 100) (by kernel_rfl) (by kernel_rfl)

end
end Go.Proofs.YtianjdlnljhgoaaGreatDoor
