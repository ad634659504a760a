/-
  IterateAll: rounds of the loop (variant, round): 2.0 2.1 2.2 2.3 2.4 2.5 2.6 2.7 2.8 2.9.
-/
import Derived.Test.YtianjdlnljhgoaaGreatDoorAeItDef
namespace Go.Proofs.YtianjdlnljhgoaaGreatDoor
open Go.AE
set_option maxRecDepth 100000
section
variable {Y : Sy}

theorem tick2_0 : SumOk Y env (tck2 0) := sum_of_run (env_ok Y) KnownOk.nil SumsOk.nil (lf := 300) (n := 100) (by kernel_rfl) (by kernel_rfl)
theorem next2_0 : SumOk Y env (nxt2 0 (us 1) (rw 1)) := sum_of_run (env_ok Y) KnownOk.nil (SumsOk.cons tick2_0 SumsOk.nil) (lf := 300) (n := 100) (by kernel_rfl) (by kernel_rfl)
theorem tick2_1 : SumOk Y env (tck2 1) := sum_of_run (env_ok Y) KnownOk.nil SumsOk.nil (lf := 300) (n := 100) (by kernel_rfl) (by kernel_rfl)
theorem next2_1 : SumOk Y env (nxt2 1 (us 2) (rw 2)) := sum_of_run (env_ok Y) KnownOk.nil (SumsOk.cons tick2_1 SumsOk.nil) (lf := 300) (n := 100) (by kernel_rfl) (by kernel_rfl)
theorem tick2_2 : SumOk Y env (tck2 2) := sum_of_run (env_ok Y) KnownOk.nil SumsOk.nil (lf := 300) (n := 100) (by kernel_rfl) (by kernel_rfl)
theorem next2_2 : SumOk Y env (nxt2 2 (us 3) (rw 3)) := sum_of_run (env_ok Y) KnownOk.nil (SumsOk.cons tick2_2 SumsOk.nil) (lf := 300) (n := 100) (by kernel_rfl) (by kernel_rfl)
theorem tick2_3 : SumOk Y env (tck2 3) := sum_of_run (env_ok Y) KnownOk.nil SumsOk.nil (lf := 300) (n := 100) (by kernel_rfl) (by kernel_rfl)
theorem next2_3 : SumOk Y env (nxt2 3 (us 4) (rw 4)) := sum_of_run (env_ok Y) KnownOk.nil (SumsOk.cons tick2_3 SumsOk.nil) (lf := 300) (n := 100) (by kernel_rfl) (by kernel_rfl)
theorem tick2_4 : SumOk Y env (tck2 4) := sum_of_run (env_ok Y) KnownOk.nil SumsOk.nil (lf := 300) (n := 100) (by kernel_rfl) (by kernel_rfl)
theorem next2_4 : SumOk Y env (nxt2 4 (us 5) (rw 5)) := sum_of_run (env_ok Y) KnownOk.nil (SumsOk.cons tick2_4 SumsOk.nil) (lf := 300) (n := 100) (by kernel_rfl) (by kernel_rfl)
theorem tick2_5 : SumOk Y env (tck2 5) := sum_of_run (env_ok Y) KnownOk.nil SumsOk.nil (lf := 300) (n := 100) (by kernel_rfl) (by kernel_rfl)
theorem next2_5 : SumOk Y env (nxt2 5 (us 6) (rw 6)) := sum_of_run (env_ok Y) KnownOk.nil (SumsOk.cons tick2_5 SumsOk.nil) (lf := 300) (n := 100) (by kernel_rfl) (by kernel_rfl)
theorem tick2_6 : SumOk Y env (tck2 6) := sum_of_run (env_ok Y) KnownOk.nil SumsOk.nil (lf := 300) (n := 100) (by kernel_rfl) (by kernel_rfl)
theorem next2_6 : SumOk Y env (nxt2 6 (us 7) (rw 7)) := sum_of_run (env_ok Y) KnownOk.nil (SumsOk.cons tick2_6 SumsOk.nil) (lf := 300) (n := 100) (by kernel_rfl) (by kernel_rfl)
theorem tick2_7 : SumOk Y env (tck2 7) := sum_of_run (env_ok Y) KnownOk.nil SumsOk.nil (lf := 300) (n := 100) (by kernel_rfl) (by kernel_rfl)
theorem next2_7 : SumOk Y env (nxt2 7 (us 8) (rw 8)) := sum_of_run (env_ok Y) KnownOk.nil (SumsOk.cons tick2_7 SumsOk.nil) (lf := 300) (n := 100) (by kernel_rfl) (by kernel_rfl)
theorem tick2_8 : SumOk Y env (tck2 8) := sum_of_run (env_ok Y) KnownOk.nil SumsOk.nil (lf := 300) (n := 100) (by kernel_rfl) (by kernel_rfl)
theorem next2_8 : SumOk Y env (nxt2 8 (us 9) (rw 9)) := sum_of_run (env_ok Y) KnownOk.nil (SumsOk.cons tick2_8 SumsOk.nil) (lf := 300) (n := 100) (by kernel_rfl) (by kernel_rfl)
theorem tick2_9 : SumOk Y env (tck2 9) := sum_of_run (env_ok Y) KnownOk.nil SumsOk.nil (lf := 300) (n := 100) (by kernel_rfl) (by kernel_rfl)
theorem next2_9 : SumOk Y env (nxt2 9 (us 10) (rw 10)) := sum_of_run (env_ok Y) KnownOk.nil (SumsOk.cons tick2_9 SumsOk.nil) (lf := 300) (n := 100) (by kernel_rfl) (by kernel_rfl)

end
end Go.Proofs.YtianjdlnljhgoaaGreatDoor
