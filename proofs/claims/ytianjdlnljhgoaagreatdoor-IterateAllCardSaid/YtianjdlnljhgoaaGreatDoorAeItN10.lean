/-
  IterateAll: rounds of the loop (variant, round): 3.10 3.11 3.12 3.13 3.14 3.15 3.16 3.17 3.18 3.19.
-/
import Derived.Test.YtianjdlnljhgoaaGreatDoorAeItDef
namespace Go.Proofs.YtianjdlnljhgoaaGreatDoor
open Go.AE
set_option maxRecDepth 100000
section
variable {Y : Sy}

theorem tick3_10 : SumOk Y env (tck3 10) := sum_of_run (env_ok Y) KnownOk.nil SumsOk.nil (lf := 300) (n := 100) (by kernel_rfl) (by kernel_rfl)
theorem next3_10 : SumOk Y env (nxt3 10 (us 11) (rw 11)) := sum_of_run (env_ok Y) KnownOk.nil (SumsOk.cons tick3_10 SumsOk.nil) (lf := 300) (n := 100) (by kernel_rfl) (by kernel_rfl)
theorem tick3_11 : SumOk Y env (tck3 11) := sum_of_run (env_ok Y) KnownOk.nil SumsOk.nil (lf := 300) (n := 100) (by kernel_rfl) (by kernel_rfl)
theorem next3_11 : SumOk Y env (nxt3 11 (us 12) (rw 12)) := sum_of_run (env_ok Y) KnownOk.nil (SumsOk.cons tick3_11 SumsOk.nil) (lf := 300) (n := 100) (by kernel_rfl) (by kernel_rfl)
theorem tick3_12 : SumOk Y env (tck3 12) := sum_of_run (env_ok Y) KnownOk.nil SumsOk.nil (lf := 300) (n := 100) (by kernel_rfl) (by kernel_rfl)
theorem next3_12 : SumOk Y env (nxt3 12 (us 13) (rw 13)) := sum_of_run (env_ok Y) KnownOk.nil (SumsOk.cons tick3_12 SumsOk.nil) (lf := 300) (n := 100) (by kernel_rfl) (by kernel_rfl)
theorem tick3_13 : SumOk Y env (tck3 13) := sum_of_run (env_ok Y) KnownOk.nil SumsOk.nil (lf := 300) (n := 100) (by kernel_rfl) (by kernel_rfl)
theorem next3_13 : SumOk Y env (nxt3 13 (us 14) (rw 14)) := sum_of_run (env_ok Y) KnownOk.nil (SumsOk.cons tick3_13 SumsOk.nil) (lf := 300) (n := 100) (by kernel_rfl) (by kernel_rfl)
theorem tick3_14 : SumOk Y env (tck3 14) := sum_of_run (env_ok Y) KnownOk.nil SumsOk.nil (lf := 300) (n := 100) (by kernel_rfl) (by kernel_rfl)
theorem next3_14 : SumOk Y env (nxt3 14 (us 15) (rw 15)) := sum_of_run (env_ok Y) KnownOk.nil (SumsOk.cons tick3_14 SumsOk.nil) (lf := 300) (n := 100) (by kernel_rfl) (by kernel_rfl)
theorem tick3_15 : SumOk Y env (tck3 15) := sum_of_run (env_ok Y) KnownOk.nil SumsOk.nil (lf := 300) (n := 100) (by kernel_rfl) (by kernel_rfl)
theorem next3_15 : SumOk Y env (nxt3 15 (us 16) (rw 16)) := sum_of_run (env_ok Y) KnownOk.nil (SumsOk.cons tick3_15 SumsOk.nil) (lf := 300) (n := 100) (by kernel_rfl) (by kernel_rfl)
theorem tick3_16 : SumOk Y env (tck3 16) := sum_of_run (env_ok Y) KnownOk.nil SumsOk.nil (lf := 300) (n := 100) (by kernel_rfl) (by kernel_rfl)
theorem next3_16 : SumOk Y env (nxt3 16 (us 17) (rw 17)) := sum_of_run (env_ok Y) KnownOk.nil (SumsOk.cons tick3_16 SumsOk.nil) (lf := 300) (n := 100) (by kernel_rfl) (by kernel_rfl)
theorem tick3_17 : SumOk Y env (tck3 17) := sum_of_run (env_ok Y) KnownOk.nil SumsOk.nil (lf := 300) (n := 100) (by kernel_rfl) (by kernel_rfl)
theorem next3_17 : SumOk Y env (nxt3 17 (us 18) (rw 18)) := sum_of_run (env_ok Y) KnownOk.nil (SumsOk.cons tick3_17 SumsOk.nil) (lf := 300) (n := 100) (by kernel_rfl) (by kernel_rfl)
theorem tick3_18 : SumOk Y env (tck3 18) := sum_of_run (env_ok Y) KnownOk.nil SumsOk.nil (lf := 300) (n := 100) (by kernel_rfl) (by kernel_rfl)
theorem next3_18 : SumOk Y env (nxt3 18 (us 19) (rw 19)) := sum_of_run (env_ok Y) KnownOk.nil (SumsOk.cons tick3_18 SumsOk.nil) (lf := 300) (n := 100) (by kernel_rfl) (by kernel_rfl)
theorem tick3_19 : SumOk Y env (tck3 19) := sum_of_run (env_ok Y) KnownOk.nil SumsOk.nil (lf := 300) (n := 100) (by kernel_rfl) (by kernel_rfl)
theorem next3_19 : SumOk Y env (nxt3 19 (us 20) (rw 20)) := sum_of_run (env_ok Y) KnownOk.nil (SumsOk.cons tick3_19 SumsOk.nil) (lf := 300) (n := 100) (by kernel_rfl) (by kernel_rfl)

end
end Go.Proofs.YtianjdlnljhgoaaGreatDoor
