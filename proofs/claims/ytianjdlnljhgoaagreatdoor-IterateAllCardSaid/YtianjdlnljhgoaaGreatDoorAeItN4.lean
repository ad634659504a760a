/-
  IterateAll: rounds of the loop (variant, round): 1.10 1.11 1.12 1.13 1.14 1.15 1.16 1.17 1.18 1.19.
-/
import Derived.Test.YtianjdlnljhgoaaGreatDoorAeItDef
namespace Go.Proofs.YtianjdlnljhgoaaGreatDoor
open Go.AE
set_option maxRecDepth 100000
section
variable {Y : Sy}

theorem tick1_10 : SumOk Y env (tck1 10) := sum_of_run (env_ok Y) KnownOk.nil SumsOk.nil (lf := 300) (n := 100) (by kernel_rfl) (by kernel_rfl)
theorem next1_10 : SumOk Y env (nxt1 10 (us 11) (rw 11)) := sum_of_run (env_ok Y) KnownOk.nil (SumsOk.cons tick1_10 SumsOk.nil) (lf := 300) (n := 100) (by kernel_rfl) (by kernel_rfl)
theorem tick1_11 : SumOk Y env (tck1 11) := sum_of_run (env_ok Y) KnownOk.nil SumsOk.nil (lf := 300) (n := 100) (by kernel_rfl) (by kernel_rfl)
theorem next1_11 : SumOk Y env (nxt1 11 (us 12) (rw 12)) := sum_of_run (env_ok Y) KnownOk.nil (SumsOk.cons tick1_11 SumsOk.nil) (lf := 300) (n := 100) (by kernel_rfl) (by kernel_rfl)
theorem tick1_12 : SumOk Y env (tck1 12) := sum_of_run (env_ok Y) KnownOk.nil SumsOk.nil (lf := 300) (n := 100) (by kernel_rfl) (by kernel_rfl)
theorem next1_12 : SumOk Y env (nxt1 12 (us 13) (rw 13)) := sum_of_run (env_ok Y) KnownOk.nil (SumsOk.cons tick1_12 SumsOk.nil) (lf := 300) (n := 100) (by kernel_rfl) (by kernel_rfl)
theorem tick1_13 : SumOk Y env (tck1 13) := sum_of_run (env_ok Y) KnownOk.nil SumsOk.nil (lf := 300) (n := 100) (by kernel_rfl) (by kernel_rfl)
theorem next1_13 : SumOk Y env (nxt1 13 (us 14) (rw 14)) := sum_of_run (env_ok Y) KnownOk.nil (SumsOk.cons tick1_13 SumsOk.nil) (lf := 300) (n := 100) (by kernel_rfl) (by kernel_rfl)
theorem tick1_14 : SumOk Y env (tck1 14) := sum_of_run (env_ok Y) KnownOk.nil SumsOk.nil (lf := 300) (n := 100) (by kernel_rfl) (by kernel_rfl)
theorem next1_14 : SumOk Y env (nxt1 14 (us 15) (rw 15)) := sum_of_run (env_ok Y) KnownOk.nil (SumsOk.cons tick1_14 SumsOk.nil) (lf := 300) (n := 100) (by kernel_rfl) (by kernel_rfl)
theorem tick1_15 : SumOk Y env (tck1 15) := sum_of_run (env_ok Y) KnownOk.nil SumsOk.nil (lf := 300) (n := 100) (by kernel_rfl) (by kernel_rfl)
theorem next1_15 : SumOk Y env (nxt1 15 (us 16) (rw 16)) := sum_of_run (env_ok Y) KnownOk.nil (SumsOk.cons tick1_15 SumsOk.nil) (lf := 300) (n := 100) (by kernel_rfl) (by kernel_rfl)
theorem tick1_16 : SumOk Y env (tck1 16) := sum_of_run (env_ok Y) KnownOk.nil SumsOk.nil (lf := 300) (n := 100) (by kernel_rfl) (by kernel_rfl)
theorem next1_16 : SumOk Y env (nxt1 16 (us 17) (rw 17)) := sum_of_run (env_ok Y) KnownOk.nil (SumsOk.cons tick1_16 SumsOk.nil) (lf := 300) (n := 100) (by kernel_rfl) (by kernel_rfl)
theorem tick1_17 : SumOk Y env (tck1 17) := sum_of_run (env_ok Y) KnownOk.nil SumsOk.nil (lf := 300) (n := 100) (by kernel_rfl) (by kernel_rfl)
theorem next1_17 : SumOk Y env (nxt1 17 (us 18) (rw 18)) := sum_of_run (env_ok Y) KnownOk.nil (SumsOk.cons tick1_17 SumsOk.nil) (lf := 300) (n := 100) (by kernel_rfl) (by kernel_rfl)
theorem tick1_18 : SumOk Y env (tck1 18) := sum_of_run (env_ok Y) KnownOk.nil SumsOk.nil (lf := 300) (n := 100) (by kernel_rfl) (by kernel_rfl)
theorem next1_18 : SumOk Y env (nxt1 18 (us 19) (rw 19)) := sum_of_run (env_ok Y) KnownOk.nil (SumsOk.cons tick1_18 SumsOk.nil) (lf := 300) (n := 100) (by kernel_rfl) (by kernel_rfl)
theorem tick1_19 : SumOk Y env (tck1 19) := sum_of_run (env_ok Y) KnownOk.nil SumsOk.nil (lf := 300) (n := 100) (by kernel_rfl) (by kernel_rfl)
theorem next1_19 : SumOk Y env (nxt1 19 (us 20) (rw 20)) := sum_of_run (env_ok Y) KnownOk.nil (SumsOk.cons tick1_19 SumsOk.nil) (lf := 300) (n := 100) (by kernel_rfl) (by kernel_rfl)

end
end Go.Proofs.YtianjdlnljhgoaaGreatDoor
