/-
  IterateAll: rounds of the loop (variant, round): 0.10 0.11 0.12 0.13 0.14 0.15 0.16 0.17 0.18 0.19.
-/
import Derived.Test.YtianjdlnljhgoaaGreatDoorAeItDef
namespace Go.Proofs.YtianjdlnljhgoaaGreatDoor
open Go.AE
set_option maxRecDepth 100000
section
variable {Y : Sy}

theorem tick0_10 : SumOk Y env (tck0 10) := sum_of_run (env_ok Y) KnownOk.nil SumsOk.nil (lf := 300) (n := 100) (by kernel_rfl) (by kernel_rfl)
theorem next0_10 : SumOk Y env (nxt0 10 (us 11) (rw 11)) := sum_of_run (env_ok Y) KnownOk.nil (SumsOk.cons tick0_10 SumsOk.nil) (lf := 300) (n := 100) (by kernel_rfl) (by kernel_rfl)
theorem tick0_11 : SumOk Y env (tck0 11) := sum_of_run (env_ok Y) KnownOk.nil SumsOk.nil (lf := 300) (n := 100) (by kernel_rfl) (by kernel_rfl)
theorem next0_11 : SumOk Y env (nxt0 11 (us 12) (rw 12)) := sum_of_run (env_ok Y) KnownOk.nil (SumsOk.cons tick0_11 SumsOk.nil) (lf := 300) (n := 100) (by kernel_rfl) (by kernel_rfl)
theorem tick0_12 : SumOk Y env (tck0 12) := sum_of_run (env_ok Y) KnownOk.nil SumsOk.nil (lf := 300) (n := 100) (by kernel_rfl) (by kernel_rfl)
theorem next0_12 : SumOk Y env (nxt0 12 (us 13) (rw 13)) := sum_of_run (env_ok Y) KnownOk.nil (SumsOk.cons tick0_12 SumsOk.nil) (lf := 300) (n := 100) (by kernel_rfl) (by kernel_rfl)
theorem tick0_13 : SumOk Y env (tck0 13) := sum_of_run (env_ok Y) KnownOk.nil SumsOk.nil (lf := 300) (n := 100) (by kernel_rfl) (by kernel_rfl)
theorem next0_13 : SumOk Y env (nxt0 13 (us 14) (rw 14)) := sum_of_run (env_ok Y) KnownOk.nil (SumsOk.cons tick0_13 SumsOk.nil) (lf := 300) (n := 100) (by kernel_rfl) (by kernel_rfl)
theorem tick0_14 : SumOk Y env (tck0 14) := sum_of_run (env_ok Y) KnownOk.nil SumsOk.nil (lf := 300) (n := 100) (by kernel_rfl) (by kernel_rfl)
theorem next0_14 : SumOk Y env (nxt0 14 (us 15) (rw 15)) := sum_of_run (env_ok Y) KnownOk.nil (SumsOk.cons tick0_14 SumsOk.nil) (lf := 300) (n := 100) (by kernel_rfl) (by kernel_rfl)
theorem tick0_15 : SumOk Y env (tck0 15) := sum_of_run (env_ok Y) KnownOk.nil SumsOk.nil (lf := 300) (n := 100) (by kernel_rfl) (by kernel_rfl)
theorem next0_15 : SumOk Y env (nxt0 15 (us 16) (rw 16)) := sum_of_run (env_ok Y) KnownOk.nil (SumsOk.cons tick0_15 SumsOk.nil) (lf := 300) (n := 100) (by kernel_rfl) (by kernel_rfl)
theorem tick0_16 : SumOk Y env (tck0 16) := sum_of_run (env_ok Y) KnownOk.nil SumsOk.nil (lf := 300) (n := 100) (by kernel_rfl) (by kernel_rfl)
theorem next0_16 : SumOk Y env (nxt0 16 (us 17) (rw 17)) := sum_of_run (env_ok Y) KnownOk.nil (SumsOk.cons tick0_16 SumsOk.nil) (lf := 300) (n := 100) (by kernel_rfl) (by kernel_rfl)
theorem tick0_17 : SumOk Y env (tck0 17) := sum_of_run (env_ok Y) KnownOk.nil SumsOk.nil (lf := 300) (n := 100) (by kernel_rfl) (by kernel_rfl)
theorem next0_17 : SumOk Y env (nxt0 17 (us 18) (rw 18)) := sum_of_run (env_ok Y) KnownOk.nil (SumsOk.cons tick0_17 SumsOk.nil) (lf := 300) (n := 100) (by kernel_rfl) (by kernel_rfl)
theorem tick0_18 : SumOk Y env (tck0 18) := sum_of_run (env_ok Y) KnownOk.nil SumsOk.nil (lf := 300) (n := 100) (by kernel_rfl) (by kernel_rfl)
theorem next0_18 : SumOk Y env (nxt0 18 (us 19) (rw 19)) := sum_of_run (env_ok Y) KnownOk.nil (SumsOk.cons tick0_18 SumsOk.nil) (lf := 300) (n := 100) (by kernel_rfl) (by kernel_rfl)
theorem tick0_19 : SumOk Y env (tck0 19) := sum_of_run (env_ok Y) KnownOk.nil SumsOk.nil (lf := 300) (n := 100) (by kernel_rfl) (by kernel_rfl)
theorem next0_19 : SumOk Y env (nxt0 19 (us 20) (rw 20)) := sum_of_run (env_ok Y) KnownOk.nil (SumsOk.cons tick0_19 SumsOk.nil) (lf := 300) (n := 100) (by kernel_rfl) (by kernel_rfl)

end
end Go.Proofs.YtianjdlnljhgoaaGreatDoor
