/-
  IterateAll: rounds of the loop (variant, round): 2.10 2.11 2.12 2.13 2.14 2.15 2.16 2.17 2.18 2.19.
-/
import Derived.Test.YtianjdlnljhgoaaGreatDoorAeItDef
namespace Go.Proofs.YtianjdlnljhgoaaGreatDoor
open Go.AE
set_option maxRecDepth 100000
section
variable {Y : Sy}

theorem tick2_10 : SumOk Y env (tck2 10) := sum_of_run (env_ok Y) KnownOk.nil SumsOk.nil (lf := 300) (n := 100) (by kernel_rfl) (by kernel_rfl)
theorem next2_10 : SumOk Y env (nxt2 10 (us 11) (rw 11)) := sum_of_run (env_ok Y) KnownOk.nil (SumsOk.cons tick2_10 SumsOk.nil) (lf := 300) (n := 100) (by kernel_rfl) (by kernel_rfl)
theorem tick2_11 : SumOk Y env (tck2 11) := sum_of_run (env_ok Y) KnownOk.nil SumsOk.nil (lf := 300) (n := 100) (by kernel_rfl) (by kernel_rfl)
theorem next2_11 : SumOk Y env (nxt2 11 (us 12) (rw 12)) := sum_of_run (env_ok Y) KnownOk.nil (SumsOk.cons tick2_11 SumsOk.nil) (lf := 300) (n := 100) (by kernel_rfl) (by kernel_rfl)
theorem tick2_12 : SumOk Y env (tck2 12) := sum_of_run (env_ok Y) KnownOk.nil SumsOk.nil (lf := 300) (n := 100) (by kernel_rfl) (by kernel_rfl)
theorem next2_12 : SumOk Y env (nxt2 12 (us 13) (rw 13)) := sum_of_run (env_ok Y) KnownOk.nil (SumsOk.cons tick2_12 SumsOk.nil) (lf := 300) (n := 100) (by kernel_rfl) (by kernel_rfl)
theorem tick2_13 : SumOk Y env (tck2 13) := sum_of_run (env_ok Y) KnownOk.nil SumsOk.nil (lf := 300) (n := 100) (by kernel_rfl) (by kernel_rfl)
theorem next2_13 : SumOk Y env (nxt2 13 (us 14) (rw 14)) := sum_of_run (env_ok Y) KnownOk.nil (SumsOk.cons tick2_13 SumsOk.nil) (lf := 300) (n := 100) (by kernel_rfl) (by kernel_rfl)
theorem tick2_14 : SumOk Y env (tck2 14) := sum_of_run (env_ok Y) KnownOk.nil SumsOk.nil (lf := 300) (n := 100) (by kernel_rfl) (by kernel_rfl)
theorem next2_14 : SumOk Y env (nxt2 14 (us 15) (rw 15)) := sum_of_run (env_ok Y) KnownOk.nil (SumsOk.cons tick2_14 SumsOk.nil) (lf := 300) (n := 100) (by kernel_rfl) (by kernel_rfl)
theorem tick2_15 : SumOk Y env (tck2 15) := sum_of_run (env_ok Y) KnownOk.nil SumsOk.nil (lf := 300) (n := 100) (by kernel_rfl) (by kernel_rfl)
theorem next2_15 : SumOk Y env (nxt2 15 (us 16) (rw 16)) := sum_of_run (env_ok Y) KnownOk.nil (SumsOk.cons tick2_15 SumsOk.nil) (lf := 300) (n := 100) (by kernel_rfl) (by kernel_rfl)
theorem tick2_16 : SumOk Y env (tck2 16) := sum_of_run (env_ok Y) KnownOk.nil SumsOk.nil (lf := 300) (n := 100) (by kernel_rfl) (by kernel_rfl)
theorem next2_16 : SumOk Y env (nxt2 16 (us 17) (rw 17)) := sum_of_run (env_ok Y) KnownOk.nil (SumsOk.cons tick2_16 SumsOk.nil) (lf := 300) (n := 100) (by kernel_rfl) (by kernel_rfl)
theorem tick2_17 : SumOk Y env (tck2 17) := sum_of_run (env_ok Y) KnownOk.nil SumsOk.nil (lf := 300) (n := 100) (by kernel_rfl) (by kernel_rfl)
theorem next2_17 : SumOk Y env (nxt2 17 (us 18) (rw 18)) := sum_of_run (env_ok Y) KnownOk.nil (SumsOk.cons tick2_17 SumsOk.nil) (lf := 300) (n := 100) (by kernel_rfl) (by kernel_rfl)
theorem tick2_18 : SumOk Y env (tck2 18) := sum_of_run (env_ok Y) KnownOk.nil SumsOk.nil (lf := 300) (n := 100) (by kernel_rfl) (by kernel_rfl)
theorem next2_18 : SumOk Y env (nxt2 18 (us 19) (rw 19)) := sum_of_run (env_ok Y) KnownOk.nil (SumsOk.cons tick2_18 SumsOk.nil) (lf := 300) (n := 100) (by kernel_rfl) (by kernel_rfl)
theorem tick2_19 : SumOk Y env (tck2 19) := sum_of_run (env_ok Y) KnownOk.nil SumsOk.nil (lf := 300) (n := 100) (by kernel_rfl) (by kernel_rfl)
theorem next2_19 : SumOk Y env (nxt2 19 (us 20) (rw 20)) := sum_of_run (env_ok Y) KnownOk.nil (SumsOk.cons tick2_19 SumsOk.nil) (lf := 300) (n := 100) (by kernel_rfl) (by kernel_rfl)

end
end Go.Proofs.YtianjdlnljhgoaaGreatDoor
