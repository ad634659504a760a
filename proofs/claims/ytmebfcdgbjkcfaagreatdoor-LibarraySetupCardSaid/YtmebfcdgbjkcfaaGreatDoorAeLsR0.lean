/-
  The long closed run: calls, by the kernel.
-/
import Derived.Test.YtmebfcdgbjkcfaaGreatDoorAeLsD1
namespace Go.Proofs.YtmebfcdgbjkcfaaGreatDoor
open Go.AE
set_option maxRecDepth 100000

theorem q54_run : evSm env [] [] 300 100 (.fn q54.f) q54.args q54.before q54.ask = true := by kernel_rfl
theorem q54_ok (Y : Sy) : SumOk Y env q54 := sum_of_run (env_ok Y) KnownOk.nil SumsOk.nil (by kernel_rfl) q54_run

theorem q19_run : evSm env [] [q54] 300 100 (.fn q19.f) q19.args q19.before q19.ask = true := by kernel_rfl
theorem q19_ok (Y : Sy) : SumOk Y env q19 := sum_of_run (env_ok Y) KnownOk.nil (SumsOk.cons (q54_ok Y) SumsOk.nil) (by kernel_rfl) q19_run

theorem qn0_run : evSm env [] [] 300 100 (.fn qn0.f) qn0.args qn0.before qn0.ask = true := by kernel_rfl
theorem qn0_ok (Y : Sy) : SumOk Y env qn0 := sum_of_run (env_ok Y) KnownOk.nil SumsOk.nil (by kernel_rfl) qn0_run

theorem qn1_run : evSm env [] [] 300 100 (.fn qn1.f) qn1.args qn1.before qn1.ask = true := by kernel_rfl
theorem qn1_ok (Y : Sy) : SumOk Y env qn1 := sum_of_run (env_ok Y) KnownOk.nil SumsOk.nil (by kernel_rfl) qn1_run

theorem qn2_run : evSm env [] [] 300 100 (.fn qn2.f) qn2.args qn2.before qn2.ask = true := by kernel_rfl
theorem qn2_ok (Y : Sy) : SumOk Y env qn2 := sum_of_run (env_ok Y) KnownOk.nil SumsOk.nil (by kernel_rfl) qn2_run

theorem qn3_run : evSm env [] [] 300 100 (.fn qn3.f) qn3.args qn3.before qn3.ask = true := by kernel_rfl
theorem qn3_ok (Y : Sy) : SumOk Y env qn3 := sum_of_run (env_ok Y) KnownOk.nil SumsOk.nil (by kernel_rfl) qn3_run

theorem qn4_run : evSm env [] [] 300 100 (.fn qn4.f) qn4.args qn4.before qn4.ask = true := by kernel_rfl
theorem qn4_ok (Y : Sy) : SumOk Y env qn4 := sum_of_run (env_ok Y) KnownOk.nil SumsOk.nil (by kernel_rfl) qn4_run

theorem qn5_run : evSm env [] [] 300 100 (.fn qn5.f) qn5.args qn5.before qn5.ask = true := by kernel_rfl
theorem qn5_ok (Y : Sy) : SumOk Y env qn5 := sum_of_run (env_ok Y) KnownOk.nil SumsOk.nil (by kernel_rfl) qn5_run

theorem qn6_run : evSm env [] [] 300 100 (.fn qn6.f) qn6.args qn6.before qn6.ask = true := by kernel_rfl
theorem qn6_ok (Y : Sy) : SumOk Y env qn6 := sum_of_run (env_ok Y) KnownOk.nil SumsOk.nil (by kernel_rfl) qn6_run

theorem qn7_run : evSm env [] [] 300 100 (.fn qn7.f) qn7.args qn7.before qn7.ask = true := by kernel_rfl
theorem qn7_ok (Y : Sy) : SumOk Y env qn7 := sum_of_run (env_ok Y) KnownOk.nil SumsOk.nil (by kernel_rfl) qn7_run

theorem qn8_run : evSm env [] [] 300 100 (.fn qn8.f) qn8.args qn8.before qn8.ask = true := by kernel_rfl
theorem qn8_ok (Y : Sy) : SumOk Y env qn8 := sum_of_run (env_ok Y) KnownOk.nil SumsOk.nil (by kernel_rfl) qn8_run

theorem qn9_run : evSm env [] [] 300 100 (.fn qn9.f) qn9.args qn9.before qn9.ask = true := by kernel_rfl
theorem qn9_ok (Y : Sy) : SumOk Y env qn9 := sum_of_run (env_ok Y) KnownOk.nil SumsOk.nil (by kernel_rfl) qn9_run

end Go.Proofs.YtmebfcdgbjkcfaaGreatDoor
