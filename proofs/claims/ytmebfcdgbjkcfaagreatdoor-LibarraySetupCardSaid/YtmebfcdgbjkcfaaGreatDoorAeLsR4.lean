/-
  The long closed run: calls, by the kernel.
-/
import Derived.Test.YtmebfcdgbjkcfaaGreatDoorAeLsD1
namespace Go.Proofs.YtmebfcdgbjkcfaaGreatDoor
open Go.AE
set_option maxRecDepth 100000

theorem qo0_run : evSm env [] [] 300 100 (.fn qo0.f) qo0.args qo0.before qo0.ask = true := by kernel_rfl
theorem qo0_ok (Y : Sy) : SumOk Y env qo0 := sum_of_run (env_ok Y) KnownOk.nil SumsOk.nil (by kernel_rfl) qo0_run

theorem qo1_run : evSm env [] [] 300 100 (.fn qo1.f) qo1.args qo1.before qo1.ask = true := by kernel_rfl
theorem qo1_ok (Y : Sy) : SumOk Y env qo1 := sum_of_run (env_ok Y) KnownOk.nil SumsOk.nil (by kernel_rfl) qo1_run

theorem qo2_run : evSm env [] [] 300 100 (.fn qo2.f) qo2.args qo2.before qo2.ask = true := by kernel_rfl
theorem qo2_ok (Y : Sy) : SumOk Y env qo2 := sum_of_run (env_ok Y) KnownOk.nil SumsOk.nil (by kernel_rfl) qo2_run

theorem qo3_run : evSm env [] [] 300 100 (.fn qo3.f) qo3.args qo3.before qo3.ask = true := by kernel_rfl
theorem qo3_ok (Y : Sy) : SumOk Y env qo3 := sum_of_run (env_ok Y) KnownOk.nil SumsOk.nil (by kernel_rfl) qo3_run

theorem qo4_run : evSm env [] [] 300 100 (.fn qo4.f) qo4.args qo4.before qo4.ask = true := by kernel_rfl
theorem qo4_ok (Y : Sy) : SumOk Y env qo4 := sum_of_run (env_ok Y) KnownOk.nil SumsOk.nil (by kernel_rfl) qo4_run

theorem qo5_run : evSm env [] [] 300 100 (.fn qo5.f) qo5.args qo5.before qo5.ask = true := by kernel_rfl
theorem qo5_ok (Y : Sy) : SumOk Y env qo5 := sum_of_run (env_ok Y) KnownOk.nil SumsOk.nil (by kernel_rfl) qo5_run

theorem qo6_run : evSm env [] [] 300 100 (.fn qo6.f) qo6.args qo6.before qo6.ask = true := by kernel_rfl
theorem qo6_ok (Y : Sy) : SumOk Y env qo6 := sum_of_run (env_ok Y) KnownOk.nil SumsOk.nil (by kernel_rfl) qo6_run

theorem qo7_run : evSm env [] [] 300 100 (.fn qo7.f) qo7.args qo7.before qo7.ask = true := by kernel_rfl
theorem qo7_ok (Y : Sy) : SumOk Y env qo7 := sum_of_run (env_ok Y) KnownOk.nil SumsOk.nil (by kernel_rfl) qo7_run

theorem qo8_run : evSm env [] [] 300 100 (.fn qo8.f) qo8.args qo8.before qo8.ask = true := by kernel_rfl
theorem qo8_ok (Y : Sy) : SumOk Y env qo8 := sum_of_run (env_ok Y) KnownOk.nil SumsOk.nil (by kernel_rfl) qo8_run

theorem qo9_run : evSm env [] [] 300 100 (.fn qo9.f) qo9.args qo9.before qo9.ask = true := by kernel_rfl
theorem qo9_ok (Y : Sy) : SumOk Y env qo9 := sum_of_run (env_ok Y) KnownOk.nil SumsOk.nil (by kernel_rfl) qo9_run

theorem qo10_run : evSm env [] [] 300 100 (.fn qo10.f) qo10.args qo10.before qo10.ask = true := by kernel_rfl
theorem qo10_ok (Y : Sy) : SumOk Y env qo10 := sum_of_run (env_ok Y) KnownOk.nil SumsOk.nil (by kernel_rfl) qo10_run

theorem qo11_run : evSm env [] [] 300 100 (.fn qo11.f) qo11.args qo11.before qo11.ask = true := by kernel_rfl
theorem qo11_ok (Y : Sy) : SumOk Y env qo11 := sum_of_run (env_ok Y) KnownOk.nil SumsOk.nil (by kernel_rfl) qo11_run

theorem qo12_run : evSm env [] [] 300 100 (.fn qo12.f) qo12.args qo12.before qo12.ask = true := by kernel_rfl
theorem qo12_ok (Y : Sy) : SumOk Y env qo12 := sum_of_run (env_ok Y) KnownOk.nil SumsOk.nil (by kernel_rfl) qo12_run

theorem qo13_run : evSm env [] [] 300 100 (.fn qo13.f) qo13.args qo13.before qo13.ask = true := by kernel_rfl
theorem qo13_ok (Y : Sy) : SumOk Y env qo13 := sum_of_run (env_ok Y) KnownOk.nil SumsOk.nil (by kernel_rfl) qo13_run

theorem qo14_run : evSm env [] [] 300 100 (.fn qo14.f) qo14.args qo14.before qo14.ask = true := by kernel_rfl
theorem qo14_ok (Y : Sy) : SumOk Y env qo14 := sum_of_run (env_ok Y) KnownOk.nil SumsOk.nil (by kernel_rfl) qo14_run

theorem qo15_run : evSm env [] [] 300 100 (.fn qo15.f) qo15.args qo15.before qo15.ask = true := by kernel_rfl
theorem qo15_ok (Y : Sy) : SumOk Y env qo15 := sum_of_run (env_ok Y) KnownOk.nil SumsOk.nil (by kernel_rfl) qo15_run

theorem qo16_run : evSm env [] [] 300 100 (.fn qo16.f) qo16.args qo16.before qo16.ask = true := by kernel_rfl
theorem qo16_ok (Y : Sy) : SumOk Y env qo16 := sum_of_run (env_ok Y) KnownOk.nil SumsOk.nil (by kernel_rfl) qo16_run

theorem qo17_run : evSm env [] [] 300 100 (.fn qo17.f) qo17.args qo17.before qo17.ask = true := by kernel_rfl
theorem qo17_ok (Y : Sy) : SumOk Y env qo17 := sum_of_run (env_ok Y) KnownOk.nil SumsOk.nil (by kernel_rfl) qo17_run

theorem qo18_run : evSm env [] [] 300 100 (.fn qo18.f) qo18.args qo18.before qo18.ask = true := by kernel_rfl
theorem qo18_ok (Y : Sy) : SumOk Y env qo18 := sum_of_run (env_ok Y) KnownOk.nil SumsOk.nil (by kernel_rfl) qo18_run

theorem qo19_run : evSm env [] [] 300 100 (.fn qo19.f) qo19.args qo19.before qo19.ask = true := by kernel_rfl
theorem qo19_ok (Y : Sy) : SumOk Y env qo19 := sum_of_run (env_ok Y) KnownOk.nil SumsOk.nil (by kernel_rfl) qo19_run

theorem qo20_run : evSm env [] [] 300 100 (.fn qo20.f) qo20.args qo20.before qo20.ask = true := by kernel_rfl
theorem qo20_ok (Y : Sy) : SumOk Y env qo20 := sum_of_run (env_ok Y) KnownOk.nil SumsOk.nil (by kernel_rfl) qo20_run

end Go.Proofs.YtmebfcdgbjkcfaaGreatDoor
