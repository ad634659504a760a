/-
  The pair: the engine's set-up, objects that correspond.
-/
import Derived.Test.YtjokmjjecendaaaGreatDoorAeLoD0
namespace Go.Proofs.YtjokmjjecendaaaGreatDoor
open Go.AE
set_option maxRecDepth 100000

theorem q54_run : evSm env [] [] 300 100 (.fn q54.f) q54.args q54.before q54.ask = true := by kernel_rfl
theorem q54_ok (Y : Sy) : SumOk Y env q54 := sum_of_run (env_ok Y) KnownOk.nil SumsOk.nil (by kernel_rfl) q54_run

theorem q18_run : evSm env [] [q54] 300 100 (.fn q18.f) q18.args q18.before q18.ask = true := by kernel_rfl
theorem q18_ok (Y : Sy) : SumOk Y env q18 := sum_of_run (env_ok Y) KnownOk.nil (SumsOk.cons (q54_ok Y) SumsOk.nil) (by kernel_rfl) q18_run

theorem qo0_run : evSm env [] [] 300 100 (.fn qo0.f) qo0.args qo0.before qo0.ask = true := by kernel_rfl
theorem qo0_ok (Y : Sy) : SumOk Y env qo0 := sum_of_run (env_ok Y) KnownOk.nil SumsOk.nil (by kernel_rfl) qo0_run

theorem qo1_run : evSm env [] [] 300 100 (.fn qo1.f) qo1.args qo1.before qo1.ask = true := by kernel_rfl
theorem qo1_ok (Y : Sy) : SumOk Y env qo1 := sum_of_run (env_ok Y) KnownOk.nil SumsOk.nil (by kernel_rfl) qo1_run

theorem qo2_run : evSm env [] [] 300 100 (.fn qo2.f) qo2.args qo2.before qo2.ask = true := by kernel_rfl
theorem qo2_ok (Y : Sy) : SumOk Y env qo2 := sum_of_run (env_ok Y) KnownOk.nil SumsOk.nil (by kernel_rfl) qo2_run

theorem qo3_run : evSm env [] [] 300 100 (.fn qo3.f) qo3.args qo3.before qo3.ask = true := by kernel_rfl
theorem qo3_ok (Y : Sy) : SumOk Y env qo3 := sum_of_run (env_ok Y) KnownOk.nil SumsOk.nil (by kernel_rfl) qo3_run

theorem qo4_run : evSm env [] [] 300 100 (.fn qo4.f) qo4.args qo4.before qo4.ask = true := by kernel_rfl
theorem qo4_ok (Y : Sy) : SumOk Y env qo4 := sum_of_run (env_ok Y) KnownOk.nil SumsOk.nil (by kernel_rfl) qo4_run

theorem qo5_run : evSm env [] [] 300 100 (.fn qo5.f) qo5.args qo5.before qo5.ask = true := by kernel_rfl
theorem qo5_ok (Y : Sy) : SumOk Y env qo5 := sum_of_run (env_ok Y) KnownOk.nil SumsOk.nil (by kernel_rfl) qo5_run

theorem qo6_run : evSm env [] [] 300 100 (.fn qo6.f) qo6.args qo6.before qo6.ask = true := by kernel_rfl
theorem qo6_ok (Y : Sy) : SumOk Y env qo6 := sum_of_run (env_ok Y) KnownOk.nil SumsOk.nil (by kernel_rfl) qo6_run

theorem qo7_run : evSm env [] [] 300 100 (.fn qo7.f) qo7.args qo7.before qo7.ask = true := by kernel_rfl
theorem qo7_ok (Y : Sy) : SumOk Y env qo7 := sum_of_run (env_ok Y) KnownOk.nil SumsOk.nil (by kernel_rfl) qo7_run

theorem qo8_run : evSm env [] [] 300 100 (.fn qo8.f) qo8.args qo8.before qo8.ask = true := by kernel_rfl
theorem qo8_ok (Y : Sy) : SumOk Y env qo8 := sum_of_run (env_ok Y) KnownOk.nil SumsOk.nil (by kernel_rfl) qo8_run

theorem qo9_run : evSm env [] [] 300 100 (.fn qo9.f) qo9.args qo9.before qo9.ask = true := by kernel_rfl
theorem qo9_ok (Y : Sy) : SumOk Y env qo9 := sum_of_run (env_ok Y) KnownOk.nil SumsOk.nil (by kernel_rfl) qo9_run

theorem qo10_run : evSm env [] [] 300 100 (.fn qo10.f) qo10.args qo10.before qo10.ask = true := by kernel_rfl
theorem qo10_ok (Y : Sy) : SumOk Y env qo10 := sum_of_run (env_ok Y) KnownOk.nil SumsOk.nil (by kernel_rfl) qo10_run

theorem qo11_run : evSm env [] [] 300 100 (.fn qo11.f) qo11.args qo11.before qo11.ask = true := by kernel_rfl
theorem qo11_ok (Y : Sy) : SumOk Y env qo11 := sum_of_run (env_ok Y) KnownOk.nil SumsOk.nil (by kernel_rfl) qo11_run

theorem qo12_run : evSm env [] [] 300 100 (.fn qo12.f) qo12.args qo12.before qo12.ask = true := by kernel_rfl
theorem qo12_ok (Y : Sy) : SumOk Y env qo12 := sum_of_run (env_ok Y) KnownOk.nil SumsOk.nil (by kernel_rfl) qo12_run

theorem qo13_run : evSm env [] [] 300 100 (.fn qo13.f) qo13.args qo13.before qo13.ask = true := by kernel_rfl
theorem qo13_ok (Y : Sy) : SumOk Y env qo13 := sum_of_run (env_ok Y) KnownOk.nil SumsOk.nil (by kernel_rfl) qo13_run

end Go.Proofs.YtjokmjjecendaaaGreatDoor
