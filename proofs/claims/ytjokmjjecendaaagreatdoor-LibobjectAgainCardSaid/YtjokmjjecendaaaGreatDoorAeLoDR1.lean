/-
  The pair: the engine's set-up, objects that correspond.
-/
import Derived.Test.YtjokmjjecendaaaGreatDoorAeLoD0
namespace Go.Proofs.YtjokmjjecendaaaGreatDoor
open Go.AE
set_option maxRecDepth 100000

theorem qo14_run : evSm env [] [] 300 100 (.fn qo14.f) qo14.args qo14.before qo14.ask = true := by kernel_rfl
theorem qo14_ok (Y : Sy) : SumOk Y env qo14 := sum_of_run (env_ok Y) KnownOk.nil SumsOk.nil (by kernel_rfl) qo14_run

theorem qo15_run : evSm env [] [] 300 100 (.fn qo15.f) qo15.args qo15.before qo15.ask = true := by kernel_rfl
theorem qo15_ok (Y : Sy) : SumOk Y env qo15 := sum_of_run (env_ok Y) KnownOk.nil SumsOk.nil (by kernel_rfl) qo15_run

theorem qo16_run : evSm env [] [] 300 100 (.fn qo16.f) qo16.args qo16.before qo16.ask = true := by kernel_rfl
theorem qo16_ok (Y : Sy) : SumOk Y env qo16 := sum_of_run (env_ok Y) KnownOk.nil SumsOk.nil (by kernel_rfl) qo16_run

theorem qo17_run : evSm env [] [] 300 100 (.fn qo17.f) qo17.args qo17.before qo17.ask = true := by kernel_rfl
theorem qo17_ok (Y : Sy) : SumOk Y env qo17 := sum_of_run (env_ok Y) KnownOk.nil SumsOk.nil (by kernel_rfl) qo17_run

theorem qo18_run : evSm env [] [] 300 100 (.fn qo18.f) qo18.args qo18.before qo18.ask = true := by kernel_rfl
theorem qo18_ok (Y : Sy) : SumOk Y env qo18 := sum_of_run (env_ok Y) KnownOk.nil SumsOk.nil (by kernel_rfl) qo18_run

theorem qo19_run : evSm env [] [] 300 100 (.fn qo19.f) qo19.args qo19.before qo19.ask = true := by kernel_rfl
theorem qo19_ok (Y : Sy) : SumOk Y env qo19 := sum_of_run (env_ok Y) KnownOk.nil SumsOk.nil (by kernel_rfl) qo19_run

theorem qo20_run : evSm env [] [] 300 100 (.fn qo20.f) qo20.args qo20.before qo20.ask = true := by kernel_rfl
theorem qo20_ok (Y : Sy) : SumOk Y env qo20 := sum_of_run (env_ok Y) KnownOk.nil SumsOk.nil (by kernel_rfl) qo20_run

theorem qo21_run : evSm env [] [] 300 100 (.fn qo21.f) qo21.args qo21.before qo21.ask = true := by kernel_rfl
theorem qo21_ok (Y : Sy) : SumOk Y env qo21 := sum_of_run (env_ok Y) KnownOk.nil SumsOk.nil (by kernel_rfl) qo21_run

theorem qo22_run : evSm env [] [] 300 100 (.fn qo22.f) qo22.args qo22.before qo22.ask = true := by kernel_rfl
theorem qo22_ok (Y : Sy) : SumOk Y env qo22 := sum_of_run (env_ok Y) KnownOk.nil SumsOk.nil (by kernel_rfl) qo22_run

theorem qo23_run : evSm env [] [] 300 100 (.fn qo23.f) qo23.args qo23.before qo23.ask = true := by kernel_rfl
theorem qo23_ok (Y : Sy) : SumOk Y env qo23 := sum_of_run (env_ok Y) KnownOk.nil SumsOk.nil (by kernel_rfl) qo23_run

theorem qo24_run : evSm env [] [] 300 100 (.fn qo24.f) qo24.args qo24.before qo24.ask = true := by kernel_rfl
theorem qo24_ok (Y : Sy) : SumOk Y env qo24 := sum_of_run (env_ok Y) KnownOk.nil SumsOk.nil (by kernel_rfl) qo24_run

theorem qo25_run : evSm env [] [] 300 100 (.fn qo25.f) qo25.args qo25.before qo25.ask = true := by kernel_rfl
theorem qo25_ok (Y : Sy) : SumOk Y env qo25 := sum_of_run (env_ok Y) KnownOk.nil SumsOk.nil (by kernel_rfl) qo25_run

theorem qo26_run : evSm env [] [] 300 100 (.fn qo26.f) qo26.args qo26.before qo26.ask = true := by kernel_rfl
theorem qo26_ok (Y : Sy) : SumOk Y env qo26 := sum_of_run (env_ok Y) KnownOk.nil SumsOk.nil (by kernel_rfl) qo26_run

theorem qo27_run : evSm env [] [] 300 100 (.fn qo27.f) qo27.args qo27.before qo27.ask = true := by kernel_rfl
theorem qo27_ok (Y : Sy) : SumOk Y env qo27 := sum_of_run (env_ok Y) KnownOk.nil SumsOk.nil (by kernel_rfl) qo27_run

end Go.Proofs.YtjokmjjecendaaaGreatDoor
