/-
  The pair: the engine's set-up, objects that correspond.
-/
import Derived.Test.YtjokmjjecendaaaGreatDoorAeLoD0
namespace Go.Proofs.YtjokmjjecendaaaGreatDoor
open Go.AE
set_option maxRecDepth 100000

theorem qo28_run : evSm env [] [] 300 100 (.fn qo28.f) qo28.args qo28.before qo28.ask = true := by kernel_rfl
theorem qo28_ok (Y : Sy) : SumOk Y env qo28 := sum_of_run (env_ok Y) KnownOk.nil SumsOk.nil (by kernel_rfl) qo28_run

theorem qo29_run : evSm env [] [] 300 100 (.fn qo29.f) qo29.args qo29.before qo29.ask = true := by kernel_rfl
theorem qo29_ok (Y : Sy) : SumOk Y env qo29 := sum_of_run (env_ok Y) KnownOk.nil SumsOk.nil (by kernel_rfl) qo29_run

theorem qo30_run : evSm env [] [] 300 100 (.fn qo30.f) qo30.args qo30.before qo30.ask = true := by kernel_rfl
theorem qo30_ok (Y : Sy) : SumOk Y env qo30 := sum_of_run (env_ok Y) KnownOk.nil SumsOk.nil (by kernel_rfl) qo30_run

theorem qo31_run : evSm env [] [] 300 100 (.fn qo31.f) qo31.args qo31.before qo31.ask = true := by kernel_rfl
theorem qo31_ok (Y : Sy) : SumOk Y env qo31 := sum_of_run (env_ok Y) KnownOk.nil SumsOk.nil (by kernel_rfl) qo31_run

theorem qo32_run : evSm env [] [] 300 100 (.fn qo32.f) qo32.args qo32.before qo32.ask = true := by kernel_rfl
theorem qo32_ok (Y : Sy) : SumOk Y env qo32 := sum_of_run (env_ok Y) KnownOk.nil SumsOk.nil (by kernel_rfl) qo32_run

theorem qo33_run : evSm env [] [] 300 100 (.fn qo33.f) qo33.args qo33.before qo33.ask = true := by kernel_rfl
theorem qo33_ok (Y : Sy) : SumOk Y env qo33 := sum_of_run (env_ok Y) KnownOk.nil SumsOk.nil (by kernel_rfl) qo33_run

theorem qo34_run : evSm env [] [] 300 100 (.fn qo34.f) qo34.args qo34.before qo34.ask = true := by kernel_rfl
theorem qo34_ok (Y : Sy) : SumOk Y env qo34 := sum_of_run (env_ok Y) KnownOk.nil SumsOk.nil (by kernel_rfl) qo34_run

theorem qo35_run : evSm env [] [] 300 100 (.fn qo35.f) qo35.args qo35.before qo35.ask = true := by kernel_rfl
theorem qo35_ok (Y : Sy) : SumOk Y env qo35 := sum_of_run (env_ok Y) KnownOk.nil SumsOk.nil (by kernel_rfl) qo35_run

theorem qo36_run : evSm env [] [] 300 100 (.fn qo36.f) qo36.args qo36.before qo36.ask = true := by kernel_rfl
theorem qo36_ok (Y : Sy) : SumOk Y env qo36 := sum_of_run (env_ok Y) KnownOk.nil SumsOk.nil (by kernel_rfl) qo36_run

theorem qo37_run : evSm env [] [] 300 100 (.fn qo37.f) qo37.args qo37.before qo37.ask = true := by kernel_rfl
theorem qo37_ok (Y : Sy) : SumOk Y env qo37 := sum_of_run (env_ok Y) KnownOk.nil SumsOk.nil (by kernel_rfl) qo37_run

theorem qo38_run : evSm env [] [] 300 100 (.fn qo38.f) qo38.args qo38.before qo38.ask = true := by kernel_rfl
theorem qo38_ok (Y : Sy) : SumOk Y env qo38 := sum_of_run (env_ok Y) KnownOk.nil SumsOk.nil (by kernel_rfl) qo38_run

theorem qo39_run : evSm env [] [] 300 100 (.fn qo39.f) qo39.args qo39.before qo39.ask = true := by kernel_rfl
theorem qo39_ok (Y : Sy) : SumOk Y env qo39 := sum_of_run (env_ok Y) KnownOk.nil SumsOk.nil (by kernel_rfl) qo39_run

theorem qo40_run : evSm env [] [] 300 100 (.fn qo40.f) qo40.args qo40.before qo40.ask = true := by kernel_rfl
theorem qo40_ok (Y : Sy) : SumOk Y env qo40 := sum_of_run (env_ok Y) KnownOk.nil SumsOk.nil (by kernel_rfl) qo40_run

theorem qo41_run : evSm env [] [] 300 100 (.fn qo41.f) qo41.args qo41.before qo41.ask = true := by kernel_rfl
theorem qo41_ok (Y : Sy) : SumOk Y env qo41 := sum_of_run (env_ok Y) KnownOk.nil SumsOk.nil (by kernel_rfl) qo41_run

end Go.Proofs.YtjokmjjecendaaaGreatDoor
