/-
  The pair: the engine's set-up, objects that correspond.
-/
import Derived.Test.YtjokmjjecendaaaGreatDoorAeLoD0
namespace Go.Proofs.YtjokmjjecendaaaGreatDoor
open Go.AE
set_option maxRecDepth 100000

theorem qo42_run : evSm env [] [] 300 100 (.fn qo42.f) qo42.args qo42.before qo42.ask = true := by kernel_rfl
theorem qo42_ok (Y : Sy) : SumOk Y env qo42 := sum_of_run (env_ok Y) KnownOk.nil SumsOk.nil (by kernel_rfl) qo42_run

theorem qo43_run : evSm env [] [] 300 100 (.fn qo43.f) qo43.args qo43.before qo43.ask = true := by kernel_rfl
theorem qo43_ok (Y : Sy) : SumOk Y env qo43 := sum_of_run (env_ok Y) KnownOk.nil SumsOk.nil (by kernel_rfl) qo43_run

theorem qo44_run : evSm env [] [] 300 100 (.fn qo44.f) qo44.args qo44.before qo44.ask = true := by kernel_rfl
theorem qo44_ok (Y : Sy) : SumOk Y env qo44 := sum_of_run (env_ok Y) KnownOk.nil SumsOk.nil (by kernel_rfl) qo44_run

theorem qo45_run : evSm env [] [] 300 100 (.fn qo45.f) qo45.args qo45.before qo45.ask = true := by kernel_rfl
theorem qo45_ok (Y : Sy) : SumOk Y env qo45 := sum_of_run (env_ok Y) KnownOk.nil SumsOk.nil (by kernel_rfl) qo45_run

theorem qo46_run : evSm env [] [] 300 100 (.fn qo46.f) qo46.args qo46.before qo46.ask = true := by kernel_rfl
theorem qo46_ok (Y : Sy) : SumOk Y env qo46 := sum_of_run (env_ok Y) KnownOk.nil SumsOk.nil (by kernel_rfl) qo46_run

theorem qo47_run : evSm env [] [] 300 100 (.fn qo47.f) qo47.args qo47.before qo47.ask = true := by kernel_rfl
theorem qo47_ok (Y : Sy) : SumOk Y env qo47 := sum_of_run (env_ok Y) KnownOk.nil SumsOk.nil (by kernel_rfl) qo47_run

theorem qo48_run : evSm env [] [] 300 100 (.fn qo48.f) qo48.args qo48.before qo48.ask = true := by kernel_rfl
theorem qo48_ok (Y : Sy) : SumOk Y env qo48 := sum_of_run (env_ok Y) KnownOk.nil SumsOk.nil (by kernel_rfl) qo48_run

theorem qo49_run : evSm env [] [] 300 100 (.fn qo49.f) qo49.args qo49.before qo49.ask = true := by kernel_rfl
theorem qo49_ok (Y : Sy) : SumOk Y env qo49 := sum_of_run (env_ok Y) KnownOk.nil SumsOk.nil (by kernel_rfl) qo49_run

theorem qo50_run : evSm env [] [] 300 100 (.fn qo50.f) qo50.args qo50.before qo50.ask = true := by kernel_rfl
theorem qo50_ok (Y : Sy) : SumOk Y env qo50 := sum_of_run (env_ok Y) KnownOk.nil SumsOk.nil (by kernel_rfl) qo50_run

theorem qo51_run : evSm env [] [] 300 100 (.fn qo51.f) qo51.args qo51.before qo51.ask = true := by kernel_rfl
theorem qo51_ok (Y : Sy) : SumOk Y env qo51 := sum_of_run (env_ok Y) KnownOk.nil SumsOk.nil (by kernel_rfl) qo51_run

theorem qo52_run : evSm env [] [] 300 100 (.fn qo52.f) qo52.args qo52.before qo52.ask = true := by kernel_rfl
theorem qo52_ok (Y : Sy) : SumOk Y env qo52 := sum_of_run (env_ok Y) KnownOk.nil SumsOk.nil (by kernel_rfl) qo52_run

theorem qo53_run : evSm env [] [] 300 100 (.fn qo53.f) qo53.args qo53.before qo53.ask = true := by kernel_rfl
theorem qo53_ok (Y : Sy) : SumOk Y env qo53 := sum_of_run (env_ok Y) KnownOk.nil SumsOk.nil (by kernel_rfl) qo53_run

theorem qo54_run : evSm env [] [] 300 100 (.fn qo54.f) qo54.args qo54.before qo54.ask = true := by kernel_rfl
theorem qo54_ok (Y : Sy) : SumOk Y env qo54 := sum_of_run (env_ok Y) KnownOk.nil SumsOk.nil (by kernel_rfl) qo54_run

theorem qo55_run : evSm env [] [] 300 100 (.fn qo55.f) qo55.args qo55.before qo55.ask = true := by kernel_rfl
theorem qo55_ok (Y : Sy) : SumOk Y env qo55 := sum_of_run (env_ok Y) KnownOk.nil SumsOk.nil (by kernel_rfl) qo55_run

end Go.Proofs.YtjokmjjecendaaaGreatDoor
