/-
  The long closed run: calls, by the kernel.
-/
import Derived.Test.YtmebfcdgbjkcfaaGreatDoorAeLsD1
namespace Go.Proofs.YtmebfcdgbjkcfaaGreatDoor
open Go.AE
set_option maxRecDepth 100000

theorem qo63_run : evSm env [] [] 300 100 (.fn qo63.f) qo63.args qo63.before qo63.ask = true := by kernel_rfl
theorem qo63_ok (Y : Sy) : SumOk Y env qo63 := sum_of_run (env_ok Y) KnownOk.nil SumsOk.nil (by kernel_rfl) qo63_run

theorem qo64_run : evSm env [] [] 300 100 (.fn qo64.f) qo64.args qo64.before qo64.ask = true := by kernel_rfl
theorem qo64_ok (Y : Sy) : SumOk Y env qo64 := sum_of_run (env_ok Y) KnownOk.nil SumsOk.nil (by kernel_rfl) qo64_run

theorem qo65_run : evSm env [] [] 300 100 (.fn qo65.f) qo65.args qo65.before qo65.ask = true := by kernel_rfl
theorem qo65_ok (Y : Sy) : SumOk Y env qo65 := sum_of_run (env_ok Y) KnownOk.nil SumsOk.nil (by kernel_rfl) qo65_run

theorem qo66_run : evSm env [] [] 300 100 (.fn qo66.f) qo66.args qo66.before qo66.ask = true := by kernel_rfl
theorem qo66_ok (Y : Sy) : SumOk Y env qo66 := sum_of_run (env_ok Y) KnownOk.nil SumsOk.nil (by kernel_rfl) qo66_run

theorem qo67_run : evSm env [] [] 300 100 (.fn qo67.f) qo67.args qo67.before qo67.ask = true := by kernel_rfl
theorem qo67_ok (Y : Sy) : SumOk Y env qo67 := sum_of_run (env_ok Y) KnownOk.nil SumsOk.nil (by kernel_rfl) qo67_run

theorem qo68_run : evSm env [] [] 300 100 (.fn qo68.f) qo68.args qo68.before qo68.ask = true := by kernel_rfl
theorem qo68_ok (Y : Sy) : SumOk Y env qo68 := sum_of_run (env_ok Y) KnownOk.nil SumsOk.nil (by kernel_rfl) qo68_run

theorem qo69_run : evSm env [] [] 300 100 (.fn qo69.f) qo69.args qo69.before qo69.ask = true := by kernel_rfl
theorem qo69_ok (Y : Sy) : SumOk Y env qo69 := sum_of_run (env_ok Y) KnownOk.nil SumsOk.nil (by kernel_rfl) qo69_run

theorem qo70_run : evSm env [] [] 300 100 (.fn qo70.f) qo70.args qo70.before qo70.ask = true := by kernel_rfl
theorem qo70_ok (Y : Sy) : SumOk Y env qo70 := sum_of_run (env_ok Y) KnownOk.nil SumsOk.nil (by kernel_rfl) qo70_run

theorem qo71_run : evSm env [] [] 300 100 (.fn qo71.f) qo71.args qo71.before qo71.ask = true := by kernel_rfl
theorem qo71_ok (Y : Sy) : SumOk Y env qo71 := sum_of_run (env_ok Y) KnownOk.nil SumsOk.nil (by kernel_rfl) qo71_run

theorem qo72_run : evSm env [] [] 300 100 (.fn qo72.f) qo72.args qo72.before qo72.ask = true := by kernel_rfl
theorem qo72_ok (Y : Sy) : SumOk Y env qo72 := sum_of_run (env_ok Y) KnownOk.nil SumsOk.nil (by kernel_rfl) qo72_run

theorem qo73_run : evSm env [] [] 300 100 (.fn qo73.f) qo73.args qo73.before qo73.ask = true := by kernel_rfl
theorem qo73_ok (Y : Sy) : SumOk Y env qo73 := sum_of_run (env_ok Y) KnownOk.nil SumsOk.nil (by kernel_rfl) qo73_run

theorem qo74_run : evSm env [] [] 300 100 (.fn qo74.f) qo74.args qo74.before qo74.ask = true := by kernel_rfl
theorem qo74_ok (Y : Sy) : SumOk Y env qo74 := sum_of_run (env_ok Y) KnownOk.nil SumsOk.nil (by kernel_rfl) qo74_run

theorem qo75_run : evSm env [] [] 300 100 (.fn qo75.f) qo75.args qo75.before qo75.ask = true := by kernel_rfl
theorem qo75_ok (Y : Sy) : SumOk Y env qo75 := sum_of_run (env_ok Y) KnownOk.nil SumsOk.nil (by kernel_rfl) qo75_run

theorem qo76_run : evSm env [] [] 300 100 (.fn qo76.f) qo76.args qo76.before qo76.ask = true := by kernel_rfl
theorem qo76_ok (Y : Sy) : SumOk Y env qo76 := sum_of_run (env_ok Y) KnownOk.nil SumsOk.nil (by kernel_rfl) qo76_run

theorem qo77_run : evSm env [] [] 300 100 (.fn qo77.f) qo77.args qo77.before qo77.ask = true := by kernel_rfl
theorem qo77_ok (Y : Sy) : SumOk Y env qo77 := sum_of_run (env_ok Y) KnownOk.nil SumsOk.nil (by kernel_rfl) qo77_run

theorem qo78_run : evSm env [] [] 300 100 (.fn qo78.f) qo78.args qo78.before qo78.ask = true := by kernel_rfl
theorem qo78_ok (Y : Sy) : SumOk Y env qo78 := sum_of_run (env_ok Y) KnownOk.nil SumsOk.nil (by kernel_rfl) qo78_run

theorem qo79_run : evSm env [] [] 300 100 (.fn qo79.f) qo79.args qo79.before qo79.ask = true := by kernel_rfl
theorem qo79_ok (Y : Sy) : SumOk Y env qo79 := sum_of_run (env_ok Y) KnownOk.nil SumsOk.nil (by kernel_rfl) qo79_run

theorem qo80_run : evSm env [] [] 300 100 (.fn qo80.f) qo80.args qo80.before qo80.ask = true := by kernel_rfl
theorem qo80_ok (Y : Sy) : SumOk Y env qo80 := sum_of_run (env_ok Y) KnownOk.nil SumsOk.nil (by kernel_rfl) qo80_run

end Go.Proofs.YtmebfcdgbjkcfaaGreatDoor
