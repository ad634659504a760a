/-
  The long closed run: calls, by the kernel.
-/
import Derived.Test.YtmebfcdgbjkcfaaGreatDoorAeLsD1
namespace Go.Proofs.YtmebfcdgbjkcfaaGreatDoor
open Go.AE
set_option maxRecDepth 100000

theorem qn10_run : evSm env [] [] 300 100 (.fn qn10.f) qn10.args qn10.before qn10.ask = true := by kernel_rfl
theorem qn10_ok (Y : Sy) : SumOk Y env qn10 := sum_of_run (env_ok Y) KnownOk.nil SumsOk.nil (by kernel_rfl) qn10_run

theorem qn11_run : evSm env [] [] 300 100 (.fn qn11.f) qn11.args qn11.before qn11.ask = true := by kernel_rfl
theorem qn11_ok (Y : Sy) : SumOk Y env qn11 := sum_of_run (env_ok Y) KnownOk.nil SumsOk.nil (by kernel_rfl) qn11_run

theorem qn12_run : evSm env [] [] 300 100 (.fn qn12.f) qn12.args qn12.before qn12.ask = true := by kernel_rfl
theorem qn12_ok (Y : Sy) : SumOk Y env qn12 := sum_of_run (env_ok Y) KnownOk.nil SumsOk.nil (by kernel_rfl) qn12_run

theorem qn13_run : evSm env [] [] 300 100 (.fn qn13.f) qn13.args qn13.before qn13.ask = true := by kernel_rfl
theorem qn13_ok (Y : Sy) : SumOk Y env qn13 := sum_of_run (env_ok Y) KnownOk.nil SumsOk.nil (by kernel_rfl) qn13_run

theorem qn14_run : evSm env [] [] 300 100 (.fn qn14.f) qn14.args qn14.before qn14.ask = true := by kernel_rfl
theorem qn14_ok (Y : Sy) : SumOk Y env qn14 := sum_of_run (env_ok Y) KnownOk.nil SumsOk.nil (by kernel_rfl) qn14_run

theorem qn15_run : evSm env [] [] 300 100 (.fn qn15.f) qn15.args qn15.before qn15.ask = true := by kernel_rfl
theorem qn15_ok (Y : Sy) : SumOk Y env qn15 := sum_of_run (env_ok Y) KnownOk.nil SumsOk.nil (by kernel_rfl) qn15_run

theorem qn16_run : evSm env [] [] 300 100 (.fn qn16.f) qn16.args qn16.before qn16.ask = true := by kernel_rfl
theorem qn16_ok (Y : Sy) : SumOk Y env qn16 := sum_of_run (env_ok Y) KnownOk.nil SumsOk.nil (by kernel_rfl) qn16_run

theorem qn17_run : evSm env [] [] 300 100 (.fn qn17.f) qn17.args qn17.before qn17.ask = true := by kernel_rfl
theorem qn17_ok (Y : Sy) : SumOk Y env qn17 := sum_of_run (env_ok Y) KnownOk.nil SumsOk.nil (by kernel_rfl) qn17_run

theorem qn18_run : evSm env [] [] 300 100 (.fn qn18.f) qn18.args qn18.before qn18.ask = true := by kernel_rfl
theorem qn18_ok (Y : Sy) : SumOk Y env qn18 := sum_of_run (env_ok Y) KnownOk.nil SumsOk.nil (by kernel_rfl) qn18_run

theorem qn19_run : evSm env [] [] 300 100 (.fn qn19.f) qn19.args qn19.before qn19.ask = true := by kernel_rfl
theorem qn19_ok (Y : Sy) : SumOk Y env qn19 := sum_of_run (env_ok Y) KnownOk.nil SumsOk.nil (by kernel_rfl) qn19_run

theorem qn20_run : evSm env [] [] 300 100 (.fn qn20.f) qn20.args qn20.before qn20.ask = true := by kernel_rfl
theorem qn20_ok (Y : Sy) : SumOk Y env qn20 := sum_of_run (env_ok Y) KnownOk.nil SumsOk.nil (by kernel_rfl) qn20_run

theorem qn21_run : evSm env [] [] 300 100 (.fn qn21.f) qn21.args qn21.before qn21.ask = true := by kernel_rfl
theorem qn21_ok (Y : Sy) : SumOk Y env qn21 := sum_of_run (env_ok Y) KnownOk.nil SumsOk.nil (by kernel_rfl) qn21_run

theorem qn22_run : evSm env [] [] 300 100 (.fn qn22.f) qn22.args qn22.before qn22.ask = true := by kernel_rfl
theorem qn22_ok (Y : Sy) : SumOk Y env qn22 := sum_of_run (env_ok Y) KnownOk.nil SumsOk.nil (by kernel_rfl) qn22_run

theorem qn23_run : evSm env [] [] 300 100 (.fn qn23.f) qn23.args qn23.before qn23.ask = true := by kernel_rfl
theorem qn23_ok (Y : Sy) : SumOk Y env qn23 := sum_of_run (env_ok Y) KnownOk.nil SumsOk.nil (by kernel_rfl) qn23_run

theorem qn24_run : evSm env [] [] 300 100 (.fn qn24.f) qn24.args qn24.before qn24.ask = true := by kernel_rfl
theorem qn24_ok (Y : Sy) : SumOk Y env qn24 := sum_of_run (env_ok Y) KnownOk.nil SumsOk.nil (by kernel_rfl) qn24_run

theorem qn25_run : evSm env [] [] 300 100 (.fn qn25.f) qn25.args qn25.before qn25.ask = true := by kernel_rfl
theorem qn25_ok (Y : Sy) : SumOk Y env qn25 := sum_of_run (env_ok Y) KnownOk.nil SumsOk.nil (by kernel_rfl) qn25_run

theorem qn26_run : evSm env [] [] 300 100 (.fn qn26.f) qn26.args qn26.before qn26.ask = true := by kernel_rfl
theorem qn26_ok (Y : Sy) : SumOk Y env qn26 := sum_of_run (env_ok Y) KnownOk.nil SumsOk.nil (by kernel_rfl) qn26_run

theorem qn27_run : evSm env [] [] 300 100 (.fn qn27.f) qn27.args qn27.before qn27.ask = true := by kernel_rfl
theorem qn27_ok (Y : Sy) : SumOk Y env qn27 := sum_of_run (env_ok Y) KnownOk.nil SumsOk.nil (by kernel_rfl) qn27_run

theorem qn28_run : evSm env [] [] 300 100 (.fn qn28.f) qn28.args qn28.before qn28.ask = true := by kernel_rfl
theorem qn28_ok (Y : Sy) : SumOk Y env qn28 := sum_of_run (env_ok Y) KnownOk.nil SumsOk.nil (by kernel_rfl) qn28_run

theorem qn29_run : evSm env [] [] 300 100 (.fn qn29.f) qn29.args qn29.before qn29.ask = true := by kernel_rfl
theorem qn29_ok (Y : Sy) : SumOk Y env qn29 := sum_of_run (env_ok Y) KnownOk.nil SumsOk.nil (by kernel_rfl) qn29_run

theorem qn30_run : evSm env [] [] 300 100 (.fn qn30.f) qn30.args qn30.before qn30.ask = true := by kernel_rfl
theorem qn30_ok (Y : Sy) : SumOk Y env qn30 := sum_of_run (env_ok Y) KnownOk.nil SumsOk.nil (by kernel_rfl) qn30_run

end Go.Proofs.YtmebfcdgbjkcfaaGreatDoor
