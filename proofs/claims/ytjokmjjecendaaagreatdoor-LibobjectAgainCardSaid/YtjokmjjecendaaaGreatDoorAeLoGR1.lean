/-
  The set-up, call by call.
-/
import Derived.Test.YtjokmjjecendaaaGreatDoorAeLoG0
namespace Go.Proofs.YtjokmjjecendaaaGreatDoor
open Go.AE
set_option maxRecDepth 100000

theorem qGoes14_run : evSm env [] [] 300 100 (.fn qGoes14.f) qGoes14.args qGoes14.before qGoes14.ask = true := by kernel_rfl
theorem qGoes14_ok (Y : Sy) : SumOk Y env qGoes14 := sum_of_run (env_ok Y) KnownOk.nil SumsOk.nil (by kernel_rfl) qGoes14_run

theorem qGoesC22_run : evSm env [] [] 300 100 (.fn qGoesC22.f) qGoesC22.args qGoesC22.before qGoesC22.ask = true := by kernel_rfl
theorem qGoesC22_ok (Y : Sy) : SumOk Y env qGoesC22 := sum_of_run (env_ok Y) KnownOk.nil SumsOk.nil (by kernel_rfl) qGoesC22_run

theorem qGoes15_run : evSm env [] [] 300 100 (.fn qGoes15.f) qGoes15.args qGoes15.before qGoes15.ask = true := by kernel_rfl
theorem qGoes15_ok (Y : Sy) : SumOk Y env qGoes15 := sum_of_run (env_ok Y) KnownOk.nil SumsOk.nil (by kernel_rfl) qGoes15_run

theorem qGoesC23_run : evSm env [] [] 300 100 (.fn qGoesC23.f) qGoesC23.args qGoesC23.before qGoesC23.ask = true := by kernel_rfl
theorem qGoesC23_ok (Y : Sy) : SumOk Y env qGoesC23 := sum_of_run (env_ok Y) KnownOk.nil SumsOk.nil (by kernel_rfl) qGoesC23_run

theorem qGoes16_run : evSm env [] [] 300 100 (.fn qGoes16.f) qGoes16.args qGoes16.before qGoes16.ask = true := by kernel_rfl
theorem qGoes16_ok (Y : Sy) : SumOk Y env qGoes16 := sum_of_run (env_ok Y) KnownOk.nil SumsOk.nil (by kernel_rfl) qGoes16_run

theorem qGoesC24_run : evSm env [] [] 300 100 (.fn qGoesC24.f) qGoesC24.args qGoesC24.before qGoesC24.ask = true := by kernel_rfl
theorem qGoesC24_ok (Y : Sy) : SumOk Y env qGoesC24 := sum_of_run (env_ok Y) KnownOk.nil SumsOk.nil (by kernel_rfl) qGoesC24_run

theorem qGoes17_run : evSm env [] [] 300 100 (.fn qGoes17.f) qGoes17.args qGoes17.before qGoes17.ask = true := by kernel_rfl
theorem qGoes17_ok (Y : Sy) : SumOk Y env qGoes17 := sum_of_run (env_ok Y) KnownOk.nil SumsOk.nil (by kernel_rfl) qGoes17_run

theorem qGoesC25_run : evSm env [] [] 300 100 (.fn qGoesC25.f) qGoesC25.args qGoesC25.before qGoesC25.ask = true := by kernel_rfl
theorem qGoesC25_ok (Y : Sy) : SumOk Y env qGoesC25 := sum_of_run (env_ok Y) KnownOk.nil SumsOk.nil (by kernel_rfl) qGoesC25_run

theorem qGoes18_run : evSm env [] [] 300 100 (.fn qGoes18.f) qGoes18.args qGoes18.before qGoes18.ask = true := by kernel_rfl
theorem qGoes18_ok (Y : Sy) : SumOk Y env qGoes18 := sum_of_run (env_ok Y) KnownOk.nil SumsOk.nil (by kernel_rfl) qGoes18_run

theorem qGoesC26_run : evSm env [] [] 300 100 (.fn qGoesC26.f) qGoesC26.args qGoesC26.before qGoesC26.ask = true := by kernel_rfl
theorem qGoesC26_ok (Y : Sy) : SumOk Y env qGoesC26 := sum_of_run (env_ok Y) KnownOk.nil SumsOk.nil (by kernel_rfl) qGoesC26_run

theorem qGoes19_run : evSm env [] [] 300 100 (.fn qGoes19.f) qGoes19.args qGoes19.before qGoes19.ask = true := by kernel_rfl
theorem qGoes19_ok (Y : Sy) : SumOk Y env qGoes19 := sum_of_run (env_ok Y) KnownOk.nil SumsOk.nil (by kernel_rfl) qGoes19_run

theorem qGoesC27_run : evSm env [] [] 300 100 (.fn qGoesC27.f) qGoesC27.args qGoesC27.before qGoesC27.ask = true := by kernel_rfl
theorem qGoesC27_ok (Y : Sy) : SumOk Y env qGoesC27 := sum_of_run (env_ok Y) KnownOk.nil SumsOk.nil (by kernel_rfl) qGoesC27_run

theorem qGoes20_run : evSm env [] [] 300 100 (.fn qGoes20.f) qGoes20.args qGoes20.before qGoes20.ask = true := by kernel_rfl
theorem qGoes20_ok (Y : Sy) : SumOk Y env qGoes20 := sum_of_run (env_ok Y) KnownOk.nil SumsOk.nil (by kernel_rfl) qGoes20_run

theorem qGoesC28_run : evSm env [] [] 300 100 (.fn qGoesC28.f) qGoesC28.args qGoesC28.before qGoesC28.ask = true := by kernel_rfl
theorem qGoesC28_ok (Y : Sy) : SumOk Y env qGoesC28 := sum_of_run (env_ok Y) KnownOk.nil SumsOk.nil (by kernel_rfl) qGoesC28_run

theorem qGoesB1_run : evSm env [] [] 300 100 (.fn qGoesB1.f) qGoesB1.args qGoesB1.before qGoesB1.ask = true := by kernel_rfl
theorem qGoesB1_ok (Y : Sy) : SumOk Y env qGoesB1 := sum_of_run (env_ok Y) KnownOk.nil SumsOk.nil (by kernel_rfl) qGoesB1_run

theorem qGoesC29_run : evSm env [] [] 300 100 (.fn qGoesC29.f) qGoesC29.args qGoesC29.before qGoesC29.ask = true := by kernel_rfl
theorem qGoesC29_ok (Y : Sy) : SumOk Y env qGoesC29 := sum_of_run (env_ok Y) KnownOk.nil SumsOk.nil (by kernel_rfl) qGoesC29_run

theorem qGoesB2_run : evSm env [] [] 300 100 (.fn qGoesB2.f) qGoesB2.args qGoesB2.before qGoesB2.ask = true := by kernel_rfl
theorem qGoesB2_ok (Y : Sy) : SumOk Y env qGoesB2 := sum_of_run (env_ok Y) KnownOk.nil SumsOk.nil (by kernel_rfl) qGoesB2_run

theorem qGoesC30_run : evSm env [] [] 300 100 (.fn qGoesC30.f) qGoesC30.args qGoesC30.before qGoesC30.ask = true := by kernel_rfl
theorem qGoesC30_ok (Y : Sy) : SumOk Y env qGoesC30 := sum_of_run (env_ok Y) KnownOk.nil SumsOk.nil (by kernel_rfl) qGoesC30_run

theorem qGoesC31_run : evSm env [] [] 300 100 (.fn qGoesC31.f) qGoesC31.args qGoesC31.before qGoesC31.ask = true := by kernel_rfl
theorem qGoesC31_ok (Y : Sy) : SumOk Y env qGoesC31 := sum_of_run (env_ok Y) KnownOk.nil SumsOk.nil (by kernel_rfl) qGoesC31_run

theorem qGoesC32_run : evSm env [] [] 300 100 (.fn qGoesC32.f) qGoesC32.args qGoesC32.before qGoesC32.ask = true := by kernel_rfl
theorem qGoesC32_ok (Y : Sy) : SumOk Y env qGoesC32 := sum_of_run (env_ok Y) KnownOk.nil SumsOk.nil (by kernel_rfl) qGoesC32_run

theorem qGoesB3_run : evSm env [] [] 300 100 (.fn qGoesB3.f) qGoesB3.args qGoesB3.before qGoesB3.ask = true := by kernel_rfl
theorem qGoesB3_ok (Y : Sy) : SumOk Y env qGoesB3 := sum_of_run (env_ok Y) KnownOk.nil SumsOk.nil (by kernel_rfl) qGoesB3_run

theorem qGoesB4_run : evSm env [] [] 300 100 (.fn qGoesB4.f) qGoesB4.args qGoesB4.before qGoesB4.ask = true := by kernel_rfl
theorem qGoesB4_ok (Y : Sy) : SumOk Y env qGoesB4 := sum_of_run (env_ok Y) KnownOk.nil SumsOk.nil (by kernel_rfl) qGoesB4_run

theorem qGoesB5_run : evSm env [] [] 300 100 (.fn qGoesB5.f) qGoesB5.args qGoesB5.before qGoesB5.ask = true := by kernel_rfl
theorem qGoesB5_ok (Y : Sy) : SumOk Y env qGoesB5 := sum_of_run (env_ok Y) KnownOk.nil SumsOk.nil (by kernel_rfl) qGoesB5_run

theorem qGoesB6_run : evSm env [] [] 300 100 (.fn qGoesB6.f) qGoesB6.args qGoesB6.before qGoesB6.ask = true := by kernel_rfl
theorem qGoesB6_ok (Y : Sy) : SumOk Y env qGoesB6 := sum_of_run (env_ok Y) KnownOk.nil SumsOk.nil (by kernel_rfl) qGoesB6_run

theorem qGoesB7_run : evSm env [] [] 300 100 (.fn qGoesB7.f) qGoesB7.args qGoesB7.before qGoesB7.ask = true := by kernel_rfl
theorem qGoesB7_ok (Y : Sy) : SumOk Y env qGoesB7 := sum_of_run (env_ok Y) KnownOk.nil SumsOk.nil (by kernel_rfl) qGoesB7_run

theorem qGoesB8_run : evSm env [] [] 300 100 (.fn qGoesB8.f) qGoesB8.args qGoesB8.before qGoesB8.ask = true := by kernel_rfl
theorem qGoesB8_ok (Y : Sy) : SumOk Y env qGoesB8 := sum_of_run (env_ok Y) KnownOk.nil SumsOk.nil (by kernel_rfl) qGoesB8_run

theorem qGoesB9_run : evSm env [] [] 300 100 (.fn qGoesB9.f) qGoesB9.args qGoesB9.before qGoesB9.ask = true := by kernel_rfl
theorem qGoesB9_ok (Y : Sy) : SumOk Y env qGoesB9 := sum_of_run (env_ok Y) KnownOk.nil SumsOk.nil (by kernel_rfl) qGoesB9_run

theorem qGoesB10_run : evSm env [] [] 300 100 (.fn qGoesB10.f) qGoesB10.args qGoesB10.before qGoesB10.ask = true := by kernel_rfl
theorem qGoesB10_ok (Y : Sy) : SumOk Y env qGoesB10 := sum_of_run (env_ok Y) KnownOk.nil SumsOk.nil (by kernel_rfl) qGoesB10_run

theorem qGoesB11_run : evSm env [] [] 300 100 (.fn qGoesB11.f) qGoesB11.args qGoesB11.before qGoesB11.ask = true := by kernel_rfl
theorem qGoesB11_ok (Y : Sy) : SumOk Y env qGoesB11 := sum_of_run (env_ok Y) KnownOk.nil SumsOk.nil (by kernel_rfl) qGoesB11_run

theorem qGoesB12_run : evSm env [] [] 300 100 (.fn qGoesB12.f) qGoesB12.args qGoesB12.before qGoesB12.ask = true := by kernel_rfl
theorem qGoesB12_ok (Y : Sy) : SumOk Y env qGoesB12 := sum_of_run (env_ok Y) KnownOk.nil SumsOk.nil (by kernel_rfl) qGoesB12_run

theorem qGoesB13_run : evSm env [] [] 300 100 (.fn qGoesB13.f) qGoesB13.args qGoesB13.before qGoesB13.ask = true := by kernel_rfl
theorem qGoesB13_ok (Y : Sy) : SumOk Y env qGoesB13 := sum_of_run (env_ok Y) KnownOk.nil SumsOk.nil (by kernel_rfl) qGoesB13_run

theorem qGoesB14_run : evSm env [] [] 300 100 (.fn qGoesB14.f) qGoesB14.args qGoesB14.before qGoesB14.ask = true := by kernel_rfl
theorem qGoesB14_ok (Y : Sy) : SumOk Y env qGoesB14 := sum_of_run (env_ok Y) KnownOk.nil SumsOk.nil (by kernel_rfl) qGoesB14_run

end Go.Proofs.YtjokmjjecendaaaGreatDoor
