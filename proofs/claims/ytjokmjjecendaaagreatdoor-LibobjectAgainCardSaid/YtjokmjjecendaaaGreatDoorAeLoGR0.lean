/-
  The set-up, call by call.
-/
import Derived.Test.YtjokmjjecendaaaGreatDoorAeLoG0
namespace Go.Proofs.YtjokmjjecendaaaGreatDoor
open Go.AE
set_option maxRecDepth 100000

theorem qGoesC1_run : evSm env [] [] 300 100 (.fn qGoesC1.f) qGoesC1.args qGoesC1.before qGoesC1.ask = true := by kernel_rfl
theorem qGoesC1_ok (Y : Sy) : SumOk Y env qGoesC1 := sum_of_run (env_ok Y) KnownOk.nil SumsOk.nil (by kernel_rfl) qGoesC1_run

theorem qGoesC2_run : evSm env [] [] 300 100 (.fn qGoesC2.f) qGoesC2.args qGoesC2.before qGoesC2.ask = true := by kernel_rfl
theorem qGoesC2_ok (Y : Sy) : SumOk Y env qGoesC2 := sum_of_run (env_ok Y) KnownOk.nil SumsOk.nil (by kernel_rfl) qGoesC2_run

theorem qGoesC3_run : evSm env [] [] 300 100 (.fn qGoesC3.f) qGoesC3.args qGoesC3.before qGoesC3.ask = true := by kernel_rfl
theorem qGoesC3_ok (Y : Sy) : SumOk Y env qGoesC3 := sum_of_run (env_ok Y) KnownOk.nil SumsOk.nil (by kernel_rfl) qGoesC3_run

theorem qGoesC4_run : evSm env [] [] 300 100 (.fn qGoesC4.f) qGoesC4.args qGoesC4.before qGoesC4.ask = true := by kernel_rfl
theorem qGoesC4_ok (Y : Sy) : SumOk Y env qGoesC4 := sum_of_run (env_ok Y) KnownOk.nil SumsOk.nil (by kernel_rfl) qGoesC4_run

theorem qGoesC5_run : evSm env [] [] 300 100 (.fn qGoesC5.f) qGoesC5.args qGoesC5.before qGoesC5.ask = true := by kernel_rfl
theorem qGoesC5_ok (Y : Sy) : SumOk Y env qGoesC5 := sum_of_run (env_ok Y) KnownOk.nil SumsOk.nil (by kernel_rfl) qGoesC5_run

theorem qGoesC6_run : evSm env [] [] 300 100 (.fn qGoesC6.f) qGoesC6.args qGoesC6.before qGoesC6.ask = true := by kernel_rfl
theorem qGoesC6_ok (Y : Sy) : SumOk Y env qGoesC6 := sum_of_run (env_ok Y) KnownOk.nil SumsOk.nil (by kernel_rfl) qGoesC6_run

theorem qGoesC7_run : evSm env [] [] 300 100 (.fn qGoesC7.f) qGoesC7.args qGoesC7.before qGoesC7.ask = true := by kernel_rfl
theorem qGoesC7_ok (Y : Sy) : SumOk Y env qGoesC7 := sum_of_run (env_ok Y) KnownOk.nil SumsOk.nil (by kernel_rfl) qGoesC7_run

theorem qGoes2_run : evSm env [] [] 300 100 (.fn qGoes2.f) qGoes2.args qGoes2.before qGoes2.ask = true := by kernel_rfl
theorem qGoes2_ok (Y : Sy) : SumOk Y env qGoes2 := sum_of_run (env_ok Y) KnownOk.nil SumsOk.nil (by kernel_rfl) qGoes2_run

theorem qGoesC8_run : evSm env [] [] 300 100 (.fn qGoesC8.f) qGoesC8.args qGoesC8.before qGoesC8.ask = true := by kernel_rfl
theorem qGoesC8_ok (Y : Sy) : SumOk Y env qGoesC8 := sum_of_run (env_ok Y) KnownOk.nil SumsOk.nil (by kernel_rfl) qGoesC8_run

theorem qGoesC9_run : evSm env [] [] 300 100 (.fn qGoesC9.f) qGoesC9.args qGoesC9.before qGoesC9.ask = true := by kernel_rfl
theorem qGoesC9_ok (Y : Sy) : SumOk Y env qGoesC9 := sum_of_run (env_ok Y) KnownOk.nil SumsOk.nil (by kernel_rfl) qGoesC9_run

theorem qGoesC10_run : evSm env [] [] 300 100 (.fn qGoesC10.f) qGoesC10.args qGoesC10.before qGoesC10.ask = true := by kernel_rfl
theorem qGoesC10_ok (Y : Sy) : SumOk Y env qGoesC10 := sum_of_run (env_ok Y) KnownOk.nil SumsOk.nil (by kernel_rfl) qGoesC10_run

theorem qGoes3_run : evSm env [] [] 300 100 (.fn qGoes3.f) qGoes3.args qGoes3.before qGoes3.ask = true := by kernel_rfl
theorem qGoes3_ok (Y : Sy) : SumOk Y env qGoes3 := sum_of_run (env_ok Y) KnownOk.nil SumsOk.nil (by kernel_rfl) qGoes3_run

theorem qGoesC11_run : evSm env [] [] 300 100 (.fn qGoesC11.f) qGoesC11.args qGoesC11.before qGoesC11.ask = true := by kernel_rfl
theorem qGoesC11_ok (Y : Sy) : SumOk Y env qGoesC11 := sum_of_run (env_ok Y) KnownOk.nil SumsOk.nil (by kernel_rfl) qGoesC11_run

theorem qGoes4_run : evSm env [] [] 300 100 (.fn qGoes4.f) qGoes4.args qGoes4.before qGoes4.ask = true := by kernel_rfl
theorem qGoes4_ok (Y : Sy) : SumOk Y env qGoes4 := sum_of_run (env_ok Y) KnownOk.nil SumsOk.nil (by kernel_rfl) qGoes4_run

theorem qGoesC12_run : evSm env [] [] 300 100 (.fn qGoesC12.f) qGoesC12.args qGoesC12.before qGoesC12.ask = true := by kernel_rfl
theorem qGoesC12_ok (Y : Sy) : SumOk Y env qGoesC12 := sum_of_run (env_ok Y) KnownOk.nil SumsOk.nil (by kernel_rfl) qGoesC12_run

theorem qGoes5_run : evSm env [] [] 300 100 (.fn qGoes5.f) qGoes5.args qGoes5.before qGoes5.ask = true := by kernel_rfl
theorem qGoes5_ok (Y : Sy) : SumOk Y env qGoes5 := sum_of_run (env_ok Y) KnownOk.nil SumsOk.nil (by kernel_rfl) qGoes5_run

theorem qGoesC13_run : evSm env [] [] 300 100 (.fn qGoesC13.f) qGoesC13.args qGoesC13.before qGoesC13.ask = true := by kernel_rfl
theorem qGoesC13_ok (Y : Sy) : SumOk Y env qGoesC13 := sum_of_run (env_ok Y) KnownOk.nil SumsOk.nil (by kernel_rfl) qGoesC13_run

theorem qGoes6_run : evSm env [] [] 300 100 (.fn qGoes6.f) qGoes6.args qGoes6.before qGoes6.ask = true := by kernel_rfl
theorem qGoes6_ok (Y : Sy) : SumOk Y env qGoes6 := sum_of_run (env_ok Y) KnownOk.nil SumsOk.nil (by kernel_rfl) qGoes6_run

theorem qGoesC14_run : evSm env [] [] 300 100 (.fn qGoesC14.f) qGoesC14.args qGoesC14.before qGoesC14.ask = true := by kernel_rfl
theorem qGoesC14_ok (Y : Sy) : SumOk Y env qGoesC14 := sum_of_run (env_ok Y) KnownOk.nil SumsOk.nil (by kernel_rfl) qGoesC14_run

theorem qGoes7_run : evSm env [] [] 300 100 (.fn qGoes7.f) qGoes7.args qGoes7.before qGoes7.ask = true := by kernel_rfl
theorem qGoes7_ok (Y : Sy) : SumOk Y env qGoes7 := sum_of_run (env_ok Y) KnownOk.nil SumsOk.nil (by kernel_rfl) qGoes7_run

theorem qGoesC15_run : evSm env [] [] 300 100 (.fn qGoesC15.f) qGoesC15.args qGoesC15.before qGoesC15.ask = true := by kernel_rfl
theorem qGoesC15_ok (Y : Sy) : SumOk Y env qGoesC15 := sum_of_run (env_ok Y) KnownOk.nil SumsOk.nil (by kernel_rfl) qGoesC15_run

theorem qGoes8_run : evSm env [] [] 300 100 (.fn qGoes8.f) qGoes8.args qGoes8.before qGoes8.ask = true := by kernel_rfl
theorem qGoes8_ok (Y : Sy) : SumOk Y env qGoes8 := sum_of_run (env_ok Y) KnownOk.nil SumsOk.nil (by kernel_rfl) qGoes8_run

theorem qGoesC16_run : evSm env [] [] 300 100 (.fn qGoesC16.f) qGoesC16.args qGoesC16.before qGoesC16.ask = true := by kernel_rfl
theorem qGoesC16_ok (Y : Sy) : SumOk Y env qGoesC16 := sum_of_run (env_ok Y) KnownOk.nil SumsOk.nil (by kernel_rfl) qGoesC16_run

theorem qGoes9_run : evSm env [] [] 300 100 (.fn qGoes9.f) qGoes9.args qGoes9.before qGoes9.ask = true := by kernel_rfl
theorem qGoes9_ok (Y : Sy) : SumOk Y env qGoes9 := sum_of_run (env_ok Y) KnownOk.nil SumsOk.nil (by kernel_rfl) qGoes9_run

theorem qGoesC17_run : evSm env [] [] 300 100 (.fn qGoesC17.f) qGoesC17.args qGoesC17.before qGoesC17.ask = true := by kernel_rfl
theorem qGoesC17_ok (Y : Sy) : SumOk Y env qGoesC17 := sum_of_run (env_ok Y) KnownOk.nil SumsOk.nil (by kernel_rfl) qGoesC17_run

theorem qGoes10_run : evSm env [] [] 300 100 (.fn qGoes10.f) qGoes10.args qGoes10.before qGoes10.ask = true := by kernel_rfl
theorem qGoes10_ok (Y : Sy) : SumOk Y env qGoes10 := sum_of_run (env_ok Y) KnownOk.nil SumsOk.nil (by kernel_rfl) qGoes10_run

theorem qGoesC18_run : evSm env [] [] 300 100 (.fn qGoesC18.f) qGoesC18.args qGoesC18.before qGoesC18.ask = true := by kernel_rfl
theorem qGoesC18_ok (Y : Sy) : SumOk Y env qGoesC18 := sum_of_run (env_ok Y) KnownOk.nil SumsOk.nil (by kernel_rfl) qGoesC18_run

theorem qGoes11_run : evSm env [] [] 300 100 (.fn qGoes11.f) qGoes11.args qGoes11.before qGoes11.ask = true := by kernel_rfl
theorem qGoes11_ok (Y : Sy) : SumOk Y env qGoes11 := sum_of_run (env_ok Y) KnownOk.nil SumsOk.nil (by kernel_rfl) qGoes11_run

theorem qGoesC19_run : evSm env [] [] 300 100 (.fn qGoesC19.f) qGoesC19.args qGoesC19.before qGoesC19.ask = true := by kernel_rfl
theorem qGoesC19_ok (Y : Sy) : SumOk Y env qGoesC19 := sum_of_run (env_ok Y) KnownOk.nil SumsOk.nil (by kernel_rfl) qGoesC19_run

theorem qGoes12_run : evSm env [] [] 300 100 (.fn qGoes12.f) qGoes12.args qGoes12.before qGoes12.ask = true := by kernel_rfl
theorem qGoes12_ok (Y : Sy) : SumOk Y env qGoes12 := sum_of_run (env_ok Y) KnownOk.nil SumsOk.nil (by kernel_rfl) qGoes12_run

theorem qGoesC20_run : evSm env [] [] 300 100 (.fn qGoesC20.f) qGoesC20.args qGoesC20.before qGoesC20.ask = true := by kernel_rfl
theorem qGoesC20_ok (Y : Sy) : SumOk Y env qGoesC20 := sum_of_run (env_ok Y) KnownOk.nil SumsOk.nil (by kernel_rfl) qGoesC20_run

theorem qGoes13_run : evSm env [] [] 300 100 (.fn qGoes13.f) qGoes13.args qGoes13.before qGoes13.ask = true := by kernel_rfl
theorem qGoes13_ok (Y : Sy) : SumOk Y env qGoes13 := sum_of_run (env_ok Y) KnownOk.nil SumsOk.nil (by kernel_rfl) qGoes13_run

theorem qGoesC21_run : evSm env [] [] 300 100 (.fn qGoesC21.f) qGoesC21.args qGoesC21.before qGoesC21.ask = true := by kernel_rfl
theorem qGoesC21_ok (Y : Sy) : SumOk Y env qGoesC21 := sum_of_run (env_ok Y) KnownOk.nil SumsOk.nil (by kernel_rfl) qGoesC21_run

end Go.Proofs.YtjokmjjecendaaaGreatDoor
