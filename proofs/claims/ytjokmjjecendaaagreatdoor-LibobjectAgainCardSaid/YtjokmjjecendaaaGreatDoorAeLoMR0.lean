/-
  The set-up, call by call.
-/
import Derived.Test.YtjokmjjecendaaaGreatDoorAeLoG0
namespace Go.Proofs.YtjokmjjecendaaaGreatDoor
open Go.AE
set_option maxRecDepth 100000

theorem MqGoesC1_run : evSm env [] [] 300 100 (.fn (sumM qGoesC1).f) (sumM qGoesC1).args (sumM qGoesC1).before (sumM qGoesC1).ask = true := by kernel_rfl
theorem MqGoesC1_ok (Y : Sy) : SumOk Y env (sumM qGoesC1) := sum_of_run (env_ok Y) KnownOk.nil SumsOk.nil (by kernel_rfl) MqGoesC1_run

theorem MqGoesC2_run : evSm env [] [] 300 100 (.fn (sumM qGoesC2).f) (sumM qGoesC2).args (sumM qGoesC2).before (sumM qGoesC2).ask = true := by kernel_rfl
theorem MqGoesC2_ok (Y : Sy) : SumOk Y env (sumM qGoesC2) := sum_of_run (env_ok Y) KnownOk.nil SumsOk.nil (by kernel_rfl) MqGoesC2_run

theorem MqGoesC3_run : evSm env [] [] 300 100 (.fn (sumM qGoesC3).f) (sumM qGoesC3).args (sumM qGoesC3).before (sumM qGoesC3).ask = true := by kernel_rfl
theorem MqGoesC3_ok (Y : Sy) : SumOk Y env (sumM qGoesC3) := sum_of_run (env_ok Y) KnownOk.nil SumsOk.nil (by kernel_rfl) MqGoesC3_run

theorem MqGoesC4_run : evSm env [] [] 300 100 (.fn (sumM qGoesC4).f) (sumM qGoesC4).args (sumM qGoesC4).before (sumM qGoesC4).ask = true := by kernel_rfl
theorem MqGoesC4_ok (Y : Sy) : SumOk Y env (sumM qGoesC4) := sum_of_run (env_ok Y) KnownOk.nil SumsOk.nil (by kernel_rfl) MqGoesC4_run

theorem MqGoesC5_run : evSm env [] [] 300 100 (.fn (sumM qGoesC5).f) (sumM qGoesC5).args (sumM qGoesC5).before (sumM qGoesC5).ask = true := by kernel_rfl
theorem MqGoesC5_ok (Y : Sy) : SumOk Y env (sumM qGoesC5) := sum_of_run (env_ok Y) KnownOk.nil SumsOk.nil (by kernel_rfl) MqGoesC5_run

theorem MqGoesC6_run : evSm env [] [] 300 100 (.fn (sumM qGoesC6).f) (sumM qGoesC6).args (sumM qGoesC6).before (sumM qGoesC6).ask = true := by kernel_rfl
theorem MqGoesC6_ok (Y : Sy) : SumOk Y env (sumM qGoesC6) := sum_of_run (env_ok Y) KnownOk.nil SumsOk.nil (by kernel_rfl) MqGoesC6_run

theorem MqGoesC7_run : evSm env [] [] 300 100 (.fn (sumM qGoesC7).f) (sumM qGoesC7).args (sumM qGoesC7).before (sumM qGoesC7).ask = true := by kernel_rfl
theorem MqGoesC7_ok (Y : Sy) : SumOk Y env (sumM qGoesC7) := sum_of_run (env_ok Y) KnownOk.nil SumsOk.nil (by kernel_rfl) MqGoesC7_run

theorem MqGoes2_run : evSm env [] [] 300 100 (.fn (sumM qGoes2).f) (sumM qGoes2).args (sumM qGoes2).before (sumM qGoes2).ask = true := by kernel_rfl
theorem MqGoes2_ok (Y : Sy) : SumOk Y env (sumM qGoes2) := sum_of_run (env_ok Y) KnownOk.nil SumsOk.nil (by kernel_rfl) MqGoes2_run

theorem MqGoesC8_run : evSm env [] [] 300 100 (.fn (sumM qGoesC8).f) (sumM qGoesC8).args (sumM qGoesC8).before (sumM qGoesC8).ask = true := by kernel_rfl
theorem MqGoesC8_ok (Y : Sy) : SumOk Y env (sumM qGoesC8) := sum_of_run (env_ok Y) KnownOk.nil SumsOk.nil (by kernel_rfl) MqGoesC8_run

theorem MqGoesC9_run : evSm env [] [] 300 100 (.fn (sumM qGoesC9).f) (sumM qGoesC9).args (sumM qGoesC9).before (sumM qGoesC9).ask = true := by kernel_rfl
theorem MqGoesC9_ok (Y : Sy) : SumOk Y env (sumM qGoesC9) := sum_of_run (env_ok Y) KnownOk.nil SumsOk.nil (by kernel_rfl) MqGoesC9_run

theorem MqGoesC10_run : evSm env [] [] 300 100 (.fn (sumM qGoesC10).f) (sumM qGoesC10).args (sumM qGoesC10).before (sumM qGoesC10).ask = true := by kernel_rfl
theorem MqGoesC10_ok (Y : Sy) : SumOk Y env (sumM qGoesC10) := sum_of_run (env_ok Y) KnownOk.nil SumsOk.nil (by kernel_rfl) MqGoesC10_run

theorem MqGoes3_run : evSm env [] [] 300 100 (.fn (sumM qGoes3).f) (sumM qGoes3).args (sumM qGoes3).before (sumM qGoes3).ask = true := by kernel_rfl
theorem MqGoes3_ok (Y : Sy) : SumOk Y env (sumM qGoes3) := sum_of_run (env_ok Y) KnownOk.nil SumsOk.nil (by kernel_rfl) MqGoes3_run

theorem MqGoesC11_run : evSm env [] [] 300 100 (.fn (sumM qGoesC11).f) (sumM qGoesC11).args (sumM qGoesC11).before (sumM qGoesC11).ask = true := by kernel_rfl
theorem MqGoesC11_ok (Y : Sy) : SumOk Y env (sumM qGoesC11) := sum_of_run (env_ok Y) KnownOk.nil SumsOk.nil (by kernel_rfl) MqGoesC11_run

theorem MqGoes4_run : evSm env [] [] 300 100 (.fn (sumM qGoes4).f) (sumM qGoes4).args (sumM qGoes4).before (sumM qGoes4).ask = true := by kernel_rfl
theorem MqGoes4_ok (Y : Sy) : SumOk Y env (sumM qGoes4) := sum_of_run (env_ok Y) KnownOk.nil SumsOk.nil (by kernel_rfl) MqGoes4_run

theorem MqGoesC12_run : evSm env [] [] 300 100 (.fn (sumM qGoesC12).f) (sumM qGoesC12).args (sumM qGoesC12).before (sumM qGoesC12).ask = true := by kernel_rfl
theorem MqGoesC12_ok (Y : Sy) : SumOk Y env (sumM qGoesC12) := sum_of_run (env_ok Y) KnownOk.nil SumsOk.nil (by kernel_rfl) MqGoesC12_run

theorem MqGoes5_run : evSm env [] [] 300 100 (.fn (sumM qGoes5).f) (sumM qGoes5).args (sumM qGoes5).before (sumM qGoes5).ask = true := by kernel_rfl
theorem MqGoes5_ok (Y : Sy) : SumOk Y env (sumM qGoes5) := sum_of_run (env_ok Y) KnownOk.nil SumsOk.nil (by kernel_rfl) MqGoes5_run

theorem MqGoesC13_run : evSm env [] [] 300 100 (.fn (sumM qGoesC13).f) (sumM qGoesC13).args (sumM qGoesC13).before (sumM qGoesC13).ask = true := by kernel_rfl
theorem MqGoesC13_ok (Y : Sy) : SumOk Y env (sumM qGoesC13) := sum_of_run (env_ok Y) KnownOk.nil SumsOk.nil (by kernel_rfl) MqGoesC13_run

theorem MqGoes6_run : evSm env [] [] 300 100 (.fn (sumM qGoes6).f) (sumM qGoes6).args (sumM qGoes6).before (sumM qGoes6).ask = true := by kernel_rfl
theorem MqGoes6_ok (Y : Sy) : SumOk Y env (sumM qGoes6) := sum_of_run (env_ok Y) KnownOk.nil SumsOk.nil (by kernel_rfl) MqGoes6_run

theorem MqGoesC14_run : evSm env [] [] 300 100 (.fn (sumM qGoesC14).f) (sumM qGoesC14).args (sumM qGoesC14).before (sumM qGoesC14).ask = true := by kernel_rfl
theorem MqGoesC14_ok (Y : Sy) : SumOk Y env (sumM qGoesC14) := sum_of_run (env_ok Y) KnownOk.nil SumsOk.nil (by kernel_rfl) MqGoesC14_run

theorem MqGoes7_run : evSm env [] [] 300 100 (.fn (sumM qGoes7).f) (sumM qGoes7).args (sumM qGoes7).before (sumM qGoes7).ask = true := by kernel_rfl
theorem MqGoes7_ok (Y : Sy) : SumOk Y env (sumM qGoes7) := sum_of_run (env_ok Y) KnownOk.nil SumsOk.nil (by kernel_rfl) MqGoes7_run

theorem MqGoesC15_run : evSm env [] [] 300 100 (.fn (sumM qGoesC15).f) (sumM qGoesC15).args (sumM qGoesC15).before (sumM qGoesC15).ask = true := by kernel_rfl
theorem MqGoesC15_ok (Y : Sy) : SumOk Y env (sumM qGoesC15) := sum_of_run (env_ok Y) KnownOk.nil SumsOk.nil (by kernel_rfl) MqGoesC15_run

theorem MqGoes8_run : evSm env [] [] 300 100 (.fn (sumM qGoes8).f) (sumM qGoes8).args (sumM qGoes8).before (sumM qGoes8).ask = true := by kernel_rfl
theorem MqGoes8_ok (Y : Sy) : SumOk Y env (sumM qGoes8) := sum_of_run (env_ok Y) KnownOk.nil SumsOk.nil (by kernel_rfl) MqGoes8_run

theorem MqGoesC16_run : evSm env [] [] 300 100 (.fn (sumM qGoesC16).f) (sumM qGoesC16).args (sumM qGoesC16).before (sumM qGoesC16).ask = true := by kernel_rfl
theorem MqGoesC16_ok (Y : Sy) : SumOk Y env (sumM qGoesC16) := sum_of_run (env_ok Y) KnownOk.nil SumsOk.nil (by kernel_rfl) MqGoesC16_run

theorem MqGoes9_run : evSm env [] [] 300 100 (.fn (sumM qGoes9).f) (sumM qGoes9).args (sumM qGoes9).before (sumM qGoes9).ask = true := by kernel_rfl
theorem MqGoes9_ok (Y : Sy) : SumOk Y env (sumM qGoes9) := sum_of_run (env_ok Y) KnownOk.nil SumsOk.nil (by kernel_rfl) MqGoes9_run

theorem MqGoesC17_run : evSm env [] [] 300 100 (.fn (sumM qGoesC17).f) (sumM qGoesC17).args (sumM qGoesC17).before (sumM qGoesC17).ask = true := by kernel_rfl
theorem MqGoesC17_ok (Y : Sy) : SumOk Y env (sumM qGoesC17) := sum_of_run (env_ok Y) KnownOk.nil SumsOk.nil (by kernel_rfl) MqGoesC17_run

theorem MqGoes10_run : evSm env [] [] 300 100 (.fn (sumM qGoes10).f) (sumM qGoes10).args (sumM qGoes10).before (sumM qGoes10).ask = true := by kernel_rfl
theorem MqGoes10_ok (Y : Sy) : SumOk Y env (sumM qGoes10) := sum_of_run (env_ok Y) KnownOk.nil SumsOk.nil (by kernel_rfl) MqGoes10_run

theorem MqGoesC18_run : evSm env [] [] 300 100 (.fn (sumM qGoesC18).f) (sumM qGoesC18).args (sumM qGoesC18).before (sumM qGoesC18).ask = true := by kernel_rfl
theorem MqGoesC18_ok (Y : Sy) : SumOk Y env (sumM qGoesC18) := sum_of_run (env_ok Y) KnownOk.nil SumsOk.nil (by kernel_rfl) MqGoesC18_run

theorem MqGoes11_run : evSm env [] [] 300 100 (.fn (sumM qGoes11).f) (sumM qGoes11).args (sumM qGoes11).before (sumM qGoes11).ask = true := by kernel_rfl
theorem MqGoes11_ok (Y : Sy) : SumOk Y env (sumM qGoes11) := sum_of_run (env_ok Y) KnownOk.nil SumsOk.nil (by kernel_rfl) MqGoes11_run

theorem MqGoesC19_run : evSm env [] [] 300 100 (.fn (sumM qGoesC19).f) (sumM qGoesC19).args (sumM qGoesC19).before (sumM qGoesC19).ask = true := by kernel_rfl
theorem MqGoesC19_ok (Y : Sy) : SumOk Y env (sumM qGoesC19) := sum_of_run (env_ok Y) KnownOk.nil SumsOk.nil (by kernel_rfl) MqGoesC19_run

theorem MqGoes12_run : evSm env [] [] 300 100 (.fn (sumM qGoes12).f) (sumM qGoes12).args (sumM qGoes12).before (sumM qGoes12).ask = true := by kernel_rfl
theorem MqGoes12_ok (Y : Sy) : SumOk Y env (sumM qGoes12) := sum_of_run (env_ok Y) KnownOk.nil SumsOk.nil (by kernel_rfl) MqGoes12_run

theorem MqGoesC20_run : evSm env [] [] 300 100 (.fn (sumM qGoesC20).f) (sumM qGoesC20).args (sumM qGoesC20).before (sumM qGoesC20).ask = true := by kernel_rfl
theorem MqGoesC20_ok (Y : Sy) : SumOk Y env (sumM qGoesC20) := sum_of_run (env_ok Y) KnownOk.nil SumsOk.nil (by kernel_rfl) MqGoesC20_run

theorem MqGoes13_run : evSm env [] [] 300 100 (.fn (sumM qGoes13).f) (sumM qGoes13).args (sumM qGoes13).before (sumM qGoes13).ask = true := by kernel_rfl
theorem MqGoes13_ok (Y : Sy) : SumOk Y env (sumM qGoes13) := sum_of_run (env_ok Y) KnownOk.nil SumsOk.nil (by kernel_rfl) MqGoes13_run

theorem MqGoesC21_run : evSm env [] [] 300 100 (.fn (sumM qGoesC21).f) (sumM qGoesC21).args (sumM qGoesC21).before (sumM qGoesC21).ask = true := by kernel_rfl
theorem MqGoesC21_ok (Y : Sy) : SumOk Y env (sumM qGoesC21) := sum_of_run (env_ok Y) KnownOk.nil SumsOk.nil (by kernel_rfl) MqGoesC21_run

end Go.Proofs.YtjokmjjecendaaaGreatDoor
