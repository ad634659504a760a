/-
  The set-up, call by call.
-/
import Derived.Test.YtjokmjjecendaaaGreatDoorAeLoG0
namespace Go.Proofs.YtjokmjjecendaaaGreatDoor
open Go.AE
set_option maxRecDepth 100000

theorem NqGoesC1_run : evSm env [] [] 300 100 (.fn (sumN qGoesC1).f) (sumN qGoesC1).args (sumN qGoesC1).before (sumN qGoesC1).ask = true := by kernel_rfl
theorem NqGoesC1_ok (Y : Sy) : SumOk Y env (sumN qGoesC1) := sum_of_run (env_ok Y) KnownOk.nil SumsOk.nil (by kernel_rfl) NqGoesC1_run

theorem NqGoesC2_run : evSm env [] [] 300 100 (.fn (sumN qGoesC2).f) (sumN qGoesC2).args (sumN qGoesC2).before (sumN qGoesC2).ask = true := by kernel_rfl
theorem NqGoesC2_ok (Y : Sy) : SumOk Y env (sumN qGoesC2) := sum_of_run (env_ok Y) KnownOk.nil SumsOk.nil (by kernel_rfl) NqGoesC2_run

theorem NqGoesC3_run : evSm env [] [] 300 100 (.fn (sumN qGoesC3).f) (sumN qGoesC3).args (sumN qGoesC3).before (sumN qGoesC3).ask = true := by kernel_rfl
theorem NqGoesC3_ok (Y : Sy) : SumOk Y env (sumN qGoesC3) := sum_of_run (env_ok Y) KnownOk.nil SumsOk.nil (by kernel_rfl) NqGoesC3_run

theorem NqGoesC4_run : evSm env [] [] 300 100 (.fn (sumN qGoesC4).f) (sumN qGoesC4).args (sumN qGoesC4).before (sumN qGoesC4).ask = true := by kernel_rfl
theorem NqGoesC4_ok (Y : Sy) : SumOk Y env (sumN qGoesC4) := sum_of_run (env_ok Y) KnownOk.nil SumsOk.nil (by kernel_rfl) NqGoesC4_run

theorem NqGoesC5_run : evSm env [] [] 300 100 (.fn (sumN qGoesC5).f) (sumN qGoesC5).args (sumN qGoesC5).before (sumN qGoesC5).ask = true := by kernel_rfl
theorem NqGoesC5_ok (Y : Sy) : SumOk Y env (sumN qGoesC5) := sum_of_run (env_ok Y) KnownOk.nil SumsOk.nil (by kernel_rfl) NqGoesC5_run

theorem NqGoesC6_run : evSm env [] [] 300 100 (.fn (sumN qGoesC6).f) (sumN qGoesC6).args (sumN qGoesC6).before (sumN qGoesC6).ask = true := by kernel_rfl
theorem NqGoesC6_ok (Y : Sy) : SumOk Y env (sumN qGoesC6) := sum_of_run (env_ok Y) KnownOk.nil SumsOk.nil (by kernel_rfl) NqGoesC6_run

theorem NqGoesC7_run : evSm env [] [] 300 100 (.fn (sumN qGoesC7).f) (sumN qGoesC7).args (sumN qGoesC7).before (sumN qGoesC7).ask = true := by kernel_rfl
theorem NqGoesC7_ok (Y : Sy) : SumOk Y env (sumN qGoesC7) := sum_of_run (env_ok Y) KnownOk.nil SumsOk.nil (by kernel_rfl) NqGoesC7_run

theorem NqGoes2_run : evSm env [] [] 300 100 (.fn (sumN qGoes2).f) (sumN qGoes2).args (sumN qGoes2).before (sumN qGoes2).ask = true := by kernel_rfl
theorem NqGoes2_ok (Y : Sy) : SumOk Y env (sumN qGoes2) := sum_of_run (env_ok Y) KnownOk.nil SumsOk.nil (by kernel_rfl) NqGoes2_run

theorem NqGoesC8_run : evSm env [] [] 300 100 (.fn (sumN qGoesC8).f) (sumN qGoesC8).args (sumN qGoesC8).before (sumN qGoesC8).ask = true := by kernel_rfl
theorem NqGoesC8_ok (Y : Sy) : SumOk Y env (sumN qGoesC8) := sum_of_run (env_ok Y) KnownOk.nil SumsOk.nil (by kernel_rfl) NqGoesC8_run

theorem NqGoesC9_run : evSm env [] [] 300 100 (.fn (sumN qGoesC9).f) (sumN qGoesC9).args (sumN qGoesC9).before (sumN qGoesC9).ask = true := by kernel_rfl
theorem NqGoesC9_ok (Y : Sy) : SumOk Y env (sumN qGoesC9) := sum_of_run (env_ok Y) KnownOk.nil SumsOk.nil (by kernel_rfl) NqGoesC9_run

theorem NqGoesC10_run : evSm env [] [] 300 100 (.fn (sumN qGoesC10).f) (sumN qGoesC10).args (sumN qGoesC10).before (sumN qGoesC10).ask = true := by kernel_rfl
theorem NqGoesC10_ok (Y : Sy) : SumOk Y env (sumN qGoesC10) := sum_of_run (env_ok Y) KnownOk.nil SumsOk.nil (by kernel_rfl) NqGoesC10_run

theorem NqGoes3_run : evSm env [] [] 300 100 (.fn (sumN qGoes3).f) (sumN qGoes3).args (sumN qGoes3).before (sumN qGoes3).ask = true := by kernel_rfl
theorem NqGoes3_ok (Y : Sy) : SumOk Y env (sumN qGoes3) := sum_of_run (env_ok Y) KnownOk.nil SumsOk.nil (by kernel_rfl) NqGoes3_run

theorem NqGoesC11_run : evSm env [] [] 300 100 (.fn (sumN qGoesC11).f) (sumN qGoesC11).args (sumN qGoesC11).before (sumN qGoesC11).ask = true := by kernel_rfl
theorem NqGoesC11_ok (Y : Sy) : SumOk Y env (sumN qGoesC11) := sum_of_run (env_ok Y) KnownOk.nil SumsOk.nil (by kernel_rfl) NqGoesC11_run

theorem NqGoes4_run : evSm env [] [] 300 100 (.fn (sumN qGoes4).f) (sumN qGoes4).args (sumN qGoes4).before (sumN qGoes4).ask = true := by kernel_rfl
theorem NqGoes4_ok (Y : Sy) : SumOk Y env (sumN qGoes4) := sum_of_run (env_ok Y) KnownOk.nil SumsOk.nil (by kernel_rfl) NqGoes4_run

theorem NqGoesC12_run : evSm env [] [] 300 100 (.fn (sumN qGoesC12).f) (sumN qGoesC12).args (sumN qGoesC12).before (sumN qGoesC12).ask = true := by kernel_rfl
theorem NqGoesC12_ok (Y : Sy) : SumOk Y env (sumN qGoesC12) := sum_of_run (env_ok Y) KnownOk.nil SumsOk.nil (by kernel_rfl) NqGoesC12_run

theorem NqGoes5_run : evSm env [] [] 300 100 (.fn (sumN qGoes5).f) (sumN qGoes5).args (sumN qGoes5).before (sumN qGoes5).ask = true := by kernel_rfl
theorem NqGoes5_ok (Y : Sy) : SumOk Y env (sumN qGoes5) := sum_of_run (env_ok Y) KnownOk.nil SumsOk.nil (by kernel_rfl) NqGoes5_run

theorem NqGoesC13_run : evSm env [] [] 300 100 (.fn (sumN qGoesC13).f) (sumN qGoesC13).args (sumN qGoesC13).before (sumN qGoesC13).ask = true := by kernel_rfl
theorem NqGoesC13_ok (Y : Sy) : SumOk Y env (sumN qGoesC13) := sum_of_run (env_ok Y) KnownOk.nil SumsOk.nil (by kernel_rfl) NqGoesC13_run

theorem NqGoes6_run : evSm env [] [] 300 100 (.fn (sumN qGoes6).f) (sumN qGoes6).args (sumN qGoes6).before (sumN qGoes6).ask = true := by kernel_rfl
theorem NqGoes6_ok (Y : Sy) : SumOk Y env (sumN qGoes6) := sum_of_run (env_ok Y) KnownOk.nil SumsOk.nil (by kernel_rfl) NqGoes6_run

theorem NqGoesC14_run : evSm env [] [] 300 100 (.fn (sumN qGoesC14).f) (sumN qGoesC14).args (sumN qGoesC14).before (sumN qGoesC14).ask = true := by kernel_rfl
theorem NqGoesC14_ok (Y : Sy) : SumOk Y env (sumN qGoesC14) := sum_of_run (env_ok Y) KnownOk.nil SumsOk.nil (by kernel_rfl) NqGoesC14_run

theorem NqGoes7_run : evSm env [] [] 300 100 (.fn (sumN qGoes7).f) (sumN qGoes7).args (sumN qGoes7).before (sumN qGoes7).ask = true := by kernel_rfl
theorem NqGoes7_ok (Y : Sy) : SumOk Y env (sumN qGoes7) := sum_of_run (env_ok Y) KnownOk.nil SumsOk.nil (by kernel_rfl) NqGoes7_run

theorem NqGoesC15_run : evSm env [] [] 300 100 (.fn (sumN qGoesC15).f) (sumN qGoesC15).args (sumN qGoesC15).before (sumN qGoesC15).ask = true := by kernel_rfl
theorem NqGoesC15_ok (Y : Sy) : SumOk Y env (sumN qGoesC15) := sum_of_run (env_ok Y) KnownOk.nil SumsOk.nil (by kernel_rfl) NqGoesC15_run

theorem NqGoes8_run : evSm env [] [] 300 100 (.fn (sumN qGoes8).f) (sumN qGoes8).args (sumN qGoes8).before (sumN qGoes8).ask = true := by kernel_rfl
theorem NqGoes8_ok (Y : Sy) : SumOk Y env (sumN qGoes8) := sum_of_run (env_ok Y) KnownOk.nil SumsOk.nil (by kernel_rfl) NqGoes8_run

theorem NqGoesC16_run : evSm env [] [] 300 100 (.fn (sumN qGoesC16).f) (sumN qGoesC16).args (sumN qGoesC16).before (sumN qGoesC16).ask = true := by kernel_rfl
theorem NqGoesC16_ok (Y : Sy) : SumOk Y env (sumN qGoesC16) := sum_of_run (env_ok Y) KnownOk.nil SumsOk.nil (by kernel_rfl) NqGoesC16_run

theorem NqGoes9_run : evSm env [] [] 300 100 (.fn (sumN qGoes9).f) (sumN qGoes9).args (sumN qGoes9).before (sumN qGoes9).ask = true := by kernel_rfl
theorem NqGoes9_ok (Y : Sy) : SumOk Y env (sumN qGoes9) := sum_of_run (env_ok Y) KnownOk.nil SumsOk.nil (by kernel_rfl) NqGoes9_run

theorem NqGoesC17_run : evSm env [] [] 300 100 (.fn (sumN qGoesC17).f) (sumN qGoesC17).args (sumN qGoesC17).before (sumN qGoesC17).ask = true := by kernel_rfl
theorem NqGoesC17_ok (Y : Sy) : SumOk Y env (sumN qGoesC17) := sum_of_run (env_ok Y) KnownOk.nil SumsOk.nil (by kernel_rfl) NqGoesC17_run

theorem NqGoes10_run : evSm env [] [] 300 100 (.fn (sumN qGoes10).f) (sumN qGoes10).args (sumN qGoes10).before (sumN qGoes10).ask = true := by kernel_rfl
theorem NqGoes10_ok (Y : Sy) : SumOk Y env (sumN qGoes10) := sum_of_run (env_ok Y) KnownOk.nil SumsOk.nil (by kernel_rfl) NqGoes10_run

theorem NqGoesC18_run : evSm env [] [] 300 100 (.fn (sumN qGoesC18).f) (sumN qGoesC18).args (sumN qGoesC18).before (sumN qGoesC18).ask = true := by kernel_rfl
theorem NqGoesC18_ok (Y : Sy) : SumOk Y env (sumN qGoesC18) := sum_of_run (env_ok Y) KnownOk.nil SumsOk.nil (by kernel_rfl) NqGoesC18_run

theorem NqGoes11_run : evSm env [] [] 300 100 (.fn (sumN qGoes11).f) (sumN qGoes11).args (sumN qGoes11).before (sumN qGoes11).ask = true := by kernel_rfl
theorem NqGoes11_ok (Y : Sy) : SumOk Y env (sumN qGoes11) := sum_of_run (env_ok Y) KnownOk.nil SumsOk.nil (by kernel_rfl) NqGoes11_run

theorem NqGoesC19_run : evSm env [] [] 300 100 (.fn (sumN qGoesC19).f) (sumN qGoesC19).args (sumN qGoesC19).before (sumN qGoesC19).ask = true := by kernel_rfl
theorem NqGoesC19_ok (Y : Sy) : SumOk Y env (sumN qGoesC19) := sum_of_run (env_ok Y) KnownOk.nil SumsOk.nil (by kernel_rfl) NqGoesC19_run

theorem NqGoes12_run : evSm env [] [] 300 100 (.fn (sumN qGoes12).f) (sumN qGoes12).args (sumN qGoes12).before (sumN qGoes12).ask = true := by kernel_rfl
theorem NqGoes12_ok (Y : Sy) : SumOk Y env (sumN qGoes12) := sum_of_run (env_ok Y) KnownOk.nil SumsOk.nil (by kernel_rfl) NqGoes12_run

theorem NqGoesC20_run : evSm env [] [] 300 100 (.fn (sumN qGoesC20).f) (sumN qGoesC20).args (sumN qGoesC20).before (sumN qGoesC20).ask = true := by kernel_rfl
theorem NqGoesC20_ok (Y : Sy) : SumOk Y env (sumN qGoesC20) := sum_of_run (env_ok Y) KnownOk.nil SumsOk.nil (by kernel_rfl) NqGoesC20_run

theorem NqGoes13_run : evSm env [] [] 300 100 (.fn (sumN qGoes13).f) (sumN qGoes13).args (sumN qGoes13).before (sumN qGoes13).ask = true := by kernel_rfl
theorem NqGoes13_ok (Y : Sy) : SumOk Y env (sumN qGoes13) := sum_of_run (env_ok Y) KnownOk.nil SumsOk.nil (by kernel_rfl) NqGoes13_run

theorem NqGoesC21_run : evSm env [] [] 300 100 (.fn (sumN qGoesC21).f) (sumN qGoesC21).args (sumN qGoesC21).before (sumN qGoesC21).ask = true := by kernel_rfl
theorem NqGoesC21_ok (Y : Sy) : SumOk Y env (sumN qGoesC21) := sum_of_run (env_ok Y) KnownOk.nil SumsOk.nil (by kernel_rfl) NqGoesC21_run

end Go.Proofs.YtjokmjjecendaaaGreatDoor
