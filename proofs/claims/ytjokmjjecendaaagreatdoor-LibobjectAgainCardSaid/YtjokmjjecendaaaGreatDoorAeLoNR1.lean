/-
  The set-up, call by call.
-/
import Derived.Test.YtjokmjjecendaaaGreatDoorAeLoG0
namespace Go.Proofs.YtjokmjjecendaaaGreatDoor
open Go.AE
set_option maxRecDepth 100000

theorem NqGoes14_run : evSm env [] [] 300 100 (.fn (sumN qGoes14).f) (sumN qGoes14).args (sumN qGoes14).before (sumN qGoes14).ask = true := by kernel_rfl
theorem NqGoes14_ok (Y : Sy) : SumOk Y env (sumN qGoes14) := sum_of_run (env_ok Y) KnownOk.nil SumsOk.nil (by kernel_rfl) NqGoes14_run

theorem NqGoesC22_run : evSm env [] [] 300 100 (.fn (sumN qGoesC22).f) (sumN qGoesC22).args (sumN qGoesC22).before (sumN qGoesC22).ask = true := by kernel_rfl
theorem NqGoesC22_ok (Y : Sy) : SumOk Y env (sumN qGoesC22) := sum_of_run (env_ok Y) KnownOk.nil SumsOk.nil (by kernel_rfl) NqGoesC22_run

theorem NqGoes15_run : evSm env [] [] 300 100 (.fn (sumN qGoes15).f) (sumN qGoes15).args (sumN qGoes15).before (sumN qGoes15).ask = true := by kernel_rfl
theorem NqGoes15_ok (Y : Sy) : SumOk Y env (sumN qGoes15) := sum_of_run (env_ok Y) KnownOk.nil SumsOk.nil (by kernel_rfl) NqGoes15_run

theorem NqGoesC23_run : evSm env [] [] 300 100 (.fn (sumN qGoesC23).f) (sumN qGoesC23).args (sumN qGoesC23).before (sumN qGoesC23).ask = true := by kernel_rfl
theorem NqGoesC23_ok (Y : Sy) : SumOk Y env (sumN qGoesC23) := sum_of_run (env_ok Y) KnownOk.nil SumsOk.nil (by kernel_rfl) NqGoesC23_run

theorem NqGoes16_run : evSm env [] [] 300 100 (.fn (sumN qGoes16).f) (sumN qGoes16).args (sumN qGoes16).before (sumN qGoes16).ask = true := by kernel_rfl
theorem NqGoes16_ok (Y : Sy) : SumOk Y env (sumN qGoes16) := sum_of_run (env_ok Y) KnownOk.nil SumsOk.nil (by kernel_rfl) NqGoes16_run

theorem NqGoesC24_run : evSm env [] [] 300 100 (.fn (sumN qGoesC24).f) (sumN qGoesC24).args (sumN qGoesC24).before (sumN qGoesC24).ask = true := by kernel_rfl
theorem NqGoesC24_ok (Y : Sy) : SumOk Y env (sumN qGoesC24) := sum_of_run (env_ok Y) KnownOk.nil SumsOk.nil (by kernel_rfl) NqGoesC24_run

theorem NqGoes17_run : evSm env [] [] 300 100 (.fn (sumN qGoes17).f) (sumN qGoes17).args (sumN qGoes17).before (sumN qGoes17).ask = true := by kernel_rfl
theorem NqGoes17_ok (Y : Sy) : SumOk Y env (sumN qGoes17) := sum_of_run (env_ok Y) KnownOk.nil SumsOk.nil (by kernel_rfl) NqGoes17_run

theorem NqGoesC25_run : evSm env [] [] 300 100 (.fn (sumN qGoesC25).f) (sumN qGoesC25).args (sumN qGoesC25).before (sumN qGoesC25).ask = true := by kernel_rfl
theorem NqGoesC25_ok (Y : Sy) : SumOk Y env (sumN qGoesC25) := sum_of_run (env_ok Y) KnownOk.nil SumsOk.nil (by kernel_rfl) NqGoesC25_run

theorem NqGoes18_run : evSm env [] [] 300 100 (.fn (sumN qGoes18).f) (sumN qGoes18).args (sumN qGoes18).before (sumN qGoes18).ask = true := by kernel_rfl
theorem NqGoes18_ok (Y : Sy) : SumOk Y env (sumN qGoes18) := sum_of_run (env_ok Y) KnownOk.nil SumsOk.nil (by kernel_rfl) NqGoes18_run

theorem NqGoesC26_run : evSm env [] [] 300 100 (.fn (sumN qGoesC26).f) (sumN qGoesC26).args (sumN qGoesC26).before (sumN qGoesC26).ask = true := by kernel_rfl
theorem NqGoesC26_ok (Y : Sy) : SumOk Y env (sumN qGoesC26) := sum_of_run (env_ok Y) KnownOk.nil SumsOk.nil (by kernel_rfl) NqGoesC26_run

theorem NqGoes19_run : evSm env [] [] 300 100 (.fn (sumN qGoes19).f) (sumN qGoes19).args (sumN qGoes19).before (sumN qGoes19).ask = true := by kernel_rfl
theorem NqGoes19_ok (Y : Sy) : SumOk Y env (sumN qGoes19) := sum_of_run (env_ok Y) KnownOk.nil SumsOk.nil (by kernel_rfl) NqGoes19_run

theorem NqGoesC27_run : evSm env [] [] 300 100 (.fn (sumN qGoesC27).f) (sumN qGoesC27).args (sumN qGoesC27).before (sumN qGoesC27).ask = true := by kernel_rfl
theorem NqGoesC27_ok (Y : Sy) : SumOk Y env (sumN qGoesC27) := sum_of_run (env_ok Y) KnownOk.nil SumsOk.nil (by kernel_rfl) NqGoesC27_run

theorem NqGoes20_run : evSm env [] [] 300 100 (.fn (sumN qGoes20).f) (sumN qGoes20).args (sumN qGoes20).before (sumN qGoes20).ask = true := by kernel_rfl
theorem NqGoes20_ok (Y : Sy) : SumOk Y env (sumN qGoes20) := sum_of_run (env_ok Y) KnownOk.nil SumsOk.nil (by kernel_rfl) NqGoes20_run

theorem NqGoesC28_run : evSm env [] [] 300 100 (.fn (sumN qGoesC28).f) (sumN qGoesC28).args (sumN qGoesC28).before (sumN qGoesC28).ask = true := by kernel_rfl
theorem NqGoesC28_ok (Y : Sy) : SumOk Y env (sumN qGoesC28) := sum_of_run (env_ok Y) KnownOk.nil SumsOk.nil (by kernel_rfl) NqGoesC28_run

theorem NqGoesB1_run : evSm env [] [] 300 100 (.fn (sumN qGoesB1).f) (sumN qGoesB1).args (sumN qGoesB1).before (sumN qGoesB1).ask = true := by kernel_rfl
theorem NqGoesB1_ok (Y : Sy) : SumOk Y env (sumN qGoesB1) := sum_of_run (env_ok Y) KnownOk.nil SumsOk.nil (by kernel_rfl) NqGoesB1_run

theorem NqGoesC29_run : evSm env [] [] 300 100 (.fn (sumN qGoesC29).f) (sumN qGoesC29).args (sumN qGoesC29).before (sumN qGoesC29).ask = true := by kernel_rfl
theorem NqGoesC29_ok (Y : Sy) : SumOk Y env (sumN qGoesC29) := sum_of_run (env_ok Y) KnownOk.nil SumsOk.nil (by kernel_rfl) NqGoesC29_run

theorem NqGoesB2_run : evSm env [] [] 300 100 (.fn (sumN qGoesB2).f) (sumN qGoesB2).args (sumN qGoesB2).before (sumN qGoesB2).ask = true := by kernel_rfl
theorem NqGoesB2_ok (Y : Sy) : SumOk Y env (sumN qGoesB2) := sum_of_run (env_ok Y) KnownOk.nil SumsOk.nil (by kernel_rfl) NqGoesB2_run

theorem NqGoesC30_run : evSm env [] [] 300 100 (.fn (sumN qGoesC30).f) (sumN qGoesC30).args (sumN qGoesC30).before (sumN qGoesC30).ask = true := by kernel_rfl
theorem NqGoesC30_ok (Y : Sy) : SumOk Y env (sumN qGoesC30) := sum_of_run (env_ok Y) KnownOk.nil SumsOk.nil (by kernel_rfl) NqGoesC30_run

theorem NqGoesC31_run : evSm env [] [] 300 100 (.fn (sumN qGoesC31).f) (sumN qGoesC31).args (sumN qGoesC31).before (sumN qGoesC31).ask = true := by kernel_rfl
theorem NqGoesC31_ok (Y : Sy) : SumOk Y env (sumN qGoesC31) := sum_of_run (env_ok Y) KnownOk.nil SumsOk.nil (by kernel_rfl) NqGoesC31_run

theorem NqGoesC32_run : evSm env [] [] 300 100 (.fn (sumN qGoesC32).f) (sumN qGoesC32).args (sumN qGoesC32).before (sumN qGoesC32).ask = true := by kernel_rfl
theorem NqGoesC32_ok (Y : Sy) : SumOk Y env (sumN qGoesC32) := sum_of_run (env_ok Y) KnownOk.nil SumsOk.nil (by kernel_rfl) NqGoesC32_run

theorem NqGoesB3_run : evSm env [] [] 300 100 (.fn (sumN qGoesB3).f) (sumN qGoesB3).args (sumN qGoesB3).before (sumN qGoesB3).ask = true := by kernel_rfl
theorem NqGoesB3_ok (Y : Sy) : SumOk Y env (sumN qGoesB3) := sum_of_run (env_ok Y) KnownOk.nil SumsOk.nil (by kernel_rfl) NqGoesB3_run

theorem NqGoesB4_run : evSm env [] [] 300 100 (.fn (sumN qGoesB4).f) (sumN qGoesB4).args (sumN qGoesB4).before (sumN qGoesB4).ask = true := by kernel_rfl
theorem NqGoesB4_ok (Y : Sy) : SumOk Y env (sumN qGoesB4) := sum_of_run (env_ok Y) KnownOk.nil SumsOk.nil (by kernel_rfl) NqGoesB4_run

theorem NqGoesB5_run : evSm env [] [] 300 100 (.fn (sumN qGoesB5).f) (sumN qGoesB5).args (sumN qGoesB5).before (sumN qGoesB5).ask = true := by kernel_rfl
theorem NqGoesB5_ok (Y : Sy) : SumOk Y env (sumN qGoesB5) := sum_of_run (env_ok Y) KnownOk.nil SumsOk.nil (by kernel_rfl) NqGoesB5_run

theorem NqGoesB6_run : evSm env [] [] 300 100 (.fn (sumN qGoesB6).f) (sumN qGoesB6).args (sumN qGoesB6).before (sumN qGoesB6).ask = true := by kernel_rfl
theorem NqGoesB6_ok (Y : Sy) : SumOk Y env (sumN qGoesB6) := sum_of_run (env_ok Y) KnownOk.nil SumsOk.nil (by kernel_rfl) NqGoesB6_run

theorem NqGoesB7_run : evSm env [] [] 300 100 (.fn (sumN qGoesB7).f) (sumN qGoesB7).args (sumN qGoesB7).before (sumN qGoesB7).ask = true := by kernel_rfl
theorem NqGoesB7_ok (Y : Sy) : SumOk Y env (sumN qGoesB7) := sum_of_run (env_ok Y) KnownOk.nil SumsOk.nil (by kernel_rfl) NqGoesB7_run

theorem NqGoesB8_run : evSm env [] [] 300 100 (.fn (sumN qGoesB8).f) (sumN qGoesB8).args (sumN qGoesB8).before (sumN qGoesB8).ask = true := by kernel_rfl
theorem NqGoesB8_ok (Y : Sy) : SumOk Y env (sumN qGoesB8) := sum_of_run (env_ok Y) KnownOk.nil SumsOk.nil (by kernel_rfl) NqGoesB8_run

theorem NqGoesB9_run : evSm env [] [] 300 100 (.fn (sumN qGoesB9).f) (sumN qGoesB9).args (sumN qGoesB9).before (sumN qGoesB9).ask = true := by kernel_rfl
theorem NqGoesB9_ok (Y : Sy) : SumOk Y env (sumN qGoesB9) := sum_of_run (env_ok Y) KnownOk.nil SumsOk.nil (by kernel_rfl) NqGoesB9_run

theorem NqGoesB10_run : evSm env [] [] 300 100 (.fn (sumN qGoesB10).f) (sumN qGoesB10).args (sumN qGoesB10).before (sumN qGoesB10).ask = true := by kernel_rfl
theorem NqGoesB10_ok (Y : Sy) : SumOk Y env (sumN qGoesB10) := sum_of_run (env_ok Y) KnownOk.nil SumsOk.nil (by kernel_rfl) NqGoesB10_run

theorem NqGoesB11_run : evSm env [] [] 300 100 (.fn (sumN qGoesB11).f) (sumN qGoesB11).args (sumN qGoesB11).before (sumN qGoesB11).ask = true := by kernel_rfl
theorem NqGoesB11_ok (Y : Sy) : SumOk Y env (sumN qGoesB11) := sum_of_run (env_ok Y) KnownOk.nil SumsOk.nil (by kernel_rfl) NqGoesB11_run

theorem NqGoesB12_run : evSm env [] [] 300 100 (.fn (sumN qGoesB12).f) (sumN qGoesB12).args (sumN qGoesB12).before (sumN qGoesB12).ask = true := by kernel_rfl
theorem NqGoesB12_ok (Y : Sy) : SumOk Y env (sumN qGoesB12) := sum_of_run (env_ok Y) KnownOk.nil SumsOk.nil (by kernel_rfl) NqGoesB12_run

theorem NqGoesB13_run : evSm env [] [] 300 100 (.fn (sumN qGoesB13).f) (sumN qGoesB13).args (sumN qGoesB13).before (sumN qGoesB13).ask = true := by kernel_rfl
theorem NqGoesB13_ok (Y : Sy) : SumOk Y env (sumN qGoesB13) := sum_of_run (env_ok Y) KnownOk.nil SumsOk.nil (by kernel_rfl) NqGoesB13_run

theorem NqGoesB14_run : evSm env [] [] 300 100 (.fn (sumN qGoesB14).f) (sumN qGoesB14).args (sumN qGoesB14).before (sumN qGoesB14).ask = true := by kernel_rfl
theorem NqGoesB14_ok (Y : Sy) : SumOk Y env (sumN qGoesB14) := sum_of_run (env_ok Y) KnownOk.nil SumsOk.nil (by kernel_rfl) NqGoesB14_run

end Go.Proofs.YtjokmjjecendaaaGreatDoor
