/-
  The set-up, call by call.
-/
import Derived.Test.YtjokmjjecendaaaGreatDoorAeLoG0
namespace Go.Proofs.YtjokmjjecendaaaGreatDoor
open Go.AE
set_option maxRecDepth 100000

theorem MqGoes14_run : evSm env [] [] 300 100 (.fn (sumM qGoes14).f) (sumM qGoes14).args (sumM qGoes14).before (sumM qGoes14).ask = true := by kernel_rfl
theorem MqGoes14_ok (Y : Sy) : SumOk Y env (sumM qGoes14) := sum_of_run (env_ok Y) KnownOk.nil SumsOk.nil (by kernel_rfl) MqGoes14_run

theorem MqGoesC22_run : evSm env [] [] 300 100 (.fn (sumM qGoesC22).f) (sumM qGoesC22).args (sumM qGoesC22).before (sumM qGoesC22).ask = true := by kernel_rfl
theorem MqGoesC22_ok (Y : Sy) : SumOk Y env (sumM qGoesC22) := sum_of_run (env_ok Y) KnownOk.nil SumsOk.nil (by kernel_rfl) MqGoesC22_run

theorem MqGoes15_run : evSm env [] [] 300 100 (.fn (sumM qGoes15).f) (sumM qGoes15).args (sumM qGoes15).before (sumM qGoes15).ask = true := by kernel_rfl
theorem MqGoes15_ok (Y : Sy) : SumOk Y env (sumM qGoes15) := sum_of_run (env_ok Y) KnownOk.nil SumsOk.nil (by kernel_rfl) MqGoes15_run

theorem MqGoesC23_run : evSm env [] [] 300 100 (.fn (sumM qGoesC23).f) (sumM qGoesC23).args (sumM qGoesC23).before (sumM qGoesC23).ask = true := by kernel_rfl
theorem MqGoesC23_ok (Y : Sy) : SumOk Y env (sumM qGoesC23) := sum_of_run (env_ok Y) KnownOk.nil SumsOk.nil (by kernel_rfl) MqGoesC23_run

theorem MqGoes16_run : evSm env [] [] 300 100 (.fn (sumM qGoes16).f) (sumM qGoes16).args (sumM qGoes16).before (sumM qGoes16).ask = true := by kernel_rfl
theorem MqGoes16_ok (Y : Sy) : SumOk Y env (sumM qGoes16) := sum_of_run (env_ok Y) KnownOk.nil SumsOk.nil (by kernel_rfl) MqGoes16_run

theorem MqGoesC24_run : evSm env [] [] 300 100 (.fn (sumM qGoesC24).f) (sumM qGoesC24).args (sumM qGoesC24).before (sumM qGoesC24).ask = true := by kernel_rfl
theorem MqGoesC24_ok (Y : Sy) : SumOk Y env (sumM qGoesC24) := sum_of_run (env_ok Y) KnownOk.nil SumsOk.nil (by kernel_rfl) MqGoesC24_run

theorem MqGoes17_run : evSm env [] [] 300 100 (.fn (sumM qGoes17).f) (sumM qGoes17).args (sumM qGoes17).before (sumM qGoes17).ask = true := by kernel_rfl
theorem MqGoes17_ok (Y : Sy) : SumOk Y env (sumM qGoes17) := sum_of_run (env_ok Y) KnownOk.nil SumsOk.nil (by kernel_rfl) MqGoes17_run

theorem MqGoesC25_run : evSm env [] [] 300 100 (.fn (sumM qGoesC25).f) (sumM qGoesC25).args (sumM qGoesC25).before (sumM qGoesC25).ask = true := by kernel_rfl
theorem MqGoesC25_ok (Y : Sy) : SumOk Y env (sumM qGoesC25) := sum_of_run (env_ok Y) KnownOk.nil SumsOk.nil (by kernel_rfl) MqGoesC25_run

theorem MqGoes18_run : evSm env [] [] 300 100 (.fn (sumM qGoes18).f) (sumM qGoes18).args (sumM qGoes18).before (sumM qGoes18).ask = true := by kernel_rfl
theorem MqGoes18_ok (Y : Sy) : SumOk Y env (sumM qGoes18) := sum_of_run (env_ok Y) KnownOk.nil SumsOk.nil (by kernel_rfl) MqGoes18_run

theorem MqGoesC26_run : evSm env [] [] 300 100 (.fn (sumM qGoesC26).f) (sumM qGoesC26).args (sumM qGoesC26).before (sumM qGoesC26).ask = true := by kernel_rfl
theorem MqGoesC26_ok (Y : Sy) : SumOk Y env (sumM qGoesC26) := sum_of_run (env_ok Y) KnownOk.nil SumsOk.nil (by kernel_rfl) MqGoesC26_run

theorem MqGoes19_run : evSm env [] [] 300 100 (.fn (sumM qGoes19).f) (sumM qGoes19).args (sumM qGoes19).before (sumM qGoes19).ask = true := by kernel_rfl
theorem MqGoes19_ok (Y : Sy) : SumOk Y env (sumM qGoes19) := sum_of_run (env_ok Y) KnownOk.nil SumsOk.nil (by kernel_rfl) MqGoes19_run

theorem MqGoesC27_run : evSm env [] [] 300 100 (.fn (sumM qGoesC27).f) (sumM qGoesC27).args (sumM qGoesC27).before (sumM qGoesC27).ask = true := by kernel_rfl
theorem MqGoesC27_ok (Y : Sy) : SumOk Y env (sumM qGoesC27) := sum_of_run (env_ok Y) KnownOk.nil SumsOk.nil (by kernel_rfl) MqGoesC27_run

theorem MqGoes20_run : evSm env [] [] 300 100 (.fn (sumM qGoes20).f) (sumM qGoes20).args (sumM qGoes20).before (sumM qGoes20).ask = true := by kernel_rfl
theorem MqGoes20_ok (Y : Sy) : SumOk Y env (sumM qGoes20) := sum_of_run (env_ok Y) KnownOk.nil SumsOk.nil (by kernel_rfl) MqGoes20_run

theorem MqGoesC28_run : evSm env [] [] 300 100 (.fn (sumM qGoesC28).f) (sumM qGoesC28).args (sumM qGoesC28).before (sumM qGoesC28).ask = true := by kernel_rfl
theorem MqGoesC28_ok (Y : Sy) : SumOk Y env (sumM qGoesC28) := sum_of_run (env_ok Y) KnownOk.nil SumsOk.nil (by kernel_rfl) MqGoesC28_run

theorem MqGoesB1_run : evSm env [] [] 300 100 (.fn (sumM qGoesB1).f) (sumM qGoesB1).args (sumM qGoesB1).before (sumM qGoesB1).ask = true := by kernel_rfl
theorem MqGoesB1_ok (Y : Sy) : SumOk Y env (sumM qGoesB1) := sum_of_run (env_ok Y) KnownOk.nil SumsOk.nil (by kernel_rfl) MqGoesB1_run

theorem MqGoesC29_run : evSm env [] [] 300 100 (.fn (sumM qGoesC29).f) (sumM qGoesC29).args (sumM qGoesC29).before (sumM qGoesC29).ask = true := by kernel_rfl
theorem MqGoesC29_ok (Y : Sy) : SumOk Y env (sumM qGoesC29) := sum_of_run (env_ok Y) KnownOk.nil SumsOk.nil (by kernel_rfl) MqGoesC29_run

theorem MqGoesB2_run : evSm env [] [] 300 100 (.fn (sumM qGoesB2).f) (sumM qGoesB2).args (sumM qGoesB2).before (sumM qGoesB2).ask = true := by kernel_rfl
theorem MqGoesB2_ok (Y : Sy) : SumOk Y env (sumM qGoesB2) := sum_of_run (env_ok Y) KnownOk.nil SumsOk.nil (by kernel_rfl) MqGoesB2_run

theorem MqGoesC30_run : evSm env [] [] 300 100 (.fn (sumM qGoesC30).f) (sumM qGoesC30).args (sumM qGoesC30).before (sumM qGoesC30).ask = true := by kernel_rfl
theorem MqGoesC30_ok (Y : Sy) : SumOk Y env (sumM qGoesC30) := sum_of_run (env_ok Y) KnownOk.nil SumsOk.nil (by kernel_rfl) MqGoesC30_run

theorem MqGoesC31_run : evSm env [] [] 300 100 (.fn (sumM qGoesC31).f) (sumM qGoesC31).args (sumM qGoesC31).before (sumM qGoesC31).ask = true := by kernel_rfl
theorem MqGoesC31_ok (Y : Sy) : SumOk Y env (sumM qGoesC31) := sum_of_run (env_ok Y) KnownOk.nil SumsOk.nil (by kernel_rfl) MqGoesC31_run

theorem MqGoesC32_run : evSm env [] [] 300 100 (.fn (sumM qGoesC32).f) (sumM qGoesC32).args (sumM qGoesC32).before (sumM qGoesC32).ask = true := by kernel_rfl
theorem MqGoesC32_ok (Y : Sy) : SumOk Y env (sumM qGoesC32) := sum_of_run (env_ok Y) KnownOk.nil SumsOk.nil (by kernel_rfl) MqGoesC32_run

theorem MqGoesB3_run : evSm env [] [] 300 100 (.fn (sumM qGoesB3).f) (sumM qGoesB3).args (sumM qGoesB3).before (sumM qGoesB3).ask = true := by kernel_rfl
theorem MqGoesB3_ok (Y : Sy) : SumOk Y env (sumM qGoesB3) := sum_of_run (env_ok Y) KnownOk.nil SumsOk.nil (by kernel_rfl) MqGoesB3_run

theorem MqGoesB4_run : evSm env [] [] 300 100 (.fn (sumM qGoesB4).f) (sumM qGoesB4).args (sumM qGoesB4).before (sumM qGoesB4).ask = true := by kernel_rfl
theorem MqGoesB4_ok (Y : Sy) : SumOk Y env (sumM qGoesB4) := sum_of_run (env_ok Y) KnownOk.nil SumsOk.nil (by kernel_rfl) MqGoesB4_run

theorem MqGoesB5_run : evSm env [] [] 300 100 (.fn (sumM qGoesB5).f) (sumM qGoesB5).args (sumM qGoesB5).before (sumM qGoesB5).ask = true := by kernel_rfl
theorem MqGoesB5_ok (Y : Sy) : SumOk Y env (sumM qGoesB5) := sum_of_run (env_ok Y) KnownOk.nil SumsOk.nil (by kernel_rfl) MqGoesB5_run

theorem MqGoesB6_run : evSm env [] [] 300 100 (.fn (sumM qGoesB6).f) (sumM qGoesB6).args (sumM qGoesB6).before (sumM qGoesB6).ask = true := by kernel_rfl
theorem MqGoesB6_ok (Y : Sy) : SumOk Y env (sumM qGoesB6) := sum_of_run (env_ok Y) KnownOk.nil SumsOk.nil (by kernel_rfl) MqGoesB6_run

theorem MqGoesB7_run : evSm env [] [] 300 100 (.fn (sumM qGoesB7).f) (sumM qGoesB7).args (sumM qGoesB7).before (sumM qGoesB7).ask = true := by kernel_rfl
theorem MqGoesB7_ok (Y : Sy) : SumOk Y env (sumM qGoesB7) := sum_of_run (env_ok Y) KnownOk.nil SumsOk.nil (by kernel_rfl) MqGoesB7_run

theorem MqGoesB8_run : evSm env [] [] 300 100 (.fn (sumM qGoesB8).f) (sumM qGoesB8).args (sumM qGoesB8).before (sumM qGoesB8).ask = true := by kernel_rfl
theorem MqGoesB8_ok (Y : Sy) : SumOk Y env (sumM qGoesB8) := sum_of_run (env_ok Y) KnownOk.nil SumsOk.nil (by kernel_rfl) MqGoesB8_run

theorem MqGoesB9_run : evSm env [] [] 300 100 (.fn (sumM qGoesB9).f) (sumM qGoesB9).args (sumM qGoesB9).before (sumM qGoesB9).ask = true := by kernel_rfl
theorem MqGoesB9_ok (Y : Sy) : SumOk Y env (sumM qGoesB9) := sum_of_run (env_ok Y) KnownOk.nil SumsOk.nil (by kernel_rfl) MqGoesB9_run

theorem MqGoesB10_run : evSm env [] [] 300 100 (.fn (sumM qGoesB10).f) (sumM qGoesB10).args (sumM qGoesB10).before (sumM qGoesB10).ask = true := by kernel_rfl
theorem MqGoesB10_ok (Y : Sy) : SumOk Y env (sumM qGoesB10) := sum_of_run (env_ok Y) KnownOk.nil SumsOk.nil (by kernel_rfl) MqGoesB10_run

theorem MqGoesB11_run : evSm env [] [] 300 100 (.fn (sumM qGoesB11).f) (sumM qGoesB11).args (sumM qGoesB11).before (sumM qGoesB11).ask = true := by kernel_rfl
theorem MqGoesB11_ok (Y : Sy) : SumOk Y env (sumM qGoesB11) := sum_of_run (env_ok Y) KnownOk.nil SumsOk.nil (by kernel_rfl) MqGoesB11_run

theorem MqGoesB12_run : evSm env [] [] 300 100 (.fn (sumM qGoesB12).f) (sumM qGoesB12).args (sumM qGoesB12).before (sumM qGoesB12).ask = true := by kernel_rfl
theorem MqGoesB12_ok (Y : Sy) : SumOk Y env (sumM qGoesB12) := sum_of_run (env_ok Y) KnownOk.nil SumsOk.nil (by kernel_rfl) MqGoesB12_run

theorem MqGoesB13_run : evSm env [] [] 300 100 (.fn (sumM qGoesB13).f) (sumM qGoesB13).args (sumM qGoesB13).before (sumM qGoesB13).ask = true := by kernel_rfl
theorem MqGoesB13_ok (Y : Sy) : SumOk Y env (sumM qGoesB13) := sum_of_run (env_ok Y) KnownOk.nil SumsOk.nil (by kernel_rfl) MqGoesB13_run

theorem MqGoesB14_run : evSm env [] [] 300 100 (.fn (sumM qGoesB14).f) (sumM qGoesB14).args (sumM qGoesB14).before (sumM qGoesB14).ask = true := by kernel_rfl
theorem MqGoesB14_ok (Y : Sy) : SumOk Y env (sumM qGoesB14) := sum_of_run (env_ok Y) KnownOk.nil SumsOk.nil (by kernel_rfl) MqGoesB14_run

end Go.Proofs.YtjokmjjecendaaaGreatDoor
