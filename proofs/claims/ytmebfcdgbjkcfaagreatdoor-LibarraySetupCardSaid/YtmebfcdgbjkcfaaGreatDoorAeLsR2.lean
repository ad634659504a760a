/-
  The long closed run: calls, by the kernel.
-/
import Derived.Test.YtmebfcdgbjkcfaaGreatDoorAeLsD1
namespace Go.Proofs.YtmebfcdgbjkcfaaGreatDoor
open Go.AE
set_option maxRecDepth 100000

theorem qm0_run : evSm env [] [] 300 100 (.fn qm0.f) qm0.args qm0.before qm0.ask = true := by kernel_rfl
theorem qm0_ok (Y : Sy) : SumOk Y env qm0 := sum_of_run (env_ok Y) KnownOk.nil SumsOk.nil (by kernel_rfl) qm0_run

theorem qm1_run : evSm env [] [] 300 100 (.fn qm1.f) qm1.args qm1.before qm1.ask = true := by kernel_rfl
theorem qm1_ok (Y : Sy) : SumOk Y env qm1 := sum_of_run (env_ok Y) KnownOk.nil SumsOk.nil (by kernel_rfl) qm1_run

theorem qm2_run : evSm env [] [] 300 100 (.fn qm2.f) qm2.args qm2.before qm2.ask = true := by kernel_rfl
theorem qm2_ok (Y : Sy) : SumOk Y env qm2 := sum_of_run (env_ok Y) KnownOk.nil SumsOk.nil (by kernel_rfl) qm2_run

theorem qm3_run : evSm env [] [] 300 100 (.fn qm3.f) qm3.args qm3.before qm3.ask = true := by kernel_rfl
theorem qm3_ok (Y : Sy) : SumOk Y env qm3 := sum_of_run (env_ok Y) KnownOk.nil SumsOk.nil (by kernel_rfl) qm3_run

theorem qm4_run : evSm env [] [] 300 100 (.fn qm4.f) qm4.args qm4.before qm4.ask = true := by kernel_rfl
theorem qm4_ok (Y : Sy) : SumOk Y env qm4 := sum_of_run (env_ok Y) KnownOk.nil SumsOk.nil (by kernel_rfl) qm4_run

theorem qm5_run : evSm env [] [] 300 100 (.fn qm5.f) qm5.args qm5.before qm5.ask = true := by kernel_rfl
theorem qm5_ok (Y : Sy) : SumOk Y env qm5 := sum_of_run (env_ok Y) KnownOk.nil SumsOk.nil (by kernel_rfl) qm5_run

theorem qm6_run : evSm env [] [] 300 100 (.fn qm6.f) qm6.args qm6.before qm6.ask = true := by kernel_rfl
theorem qm6_ok (Y : Sy) : SumOk Y env qm6 := sum_of_run (env_ok Y) KnownOk.nil SumsOk.nil (by kernel_rfl) qm6_run

theorem qm7_run : evSm env [] [] 300 100 (.fn qm7.f) qm7.args qm7.before qm7.ask = true := by kernel_rfl
theorem qm7_ok (Y : Sy) : SumOk Y env qm7 := sum_of_run (env_ok Y) KnownOk.nil SumsOk.nil (by kernel_rfl) qm7_run

theorem qm8_run : evSm env [] [] 300 100 (.fn qm8.f) qm8.args qm8.before qm8.ask = true := by kernel_rfl
theorem qm8_ok (Y : Sy) : SumOk Y env qm8 := sum_of_run (env_ok Y) KnownOk.nil SumsOk.nil (by kernel_rfl) qm8_run

theorem qm9_run : evSm env [] [] 300 100 (.fn qm9.f) qm9.args qm9.before qm9.ask = true := by kernel_rfl
theorem qm9_ok (Y : Sy) : SumOk Y env qm9 := sum_of_run (env_ok Y) KnownOk.nil SumsOk.nil (by kernel_rfl) qm9_run

theorem qm10_run : evSm env [] [] 300 100 (.fn qm10.f) qm10.args qm10.before qm10.ask = true := by kernel_rfl
theorem qm10_ok (Y : Sy) : SumOk Y env qm10 := sum_of_run (env_ok Y) KnownOk.nil SumsOk.nil (by kernel_rfl) qm10_run

theorem qm11_run : evSm env [] [] 300 100 (.fn qm11.f) qm11.args qm11.before qm11.ask = true := by kernel_rfl
theorem qm11_ok (Y : Sy) : SumOk Y env qm11 := sum_of_run (env_ok Y) KnownOk.nil SumsOk.nil (by kernel_rfl) qm11_run

theorem qm12_run : evSm env [] [] 300 100 (.fn qm12.f) qm12.args qm12.before qm12.ask = true := by kernel_rfl
theorem qm12_ok (Y : Sy) : SumOk Y env qm12 := sum_of_run (env_ok Y) KnownOk.nil SumsOk.nil (by kernel_rfl) qm12_run

theorem qm13_run : evSm env [] [] 300 100 (.fn qm13.f) qm13.args qm13.before qm13.ask = true := by kernel_rfl
theorem qm13_ok (Y : Sy) : SumOk Y env qm13 := sum_of_run (env_ok Y) KnownOk.nil SumsOk.nil (by kernel_rfl) qm13_run

theorem qm14_run : evSm env [] [] 300 100 (.fn qm14.f) qm14.args qm14.before qm14.ask = true := by kernel_rfl
theorem qm14_ok (Y : Sy) : SumOk Y env qm14 := sum_of_run (env_ok Y) KnownOk.nil SumsOk.nil (by kernel_rfl) qm14_run

theorem qm15_run : evSm env [] [] 300 100 (.fn qm15.f) qm15.args qm15.before qm15.ask = true := by kernel_rfl
theorem qm15_ok (Y : Sy) : SumOk Y env qm15 := sum_of_run (env_ok Y) KnownOk.nil SumsOk.nil (by kernel_rfl) qm15_run

theorem qm16_run : evSm env [] [] 300 100 (.fn qm16.f) qm16.args qm16.before qm16.ask = true := by kernel_rfl
theorem qm16_ok (Y : Sy) : SumOk Y env qm16 := sum_of_run (env_ok Y) KnownOk.nil SumsOk.nil (by kernel_rfl) qm16_run

theorem qm17_run : evSm env [] [] 300 100 (.fn qm17.f) qm17.args qm17.before qm17.ask = true := by kernel_rfl
theorem qm17_ok (Y : Sy) : SumOk Y env qm17 := sum_of_run (env_ok Y) KnownOk.nil SumsOk.nil (by kernel_rfl) qm17_run

theorem qm18_run : evSm env [] [] 300 100 (.fn qm18.f) qm18.args qm18.before qm18.ask = true := by kernel_rfl
theorem qm18_ok (Y : Sy) : SumOk Y env qm18 := sum_of_run (env_ok Y) KnownOk.nil SumsOk.nil (by kernel_rfl) qm18_run

theorem qm19_run : evSm env [] [] 300 100 (.fn qm19.f) qm19.args qm19.before qm19.ask = true := by kernel_rfl
theorem qm19_ok (Y : Sy) : SumOk Y env qm19 := sum_of_run (env_ok Y) KnownOk.nil SumsOk.nil (by kernel_rfl) qm19_run

theorem qm20_run : evSm env [] [] 300 100 (.fn qm20.f) qm20.args qm20.before qm20.ask = true := by kernel_rfl
theorem qm20_ok (Y : Sy) : SumOk Y env qm20 := sum_of_run (env_ok Y) KnownOk.nil SumsOk.nil (by kernel_rfl) qm20_run

theorem qm21_run : evSm env [] [] 300 100 (.fn qm21.f) qm21.args qm21.before qm21.ask = true := by kernel_rfl
theorem qm21_ok (Y : Sy) : SumOk Y env qm21 := sum_of_run (env_ok Y) KnownOk.nil SumsOk.nil (by kernel_rfl) qm21_run

theorem qm22_run : evSm env [] [] 300 100 (.fn qm22.f) qm22.args qm22.before qm22.ask = true := by kernel_rfl
theorem qm22_ok (Y : Sy) : SumOk Y env qm22 := sum_of_run (env_ok Y) KnownOk.nil SumsOk.nil (by kernel_rfl) qm22_run

theorem qm23_run : evSm env [] [] 300 100 (.fn qm23.f) qm23.args qm23.before qm23.ask = true := by kernel_rfl
theorem qm23_ok (Y : Sy) : SumOk Y env qm23 := sum_of_run (env_ok Y) KnownOk.nil SumsOk.nil (by kernel_rfl) qm23_run

theorem qm24_run : evSm env [] [] 300 100 (.fn qm24.f) qm24.args qm24.before qm24.ask = true := by kernel_rfl
theorem qm24_ok (Y : Sy) : SumOk Y env qm24 := sum_of_run (env_ok Y) KnownOk.nil SumsOk.nil (by kernel_rfl) qm24_run

theorem q7_run : evSm env [] [qm0, qm1, qm2, qm3, qm4, qm5, qm6, qm7, qm8, qm9, qm10, qm11, qm12, qm13, qm14, qm15, qm16, qm17, qm18, qm19, qm20, qm21, qm22, qm23, qm24] 300 100 (.fn q7.f) q7.args q7.before q7.ask = true := by kernel_rfl
theorem q7_ok (Y : Sy) : SumOk Y env q7 := sum_of_run (env_ok Y) KnownOk.nil (SumsOk.cons (qm0_ok Y) (SumsOk.cons (qm1_ok Y) (SumsOk.cons (qm2_ok Y) (SumsOk.cons (qm3_ok Y) (SumsOk.cons (qm4_ok Y) (SumsOk.cons (qm5_ok Y) (SumsOk.cons (qm6_ok Y) (SumsOk.cons (qm7_ok Y) (SumsOk.cons (qm8_ok Y) (SumsOk.cons (qm9_ok Y) (SumsOk.cons (qm10_ok Y) (SumsOk.cons (qm11_ok Y) (SumsOk.cons (qm12_ok Y) (SumsOk.cons (qm13_ok Y) (SumsOk.cons (qm14_ok Y) (SumsOk.cons (qm15_ok Y) (SumsOk.cons (qm16_ok Y) (SumsOk.cons (qm17_ok Y) (SumsOk.cons (qm18_ok Y) (SumsOk.cons (qm19_ok Y) (SumsOk.cons (qm20_ok Y) (SumsOk.cons (qm21_ok Y) (SumsOk.cons (qm22_ok Y) (SumsOk.cons (qm23_ok Y) (SumsOk.cons (qm24_ok Y) SumsOk.nil))))))))))))))))))))))))) (by kernel_rfl) q7_run

end Go.Proofs.YtmebfcdgbjkcfaaGreatDoor
