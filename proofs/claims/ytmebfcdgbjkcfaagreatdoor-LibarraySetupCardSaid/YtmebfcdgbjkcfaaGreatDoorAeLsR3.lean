/-
  The long closed run: calls, by the kernel.
-/
import Derived.Test.YtmebfcdgbjkcfaaGreatDoorAeLsR0
import Derived.Test.YtmebfcdgbjkcfaaGreatDoorAeLsR1
import Derived.Test.YtmebfcdgbjkcfaaGreatDoorAeLsP0
namespace Go.Proofs.YtmebfcdgbjkcfaaGreatDoor
open Go.AE
set_option maxRecDepth 100000

theorem qp1_run : evSm env [] [] 300 100 (.fn qp1.f) qp1.args qp1.before qp1.ask = true := by kernel_rfl
theorem qp1_ok (Y : Sy) : SumOk Y env qp1 := sum_of_run (env_ok Y) KnownOk.nil SumsOk.nil (by kernel_rfl) qp1_run

theorem qp2_run : evSm env [] [] 300 100 (.fn qp2.f) qp2.args qp2.before qp2.ask = true := by kernel_rfl
theorem qp2_ok (Y : Sy) : SumOk Y env qp2 := sum_of_run (env_ok Y) KnownOk.nil SumsOk.nil (by kernel_rfl) qp2_run

theorem qp3_run : evSm env [] [] 300 100 (.fn qp3.f) qp3.args qp3.before qp3.ask = true := by kernel_rfl
theorem qp3_ok (Y : Sy) : SumOk Y env qp3 := sum_of_run (env_ok Y) KnownOk.nil SumsOk.nil (by kernel_rfl) qp3_run

theorem qp4_run : evSm env [] [] 300 100 (.fn qp4.f) qp4.args qp4.before qp4.ask = true := by kernel_rfl
theorem qp4_ok (Y : Sy) : SumOk Y env qp4 := sum_of_run (env_ok Y) KnownOk.nil SumsOk.nil (by kernel_rfl) qp4_run

theorem qp5_run : evSm env [] [] 300 100 (.fn qp5.f) qp5.args qp5.before qp5.ask = true := by kernel_rfl
theorem qp5_ok (Y : Sy) : SumOk Y env qp5 := sum_of_run (env_ok Y) KnownOk.nil SumsOk.nil (by kernel_rfl) qp5_run

theorem qp6_run : evSm env [] [] 300 100 (.fn qp6.f) qp6.args qp6.before qp6.ask = true := by kernel_rfl
theorem qp6_ok (Y : Sy) : SumOk Y env qp6 := sum_of_run (env_ok Y) KnownOk.nil SumsOk.nil (by kernel_rfl) qp6_run

theorem qp7_run : evSm env [] [] 300 100 (.fn qp7.f) qp7.args qp7.before qp7.ask = true := by kernel_rfl
theorem qp7_ok (Y : Sy) : SumOk Y env qp7 := sum_of_run (env_ok Y) KnownOk.nil SumsOk.nil (by kernel_rfl) qp7_run

theorem qp8_run : evSm env [] [] 300 100 (.fn qp8.f) qp8.args qp8.before qp8.ask = true := by kernel_rfl
theorem qp8_ok (Y : Sy) : SumOk Y env qp8 := sum_of_run (env_ok Y) KnownOk.nil SumsOk.nil (by kernel_rfl) qp8_run

theorem qp9_run : evSm env [] [] 300 100 (.fn qp9.f) qp9.args qp9.before qp9.ask = true := by kernel_rfl
theorem qp9_ok (Y : Sy) : SumOk Y env qp9 := sum_of_run (env_ok Y) KnownOk.nil SumsOk.nil (by kernel_rfl) qp9_run

theorem qp10_run : evSm env [] [] 300 100 (.fn qp10.f) qp10.args qp10.before qp10.ask = true := by kernel_rfl
theorem qp10_ok (Y : Sy) : SumOk Y env qp10 := sum_of_run (env_ok Y) KnownOk.nil SumsOk.nil (by kernel_rfl) qp10_run

theorem qp11_run : evSm env [] [] 300 100 (.fn qp11.f) qp11.args qp11.before qp11.ask = true := by kernel_rfl
theorem qp11_ok (Y : Sy) : SumOk Y env qp11 := sum_of_run (env_ok Y) KnownOk.nil SumsOk.nil (by kernel_rfl) qp11_run

theorem qp12_run : evSm env [] [] 300 100 (.fn qp12.f) qp12.args qp12.before qp12.ask = true := by kernel_rfl
theorem qp12_ok (Y : Sy) : SumOk Y env qp12 := sum_of_run (env_ok Y) KnownOk.nil SumsOk.nil (by kernel_rfl) qp12_run

theorem qp13_run : evSm env [] [] 300 100 (.fn qp13.f) qp13.args qp13.before qp13.ask = true := by kernel_rfl
theorem qp13_ok (Y : Sy) : SumOk Y env qp13 := sum_of_run (env_ok Y) KnownOk.nil SumsOk.nil (by kernel_rfl) qp13_run

theorem qp14_run : evSm env [] [] 300 100 (.fn qp14.f) qp14.args qp14.before qp14.ask = true := by kernel_rfl
theorem qp14_ok (Y : Sy) : SumOk Y env qp14 := sum_of_run (env_ok Y) KnownOk.nil SumsOk.nil (by kernel_rfl) qp14_run

theorem qp15_run : evSm env [] [] 300 100 (.fn qp15.f) qp15.args qp15.before qp15.ask = true := by kernel_rfl
theorem qp15_ok (Y : Sy) : SumOk Y env qp15 := sum_of_run (env_ok Y) KnownOk.nil SumsOk.nil (by kernel_rfl) qp15_run

theorem qp16_run : evSm env [] [] 300 100 (.fn qp16.f) qp16.args qp16.before qp16.ask = true := by kernel_rfl
theorem qp16_ok (Y : Sy) : SumOk Y env qp16 := sum_of_run (env_ok Y) KnownOk.nil SumsOk.nil (by kernel_rfl) qp16_run

theorem qp17_run : evSm env [] [] 300 100 (.fn qp17.f) qp17.args qp17.before qp17.ask = true := by kernel_rfl
theorem qp17_ok (Y : Sy) : SumOk Y env qp17 := sum_of_run (env_ok Y) KnownOk.nil SumsOk.nil (by kernel_rfl) qp17_run

theorem qp18_run : evSm env [] [] 300 100 (.fn qp18.f) qp18.args qp18.before qp18.ask = true := by kernel_rfl
theorem qp18_ok (Y : Sy) : SumOk Y env qp18 := sum_of_run (env_ok Y) KnownOk.nil SumsOk.nil (by kernel_rfl) qp18_run

theorem qp19_run : evSm env [] [] 300 100 (.fn qp19.f) qp19.args qp19.before qp19.ask = true := by kernel_rfl
theorem qp19_ok (Y : Sy) : SumOk Y env qp19 := sum_of_run (env_ok Y) KnownOk.nil SumsOk.nil (by kernel_rfl) qp19_run

theorem qp20_run : evSm env [] [] 300 100 (.fn qp20.f) qp20.args qp20.before qp20.ask = true := by kernel_rfl
theorem qp20_ok (Y : Sy) : SumOk Y env qp20 := sum_of_run (env_ok Y) KnownOk.nil SumsOk.nil (by kernel_rfl) qp20_run

theorem qp21_run : evSm env [] [] 300 100 (.fn qp21.f) qp21.args qp21.before qp21.ask = true := by kernel_rfl
theorem qp21_ok (Y : Sy) : SumOk Y env qp21 := sum_of_run (env_ok Y) KnownOk.nil SumsOk.nil (by kernel_rfl) qp21_run

theorem q20_run : evSm env [] [qn0, qn1, qn2, qn3, qn4, qn5, qn6, qn7, qn8, qn9, qn10, qn11, qn12, qn13, qn14, qn15, qn16, qn17, qn18, qn19, qn20, qn21, qn22, qn23, qn24, qn25, qn26, qn27, qn28, qn29, qn30, qp1, qp2, qp3, qp4, qp5, qp6, qp7, qp8, qp9, qp10, qp11, qp12, qp13, qp14, qp15, qp16, qp17, qp18, qp19, qp20, qp21] 300 100 (.fn q20.f) q20.args q20.before q20.ask = true := by kernel_rfl
theorem q20_ok (Y : Sy) : SumOk Y env q20 := sum_of_run (env_ok Y) KnownOk.nil (SumsOk.cons (qn0_ok Y) (SumsOk.cons (qn1_ok Y) (SumsOk.cons (qn2_ok Y) (SumsOk.cons (qn3_ok Y) (SumsOk.cons (qn4_ok Y) (SumsOk.cons (qn5_ok Y) (SumsOk.cons (qn6_ok Y) (SumsOk.cons (qn7_ok Y) (SumsOk.cons (qn8_ok Y) (SumsOk.cons (qn9_ok Y) (SumsOk.cons (qn10_ok Y) (SumsOk.cons (qn11_ok Y) (SumsOk.cons (qn12_ok Y) (SumsOk.cons (qn13_ok Y) (SumsOk.cons (qn14_ok Y) (SumsOk.cons (qn15_ok Y) (SumsOk.cons (qn16_ok Y) (SumsOk.cons (qn17_ok Y) (SumsOk.cons (qn18_ok Y) (SumsOk.cons (qn19_ok Y) (SumsOk.cons (qn20_ok Y) (SumsOk.cons (qn21_ok Y) (SumsOk.cons (qn22_ok Y) (SumsOk.cons (qn23_ok Y) (SumsOk.cons (qn24_ok Y) (SumsOk.cons (qn25_ok Y) (SumsOk.cons (qn26_ok Y) (SumsOk.cons (qn27_ok Y) (SumsOk.cons (qn28_ok Y) (SumsOk.cons (qn29_ok Y) (SumsOk.cons (qn30_ok Y) (SumsOk.cons (qp1_ok Y) (SumsOk.cons (qp2_ok Y) (SumsOk.cons (qp3_ok Y) (SumsOk.cons (qp4_ok Y) (SumsOk.cons (qp5_ok Y) (SumsOk.cons (qp6_ok Y) (SumsOk.cons (qp7_ok Y) (SumsOk.cons (qp8_ok Y) (SumsOk.cons (qp9_ok Y) (SumsOk.cons (qp10_ok Y) (SumsOk.cons (qp11_ok Y) (SumsOk.cons (qp12_ok Y) (SumsOk.cons (qp13_ok Y) (SumsOk.cons (qp14_ok Y) (SumsOk.cons (qp15_ok Y) (SumsOk.cons (qp16_ok Y) (SumsOk.cons (qp17_ok Y) (SumsOk.cons (qp18_ok Y) (SumsOk.cons (qp19_ok Y) (SumsOk.cons (qp20_ok Y) (SumsOk.cons (qp21_ok Y) SumsOk.nil)))))))))))))))))))))))))))))))))))))))))))))))))))) (by kernel_rfl) q20_run

end Go.Proofs.YtmebfcdgbjkcfaaGreatDoor
