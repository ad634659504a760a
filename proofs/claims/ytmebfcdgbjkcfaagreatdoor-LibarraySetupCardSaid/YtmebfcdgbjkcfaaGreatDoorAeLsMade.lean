/-
  The realm and the reference engine with the library installed in both: all objects correspond.
-/
import Derived.Test.YtmebfcdgbjkcfaaGreatDoorAeLsR2
import Derived.Test.YtmebfcdgbjkcfaaGreatDoorAeLsR3
import Derived.Test.YtmebfcdgbjkcfaaGreatDoorAeLsR4
import Derived.Test.YtmebfcdgbjkcfaaGreatDoorAeLsR5
import Derived.Test.YtmebfcdgbjkcfaaGreatDoorAeLsR6
import Derived.Test.YtmebfcdgbjkcfaaGreatDoorAeLsR7
namespace Go.Proofs.YtmebfcdgbjkcfaaGreatDoor
open Go.AE
set_option maxRecDepth 100000

noncomputable def madeSums : List Sum := [q19, q20, q7, qo0, qo1, qo2, qo3, qo4, qo5, qo6, qo7, qo8, qo9, qo10, qo11, qo12, qo13, qo14, qo15, qo16, qo17, qo18, qo19, qo20, qo21, qo22, qo23, qo24, qo25, qo26, qo27, qo28, qo29, qo30, qo31, qo32, qo33, qo34, qo35, qo36, qo37, qo38, qo39, qo40, qo41, qo42, qo43, qo44, qo45, qo46, qo47, qo48, qo49, qo50, qo51, qo52, qo53, qo54, qo55, qo56, qo57, qo58, qo59, qo60, qo61, qo62, qo63, qo64, qo65, qo66, qo67, qo68, qo69, qo70, qo71, qo72, qo73, qo74, qo75, qo76, qo77, qo78, qo79, qo80]
theorem madeSums_ok (Y : Sy) : SumsOk Y env madeSums := (SumsOk.cons (q19_ok Y) (SumsOk.cons (q20_ok Y) (SumsOk.cons (q7_ok Y) (SumsOk.cons (qo0_ok Y) (SumsOk.cons (qo1_ok Y) (SumsOk.cons (qo2_ok Y) (SumsOk.cons (qo3_ok Y) (SumsOk.cons (qo4_ok Y) (SumsOk.cons (qo5_ok Y) (SumsOk.cons (qo6_ok Y) (SumsOk.cons (qo7_ok Y) (SumsOk.cons (qo8_ok Y) (SumsOk.cons (qo9_ok Y) (SumsOk.cons (qo10_ok Y) (SumsOk.cons (qo11_ok Y) (SumsOk.cons (qo12_ok Y) (SumsOk.cons (qo13_ok Y) (SumsOk.cons (qo14_ok Y) (SumsOk.cons (qo15_ok Y) (SumsOk.cons (qo16_ok Y) (SumsOk.cons (qo17_ok Y) (SumsOk.cons (qo18_ok Y) (SumsOk.cons (qo19_ok Y) (SumsOk.cons (qo20_ok Y) (SumsOk.cons (qo21_ok Y) (SumsOk.cons (qo22_ok Y) (SumsOk.cons (qo23_ok Y) (SumsOk.cons (qo24_ok Y) (SumsOk.cons (qo25_ok Y) (SumsOk.cons (qo26_ok Y) (SumsOk.cons (qo27_ok Y) (SumsOk.cons (qo28_ok Y) (SumsOk.cons (qo29_ok Y) (SumsOk.cons (qo30_ok Y) (SumsOk.cons (qo31_ok Y) (SumsOk.cons (qo32_ok Y) (SumsOk.cons (qo33_ok Y) (SumsOk.cons (qo34_ok Y) (SumsOk.cons (qo35_ok Y) (SumsOk.cons (qo36_ok Y) (SumsOk.cons (qo37_ok Y) (SumsOk.cons (qo38_ok Y) (SumsOk.cons (qo39_ok Y) (SumsOk.cons (qo40_ok Y) (SumsOk.cons (qo41_ok Y) (SumsOk.cons (qo42_ok Y) (SumsOk.cons (qo43_ok Y) (SumsOk.cons (qo44_ok Y) (SumsOk.cons (qo45_ok Y) (SumsOk.cons (qo46_ok Y) (SumsOk.cons (qo47_ok Y) (SumsOk.cons (qo48_ok Y) (SumsOk.cons (qo49_ok Y) (SumsOk.cons (qo50_ok Y) (SumsOk.cons (qo51_ok Y) (SumsOk.cons (qo52_ok Y) (SumsOk.cons (qo53_ok Y) (SumsOk.cons (qo54_ok Y) (SumsOk.cons (qo55_ok Y) (SumsOk.cons (qo56_ok Y) (SumsOk.cons (qo57_ok Y) (SumsOk.cons (qo58_ok Y) (SumsOk.cons (qo59_ok Y) (SumsOk.cons (qo60_ok Y) (SumsOk.cons (qo61_ok Y) (SumsOk.cons (qo62_ok Y) (SumsOk.cons (qo63_ok Y) (SumsOk.cons (qo64_ok Y) (SumsOk.cons (qo65_ok Y) (SumsOk.cons (qo66_ok Y) (SumsOk.cons (qo67_ok Y) (SumsOk.cons (qo68_ok Y) (SumsOk.cons (qo69_ok Y) (SumsOk.cons (qo70_ok Y) (SumsOk.cons (qo71_ok Y) (SumsOk.cons (qo72_ok Y) (SumsOk.cons (qo73_ok Y) (SumsOk.cons (qo74_ok Y) (SumsOk.cons (qo75_ok Y) (SumsOk.cons (qo76_ok Y) (SumsOk.cons (qo77_ok Y) (SumsOk.cons (qo78_ok Y) (SumsOk.cons (qo79_ok Y) (SumsOk.cons (qo80_ok Y) SumsOk.nil))))))))))))))))))))))))))))))))))))))))))))))))))))))))))))))))))))))))))))))))))))

noncomputable def qMade : Sum := ⟨5, [.agg [.i64 0, .i64 9, .i64 5, .i64 9, .i64 0, .i64 0, .i64 0]], 1, [gHole], .ptr 4580 0, [], 60689, [0]⟩
theorem qMade_run : evSm env [] madeSums 300 100 (.fn qMade.f) qMade.args qMade.before qMade.ask = true := by kernel_rfl
theorem qMade_ok (Y : Sy) : SumOk Y env qMade := sum_of_run (env_ok Y) KnownOk.nil (madeSums_ok Y) (by kernel_rfl) qMade_run

end Go.Proofs.YtmebfcdgbjkcfaaGreatDoor
