/-
  The set-up as one.
-/
import Derived.Test.YtjokmjjecendaaaGreatDoorAeLoGR0
import Derived.Test.YtjokmjjecendaaaGreatDoorAeLoGR1
namespace Go.Proofs.YtjokmjjecendaaaGreatDoor
open Go.AE
set_option maxRecDepth 100000

noncomputable def inG : List Sum := [qGoesC1, qGoesC2, qGoesC3, qGoesC4, qGoesC5, qGoesC6, qGoesC7, qGoes2, qGoesC8, qGoesC9, qGoesC10, qGoes3, qGoesC11, qGoes4, qGoesC12, qGoes5, qGoesC13, qGoes6, qGoesC14, qGoes7, qGoesC15, qGoes8, qGoesC16, qGoes9, qGoesC17, qGoes10, qGoesC18, qGoes11, qGoesC19, qGoes12, qGoesC20, qGoes13, qGoesC21, qGoes14, qGoesC22, qGoes15, qGoesC23, qGoes16, qGoesC24, qGoes17, qGoesC25, qGoes18, qGoesC26, qGoes19, qGoesC27, qGoes20, qGoesC28, qGoesB1, qGoesC29, qGoesB2, qGoesC30, qGoesC31, qGoesC32, qGoesB3, qGoesB4, qGoesB5, qGoesB6, qGoesB7, qGoesB8, qGoesB9, qGoesB10, qGoesB11, qGoesB12, qGoesB13, qGoesB14]
theorem inG_ok (Y : Sy) : SumsOk Y env inG := (SumsOk.cons (qGoesC1_ok Y) (SumsOk.cons (qGoesC2_ok Y) (SumsOk.cons (qGoesC3_ok Y) (SumsOk.cons (qGoesC4_ok Y) (SumsOk.cons (qGoesC5_ok Y) (SumsOk.cons (qGoesC6_ok Y) (SumsOk.cons (qGoesC7_ok Y) (SumsOk.cons (qGoes2_ok Y) (SumsOk.cons (qGoesC8_ok Y) (SumsOk.cons (qGoesC9_ok Y) (SumsOk.cons (qGoesC10_ok Y) (SumsOk.cons (qGoes3_ok Y) (SumsOk.cons (qGoesC11_ok Y) (SumsOk.cons (qGoes4_ok Y) (SumsOk.cons (qGoesC12_ok Y) (SumsOk.cons (qGoes5_ok Y) (SumsOk.cons (qGoesC13_ok Y) (SumsOk.cons (qGoes6_ok Y) (SumsOk.cons (qGoesC14_ok Y) (SumsOk.cons (qGoes7_ok Y) (SumsOk.cons (qGoesC15_ok Y) (SumsOk.cons (qGoes8_ok Y) (SumsOk.cons (qGoesC16_ok Y) (SumsOk.cons (qGoes9_ok Y) (SumsOk.cons (qGoesC17_ok Y) (SumsOk.cons (qGoes10_ok Y) (SumsOk.cons (qGoesC18_ok Y) (SumsOk.cons (qGoes11_ok Y) (SumsOk.cons (qGoesC19_ok Y) (SumsOk.cons (qGoes12_ok Y) (SumsOk.cons (qGoesC20_ok Y) (SumsOk.cons (qGoes13_ok Y) (SumsOk.cons (qGoesC21_ok Y) (SumsOk.cons (qGoes14_ok Y) (SumsOk.cons (qGoesC22_ok Y) (SumsOk.cons (qGoes15_ok Y) (SumsOk.cons (qGoesC23_ok Y) (SumsOk.cons (qGoes16_ok Y) (SumsOk.cons (qGoesC24_ok Y) (SumsOk.cons (qGoes17_ok Y) (SumsOk.cons (qGoesC25_ok Y) (SumsOk.cons (qGoes18_ok Y) (SumsOk.cons (qGoesC26_ok Y) (SumsOk.cons (qGoes19_ok Y) (SumsOk.cons (qGoesC27_ok Y) (SumsOk.cons (qGoes20_ok Y) (SumsOk.cons (qGoesC28_ok Y) (SumsOk.cons (qGoesB1_ok Y) (SumsOk.cons (qGoesC29_ok Y) (SumsOk.cons (qGoesB2_ok Y) (SumsOk.cons (qGoesC30_ok Y) (SumsOk.cons (qGoesC31_ok Y) (SumsOk.cons (qGoesC32_ok Y) (SumsOk.cons (qGoesB3_ok Y) (SumsOk.cons (qGoesB4_ok Y) (SumsOk.cons (qGoesB5_ok Y) (SumsOk.cons (qGoesB6_ok Y) (SumsOk.cons (qGoesB7_ok Y) (SumsOk.cons (qGoesB8_ok Y) (SumsOk.cons (qGoesB9_ok Y) (SumsOk.cons (qGoesB10_ok Y) (SumsOk.cons (qGoesB11_ok Y) (SumsOk.cons (qGoesB12_ok Y) (SumsOk.cons (qGoesB13_ok Y) (SumsOk.cons (qGoesB14_ok Y) SumsOk.nil)))))))))))))))))))))))))))))))))))))))))))))))))))))))))))))))))

theorem qGoesS1_run : evSm env [] inG 300 100 (.fn qGoesS1.f) qGoesS1.args qGoesS1.before qGoesS1.ask = true := by kernel_rfl
theorem qGoesS1_ok (Y : Sy) : SumOk Y env qGoesS1 := sum_of_run (env_ok Y) KnownOk.nil (inG_ok Y) (by kernel_rfl) qGoesS1_run

theorem qGoes1_run : evSm env [] [] 300 100 (.fn qGoes1.f) qGoes1.args qGoes1.before qGoes1.ask = true := by kernel_rfl
theorem qGoes1_ok (Y : Sy) : SumOk Y env qGoes1 := sum_of_run (env_ok Y) KnownOk.nil SumsOk.nil (by kernel_rfl) qGoes1_run

theorem goes_run : evSm env [] [qGoes1, qGoesS1] 300 100 (.fn 16) [] ⟨.nil, 0, [], []⟩ (fun v _ => sameV v (.bool true)) = true := by kernel_rfl

theorem goes_gives (Y : Sy) : Gives Y env 16 [] (.bool true) := gives_of_sums (env_ok Y) KnownOk.nil (SumsOk.cons (qGoes1_ok Y) (SumsOk.cons (qGoesS1_ok Y) SumsOk.nil)) rfl goes_run

end Go.Proofs.YtjokmjjecendaaaGreatDoor
