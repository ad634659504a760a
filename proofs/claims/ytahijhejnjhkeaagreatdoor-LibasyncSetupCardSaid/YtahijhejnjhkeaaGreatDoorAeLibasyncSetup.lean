/-
  The law LibasyncSetup, class by class, by the kernel.
-/
import Derived.Test.YtahijhejnjhkeaaGreatDoorAeLives
import Derived.Test.YtahijhejnjhkeaaGreatDoorAeLibasyncSetupR0
import Derived.Test.YtahijhejnjhkeaaGreatDoorAeLibasyncSetupR1
import Derived.Test.YtahijhejnjhkeaaGreatDoorAeLibasyncSetupR2
import Derived.Test.YtahijhejnjhkeaaGreatDoorAeLibasyncSetupR3
namespace Go.Proofs.YtahijhejnjhkeaaGreatDoor
open Go.AE
set_option maxRecDepth 100000

theorem has_libasyncSetup_6 : hasBody env 6 = true := by kernel_rfl

theorem libasyncSetup_ret {m0 : Int} (h0 : lo64 ≤ m0 ∧ m0 ≤ hi64) : AE.Returns env.P 4 [.int .i64 m0] (.bool true) := by
  let Y : Sy := ⟨fun i => match i with | 0 => m0 | _ => 0, fun _ => ByteArray.empty, fun _ => (none, 0, 0)⟩
  have fin : ∀ (a0 b0 : Int), a0 ≤ m0 → m0 ≤ b0 → runLibasyncSetup [mkS .i64 (.var 0) a0 b0] = true → AE.Returns env.P 4 [.int .i64 m0] (.bool true) := fun a0 b0 l0 u0 hrun =>
    Gives.returns (gives_of_sums (Y := Y) (env_ok _) (KnownOk.nil.cons has_libasyncSetup_6 (lives_gives Y)) (madeSums_ok Y) rfl hrun) (concs_cons.2 ⟨_, _, mkS_ok (Y := Y) (e := .var 0) l0 u0, rfl, rfl⟩) rfl
  by_cases k1_0_0 : m0 ≤ 89
  · exact fin _ _ h0.1 k1_0_0 run_libasyncSetup_0
  by_cases k1_0_1 : m0 ≤ 96
  · exact fin _ _ (by omega) k1_0_1 run_libasyncSetup_1
  by_cases k1_0_2 : m0 ≤ 99
  · exact fin _ _ (by omega) k1_0_2 run_libasyncSetup_2
  by_cases k1_0_3 : m0 ≤ 104
  · exact fin _ _ (by omega) k1_0_3 run_libasyncSetup_3
  by_cases k1_0_4 : m0 ≤ 109
  · exact fin _ _ (by omega) k1_0_4 run_libasyncSetup_4
  by_cases k1_0_5 : m0 ≤ 112
  · exact fin _ _ (by omega) k1_0_5 run_libasyncSetup_5
  exact fin _ _ (by omega) h0.2 run_libasyncSetup_6

end Go.Proofs.YtahijhejnjhkeaaGreatDoor
