/-
  The law LibasyncThrows, class by class, by the kernel.
-/
import Derived.Test.YtahijhejnjhkeaaGreatDoorAeLives
import Derived.Test.YtahijhejnjhkeaaGreatDoorAeLibasyncThrowsR0
import Derived.Test.YtahijhejnjhkeaaGreatDoorAeLibasyncThrowsR1
import Derived.Test.YtahijhejnjhkeaaGreatDoorAeLibasyncThrowsR2
import Derived.Test.YtahijhejnjhkeaaGreatDoorAeLibasyncThrowsR3
namespace Go.Proofs.YtahijhejnjhkeaaGreatDoor
open Go.AE
set_option maxRecDepth 100000

theorem has_libasyncThrows_6 : hasBody env 6 = true := by kernel_rfl

theorem libasyncThrows_ret {m0 : Int} (h0 : lo64 ≤ m0 ∧ m0 ≤ hi64) {m1 : Int} (h1 : lo64 ≤ m1 ∧ m1 ≤ hi64) (m2 : Bool) : AE.Returns env.P 3 [.int .i64 m0, .int .i64 m1, .bool m2] (.bool true) := by
  let Y : Sy := ⟨fun i => match i with | 0 => m0 | 1 => m1 | _ => 0, fun _ => ByteArray.empty, fun _ => (none, 0, 0)⟩
  have fin : ∀ (a0 b0 : Int) (a1 b1 : Int) (c2 : Bool), a0 ≤ m0 → m0 ≤ b0 → a1 ≤ m1 → m1 ≤ b1 → runLibasyncThrows [mkS .i64 (.var 0) a0 b0, mkS .i64 (.var 1) a1 b1, .bool c2] = true → AE.Returns env.P 3 [.int .i64 m0, .int .i64 m1, .bool c2] (.bool true) := fun a0 b0 a1 b1 c2 l0 u0 l1 u1 hrun =>
    Gives.returns (gives_of_sums (Y := Y) (env_ok _) (KnownOk.nil.cons has_libasyncThrows_6 (lives_gives Y)) (madeSums_ok Y) rfl hrun) (concs_cons.2 ⟨_, _, mkS_ok (Y := Y) (e := .var 0) l0 u0, concs_cons.2 ⟨_, _, mkS_ok (Y := Y) (e := .var 1) l1 u1, concs_cons.2 ⟨_, _, rfl, rfl, rfl⟩, rfl⟩, rfl⟩) rfl
  cases m2 with
  | true =>
    by_cases k2_1_0 : m1 ≤ -9007199254740993
    · exact fin _ _ _ _ _ h0.1 h0.2 h1.1 k2_1_0 run_libasyncThrows_0
    by_cases k2_1_1 : m1 ≤ 9007199254740992
    · by_cases k3_0_0 : m0 ≤ 89
      · exact fin _ _ _ _ _ h0.1 k3_0_0 (by omega) k2_1_1 run_libasyncThrows_1
      by_cases k3_0_1 : m0 ≤ 90
      · exact fin _ _ _ _ _ (by omega) k3_0_1 (by omega) k2_1_1 run_libasyncThrows_2
      by_cases k3_0_2 : m0 ≤ 91
      · exact fin _ _ _ _ _ (by omega) k3_0_2 (by omega) k2_1_1 run_libasyncThrows_3
      by_cases k3_0_3 : m0 ≤ 92
      · exact fin _ _ _ _ _ (by omega) k3_0_3 (by omega) k2_1_1 run_libasyncThrows_4
      by_cases k3_0_4 : m0 ≤ 93
      · exact fin _ _ _ _ _ (by omega) k3_0_4 (by omega) k2_1_1 run_libasyncThrows_5
      by_cases k3_0_5 : m0 ≤ 94
      · exact fin _ _ _ _ _ (by omega) k3_0_5 (by omega) k2_1_1 run_libasyncThrows_6
      by_cases k3_0_6 : m0 ≤ 95
      · exact fin _ _ _ _ _ (by omega) k3_0_6 (by omega) k2_1_1 run_libasyncThrows_7
      by_cases k3_0_7 : m0 ≤ 96
      · exact fin _ _ _ _ _ (by omega) k3_0_7 (by omega) k2_1_1 run_libasyncThrows_8
      by_cases k3_0_8 : m0 ≤ 99
      · exact fin _ _ _ _ _ (by omega) k3_0_8 (by omega) k2_1_1 run_libasyncThrows_9
      by_cases k3_0_9 : m0 ≤ 100
      · exact fin _ _ _ _ _ (by omega) k3_0_9 (by omega) k2_1_1 run_libasyncThrows_10
      by_cases k3_0_10 : m0 ≤ 101
      · exact fin _ _ _ _ _ (by omega) k3_0_10 (by omega) k2_1_1 run_libasyncThrows_11
      by_cases k3_0_11 : m0 ≤ 102
      · exact fin _ _ _ _ _ (by omega) k3_0_11 (by omega) k2_1_1 run_libasyncThrows_12
      by_cases k3_0_12 : m0 ≤ 103
      · exact fin _ _ _ _ _ (by omega) k3_0_12 (by omega) k2_1_1 run_libasyncThrows_13
      by_cases k3_0_13 : m0 ≤ 104
      · exact fin _ _ _ _ _ (by omega) k3_0_13 (by omega) k2_1_1 run_libasyncThrows_14
      by_cases k3_0_14 : m0 ≤ 109
      · exact fin _ _ _ _ _ (by omega) k3_0_14 (by omega) k2_1_1 run_libasyncThrows_15
      by_cases k3_0_15 : m0 ≤ 110
      · exact fin _ _ _ _ _ (by omega) k3_0_15 (by omega) k2_1_1 run_libasyncThrows_16
      by_cases k3_0_16 : m0 ≤ 111
      · exact fin _ _ _ _ _ (by omega) k3_0_16 (by omega) k2_1_1 run_libasyncThrows_17
      by_cases k3_0_17 : m0 ≤ 112
      · exact fin _ _ _ _ _ (by omega) k3_0_17 (by omega) k2_1_1 run_libasyncThrows_18
      exact fin _ _ _ _ _ (by omega) h0.2 (by omega) k2_1_1 run_libasyncThrows_19
    exact fin _ _ _ _ _ h0.1 h0.2 (by omega) h1.2 run_libasyncThrows_20
  | false =>
    by_cases k2_1_0 : m1 ≤ -9007199254740993
    · exact fin _ _ _ _ _ h0.1 h0.2 h1.1 k2_1_0 run_libasyncThrows_21
    by_cases k2_1_1 : m1 ≤ 9007199254740992
    · by_cases k3_0_0 : m0 ≤ 89
      · exact fin _ _ _ _ _ h0.1 k3_0_0 (by omega) k2_1_1 run_libasyncThrows_22
      by_cases k3_0_1 : m0 ≤ 90
      · exact fin _ _ _ _ _ (by omega) k3_0_1 (by omega) k2_1_1 run_libasyncThrows_23
      by_cases k3_0_2 : m0 ≤ 91
      · exact fin _ _ _ _ _ (by omega) k3_0_2 (by omega) k2_1_1 run_libasyncThrows_24
      by_cases k3_0_3 : m0 ≤ 92
      · exact fin _ _ _ _ _ (by omega) k3_0_3 (by omega) k2_1_1 run_libasyncThrows_25
      by_cases k3_0_4 : m0 ≤ 93
      · exact fin _ _ _ _ _ (by omega) k3_0_4 (by omega) k2_1_1 run_libasyncThrows_26
      by_cases k3_0_5 : m0 ≤ 94
      · exact fin _ _ _ _ _ (by omega) k3_0_5 (by omega) k2_1_1 run_libasyncThrows_27
      by_cases k3_0_6 : m0 ≤ 95
      · exact fin _ _ _ _ _ (by omega) k3_0_6 (by omega) k2_1_1 run_libasyncThrows_28
      by_cases k3_0_7 : m0 ≤ 96
      · exact fin _ _ _ _ _ (by omega) k3_0_7 (by omega) k2_1_1 run_libasyncThrows_29
      by_cases k3_0_8 : m0 ≤ 99
      · exact fin _ _ _ _ _ (by omega) k3_0_8 (by omega) k2_1_1 run_libasyncThrows_30
      by_cases k3_0_9 : m0 ≤ 100
      · exact fin _ _ _ _ _ (by omega) k3_0_9 (by omega) k2_1_1 run_libasyncThrows_31
      by_cases k3_0_10 : m0 ≤ 101
      · exact fin _ _ _ _ _ (by omega) k3_0_10 (by omega) k2_1_1 run_libasyncThrows_32
      by_cases k3_0_11 : m0 ≤ 102
      · exact fin _ _ _ _ _ (by omega) k3_0_11 (by omega) k2_1_1 run_libasyncThrows_33
      by_cases k3_0_12 : m0 ≤ 103
      · exact fin _ _ _ _ _ (by omega) k3_0_12 (by omega) k2_1_1 run_libasyncThrows_34
      by_cases k3_0_13 : m0 ≤ 104
      · exact fin _ _ _ _ _ (by omega) k3_0_13 (by omega) k2_1_1 run_libasyncThrows_35
      by_cases k3_0_14 : m0 ≤ 109
      · exact fin _ _ _ _ _ (by omega) k3_0_14 (by omega) k2_1_1 run_libasyncThrows_36
      by_cases k3_0_15 : m0 ≤ 110
      · exact fin _ _ _ _ _ (by omega) k3_0_15 (by omega) k2_1_1 run_libasyncThrows_37
      by_cases k3_0_16 : m0 ≤ 111
      · exact fin _ _ _ _ _ (by omega) k3_0_16 (by omega) k2_1_1 run_libasyncThrows_38
      by_cases k3_0_17 : m0 ≤ 112
      · exact fin _ _ _ _ _ (by omega) k3_0_17 (by omega) k2_1_1 run_libasyncThrows_39
      exact fin _ _ _ _ _ (by omega) h0.2 (by omega) k2_1_1 run_libasyncThrows_40
    exact fin _ _ _ _ _ h0.1 h0.2 (by omega) h1.2 run_libasyncThrows_41

end Go.Proofs.YtahijhejnjhkeaaGreatDoor
