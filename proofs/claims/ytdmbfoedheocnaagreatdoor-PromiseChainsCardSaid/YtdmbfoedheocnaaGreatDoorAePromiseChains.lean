/-
  The law PromiseChains, class by class, by the kernel.
-/
import Derived.Test.YtdmbfoedheocnaaGreatDoorAeChains0
import Derived.Test.YtdmbfoedheocnaaGreatDoorAeChains1
import Derived.Test.YtdmbfoedheocnaaGreatDoorAeChains2
import Derived.Test.YtdmbfoedheocnaaGreatDoorAeChains3
namespace Go.Proofs.YtdmbfoedheocnaaGreatDoor
open Go.AE
set_option maxRecDepth 100000

theorem chains_runs : ∀ (i : Nat) (b : Bool), i < 30 → chainsRun i b = true
  | 0, true, _ => run_chains_0_true
  | 0, false, _ => run_chains_0_false
  | 1, true, _ => run_chains_1_true
  | 1, false, _ => run_chains_1_false
  | 2, true, _ => run_chains_2_true
  | 2, false, _ => run_chains_2_false
  | 3, true, _ => run_chains_3_true
  | 3, false, _ => run_chains_3_false
  | 4, true, _ => run_chains_4_true
  | 4, false, _ => run_chains_4_false
  | 5, true, _ => run_chains_5_true
  | 5, false, _ => run_chains_5_false
  | 6, true, _ => run_chains_6_true
  | 6, false, _ => run_chains_6_false
  | 7, true, _ => run_chains_7_true
  | 7, false, _ => run_chains_7_false
  | 8, true, _ => run_chains_8_true
  | 8, false, _ => run_chains_8_false
  | 9, true, _ => run_chains_9_true
  | 9, false, _ => run_chains_9_false
  | 10, true, _ => run_chains_10_true
  | 10, false, _ => run_chains_10_false
  | 11, true, _ => run_chains_11_true
  | 11, false, _ => run_chains_11_false
  | 12, true, _ => run_chains_12_true
  | 12, false, _ => run_chains_12_false
  | 13, true, _ => run_chains_13_true
  | 13, false, _ => run_chains_13_false
  | 14, true, _ => run_chains_14_true
  | 14, false, _ => run_chains_14_false
  | 15, true, _ => run_chains_15_true
  | 15, false, _ => run_chains_15_false
  | 16, true, _ => run_chains_16_true
  | 16, false, _ => run_chains_16_false
  | 17, true, _ => run_chains_17_true
  | 17, false, _ => run_chains_17_false
  | 18, true, _ => run_chains_18_true
  | 18, false, _ => run_chains_18_false
  | 19, true, _ => run_chains_19_true
  | 19, false, _ => run_chains_19_false
  | 20, true, _ => run_chains_20_true
  | 20, false, _ => run_chains_20_false
  | 21, true, _ => run_chains_21_true
  | 21, false, _ => run_chains_21_false
  | 22, true, _ => run_chains_22_true
  | 22, false, _ => run_chains_22_false
  | 23, true, _ => run_chains_23_true
  | 23, false, _ => run_chains_23_false
  | 24, true, _ => run_chains_24_true
  | 24, false, _ => run_chains_24_false
  | 25, true, _ => run_chains_25_true
  | 25, false, _ => run_chains_25_false
  | 26, true, _ => run_chains_26_true
  | 26, false, _ => run_chains_26_false
  | 27, true, _ => run_chains_27_true
  | 27, false, _ => run_chains_27_false
  | 28, true, _ => run_chains_28_true
  | 28, false, _ => run_chains_28_false
  | 29, true, _ => run_chains_29_true
  | 29, false, _ => run_chains_29_false
  | n + 30, _, h => absurd h (by omega)

theorem has_awake : hasBody env 4 = true := by kernel_rfl

theorem promiseChains_ret {n v : Int} (hn : lo64 ≤ n ∧ n ≤ hi64) (hv : lo64 ≤ v ∧ v ≤ hi64) (b : Bool) : AE.Returns env.P 3 [.int .i64 n, .int .i64 v, .bool b] (.bool true) := by
  let Y : Sy := ⟨fun i => match i with | 0 => n | _ => v, fun _ => ByteArray.empty⟩
  have hx : sxN.val Y = (IntKind.wrap .u64 n).tmod 30 := rfl
  have h0 : 0 ≤ IntKind.wrap .u64 n := (wrap_in .u64 n).1
  have h1 : 0 ≤ sxN.val Y := by rw [hx]; exact Int.tmod_nonneg _ h0
  have h2 : sxN.val Y < 30 := by rw [hx]; exact Int.tmod_lt_of_pos _ (by omega)
  obtain ⟨i, hi⟩ := Int.eq_ofNat_of_zero_le h1
  have hi30 : i < 30 := by omega
  have hE : EnvOk Y (envC i) := envF_ok fun e l h hm => by
    rcases List.mem_cons.1 hm with hm | hm
    · cases hm
      rw [hi]
      exact ⟨Int.le_refl _, Int.le_refl _⟩
    · cases hm
  have hkn : KnownOk Y (envC i) knC := (KnownOk.nil (E := env)).cons has_awake (awake_gives Y)
  have hss : SumsOk Y (envC i) thensSums := (thensSums_ok Y).facts _
  refine Gives.returns (E := envC i) (gives_of_sums (Y := Y) hE hkn hss rfl (chains_runs i b hi30)) ?_ rfl
  exact concs_cons.2 ⟨_, _, mkS_ok (Y := Y) (e := .var 0) hn.1 hn.2, concs_cons.2 ⟨_, _, mkS_ok (Y := Y) (e := .var 1) hv.1 hv.2, concs_cons.2 ⟨_, _, rfl, rfl, rfl⟩, rfl⟩, rfl⟩

end Go.Proofs.YtdmbfoedheocnaaGreatDoor
