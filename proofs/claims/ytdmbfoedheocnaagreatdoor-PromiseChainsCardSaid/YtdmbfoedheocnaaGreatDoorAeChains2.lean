/-
  The law PromiseChains: runs, part 2.
-/
import Derived.Test.YtdmbfoedheocnaaGreatDoorAeChainsDef
namespace Go.Proofs.YtdmbfoedheocnaaGreatDoor
open Go.AE
set_option maxRecDepth 100000

theorem run_chains_2_true : chainsRun 2 true = true := by kernel_rfl
theorem run_chains_2_false : chainsRun 2 false = true := by kernel_rfl
theorem run_chains_6_true : chainsRun 6 true = true := by kernel_rfl
theorem run_chains_6_false : chainsRun 6 false = true := by kernel_rfl
theorem run_chains_10_true : chainsRun 10 true = true := by kernel_rfl
theorem run_chains_10_false : chainsRun 10 false = true := by kernel_rfl
theorem run_chains_14_true : chainsRun 14 true = true := by kernel_rfl
theorem run_chains_14_false : chainsRun 14 false = true := by kernel_rfl
theorem run_chains_18_true : chainsRun 18 true = true := by kernel_rfl
theorem run_chains_18_false : chainsRun 18 false = true := by kernel_rfl
theorem run_chains_22_true : chainsRun 22 true = true := by kernel_rfl
theorem run_chains_22_false : chainsRun 22 false = true := by kernel_rfl
theorem run_chains_26_true : chainsRun 26 true = true := by kernel_rfl
theorem run_chains_26_false : chainsRun 26 false = true := by kernel_rfl

end Go.Proofs.YtdmbfoedheocnaaGreatDoor
