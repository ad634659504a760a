/-
  The law PromiseChains: runs, part 1.
-/
import Derived.Test.YtdmbfoedheocnaaGreatDoorAeChainsDef
namespace Go.Proofs.YtdmbfoedheocnaaGreatDoor
open Go.AE
set_option maxRecDepth 100000

theorem run_chains_1_true : chainsRun 1 true = true := by kernel_rfl
theorem run_chains_1_false : chainsRun 1 false = true := by kernel_rfl
theorem run_chains_5_true : chainsRun 5 true = true := by kernel_rfl
theorem run_chains_5_false : chainsRun 5 false = true := by kernel_rfl
theorem run_chains_9_true : chainsRun 9 true = true := by kernel_rfl
theorem run_chains_9_false : chainsRun 9 false = true := by kernel_rfl
theorem run_chains_13_true : chainsRun 13 true = true := by kernel_rfl
theorem run_chains_13_false : chainsRun 13 false = true := by kernel_rfl
theorem run_chains_17_true : chainsRun 17 true = true := by kernel_rfl
theorem run_chains_17_false : chainsRun 17 false = true := by kernel_rfl
theorem run_chains_21_true : chainsRun 21 true = true := by kernel_rfl
theorem run_chains_21_false : chainsRun 21 false = true := by kernel_rfl
theorem run_chains_25_true : chainsRun 25 true = true := by kernel_rfl
theorem run_chains_25_false : chainsRun 25 false = true := by kernel_rfl
theorem run_chains_29_true : chainsRun 29 true = true := by kernel_rfl
theorem run_chains_29_false : chainsRun 29 false = true := by kernel_rfl

end Go.Proofs.YtdmbfoedheocnaaGreatDoor
