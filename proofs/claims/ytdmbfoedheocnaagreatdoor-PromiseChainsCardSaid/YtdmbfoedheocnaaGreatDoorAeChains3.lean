/-
  The law PromiseChains: runs, part 3.
-/
import Derived.Test.YtdmbfoedheocnaaGreatDoorAeChainsDef
namespace Go.Proofs.YtdmbfoedheocnaaGreatDoor
open Go.AE
set_option maxRecDepth 100000

theorem run_chains_3_true : chainsRun 3 true = true := by kernel_rfl
theorem run_chains_3_false : chainsRun 3 false = true := by kernel_rfl
theorem run_chains_7_true : chainsRun 7 true = true := by kernel_rfl
theorem run_chains_7_false : chainsRun 7 false = true := by kernel_rfl
theorem run_chains_11_true : chainsRun 11 true = true := by kernel_rfl
theorem run_chains_11_false : chainsRun 11 false = true := by kernel_rfl
theorem run_chains_15_true : chainsRun 15 true = true := by kernel_rfl
theorem run_chains_15_false : chainsRun 15 false = true := by kernel_rfl
theorem run_chains_19_true : chainsRun 19 true = true := by kernel_rfl
theorem run_chains_19_false : chainsRun 19 false = true := by kernel_rfl
theorem run_chains_23_true : chainsRun 23 true = true := by kernel_rfl
theorem run_chains_23_false : chainsRun 23 false = true := by kernel_rfl
theorem run_chains_27_true : chainsRun 27 true = true := by kernel_rfl
theorem run_chains_27_false : chainsRun 27 false = true := by kernel_rfl

end Go.Proofs.YtdmbfoedheocnaaGreatDoor
