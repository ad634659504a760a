/-
  The law PromiseChains: runs, part 0.
-/
import Derived.Test.YtdmbfoedheocnaaGreatDoorAeChainsDef
namespace Go.Proofs.YtdmbfoedheocnaaGreatDoor
open Go.AE
set_option maxRecDepth 100000

theorem run_chains_0_true : chainsRun 0 true = true := by kernel_rfl
theorem run_chains_0_false : chainsRun 0 false = true := by kernel_rfl
theorem run_chains_4_true : chainsRun 4 true = true := by kernel_rfl
theorem run_chains_4_false : chainsRun 4 false = true := by kernel_rfl
theorem run_chains_8_true : chainsRun 8 true = true := by kernel_rfl
theorem run_chains_8_false : chainsRun 8 false = true := by kernel_rfl
theorem run_chains_12_true : chainsRun 12 true = true := by kernel_rfl
theorem run_chains_12_false : chainsRun 12 false = true := by kernel_rfl
theorem run_chains_16_true : chainsRun 16 true = true := by kernel_rfl
theorem run_chains_16_false : chainsRun 16 false = true := by kernel_rfl
theorem run_chains_20_true : chainsRun 20 true = true := by kernel_rfl
theorem run_chains_20_false : chainsRun 20 false = true := by kernel_rfl
theorem run_chains_24_true : chainsRun 24 true = true := by kernel_rfl
theorem run_chains_24_false : chainsRun 24 false = true := by kernel_rfl
theorem run_chains_28_true : chainsRun 28 true = true := by kernel_rfl
theorem run_chains_28_false : chainsRun 28 false = true := by kernel_rfl

end Go.Proofs.YtdmbfoedheocnaaGreatDoor
