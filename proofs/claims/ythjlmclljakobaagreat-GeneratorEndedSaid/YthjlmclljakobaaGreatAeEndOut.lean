/-
  GeneratorEnded: the loop is left, by the kernel.
-/
import Derived.Test.YthjlmclljakobaaGreatAeEndDef
namespace Go.Proofs.YthjlmclljakobaaGreat
open Go.AE
set_option maxRecDepth 100000

theorem exit0 : ((List.range 1).all fun m => exitB m 0) = true := by kernel_rfl
theorem exit1 : ((List.range 2).all fun m => exitB m 1) = true := by kernel_rfl
theorem exit2 : ((List.range 3).all fun m => exitB m 2) = true := by kernel_rfl
theorem exit3 : ((List.range 4).all fun m => exitB m 3) = true := by kernel_rfl
theorem exit4 : ((List.range 5).all fun m => exitB m 4) = true := by kernel_rfl
theorem exit5 : ((List.range 6).all fun m => exitB m 5) = true := by kernel_rfl
theorem exit6 : ((List.range 7).all fun m => exitB m 6) = true := by kernel_rfl
theorem exit7 : ((List.range 8).all fun m => exitB m 7) = true := by kernel_rfl
theorem exit8 : ((List.range 9).all fun m => exitB m 8) = true := by kernel_rfl
theorem exit9 : ((List.range 10).all fun m => exitB m 9) = true := by kernel_rfl
theorem exit10 : ((List.range 11).all fun m => exitB m 10) = true := by kernel_rfl
theorem exit11 : ((List.range 12).all fun m => exitB m 11) = true := by kernel_rfl
theorem exit12 : ((List.range 13).all fun m => exitB m 12) = true := by kernel_rfl
theorem exit13 : ((List.range 14).all fun m => exitB m 13) = true := by kernel_rfl
theorem exit14 : ((List.range 15).all fun m => exitB m 14) = true := by kernel_rfl
theorem exit15 : ((List.range 16).all fun m => exitB m 15) = true := by kernel_rfl
theorem exit16 : ((List.range 17).all fun m => exitB m 16) = true := by kernel_rfl
theorem exit17 : ((List.range 18).all fun m => exitB m 17) = true := by kernel_rfl
theorem exit18 : ((List.range 19).all fun m => exitB m 18) = true := by kernel_rfl
theorem exit19 : ((List.range 20).all fun m => exitB m 19) = true := by kernel_rfl
theorem exit20 : ((List.range 21).all fun m => exitB m 20) = true := by kernel_rfl

theorem exit_ok : ∀ i, i < 21 → ((List.range (i + 1)).all fun m => exitB m i) = true
  | 0, _ => exit0
  | 1, _ => exit1
  | 2, _ => exit2
  | 3, _ => exit3
  | 4, _ => exit4
  | 5, _ => exit5
  | 6, _ => exit6
  | 7, _ => exit7
  | 8, _ => exit8
  | 9, _ => exit9
  | 10, _ => exit10
  | 11, _ => exit11
  | 12, _ => exit12
  | 13, _ => exit13
  | 14, _ => exit14
  | 15, _ => exit15
  | 16, _ => exit16
  | 17, _ => exit17
  | 18, _ => exit18
  | 19, _ => exit19
  | 20, _ => exit20
  | n + 21, h => absurd h (by omega)

theorem last_ok : ((List.range 21).all lastE) = true := by kernel_rfl
theorem rest0 : ((List.range 7).all fun m => restB (m + 0)) = true := by kernel_rfl
theorem rest1 : ((List.range 7).all fun m => restB (m + 7)) = true := by kernel_rfl
theorem rest2 : ((List.range 7).all fun m => restB (m + 14)) = true := by kernel_rfl

end Go.Proofs.YthjlmclljakobaaGreat
