/-
  GeneratorEnded: the values of the rounds are read, by the kernel.
-/
import Derived.Test.YthjlmclljakobaaGreatAeEndDef
namespace Go.Proofs.YthjlmclljakobaaGreat
open Go.AE
set_option maxRecDepth 100000

theorem enter0 : ((List.range 1).all fun m => enterB m 0) = true := by kernel_rfl
theorem enter1 : ((List.range 2).all fun m => enterB m 1) = true := by kernel_rfl
theorem enter2 : ((List.range 3).all fun m => enterB m 2) = true := by kernel_rfl
theorem enter3 : ((List.range 4).all fun m => enterB m 3) = true := by kernel_rfl
theorem enter4 : ((List.range 5).all fun m => enterB m 4) = true := by kernel_rfl
theorem enter5 : ((List.range 6).all fun m => enterB m 5) = true := by kernel_rfl
theorem enter6 : ((List.range 7).all fun m => enterB m 6) = true := by kernel_rfl
theorem enter7 : ((List.range 8).all fun m => enterB m 7) = true := by kernel_rfl
theorem enter8 : ((List.range 9).all fun m => enterB m 8) = true := by kernel_rfl
theorem enter9 : ((List.range 10).all fun m => enterB m 9) = true := by kernel_rfl
theorem enter10 : ((List.range 11).all fun m => enterB m 10) = true := by kernel_rfl
theorem enter11 : ((List.range 12).all fun m => enterB m 11) = true := by kernel_rfl
theorem enter12 : ((List.range 13).all fun m => enterB m 12) = true := by kernel_rfl
theorem enter13 : ((List.range 14).all fun m => enterB m 13) = true := by kernel_rfl
theorem enter14 : ((List.range 15).all fun m => enterB m 14) = true := by kernel_rfl
theorem enter15 : ((List.range 16).all fun m => enterB m 15) = true := by kernel_rfl
theorem enter16 : ((List.range 17).all fun m => enterB m 16) = true := by kernel_rfl
theorem enter17 : ((List.range 18).all fun m => enterB m 17) = true := by kernel_rfl
theorem enter18 : ((List.range 19).all fun m => enterB m 18) = true := by kernel_rfl
theorem enter19 : ((List.range 20).all fun m => enterB m 19) = true := by kernel_rfl

theorem enter_ok : ∀ i, i < 20 → ((List.range (i + 1)).all fun m => enterB m i) = true
  | 0, _ => enter0
  | 1, _ => enter1
  | 2, _ => enter2
  | 3, _ => enter3
  | 4, _ => enter4
  | 5, _ => enter5
  | 6, _ => enter6
  | 7, _ => enter7
  | 8, _ => enter8
  | 9, _ => enter9
  | 10, _ => enter10
  | 11, _ => enter11
  | 12, _ => enter12
  | 13, _ => enter13
  | 14, _ => enter14
  | 15, _ => enter15
  | 16, _ => enter16
  | 17, _ => enter17
  | 18, _ => enter18
  | 19, _ => enter19
  | n + 20, h => absurd h (by omega)

end Go.Proofs.YthjlmclljakobaaGreat
