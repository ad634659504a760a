/-
  IterateOthers: the law's contract, as the frame wants it.
-/
import Derived.Test.YtfiainenbpldgaaGreatDoorAeOtLawO
namespace Go.Proofs.YtfiainenbpldgaaGreatDoor
open Go.AE Go.RowKit
set_option maxRecDepth 100000
set_option linter.unusedVariables false
set_option linter.unusedSimpArgs false

theorem Tab.pos {w : World} (h : Tab w) : 0 < w.heap.size := by
  have hn0 : Tryz.prog.globalNamed "internal/strconv.uint64pow10" = some 0 := by kernel_rfl
  unfold Tab Lib.TabIs World.var? at h
  rw [hn0] at h
  simp only [Option.bind_some] at h
  rcases Nat.lt_or_ge 0 w.heap.size with h0 | h0
  · exact h0
  · rw [Array.getElem?_eq_none h0] at h
    cases h

theorem others_call {W : World} (hG : Tab W) {k n : Int} {s : ByteArray} {i : Int} (hf : fits k n s) (hi : lo64 ≤ i ∧ i ≤ hi64) : Calls Tryz.prog 3 #[AE.vC k n s, .int .i64 i] W fun e w' => e = .returned (.bool true) ∧ Below W.heap.size W w' :=
  law_ret ⟨k, n, s⟩ i hf hi W hG hG.pos

end Go.Proofs.YtfiainenbpldgaaGreatDoor
