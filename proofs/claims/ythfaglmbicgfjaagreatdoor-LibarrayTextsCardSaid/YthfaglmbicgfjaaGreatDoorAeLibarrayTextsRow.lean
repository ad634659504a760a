/-
  The row of LibarrayTexts: its closed facts, one by one.
-/
import Derived.Test.YthfaglmbicgfjaaGreatDoorRows
import Derived.WalkKit
import Derived.ProofKit
import Derived.OpenShut
import Derived.Test.YthfaglmbicgfjaaGreatDoorAeArgs
namespace Go.Proofs.YthfaglmbicgfjaaGreatDoor.libarrayTexts

set_option maxHeartbeats 4000000 in
theorem closed : joinedFacts Tryz.prog 3 Tryz.f3 Rows.libarrayTextsSpec Rows.libarrayTextsRow = true := by
  unfold joinedFacts
  repeat' (with_reducible refine andT ?_ ?_)
  all_goals (as_aux_lemma => kernel_rfl)

theorem named : Tryz.prog.funcNamed Rows.libarrayTextsRow.func = some 3 := by kernel_rfl
theorem instanced : Tryz.f3.isInstance Tryz.prog Rows.libarrayTextsRow.origin Rows.libarrayTextsRow.targs := of_decide_eq_true (by kernel_rfl)
theorem wrapped : Tryz.f3.isWrapper Tryz.prog Rows.libarrayTextsRow.wrapper Rows.libarrayTextsRow.mainSum := by
  unfold Func.isWrapper; first | (rw [if_pos (by decide +kernel)]; kernel_rfl) | (rw [if_neg (by decide +kernel)]; exact ⟨rfl, rfl⟩)

end Go.Proofs.YthfaglmbicgfjaaGreatDoor.libarrayTexts
