/-
  The row of IterateOthers: its closed facts, one by one.
-/
import Derived.Test.YtfiainenbpldgaaGreatDoorRows
import Derived.WalkKit
import Derived.ProofKit
import Derived.OpenShut
import Derived.Test.YtfiainenbpldgaaGreatDoorAeArgs
namespace Go.Proofs.YtfiainenbpldgaaGreatDoor.iterateOthers

set_option maxHeartbeats 4000000 in
theorem closed : joinedFacts Tryz.prog 3 Tryz.f3 Rows.iterateOthersSpec Rows.iterateOthersRow = true := by
  unfold joinedFacts
  repeat' (with_reducible refine andT ?_ ?_)
  all_goals (as_aux_lemma => kernel_rfl)

theorem named : Tryz.prog.funcNamed Rows.iterateOthersRow.func = some 3 := by kernel_rfl
theorem instanced : Tryz.f3.isInstance Tryz.prog Rows.iterateOthersRow.origin Rows.iterateOthersRow.targs := of_decide_eq_true (by kernel_rfl)
theorem wrapped : Tryz.f3.isWrapper Tryz.prog Rows.iterateOthersRow.wrapper Rows.iterateOthersRow.mainSum := by
  unfold Func.isWrapper; first | (rw [if_pos (by decide +kernel)]; kernel_rfl) | (rw [if_neg (by decide +kernel)]; exact ⟨rfl, rfl⟩)

end Go.Proofs.YtfiainenbpldgaaGreatDoor.iterateOthers
