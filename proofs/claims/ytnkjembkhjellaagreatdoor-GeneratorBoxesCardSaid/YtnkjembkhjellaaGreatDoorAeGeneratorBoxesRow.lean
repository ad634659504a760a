/-
  The row of GeneratorBoxes: its closed facts, one by one.
-/
import Derived.Test.YtnkjembkhjellaaGreatDoorRows
import Derived.WalkKit
import Derived.ProofKit
import Derived.OpenShut
import Derived.Test.YtnkjembkhjellaaGreatDoorAeArgs
namespace Go.Proofs.YtnkjembkhjellaaGreatDoor.generatorBoxes

set_option maxHeartbeats 4000000 in
theorem closed : joinedFacts Tryz.prog 3 Tryz.f3 Rows.generatorBoxesSpec Rows.generatorBoxesRow = true := by
  unfold joinedFacts
  repeat' (with_reducible refine andT ?_ ?_)
  all_goals (as_aux_lemma => kernel_rfl)

theorem named : Tryz.prog.funcNamed Rows.generatorBoxesRow.func = some 3 := by kernel_rfl
theorem instanced : Tryz.f3.isInstance Tryz.prog Rows.generatorBoxesRow.origin Rows.generatorBoxesRow.targs := of_decide_eq_true (by kernel_rfl)
theorem wrapped : Tryz.f3.isWrapper Tryz.prog Rows.generatorBoxesRow.wrapper Rows.generatorBoxesRow.mainSum := by
  unfold Func.isWrapper; first | (rw [if_pos (by decide +kernel)]; kernel_rfl) | (rw [if_neg (by decide +kernel)]; exact ⟨rfl, rfl⟩)

end Go.Proofs.YtnkjembkhjellaaGreatDoor.generatorBoxes
