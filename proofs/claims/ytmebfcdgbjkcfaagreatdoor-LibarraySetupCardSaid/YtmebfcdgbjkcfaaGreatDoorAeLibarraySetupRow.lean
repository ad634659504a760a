/-
  The row of LibarraySetup: its closed facts, one by one.
-/
import Derived.Test.YtmebfcdgbjkcfaaGreatDoorRows
import Derived.WalkKit
import Derived.ProofKit
import Derived.OpenShut
import Derived.Test.YtmebfcdgbjkcfaaGreatDoorAeArgs
namespace Go.Proofs.YtmebfcdgbjkcfaaGreatDoor.libarraySetup

set_option maxHeartbeats 4000000 in
theorem closed : joinedFacts Tryz.prog 3 Tryz.f3 Rows.libarraySetupSpec Rows.libarraySetupRow = true := by
  unfold joinedFacts
  repeat' (with_reducible refine andT ?_ ?_)
  all_goals (as_aux_lemma => kernel_rfl)

theorem named : Tryz.prog.funcNamed Rows.libarraySetupRow.func = some 3 := by kernel_rfl
theorem instanced : Tryz.f3.isInstance Tryz.prog Rows.libarraySetupRow.origin Rows.libarraySetupRow.targs := of_decide_eq_true (by kernel_rfl)
theorem wrapped : Tryz.f3.isWrapper Tryz.prog Rows.libarraySetupRow.wrapper Rows.libarraySetupRow.mainSum := by
  unfold Func.isWrapper; first | (rw [if_pos (by decide +kernel)]; kernel_rfl) | (rw [if_neg (by decide +kernel)]; exact ⟨rfl, rfl⟩)

end Go.Proofs.YtmebfcdgbjkcfaaGreatDoor.libarraySetup
