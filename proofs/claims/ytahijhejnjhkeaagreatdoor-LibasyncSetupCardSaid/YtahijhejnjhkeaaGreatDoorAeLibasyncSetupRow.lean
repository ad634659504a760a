/-
  The row of LibasyncSetup: its closed facts, one by one.
-/
import Derived.Test.YtahijhejnjhkeaaGreatDoorRows
import Derived.WalkKit
import Derived.ProofKit
import Derived.OpenShut
import Derived.Test.YtahijhejnjhkeaaGreatDoorAeArgs
namespace Go.Proofs.YtahijhejnjhkeaaGreatDoor.libasyncSetup

set_option maxHeartbeats 4000000 in
theorem closed : joinedFacts Tryz.prog 4 Tryz.f4 Rows.libasyncSetupSpec Rows.libasyncSetupRow = true := by
  unfold joinedFacts
  repeat' (with_reducible refine andT ?_ ?_)
  all_goals (as_aux_lemma => kernel_rfl)

theorem named : Tryz.prog.funcNamed Rows.libasyncSetupRow.func = some 4 := by kernel_rfl
theorem instanced : Tryz.f4.isInstance Tryz.prog Rows.libasyncSetupRow.origin Rows.libasyncSetupRow.targs := of_decide_eq_true (by kernel_rfl)
theorem wrapped : Tryz.f4.isWrapper Tryz.prog Rows.libasyncSetupRow.wrapper Rows.libasyncSetupRow.mainSum := by
  unfold Func.isWrapper; first | (rw [if_pos (by decide +kernel)]; kernel_rfl) | (rw [if_neg (by decide +kernel)]; exact ⟨rfl, rfl⟩)

end Go.Proofs.YtahijhejnjhkeaaGreatDoor.libasyncSetup
