/-
  The row of LibobjectHas: its closed facts, one by one.
-/
import Derived.Test.YteolloaikgffdaaGreatDoorRows
import Derived.WalkKit
import Derived.ProofKit
import Derived.OpenShut
import Derived.Test.YteolloaikgffdaaGreatDoorAeArgs
namespace Go.Proofs.YteolloaikgffdaaGreatDoor.libobjectHas

set_option maxHeartbeats 4000000 in
theorem closed : joinedFacts Tryz.prog 3 Tryz.f3 Rows.libobjectHasSpec Rows.libobjectHasRow = true := by
  unfold joinedFacts
  repeat' (with_reducible refine andT ?_ ?_)
  all_goals (as_aux_lemma => kernel_rfl)

theorem named : Tryz.prog.funcNamed Rows.libobjectHasRow.func = some 3 := by kernel_rfl
theorem instanced : Tryz.f3.isInstance Tryz.prog Rows.libobjectHasRow.origin Rows.libobjectHasRow.targs := of_decide_eq_true (by kernel_rfl)
theorem wrapped : Tryz.f3.isWrapper Tryz.prog Rows.libobjectHasRow.wrapper Rows.libobjectHasRow.mainSum := by
  unfold Func.isWrapper; first | (rw [if_pos (by decide +kernel)]; kernel_rfl) | (rw [if_neg (by decide +kernel)]; exact ⟨rfl, rfl⟩)

end Go.Proofs.YteolloaikgffdaaGreatDoor.libobjectHas
