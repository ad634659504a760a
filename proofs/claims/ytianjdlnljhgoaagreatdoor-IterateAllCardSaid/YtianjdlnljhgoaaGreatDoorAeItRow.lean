/-
  The row of IterateAll: its closed facts, one by one.
-/
import Derived.Test.YtianjdlnljhgoaaGreatDoorRows
import Derived.WalkKit
import Derived.ProofKit
import Derived.OpenShut
import Derived.Stop.Joined
import Derived.JoinedCond
namespace Go.Proofs.YtianjdlnljhgoaaGreatDoor.iterateAll

theorem andT {a b : Bool} (h : a = true) (k : b = true) : (a && b) = true := by rw [h, k]; rfl

set_option maxHeartbeats 4000000 in
theorem closed : joinedFacts Tryz.prog 3 Tryz.f3 (OpenSpec.ofChange Rows.iterateAllSpec).bare Rows.iterateAllRow = true := by
  unfold joinedFacts
  repeat' (with_reducible refine andT ?_ ?_)
  all_goals (as_aux_lemma => kernel_rfl)

theorem named : Tryz.prog.funcNamed Rows.iterateAllRow.func = some 3 := by kernel_rfl
theorem instanced : Tryz.f3.isInstance Tryz.prog Rows.iterateAllRow.origin Rows.iterateAllRow.targs := of_decide_eq_true (by kernel_rfl)
theorem wrapped : Tryz.f3.isWrapper Tryz.prog Rows.iterateAllRow.wrapper Rows.iterateAllRow.mainSum := by
  unfold Func.isWrapper; first | (rw [if_pos (by decide +kernel)]; kernel_rfl) | (rw [if_neg (by decide +kernel)]; exact ⟨rfl, rfl⟩)

end Go.Proofs.YtianjdlnljhgoaaGreatDoor.iterateAll
