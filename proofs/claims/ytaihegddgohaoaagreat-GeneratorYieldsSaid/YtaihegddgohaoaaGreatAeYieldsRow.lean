/-
  The row of GeneratorYields: its closed facts, one by one.
-/
import Derived.Test.YtaihegddgohaoaaGreatRows
import Derived.WalkKit
import Derived.ProofKit
import Derived.OpenShut
import Derived.Test.YtaihegddgohaoaaGreatAeArgs
namespace Go.Proofs.YtaihegddgohaoaaGreat.generatorYields

set_option maxHeartbeats 4000000 in
theorem closed : joinedFacts Tryz.prog 4 Tryz.f4 Rows.generatorYieldsSpec Rows.generatorYieldsRow = true := by
  unfold joinedFacts
  repeat' (with_reducible refine andT ?_ ?_)
  all_goals (as_aux_lemma => kernel_rfl)

theorem named : Tryz.prog.funcNamed Rows.generatorYieldsRow.func = some 4 := by kernel_rfl
theorem instanced : Tryz.f4.isInstance Tryz.prog Rows.generatorYieldsRow.origin Rows.generatorYieldsRow.targs := of_decide_eq_true (by kernel_rfl)
theorem wrapped : Tryz.f4.isWrapper Tryz.prog Rows.generatorYieldsRow.wrapper Rows.generatorYieldsRow.mainSum := by
  unfold Func.isWrapper; first | (rw [if_pos (by decide +kernel)]; kernel_rfl) | (rw [if_neg (by decide +kernel)]; exact ⟨rfl, rfl⟩)

end Go.Proofs.YtaihegddgohaoaaGreat.generatorYields
