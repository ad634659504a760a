/-
  Arguments as they come in.
-/
import Derived.Test.YtmebfcdgbjkcfaaGreatDoorRows
import Derived.WalkKit
import Derived.ProofKit
import Derived.OpenShut
import Derived.Test.YtmebfcdgbjkcfaaGreatDoorAeLsEnv
namespace Go.Proofs.YtmebfcdgbjkcfaaGreatDoor

theorem own : ownKnob Tryz.prog.godebug = none := by kernel_rfl

theorem laid : laidOutB Tryz.prog = true := by kernel_rfl

theorem int_fits {m : Int} (h : (Lit.int .i64 m).wf = true) : lo64 ≤ m ∧ m ≤ hi64 := by
  simp only [Lit.wf, Bool.and_eq_true, decide_eq_true_eq] at h
  have e1 : IntKind.i64.min = lo64 := by decide
  have e2 : IntKind.i64.max = hi64 := by decide
  rw [e1, e2] at h
  exact h

theorem andT {a b : Bool} (h : a = true) (k : b = true) : (a && b) = true := by rw [h, k]; rfl

end Go.Proofs.YtmebfcdgbjkcfaaGreatDoor
