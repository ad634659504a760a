/-
  The tables of the evaluator for this seat.
-/
import Derived.Test.YtnkjembkhjellaaGreatDoorRows
import Derived.Test.YtnkjembkhjellaaGreatDoorAeGlob
namespace Go.Proofs.YtnkjembkhjellaaGreatDoor
open Go.AE

abbrev lo64 : Int := -9223372036854775808
abbrev hi64 : Int := 9223372036854775807

noncomputable def envF (fs : List (SX × Int × Int)) : Env := envOf Tryz.prog [(24, [1, 1, 2]), (73, [1, 1, 1, 1, 2]), (88, [1, 1, 2]), (297, [1, 1, 1, 2, 1])] 0 fs
noncomputable def env : Env := envF []

theorem env_noNum : noNum Tryz.prog.funcs.toList = true := by kernel_rfl
theorem env_eqs : eqsOk Tryz.prog [(24, [1, 1, 2]), (73, [1, 1, 1, 1, 2]), (88, [1, 1, 2]), (297, [1, 1, 1, 2, 1])] = true := by kernel_rfl
theorem env_mixed : Tryz.prog.follows .mixedOrders = true := by kernel_rfl
theorem env_types : Nat.blt 0 Tryz.prog.types.size = true := by kernel_rfl

theorem envF_ok {Y : Sy} {fs : List (SX × Int × Int)} (h : ∀ e l h, (e, l, h) ∈ fs → l ≤ e.val Y ∧ e.val Y ≤ h) : EnvOk Y (envF fs) := envOk_of env_noNum env_eqs env_mixed env_types h

theorem env_ok (Y : Sy) : EnvOk Y env := envF_ok (fun _ _ _ h => by cases h)

end Go.Proofs.YtnkjembkhjellaaGreatDoor
