/-
  The tables of the evaluator for this seat.
-/
import Derived.Test.YtbldcbjmfldbfaaGreatDoorRows
import Derived.Test.YtbldcbjmfldbfaaGreatDoorAeGlob
namespace Go.Proofs.YtbldcbjmfldbfaaGreatDoor
open Go.AE

abbrev lo64 : Int := -9223372036854775808
abbrev hi64 : Int := 9223372036854775807

noncomputable def envF (fs : List (SX × Int × Int)) : Env := envOf Tryz.prog [(23, [1, 1, 2]), (35, [1, 1, 1, 1, 2]), (45, [1, 1, 2]), (47, [1, 1, 1, 2, 2]), (246, [1, 1, 1, 2, 1])] 0 fs
noncomputable def env : Env := envF []

theorem env_noNum : noNum Tryz.prog.funcs.toList = true := by kernel_rfl
theorem env_eqs : eqsOk Tryz.prog [(23, [1, 1, 2]), (35, [1, 1, 1, 1, 2]), (45, [1, 1, 2]), (47, [1, 1, 1, 2, 2]), (246, [1, 1, 1, 2, 1])] = true := by kernel_rfl
theorem env_mixed : Tryz.prog.follows .mixedOrders = true := by kernel_rfl
theorem env_types : Nat.blt 0 Tryz.prog.types.size = true := by kernel_rfl

theorem envF_ok {Y : Sy} {fs : List (SX × Int × Int)} (h : ∀ e l h, (e, l, h) ∈ fs → l ≤ e.val Y ∧ e.val Y ≤ h) : EnvOk Y (envF fs) := envOk_of env_noNum env_eqs env_mixed env_types h

theorem env_ok (Y : Sy) : EnvOk Y env := envF_ok (fun _ _ _ h => by cases h)

end Go.Proofs.YtbldcbjmfldbfaaGreatDoor
