/-
  The law InterpLocals: its examples; its runs by the kernel.
-/
import Derived.Test.YtfgjojdcbbcbgaaGreatDoorAeIlLays
namespace Go.Proofs.YtfgjojdcbbcbgaaGreatDoor
open Go.AE
set_option maxRecDepth 100000

noncomputable def rcP (ss : List Sum) : Rec := evSp env prims [] ss 300 100
theorem rcP_ok (Y : Sy) {ss : List Sum} (h : SumsOk Y env ss) : RecOk Y env (rcP ss) := evSp_ok (env_ok Y) prims_ok KnownOk.nil h 300 100

/-- the examples -/
noncomputable def qAwake : Sum := ⟨4, [], 100000, [gMax], .bool true, [], 101135, [0]⟩
theorem qAwake_run : rcP [] (.fn qAwake.f) qAwake.args qAwake.before qAwake.ask = true := by kernel_rfl
theorem qAwake_ok (Y : Sy) : SumOk Y env qAwake := sum_of_rec (rcP_ok Y SumsOk.nil) (by kernel_rfl) qAwake_run

noncomputable def ilArgs (a1 a2 b1 b2 n1 n2 : Int) : List AV := [.sint .i64 (.var 0) a1 a2, .sint .i64 (.var 1) b1 b2, .sint .i64 (.var 2) n1 n2]
noncomputable def ilArgs0 (n : Int) : List AV := [.sint .i64 (.var 0) (-9007199254740992) 9007199254740992, .sint .i64 (.var 1) (-9007199254740992) 9007199254740992, .i64 n]
abbrev Il (args : List AV) : Prop := rcP [qAwake] (.fn 3) args (heapG [gMax] 1) (fun v _ => sameV v (.bool true)) = true

theorem run_a_lo : Il (ilArgs lo64 (-9007199254740993) lo64 hi64 lo64 hi64) := by unfold Il; kernel_rfl
theorem run_a_hi : Il (ilArgs 9007199254740993 hi64 lo64 hi64 lo64 hi64) := by unfold Il; kernel_rfl
theorem run_b_lo : Il (ilArgs (-9007199254740992) 9007199254740992 lo64 (-9007199254740993) lo64 hi64) := by unfold Il; kernel_rfl
theorem run_b_hi : Il (ilArgs (-9007199254740992) 9007199254740992 9007199254740993 hi64 lo64 hi64) := by unfold Il; kernel_rfl

end Go.Proofs.YtfgjojdcbbcbgaaGreatDoor
