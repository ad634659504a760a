/-
  Values of the engine's language as they come in.
-/
import Derived.Test.YtfiainenbpldgaaGreatDoorRows
import Derived.WalkKit
import Derived.ProofKit
import Derived.OpenShut
import Derived.Test.YtfiainenbpldgaaGreatDoorAeMay
namespace Go.Proofs.YtfiainenbpldgaaGreatDoor

theorem own : ownKnob Tryz.prog.godebug = none := by kernel_rfl

theorem laid : laidOutB Tryz.prog = true := by kernel_rfl

theorem cells23 : Tryz.prog.cellTypes Tryz.prog.depth 23 = some [3, 3, 9] := by kernel_rfl
theorem size23 : Tryz.prog.cellsOf 23 = [3, 3, 9].length := by kernel_rfl

set_option maxRecDepth 100000 in
/-- a value of the engine's language, as it comes in -/
theorem value_of {W : World} {base : Nat} {v : Value} (h : Value.okWide Tryz.prog W .any base 23 v) : ∃ k n s, v = AE.vC k n s ∧ fits k n s := by
  obtain ⟨l, rfl, hl, hc⟩ := AE.cells_struct (ts := [3, 3, 9]) Tryz.underlying23 cells23 size23 h
  match l, hl with
  | [c0, c1, c2], _ =>
    obtain ⟨k, rfl, k1, k2⟩ := AE.cell_int Tryz.underlying3 (hc 0 3 c0 rfl rfl)
    obtain ⟨n, rfl, n1, n2⟩ := AE.cell_int Tryz.underlying3 (hc 1 3 c1 rfl rfl)
    obtain ⟨s, rfl, s1⟩ := AE.cell_string Tryz.underlying9 (hc 2 9 c2 rfl rfl)
    exact ⟨k, n, s, rfl, ⟨k1, k2⟩, ⟨n1, n2⟩, s1⟩

theorem int_fits {m : Int} (h : (Lit.int .i64 m).wf = true) : lo64 ≤ m ∧ m ≤ hi64 := by
  simp only [Lit.wf, Bool.and_eq_true, decide_eq_true_eq] at h
  have e1 : IntKind.i64.min = lo64 := by decide
  have e2 : IntKind.i64.max = hi64 := by decide
  rw [e1, e2] at h
  exact h

theorem andT {a b : Bool} (h : a = true) (k : b = true) : (a && b) = true := by rw [h, k]; rfl

end Go.Proofs.YtfiainenbpldgaaGreatDoor
