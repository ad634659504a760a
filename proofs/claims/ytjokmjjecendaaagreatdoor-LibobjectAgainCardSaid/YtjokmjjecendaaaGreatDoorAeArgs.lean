/-
  Arguments as they come in.
-/
import Derived.Test.YtjokmjjecendaaaGreatDoorRows
import Derived.WalkKit
import Derived.ProofKit
import Derived.OpenShut
import Derived.Test.YtjokmjjecendaaaGreatDoorAeEnv
namespace Go.Proofs.YtjokmjjecendaaaGreatDoor

theorem own : ownKnob Tryz.prog.godebug = none := by kernel_rfl

theorem laid : laidOutB Tryz.prog = true := by kernel_rfl

theorem int_fits {m : Int} (h : (Lit.int .i64 m).wf = true) : lo64 ≤ m ∧ m ≤ hi64 := by
  simp only [Lit.wf, Bool.and_eq_true, decide_eq_true_eq] at h
  have e1 : IntKind.i64.min = lo64 := by decide
  have e2 : IntKind.i64.max = hi64 := by decide
  rw [e1, e2] at h
  exact h

theorem cells23 : Tryz.prog.cellTypes Tryz.prog.depth 23 = some [3, 3, 3, 3, 3, 3, 3] := by kernel_rfl
theorem size23 : Tryz.prog.cellsOf 23 = [3, 3, 3, 3, 3, 3, 3].length := by kernel_rfl

set_option maxRecDepth 100000 in
/-- a configuration, as it comes in -/
theorem config_of {W : World} {base : Nat} {v : Value} (h : Value.okWide Tryz.prog W .any base 23 v) : ∃ l0 l1 l2 l3 l4 l5 l6, v = cfgC l0 l1 l2 l3 l4 l5 l6 ∧ fit l0 ∧ fit l1 ∧ fit l2 ∧ fit l3 ∧ fit l4 ∧ fit l5 ∧ fit l6 := by
  obtain ⟨l, rfl, hl, hc⟩ := AE.cells_struct (ts := [3, 3, 3, 3, 3, 3, 3]) Tryz.underlying23 cells23 size23 h
  match l, hl with
  | [c0, c1, c2, c3, c4, c5, c6], _ =>
    obtain ⟨n0, rfl, h0⟩ := AE.cell_int Tryz.underlying3 (hc 0 3 c0 rfl rfl)
    obtain ⟨n1, rfl, h1⟩ := AE.cell_int Tryz.underlying3 (hc 1 3 c1 rfl rfl)
    obtain ⟨n2, rfl, h2⟩ := AE.cell_int Tryz.underlying3 (hc 2 3 c2 rfl rfl)
    obtain ⟨n3, rfl, h3⟩ := AE.cell_int Tryz.underlying3 (hc 3 3 c3 rfl rfl)
    obtain ⟨n4, rfl, h4⟩ := AE.cell_int Tryz.underlying3 (hc 4 3 c4 rfl rfl)
    obtain ⟨n5, rfl, h5⟩ := AE.cell_int Tryz.underlying3 (hc 5 3 c5 rfl rfl)
    obtain ⟨n6, rfl, h6⟩ := AE.cell_int Tryz.underlying3 (hc 6 3 c6 rfl rfl)
    exact ⟨n0, n1, n2, n3, n4, n5, n6, rfl, h0, h1, h2, h3, h4, h5, h6⟩

theorem andT {a b : Bool} (h : a = true) (k : b = true) : (a && b) = true := by rw [h, k]; rfl

end Go.Proofs.YtjokmjjecendaaaGreatDoor
