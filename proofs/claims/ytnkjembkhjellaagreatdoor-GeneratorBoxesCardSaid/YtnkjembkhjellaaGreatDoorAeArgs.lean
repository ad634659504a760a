/-
  A list of values of the engine's language as it comes in.
-/
import Derived.Test.YtnkjembkhjellaaGreatDoorRows
import Derived.WalkKit
import Derived.ProofKit
import Derived.OpenShut
import Derived.Deep.Slices
import Derived.Deep.Strs
import Derived.Test.YtnkjembkhjellaaGreatDoorAeBoxEnd
namespace Go.Proofs.YtnkjembkhjellaaGreatDoor
open Go.Deep Go.ChangeShapes Go.WideShapes

theorem own : ownKnob Tryz.prog.godebug = none := by kernel_rfl

theorem laid : laidOutB Tryz.prog = true := by kernel_rfl

theorem int_fits {m : Int} (h : (Lit.int .i64 m).wf = true) : lo64 ≤ m ∧ m ≤ hi64 := by
  simp only [Lit.wf, Bool.and_eq_true, decide_eq_true_eq] at h
  have e1 : IntKind.i64.min = lo64 := by decide
  have e2 : IntKind.i64.max = hi64 := by decide
  rw [e1, e2] at h
  exact h

theorem cellsOf24 : Tryz.prog.cellsOf 24 = 3 := by kernel_rfl
theorem cellsOf3 : Tryz.prog.cellsOf 3 = 1 := by kernel_rfl
theorem cellsOf9 : Tryz.prog.cellsOf 9 = 1 := by kernel_rfl

instance : Inhabited Elem := ⟨⟨0, 0, ByteArray.empty⟩⟩

set_option maxRecDepth 100000 in
/-- the values, as they come in: nil, or a row of three cells a value -/
theorem open_vals {H : Type} {enc : TypeId × Value → H} {W : World} {sp : Nat → Bool} {hd : Bool} {fuel : Nat} {cs : List Value} {x : DataW H × List MemPlace} (h : DataW.trod enc Tryz.prog W 0 sp hd fuel 22 cs = some x) :
    cs = [.slice none 0 0] ∨ ∃ (a : Addr) (len cap : Nat) (I : Nat → Elem), cs = [.slice (some a) len cap] ∧ len ≤ cap ∧ cap ≤ maxLen ∧
      ∀ i, i < len → W.cell? (a.add (i * 3)) = some (.int .i64 (I i).k) ∧ W.cell? (a.add (i * 3 + 1)) = some (.int .i64 (I i).n) ∧ W.cell? (a.add (i * 3 + 2)) = some (.string (I i).s) ∧ fits (I i).k (I i).n (I i).s := by
  rcases open_slice Tryz.underlying22 h with ⟨h0, _⟩ | ⟨a, len, cap, m, n, D, Pl, rfl, hb, hl, hm, hmm, rfl, hx⟩
  · exact Or.inl h0
  right
  have hlm : len ≤ m := by rw [hmm]; split <;> omega
  have each : ∀ i, i < m → ∃ q : Elem, W.cell? (a.add (i * 3)) = some (.int .i64 q.k) ∧ W.cell? (a.add (i * 3 + 1)) = some (.int .i64 q.n) ∧ W.cell? (a.add (i * 3 + 2)) = some (.string q.s) ∧ fits q.k q.n q.s := by
    intro i hi
    obtain ⟨cs', h1, h2⟩ := hx i hi
    rw [cellsOf24] at h1
    obtain ⟨_, hlen, hcell⟩ := World.cells?_some h1
    obtain ⟨y0, y1, y2, k, hxy, _, u0, u1, u2⟩ := trod_struct3 Tryz.underlying24 h2
    match cs', hlen with
    | [v0, v1, v2], _ =>
      simp only [cellsOf9, cellsOf3, List.drop, List.take] at u0 u1 u2
      obtain ⟨q, e0, _, w0⟩ := DataW.trod_int Tryz.underlying3 u0
      obtain ⟨p, e1, _, w1⟩ := DataW.trod_int Tryz.underlying3 u1
      obtain ⟨s, e2, _, w2⟩ := DataW.trod_string Tryz.underlying9 u2
      simp only [List.cons.injEq, and_true] at e0 e1 e2
      subst e0; subst e1; subst e2
      have c0 := hcell 0 (by omega)
      have c1 := hcell 1 (by omega)
      have c2 := hcell 2 (by omega)
      rw [Go.Deep.add_add] at c0 c1 c2
      exact ⟨⟨q, p, s⟩, by simpa using c0, by simpa using c1, by simpa using c2, int_fits w0, int_fits w1, w2⟩
  obtain ⟨q, hq⟩ := choose_lt each
  exact ⟨a, len, cap, q, rfl, hl, hm, fun i hi => hq i (by omega)⟩

theorem block_lt {W : World} {A : Addr} {v : Value} (h : W.cell? A = some v) : A.block < W.heap.size := by
  rcases Nat.lt_or_ge A.block W.heap.size with g | g
  · exact g
  · unfold World.cell? at h
    rw [Array.getElem?_eq_none g] at h
    cases h

/-- a row of elements -/
theorem elems_of {W : World} {a : Addr} {len cap : Nat} {I : Nat → Elem} (hm : len ≤ 9223372036854775807)
    (hq : ∀ i, i < len → W.cell? (a.add (i * 3)) = some (.int .i64 (I i).k) ∧ W.cell? (a.add (i * 3 + 1)) = some (.int .i64 (I i).n) ∧ W.cell? (a.add (i * 3 + 2)) = some (.string (I i).s) ∧ fits (I i).k (I i).n (I i).s) :
    Elems W (some a, len, cap) ((List.range len).map I) := by
  have hget : ∀ (i : Nat) x, ((List.range len).map I)[i]? = some x → i < len ∧ x = I i := by
    intro i x hx
    rw [List.getElem?_map] at hx
    rcases Nat.lt_or_ge i len with g | g
    · rw [List.getElem?_range g] at hx
      exact ⟨g, (Option.some.inj hx).symm⟩
    · rw [List.getElem?_eq_none (by rw [List.length_range]; exact g)] at hx
      cases hx
  refine ⟨by simp, hm, fun x hx => ?_, ?_⟩
  · obtain ⟨i, hi, rfl⟩ := List.mem_map.1 hx
    exact (hq i (List.mem_range.1 hi)).2.2.2
  · by_cases h0 : len = 0
    · left
      rw [h0]
      rfl
    right
    refine ⟨a, rfl, block_lt (hq 0 (by omega)).1, fun i x hx j v hv => ?_⟩
    obtain ⟨hi, rfl⟩ := hget i x hx
    obtain ⟨g1, g2, g3, _⟩ := hq i hi
    rw [Go.Deep.add_add]
    match j, hv with
    | 0, hv =>
      cases hv
      exact g1
    | 1, hv =>
      cases hv
      exact g2
    | 2, hv =>
      cases hv
      exact g3

theorem elems_nil (W : World) : Elems W (none, 0, 0) [] := ⟨rfl, Nat.zero_le _, (fun x hx => by cases hx), .inl rfl⟩

theorem andT {a b : Bool} (h : a = true) (k : b = true) : (a && b) = true := by rw [h, k]; rfl

end Go.Proofs.YtnkjembkhjellaaGreatDoor
