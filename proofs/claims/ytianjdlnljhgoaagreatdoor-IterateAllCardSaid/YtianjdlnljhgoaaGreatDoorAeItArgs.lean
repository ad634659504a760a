/-
  IterateAll: a plan that comes as an argument.
-/
import Derived.Deep.Slices
import Derived.Deep.Strs
import Derived.Deep.Fields
import Derived.Test.YtianjdlnljhgoaaGreatDoorAeItRight
namespace Go.Proofs.YtianjdlnljhgoaaGreatDoor
open Go.ChangeShapes Go.WideShapes Go.RowKit Go.Deep
set_option maxRecDepth 100000

section
variable {H : Type} {enc : TypeId × Value → H} {W : World} {base : Nat} {spare : Nat → Bool} {held : Bool}

theorem wf64 {n : Int} (h : (Lit.int .i64 n).wf = true) : inI n := by
  simp only [Lit.wf, Bool.and_eq_true, decide_eq_true_eq] at h
  have e1 : IntKind.i64.min = -9223372036854775808 := by decide
  have e2 : IntKind.i64.max = 9223372036854775807 := by decide
  rw [e1, e2] at h
  exact h

theorem int_field {m : Nat} {v : Value} {y : DataW H × List MemPlace} (h : DataW.trod enc Tryz.prog W base spare held m 3 [v] = some y) : ∃ n, v = .int .i64 n ∧ inI n := by
  obtain ⟨n, h1, h2, h3⟩ := DataW.trod_int Tryz.underlying3 h
  cases h1
  exact ⟨n, rfl, wf64 h3⟩
theorem str_field {m : Nat} {v : Value} {y : DataW H × List MemPlace} (h : DataW.trod enc Tryz.prog W base spare held m 9 [v] = some y) : ∃ s : ByteArray, v = .string s := by
  obtain ⟨s, h1, h2, _⟩ := DataW.trod_string Tryz.underlying9 h
  cases h1
  exact ⟨s, rfl⟩
theorem bool_field {m : Nat} {v : Value} {y : DataW H × List MemPlace} (h : DataW.trod enc Tryz.prog W base spare held m 4 [v] = some y) : ∃ b, v = .bool b := by
  obtain ⟨b, h1, _⟩ := DataW.trod_bool Tryz.underlying4 h
  cases h1
  exact ⟨b, rfl⟩

theorem cells3 : Tryz.prog.cellsOf 3 = 1 := by kernel_rfl
theorem cells4 : Tryz.prog.cellsOf 4 = 1 := by kernel_rfl
theorem cells9 : Tryz.prog.cellsOf 9 = 1 := by kernel_rfl
theorem cells23 : Tryz.prog.cellsOf 23 = 3 := by kernel_rfl
theorem cells25 : Tryz.prog.cellsOf 25 = 5 := by kernel_rfl
theorem cells26 : Tryz.prog.cellsOf 26 = 1 := by kernel_rfl
theorem cells28 : Tryz.prog.cellsOf 28 = 14 := by kernel_rfl

theorem val_of {fuel : Nat} {cs : List Value} {y : DataW H × List MemPlace} (h : DataW.trod enc Tryz.prog W base spare held fuel 23 cs = some y) : ∃ (k n : Int) (s : ByteArray), cs = [.int .i64 k, .int .i64 n, .string s] := by
  obtain ⟨ys, n, _, _, hl, hyl, hf⟩ := DataW.trod_struct Tryz.underlying23 h
  rw [cells23] at hl
  match cs, hl, ys, hyl with
  | [c0, c1, c2], _, [y0, y1, y2], _ =>
    have f0 : DataW.trod enc Tryz.prog W base spare held n 3 ((([c0, c1, c2] : List Value).drop 0).take (Tryz.prog.cellsOf 3)) = some y0 := hf 0 _ rfl
    have f1 : DataW.trod enc Tryz.prog W base spare held n 3 ((([c0, c1, c2] : List Value).drop 1).take (Tryz.prog.cellsOf 3)) = some y1 := hf 1 _ rfl
    have f2 : DataW.trod enc Tryz.prog W base spare held n 9 ((([c0, c1, c2] : List Value).drop 2).take (Tryz.prog.cellsOf 9)) = some y2 := hf 2 _ rfl
    rw [cells3] at f0
    rw [cells3] at f1
    rw [cells9] at f2
    obtain ⟨n0, rfl, _⟩ := int_field f0
    obtain ⟨n1, rfl, _⟩ := int_field f1
    obtain ⟨s2, rfl⟩ := str_field f2
    exact ⟨n0, n1, s2, rfl⟩

theorem told_of {fuel : Nat} {cs : List Value} {y : DataW H × List MemPlace} (h : DataW.trod enc Tryz.prog W base spare held fuel 25 cs = some y) : ∃ t : ToldL, cs = toldC t ∧ inI t.kind := by
  obtain ⟨ys, n, _, _, hl, hyl, hf⟩ := DataW.trod_struct Tryz.underlying25 h
  rw [cells25] at hl
  match cs, hl, ys, hyl with
  | [c0, c1, c2, c3, c4], _, [y0, y1, y2], _ =>
    have f0 : DataW.trod enc Tryz.prog W base spare held n 3 ((([c0, c1, c2, c3, c4] : List Value).drop 0).take (Tryz.prog.cellsOf 3)) = some y0 := hf 0 _ rfl
    have f1 : DataW.trod enc Tryz.prog W base spare held n 4 ((([c0, c1, c2, c3, c4] : List Value).drop 1).take (Tryz.prog.cellsOf 4)) = some y1 := hf 1 _ rfl
    have f2 : DataW.trod enc Tryz.prog W base spare held n 23 ((([c0, c1, c2, c3, c4] : List Value).drop 2).take (Tryz.prog.cellsOf 23)) = some y2 := hf 2 _ rfl
    rw [cells3] at f0
    rw [cells4] at f1
    rw [cells23] at f2
    obtain ⟨n0, rfl, h0⟩ := int_field f0
    obtain ⟨b1, rfl⟩ := bool_field f1
    obtain ⟨k, n2, s, e⟩ := val_of f2
    have e' : [c2, c3, c4] = [Value.int .i64 k, .int .i64 n2, .string s] := e
    cases e'
    exact ⟨⟨n0, b1, k, n2, s⟩, rfl, h0⟩

theorem add_plain (b o i : Nat) : (⟨b, o, none⟩ : Addr).add i = ⟨b, o + i, none⟩ := by
  unfold Addr.add
  split
  · rename_i h; subst h; rfl
  · rfl

instance : Inhabited ToldL := ⟨⟨0, false, 0, 0, ⟨#[]⟩⟩⟩

/-- the steps -/
theorem steps_of {fuel : Nat} {v : Value} {y : DataW H × List MemPlace} (h : DataW.trod enc Tryz.prog W base spare held fuel 26 [v] = some y) :
    ∃ xs : List ToldL, SlAt W W.heap.size 5 v (xs.map toldC) ∧ (∀ x ∈ xs, inI x.kind) ∧ ∀ a len cap, v = .slice a len cap → len ≤ cap := by
  rcases open_slice Tryz.underlying26 h with ⟨hc, _⟩ | ⟨a, len, cap, m, n, D, Pl, hcs, hb, hl, hm, hmm, hx, hi⟩
  · cases hc
    exact ⟨[], ⟨none, 0, rfl, fun h => absurd rfl h⟩, (fun x hx => by cases hx), (fun a len cap h => by cases h; exact Nat.le_refl _)⟩
  · cases hcs
    have hlm : len ≤ m := by rw [hmm]; split <;> omega
    obtain ⟨f, hf⟩ := choose_lt (n := len) (p := fun i t => W.cells? base (a.add (i * Tryz.prog.cellsOf 25)) (Tryz.prog.cellsOf 25) = some (toldC t) ∧ inI t.kind) (fun i h => by
      obtain ⟨cs', h1, h2⟩ := hi i (Nat.lt_of_lt_of_le h hlm)
      obtain ⟨t, rfl, ht⟩ := told_of h2
      exact ⟨t, h1, ht⟩)
    refine ⟨(List.range len).map f, ⟨some a, cap, by simp, fun hne => ?_⟩, fun x hx => ?_, (fun a len cap h => by cases h; exact hl)⟩
    · have hcell : ∀ i, i < len → ∀ j y, (toldC (f i))[j]? = some y → W.cell? (a.add (i * 5 + j)) = some y := by
        intro i hi j y hj
        obtain ⟨h1, _⟩ := hf i hi
        rw [cells25] at h1
        obtain ⟨_, hcl, hat⟩ := World.cells?_some h1
        have hjl : j < 5 := (List.getElem?_eq_some_iff.1 hj).1
        have := hat j hjl
        rw [add_add] at this
        rw [this, hj]
      have h0 : 0 < len := by
        rcases Nat.eq_zero_or_pos len with h | h
        · subst h; simp at hne
        · exact h
      have hfirst := hcell 0 h0 0 _ rfl
      obtain ⟨b, o, spot⟩ := a
      have hsp : spot = none := by simpa [Addr.add] using World.cell?_spot hfirst
      subst hsp
      refine ⟨b, o, rfl, ?_, fun i x hx j y hj => ?_⟩
      · rw [add_plain] at hfirst
        exact World.block_lt_of_cell? W _ hfirst
      · rw [List.getElem?_map] at hx
        obtain ⟨t, ht, rfl⟩ := Option.map_eq_some_iff.1 hx
        have hil : i < len := by
          have := (List.getElem?_eq_some_iff.1 ht).1
          simpa using this
        rw [List.getElem?_map, List.getElem?_range hil] at ht
        cases ht
        have := hcell i hil j y hj
        rw [add_plain, ← Nat.add_assoc] at this
        exact this
    · obtain ⟨i, hi', rfl⟩ := List.mem_map.1 hx
      exact (hf i (List.mem_range.1 hi')).2

/-- a plan -/
theorem open_plan {fuel : Nat} {cs : List Value} {y : DataW H × List MemPlace} (h : DataW.trod enc Tryz.prog W base spare held fuel 28 cs = some y) :
    ∃ (m n r : Int) (it bye : ToldL) (v : Value) (xs : List ToldL), cs = (planC m n r it bye v).toList ∧ inI it.kind ∧ inI bye.kind ∧ SlAt W W.heap.size 5 v (xs.map toldC) ∧ (∀ x ∈ xs, inI x.kind) ∧ ∀ a len cap, v = .slice a len cap → len ≤ cap := by
  obtain ⟨ys, n, _, _, hl, hyl, hf⟩ := DataW.trod_struct Tryz.underlying28 h
  rw [cells28] at hl
  match cs, hl, ys, hyl with
  | [c0, c1, c2, c3, c4, c5, c6, c7, c8, c9, c10, c11, c12, c13], _, [y0, y1, y2, y3, y4, y5], _ =>
    have f0 : DataW.trod enc Tryz.prog W base spare held n 3 ((([c0, c1, c2, c3, c4, c5, c6, c7, c8, c9, c10, c11, c12, c13] : List Value).drop 0).take (Tryz.prog.cellsOf 3)) = some y0 := hf 0 _ rfl
    have f1 : DataW.trod enc Tryz.prog W base spare held n 3 ((([c0, c1, c2, c3, c4, c5, c6, c7, c8, c9, c10, c11, c12, c13] : List Value).drop 1).take (Tryz.prog.cellsOf 3)) = some y1 := hf 1 _ rfl
    have f2 : DataW.trod enc Tryz.prog W base spare held n 3 ((([c0, c1, c2, c3, c4, c5, c6, c7, c8, c9, c10, c11, c12, c13] : List Value).drop 2).take (Tryz.prog.cellsOf 3)) = some y2 := hf 2 _ rfl
    have f3 : DataW.trod enc Tryz.prog W base spare held n 25 ((([c0, c1, c2, c3, c4, c5, c6, c7, c8, c9, c10, c11, c12, c13] : List Value).drop 3).take (Tryz.prog.cellsOf 25)) = some y3 := hf 3 _ rfl
    have f4 : DataW.trod enc Tryz.prog W base spare held n 25 ((([c0, c1, c2, c3, c4, c5, c6, c7, c8, c9, c10, c11, c12, c13] : List Value).drop 8).take (Tryz.prog.cellsOf 25)) = some y4 := hf 4 _ rfl
    have f5 : DataW.trod enc Tryz.prog W base spare held n 26 ((([c0, c1, c2, c3, c4, c5, c6, c7, c8, c9, c10, c11, c12, c13] : List Value).drop 13).take (Tryz.prog.cellsOf 26)) = some y5 := hf 5 _ rfl
    rw [cells3] at f0
    rw [cells3] at f1
    rw [cells3] at f2
    rw [cells25] at f3
    rw [cells25] at f4
    rw [cells26] at f5
    obtain ⟨n0, rfl, _⟩ := int_field f0
    obtain ⟨n1, rfl, _⟩ := int_field f1
    obtain ⟨n2, rfl, _⟩ := int_field f2
    obtain ⟨it, e3, h3⟩ := told_of f3
    obtain ⟨bye, e4, h4⟩ := told_of f4
    obtain ⟨xs, h5, h6, h7⟩ := steps_of f5
    have e3' : [c3, c4, c5, c6, c7] = toldC it := e3
    have e4' : [c8, c9, c10, c11, c12] = toldC bye := e4
    cases e3'
    cases e4'
    exact ⟨n0, n1, n2, it, bye, c13, xs, rfl, h3, h4, h5, h6, h7⟩

end
end Go.Proofs.YtianjdlnljhgoaaGreatDoor
