/-
  Pieces of a string: the size of a piece, where it is found, and that two pieces make the whole.
-/
import Derived.Test.YthfaglmbicgfjaaGreatDoorAeTxOrc
import Derived.Lib.IndexEntry
import Derived.Lib.IndexMore
namespace Go.AE

theorem part_size {s : ByteArray} {i j : Nat} (hij : i ≤ j) (hj : j ≤ s.size) : (s.extract i j).size = j - i := by
  rw [ByteArray.size_extract]
  omega

theorem cat_part {s : ByteArray} {i : Nat} (hi : i ≤ s.size) : s.extract 0 i ++ s.extract i s.size = s := by
  rw [ByteArray.extract_append_extract, Nat.min_eq_left (Nat.zero_le _), Nat.max_eq_right hi]
  exact ByteArray.extract_zero_size

theorem occ_at {s : ByteArray} {i j : Nat} (hij : i ≤ j) (hj : j ≤ s.size) : Lib.occAt s.data.toList (s.extract i j).data.toList i = true := by
  have hs := part_size hij hj
  rw [Lib.occ_of_piece s (s.extract i j) i (by omega), hs]
  have e : i + (j - i) = j := by omega
  rw [e]
  exact beq_self_eq_true _

theorem toList_inj {a b : ByteArray} (h : a.toList = b.toList) : a = b := by
  rw [ByteArray.toList_eq, ByteArray.toList_eq] at h
  exact ByteArray.ext (Array.ext' h)

/-- a piece is found where it lies, or before -/
theorem idx_part {s : ByteArray} {i j : Nat} (hij : i ≤ j) (hj : j ≤ s.size) : ∃ r : Nat, Lib.index s.data.toList (s.extract i j).data.toList = r ∧ r ≤ i ∧ s.extract r (r + (j - i)) = s.extract i j := by
  have hs := part_size hij hj
  have ho := occ_at hij hj
  have hl : s.data.toList.length = s.size := rfl
  rcases Lib.index_spec s.data.toList (s.extract i j).data.toList with ⟨_, h2⟩ | ⟨r, h1, h2, h3, h4⟩
  · have := h2 i (by omega)
    rw [this] at ho
    cases ho
  · have hri : r ≤ i := by
      rcases Nat.lt_or_ge i r with h | h
      · have := h4 i h
        rw [this] at ho
        cases ho
      · exact h
    refine ⟨r, h1, hri, ?_⟩
    rw [Lib.occ_of_piece s (s.extract i j) r (by omega), hs] at h3
    exact toList_inj (eq_of_beq h3)

end Go.AE
