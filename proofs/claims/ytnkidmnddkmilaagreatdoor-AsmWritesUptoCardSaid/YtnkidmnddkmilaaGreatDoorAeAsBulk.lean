/-
  What the bound on what is read gives: an image's lengths.
-/
import Derived.Test.YtnkidmnddkmilaaGreatDoorRows
import Derived.Test.YtnkidmnddkmilaaGreatDoorAeAsOpen
namespace Go.Proofs.YtnkidmnddkmilaaGreatDoor
open Go.RowKit
set_option maxRecDepth 100000

section
variable {H : Type} {W : World}

theorem bulk_part {d : DataW H} {l : List (DataW H)} (h : d ∈ l) : Rows.uptoBulk d ≤ Rows.uptoBulkAll l := by
  induction l with
  | nil => cases h
  | cons x r ih =>
    simp only [Rows.uptoBulkAll]
    rcases List.mem_cons.1 h with rfl | h
    · omega
    · have := ih h; omega

theorem bulk_one (d : DataW H) : 1 ≤ Rows.uptoBulk d := by
  cases d with
  | lit l => cases l <;> simp [Rows.uptoBulk]
  | nil => simp [Rows.uptoBulk]
  | ptr d => simp [Rows.uptoBulk]
  | slice a b => simp [Rows.uptoBulk]
  | agg l => simp [Rows.uptoBulk]
  | iface t d => simp [Rows.uptoBulk]
  | map es => simp [Rows.uptoBulk]
  | held h => simp [Rows.uptoBulk]

theorem bulk_length (l : List (DataW H)) : l.length ≤ Rows.uptoBulkAll l := by
  induction l with
  | nil => simp [Rows.uptoBulkAll]
  | cons x r ih => have := bulk_one x; simp only [Rows.uptoBulkAll, List.length_cons]; omega

theorem SliceOf.bulk {d : DataW H} {D : Nat → DataW H} {n : Nat} (h : SliceOf d D n) : n ≤ Rows.uptoBulk d ∧ ∀ i, i < n → Rows.uptoBulk (D i) ≤ Rows.uptoBulk d := by
  rcases h with ⟨rfl, rfl⟩ | ⟨r, rfl⟩
  · exact ⟨Nat.zero_le _, fun i hi => absurd hi (Nat.not_lt_zero _)⟩
  · have h1 := bulk_length ((List.range n).map D)
    simp only [List.length_map, List.length_range] at h1
    have e : Rows.uptoBulk (.slice ((List.range n).map D) r) = Rows.uptoBulkAll ((List.range n).map D) + Rows.uptoBulkAll r + 1 := by simp only [Rows.uptoBulk]
    refine ⟨by omega, fun i hi => ?_⟩
    have h2 : Rows.uptoBulk (D i) ≤ Rows.uptoBulkAll ((List.range n).map D) := bulk_part (List.mem_map.2 ⟨i, List.mem_range.2 hi, rfl⟩)
    omega

theorem bulk_agg (l : List (DataW H)) : Rows.uptoBulk (.agg l) = Rows.uptoBulkAll l + 1 := by simp only [Rows.uptoBulk]
theorem bulk_str (s : ByteArray) : Rows.uptoBulk (.lit (.string s.data.toList) : DataW H) = s.size + 1 := by
  simp only [Rows.uptoBulk, Array.length_toList]
  rfl

theorem RowsOf.bulk {X : Type} {C : X → List Value} {n : Nat} {R : X → DataW H → Prop} {v : Value} {d : DataW H} {l : List X} (h : RowsOf W C n R v d l) {N : Nat} (hb : Rows.uptoBulk d ≤ N) :
    l.length ≤ N ∧ ∀ x ∈ l, ∃ e, R x e ∧ Rows.uptoBulk e ≤ N := by
  obtain ⟨_, D, hs, hR⟩ := h
  obtain ⟨h1, h2⟩ := hs.bulk
  refine ⟨by omega, fun x hx => ?_⟩
  obtain ⟨i, hi, rfl⟩ := List.getElem_of_mem hx
  exact ⟨_, hR i hi, Nat.le_trans (h2 i hi) hb⟩

theorem val_bulk {s : ByteArray} {a b : DataW H} {N : Nat} (hb : Rows.uptoBulk (.agg [a, b, .lit (.string s.data.toList)]) ≤ N) : s.size ≤ N := by
  have h := bulk_part (d := (.lit (.string s.data.toList) : DataW H)) (l := [a, b, .lit (.string s.data.toList)]) (by simp)
  rw [bulk_str] at h
  rw [bulk_agg] at hb
  omega

theorem RCode.small {x : CodeV} {d : DataW H} (h : RCode W x d) (hb : Rows.uptoBulk d ≤ 1048576) : Small x.c := by
  obtain ⟨_, _, _, a1, a2, a3, dI, dP, dK, dG, rfl, r4, r5, r6, r7⟩ := h
  rw [bulk_agg] at hb
  have key : ∀ e ∈ [DataW.lit (.string x.c.name.data.toList), a1, a2, a3, dI, dP, dK, dG], Rows.uptoBulk e ≤ 1048576 := fun e he => by
    have := bulk_part he
    omega
  have h0 := key (.lit (.string x.c.name.data.toList)) (by simp)
  rw [bulk_str] at h0
  refine ⟨by omega, (r4.bulk (key dI (by simp))).1, (r5.bulk (key dP (by simp))).1, (r6.bulk (key dK (by simp))).1, (r7.bulk (key dG (by simp))).1, fun y hy => ?_, fun y hy => ?_⟩
  · obtain ⟨e, ⟨_, _, a, b, rfl⟩, he⟩ := (r5.bulk (key dP (by simp))).2 y hy
    exact val_bulk he
  · obtain ⟨e, ⟨_, _, a, b, rfl⟩, he⟩ := (r6.bulk (key dK (by simp))).2 y hy
    exact val_bulk he

theorem img0_of {v : Value} {d : DataW H} {l : List CodeV} (h : RowsOf W codeC 8 (RCode W) v d l) (hb : Rows.uptoBulk d ≤ 1048576) : Img0 W W.heap.size v l := by
  obtain ⟨h1, h2⟩ := h.bulk hb
  refine ⟨h.1, fun x hx => ?_, fun x hx => ?_, fun x hx => ?_, h1⟩
  · obtain ⟨e, he, _⟩ := h2 x hx
    exact he.code.1
  · obtain ⟨e, he, _⟩ := h2 x hx
    exact he.code.2
  · obtain ⟨e, he, hb⟩ := h2 x hx
    exact he.small hb

end
end Go.Proofs.YtnkidmnddkmilaaGreatDoor
