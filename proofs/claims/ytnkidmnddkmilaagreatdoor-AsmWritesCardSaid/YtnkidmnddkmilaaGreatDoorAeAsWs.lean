/-
  strings.Builder.WriteString with what it leaves alone: every block but the builder's own and rows of bytes.
-/
import Derived.Test.YtnkidmnddkmilaaGreatDoorAeAsQuote
namespace Go.Proofs.YtnkidmnddkmilaaGreatDoor
open Go.RowKit
set_option maxRecDepth 100000

/-- every block but b that is no row of bytes stays -/
def Side (b : Nat) (w w' : World) : Prop := ∀ k cs T fr, k ≠ b → T ≠ 5 → w.heap[k]? = some (.cells cs T fr) → w'.heap[k]? = some (.cells cs T fr)

theorem Side.refl (b : Nat) (w : World) : Side b w w := fun _ _ _ _ _ _ h => h
theorem Side.trans {b : Nat} {w w1 w2 : World} (h : Side b w w1) (h' : Side b w1 w2) : Side b w w2 := fun k cs T fr e n x => h' k cs T fr e n (h k cs T fr e n x)
theorem Side.below {b : Nat} {w w' : World} (h : Below w.heap.size w w') : Side b w w' := fun k cs T fr _ _ x => by
  rw [h.block k ?_]
  · exact x
  · rcases Nat.lt_or_ge k w.heap.size with h' | h'
    · exact h'
    · simp [Array.getElem?_eq_none h'] at x

theorem copyCheck_ret (B b : Nat) (l : List Value) (w : World) (h : Lib.IsBuilder 49 5 B b l w) :
    Calls Tryz.prog 28 #[.pointer (some ⟨b, 0, none⟩)] w fun e w' => e = .returned (.tuple #[]) ∧ Lib.BuilderAt 49 5 B b (.pointer (some ⟨b, 0, none⟩)) l w' ∧ Below B w w' ∧ Side b w w' := by
  rcases h with h | h
  · refine (Any.Builder_copyCheck_fresh { lays156 with } Builder_Extra_156.toX72 b w h.cell0 h.shape h.frozen0).mono ?_
    rintro e w' ⟨rfl, rfl⟩
    refine ⟨rfl, h.used _, (Below.refl B w).setCell (p := ⟨b, 0, none⟩) h.1 _, fun k cs T fr e n x => ?_⟩
    rw [← x]
    exact Below.heap_setCell _ _ _ _ e
  · refine (Any.Builder_copyCheck_used { lays156 with } Builder_Extra_156.toX72 b w h.cell0).mono ?_
    rintro e w' ⟨rfl, rfl⟩
    exact ⟨rfl, h, Below.refl B _, Side.refl _ _⟩

theorem byteInfo : (Tryz.prog.info? 5).map (fun i => (i.zero, i.size, i.bytes)) = some (some (.int .u8 0), 1, 1) := by kernel_rfl

set_option maxHeartbeats 2000000 in
theorem wsB_ret (B b : Nat) (l : List UInt8) (s : ByteArray) (w : World) (h : Bd B b l w) (hl : l.length + s.size ≤ 140737488355328) :
    Calls Tryz.prog 13 #[.pointer (some ⟨b, 0, none⟩), .string s] w fun e w' => e = .returned (.tuple #[.int .i64 s.size, .nilIface]) ∧ Bd B b (l ++ s.data.toList) w' ∧ Below B w w' ∧ Side b w w' := by
  obtain ⟨i0, hi, hz0, hz1, hz2⟩ := info_parts byteInfo
  have hBw := h.size
  have hlen : (Lib.byteCells l).length + s.size ≤ 140737488355328 := by rw [Lib.byteCells_length]; exact hl
  have hcc := copyCheck_ret B b _ w h.is
  have hbc : Lib.byteCells l ++ Lib.strCells s = Lib.byteCells (l ++ s.data.toList) := (Lib.byteCells_append _ _).symm
  have HBC := Lib.hid hbc
  clear hbc h hl
  generalize Lib.byteCells l = bl at *
  have HCC := Lib.hid hcc
  clear hcc
  go_enter Tryz.func13, Tryz.ntmps13
  go_wp2_with (go_at_call 28; refine HCC.out.mono ?_)
  rintro e w1 ⟨rfl, h1, hb1, hs1⟩
  obtain ⟨hB, v, hbk, hown, hne⟩ := h1
  have c0 : w1.cell? ⟨b, 0, none⟩ = some (.pointer (some ⟨b, 0, none⟩)) := by rw [Lib.cell_of_heap hbk]; rfl
  have c1 : w1.cell? ⟨b, 1, none⟩ = some v := by rw [Lib.cell_of_heap hbk]; rfl
  go_wp2_with (at_builtin; refine Lib.wpList_append_own_string _ rfl _ _ 47 9 rfl B 5 i0 Tryz.underlying47 Tryz.underlying9 hi hz0 hz1 hz2 _ _ _ rfl hown s rfl ?c3 ?c4 ?c5 ?_)
  case c3 => unfold maxLen; omega
  case c4 => omega
  case c5 => have := hb1.size; omega
  intro v' w2 hown' hgrow _
  have hlt : b < w1.heap.size := by
    rcases Nat.lt_or_ge b w1.heap.size with h' | h'
    · exact h'
    · simp [Array.getElem?_eq_none h'] at hbk
  have hb2 : w2.heap[b]? = some (.cells #[.pointer (some ⟨b, 0, none⟩), v] 49 (0, 0)) := by
    rw [hgrow.block b hlt (fun e => hne e.symm)]
    exact hbk
  have d0 : w2.cell? ⟨b, 0, none⟩ = some (.pointer (some ⟨b, 0, none⟩)) := by rw [Lib.cell_of_heap hb2]; rfl
  have d1 : w2.cell? ⟨b, 1, none⟩ = some v := by rw [Lib.cell_of_heap hb2]; rfl
  have f1 : w2.frozen? ⟨b, 1, none⟩ = false := Lib.frozen_of_heap hb2 1
  obtain ⟨ao, n', cap, rfl⟩ : ∃ ao n' cap, v' = .slice ao n' cap := by
    rcases hown'.2 with ⟨hv, _⟩ | ⟨g, cap, cur, hv, _⟩
    · exact ⟨_, _, _, hv⟩
    · exact ⟨_, _, _, hv⟩
  go_wp2
  go_ret2
  have hbe : Below B w (w2.setCell ⟨b, 1, none⟩ (.slice ao n' cap)) := (hb1.grown hgrow (by have := hb1.size; omega) (fun k hk => (hown.lt k hk).1)).setCell (p := ⟨b, 1, none⟩) hB _
  refine ⟨rfl, ⟨Or.inr ?_, Nat.le_trans hBw hbe.size⟩, hbe, hs1.trans fun k cs T fr e n x => ?_⟩
  · rw [← HBC.out]
    exact Lib.BuilderAt.put (T := 49) (e := 5) hB hb2 (bs' := bl ++ Lib.strCells s) (by simpa [Lib.strCells_length] using hown') (by decide)
  · rw [Below.heap_setCell _ _ _ _ e, hgrow.block k ?_ ?_]
    · exact x
    · rcases Nat.lt_or_ge k w1.heap.size with h' | h'
      · exact h'
      · simp [Array.getElem?_eq_none h'] at x
    · intro e
      exact Lib.ownBlock_ne hown x n e.symm

end Go.Proofs.YtnkidmnddkmilaaGreatDoor
