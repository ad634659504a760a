/-
  IterateOthers: cell.Copy of a cell without slots.
-/
import Derived.Test.YtfiainenbpldgaaGreatDoorAeOtBase
namespace Go.Proofs.YtfiainenbpldgaaGreatDoor
open Go.RowKit
set_option maxRecDepth 100000
set_option linter.unusedVariables false
set_option linter.unusedSimpArgs false

theorem bcell {W w1 : World} (hb : Below W.heap.size W w1) : (∀ b o, b < W.heap.size → w1.cell? ⟨b, o, none⟩ = W.cell? ⟨b, o, none⟩) ∧ (∀ b o, b < W.heap.size → w1.frozen? ⟨b, o, none⟩ = W.frozen? ⟨b, o, none⟩) :=
  ⟨fun b o h => hb.cell (p := ⟨b, o, none⟩) h, fun b o h => hb.frozen (p := ⟨b, o, none⟩) h⟩
theorem new_below (w : World) (ob : Obj) : Below w.heap.size w (w.alloc ob) := (Below.refl _ _).alloc (Nat.le_refl _) ob
theorem below_al2 (w : World) (X Y : Obj) : Below w.heap.size w ((w.alloc X).alloc Y) := (new_below w X).alloc (new_below w X).size _
theorem set_block {w : World} {b i : Nat} {cs : Array Value} {T : TypeId} {fr : Nat × Nat} (hb : w.heap[b]? = some (.cells cs T fr)) (v : Value) :
    (w.setCell ⟨b, i, none⟩ v).heap[b]? = some (.cells (cs.setIfInBounds i v) T fr) := by
  unfold World.setCell
  simp [Array.getElem?_modify, hb]
theorem keep_below {W W' : World} {b : Nat} {o : Obj} (hg : Below W.heap.size W W') (h : W.heap[b]? = some o) : W'.heap[b]? = some o := by
  obtain ⟨l, _⟩ := Array.getElem?_eq_some_iff.1 h
  exact (hg.block _ l).trans h
theorem two_al (w : World) (X Y : Obj) : ((w.alloc X).alloc Y).heap[w.heap.size]? = some X ∧ ((w.alloc X).alloc Y).heap[w.heap.size + 1]? = some Y := by
  have e : (w.alloc X).heap.size = w.heap.size + 1 := by show (w.heap.push X).size = _; simp only [Array.size_push]
  constructor
  · rw [Below.heap_alloc _ _ _ (by omega)]
    show (w.heap.push X)[w.heap.size]? = _
    rw [Array.getElem?_push, if_pos rfl]
  · rw [← e]
    show ((w.alloc X).heap.push Y)[(w.alloc X).heap.size]? = _
    rw [Array.getElem?_push, if_pos rfl]
theorem box6 {W : World} {b : Nat} {a0 a1 a2 a3 a4 a5 : Value} {T : TypeId} (h : W.heap[b]? = some (.cells #[a0, a1, a2, a3, a4, a5] T (0, 0))) :
    W.cell? ⟨b, 0, none⟩ = some a0 ∧ W.cell? ⟨b, 1, none⟩ = some a1 ∧ W.cell? ⟨b, 2, none⟩ = some a2 ∧ W.cell? ⟨b, 3, none⟩ = some a3 ∧ W.cell? ⟨b, 4, none⟩ = some a4 ∧ W.cell? ⟨b, 5, none⟩ = some a5 ∧ ∀ j, W.frozen? ⟨b, j, none⟩ = false :=
  ⟨(Lib.cell_of_heap h 0).trans rfl, (Lib.cell_of_heap h 1).trans rfl, (Lib.cell_of_heap h 2).trans rfl, (Lib.cell_of_heap h 3).trans rfl, (Lib.cell_of_heap h 4).trans rfl, (Lib.cell_of_heap h 5).trans rfl, Lib.frozen_of_heap h⟩
theorem lt_of_cell {w : World} {b o : Nat} {v : Value} (h : w.cell? ⟨b, o, none⟩ = some v) : b < w.heap.size := World.block_lt_of_cell? w _ h

theorem results_cell_one {fn : Func} {p : Tmp} {ty : TypeId} (h : fn.results = #[.cell p ty]) (tmps : Array Value) (P : Program) (w : World) :
    (results fn tmps).run P w = ((asAddr (tmps.getD p undef)).run P w).andThen fun a w₁ => (loadVar ty a).run P w₁ := by
  simp only [results, h]
  simp [Sem.run_bind, Result.andThen]

/-- a cell without slots -/
def cellA (k sh fl ag : Int) (m : Value) : Value := .agg #[.int .i64 k, .int .i64 sh, .int .i64 fl, .int .i64 ag, .slice none 0 0, m]

/-- a copy of it -/
structure CpR (k sh fl ag : Int) (xs : List VL) (w : World) (e : Ending) (w' : World) : Prop where
  ex : ∃ g cap, e = .returned (cellA k sh fl ag (.slice (some ⟨g, 0, none⟩) xs.length cap)) ∧ w.heap.size ≤ g ∧ Own w' g xs
  bel : Below w.heap.size w w'

set_option maxHeartbeats 2000000 in
theorem copy_ret (k sh fl ag : Int) (b o c : Nat) (xs : List VL) (hx : 0 < xs.length) (hl : xs.length ≤ 100000) (w : World) (hb : b < w.heap.size) (hc : Lie w b o xs) :
    Calls Tryz.prog 97 #[cellA k sh fl ag (.slice (some ⟨b, o, none⟩) xs.length c)] w fun e w' => CpR k sh fl ag xs w e w' := by
  have A : Hid (∀ W, Below w.heap.size w W → Calls Tryz.prog 106 #[.slice (some ⟨b, o, none⟩) xs.length c] W fun e w' => ClR xs W e w') := Lib.hid fun W hW => clone_ret b o c xs hx hl W (Nat.lt_of_lt_of_le hb hW.size) (hc.mono hW hb)
  clear hc
  unfold cellA
  have HB := Lib.hid (below_al2 w (.cells #[.int .i64 k, .int .i64 sh, .int .i64 fl, .int .i64 ag, .slice none 0 0, .slice (some ⟨b, o, none⟩) xs.length c] 66) (.cells #[.int .i64 0, .int .i64 0, .int .i64 0, .int .i64 0, .slice none 0 0, .slice none 0 0] 66))
  go_enter Tryz.func97, Tryz.ntmps97
  go_wp2
  go_region_with (first
    | (go_at_call 106; refine (clone_nil _).mono ?_; rintro e w1 ⟨rfl, rfl⟩)
    | (go_at_call 106; refine (A.out _ (HB.out.drew)).mono ?_; rintro e w1 hr; obtain ⟨⟨g, cap, rfl, hg1, hown⟩, hb1⟩ := hr; have r0 := keep_below hb1 (two_al w _ _).1; have r1 := keep_below hb1 (two_al w _ _).2; obtain ⟨p0, p1, p2, p3, p4, p5, pf⟩ := box6 r0; obtain ⟨s0, s1, s2, s3, s4, s5, sf⟩ := box6 r1; replace hown := Lib.hid hown; have HB1 := Lib.hid (HB.out.drew.trans (hb1.mono HB.out.size)); have hg2 : w.heap.size + 2 ≤ g := Nat.le_trans (by show w.heap.size + 2 ≤ ((w.alloc _).alloc _).heap.size; simp) hg1; clear hb1 hg1 r0 r1)
    | (go_at_call 106; refine (A.out _ (HB.out.drew.setCell (p := ⟨w.heap.size, 4, none⟩) (Nat.le_refl _) _)).mono ?_; rintro e w1 hr; obtain ⟨⟨g, cap, rfl, hg1, hown⟩, hb1⟩ := hr; have r0 := keep_below hb1 (set_block (two_al w _ _).1 _); have r1 := keep_below hb1 ((set_other _ (Nat.succ_ne_self _)).trans (two_al w _ _).2); obtain ⟨p0, p1, p2, p3, p4, p5, pf⟩ := box6 r0; obtain ⟨s0, s1, s2, s3, s4, s5, sf⟩ := box6 r1; replace hown := Lib.hid hown; have HB1 := Lib.hid ((HB.out.drew.setCell (p := ⟨w.heap.size, 4, none⟩) (Nat.le_refl _) _).trans (hb1.mono (by rw [set_size]; exact HB.out.size))); have hg2 : w.heap.size + 2 ≤ g := Nat.le_trans (by rw [set_size]; show w.heap.size + 2 ≤ ((w.alloc _).alloc _).heap.size; simp) hg1; clear hb1 hg1 r0 r1))
  all_goals
    clear A HB
    go_wp2
    refine bodyPost_ret (v := cellA k sh fl ag (.slice (some ⟨g, 0, none⟩) xs.length cap)) ?_ rfl ⟨⟨g, cap, rfl, by omega, ?_⟩, ?_⟩
    · rw [results_cell_one rfl]
      go_simp
      rfl
    · iterate 8 refine Own.set ?_ (by omega) _ _
      exact hown.out
    · iterate 8 refine Below.setCell ?_ (by first | exact Nat.le_refl _ | exact Nat.le_succ _) _
      exact HB1.out

end Go.Proofs.YtfiainenbpldgaaGreatDoor
