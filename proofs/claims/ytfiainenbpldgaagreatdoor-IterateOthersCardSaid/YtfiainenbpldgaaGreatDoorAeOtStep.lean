/-
  IterateOthers: iterate.Next at the record.
-/
import Derived.Test.YtfiainenbpldgaaGreatDoorAeOtNext
namespace Go.Proofs.YtfiainenbpldgaaGreatDoor
open Go.RowKit
set_option maxRecDepth 100000
set_option linter.unusedVariables false
set_option linter.unusedSimpArgs false

theorem al3k (w : World) (X Y Z : Obj) : Hid (Below w.heap.size w (((w.alloc X).alloc Y).alloc Z)) ∧ (((w.alloc X).alloc Y).alloc Z).heap.size = w.heap.size + 3 ∧ Hid ((((w.alloc X).alloc Y).alloc Z).heap[w.heap.size]? = some X) ∧ Hid ((((w.alloc X).alloc Y).alloc Z).heap[w.heap.size + 1]? = some Y) ∧ Hid ((((w.alloc X).alloc Y).alloc Z).heap[w.heap.size + 1 + 1]? = some Z) := by
  obtain ⟨a, b, c, d, e⟩ := al3 w X Y Z
  exact ⟨Lib.hid a, b, Lib.hid c, Lib.hid d, Lib.hid e⟩

/-- a new block -/
theorem al1k (w : World) (X : Obj) : Hid (Below w.heap.size w (w.alloc X)) ∧ (w.alloc X).heap.size = w.heap.size + 1 ∧ Hid ((w.alloc X).heap[w.heap.size]? = some X) := ⟨Lib.hid (new_below w X), by simp, Lib.hid (heap_alloc_new w X)⟩

/-- a step: x is handed back, the record holds ys -/
structure NxR (L : Lc) (ys : List VL) (x : VL) (w : World) (e : Ending) (w' : World) : Prop where
  ret : e = .returned (endA x)
  st : St L ys w'
  keep : Keep L.yb w w'

set_option maxHeartbeats 2000000 in
theorem next_key (L : Lc) (xs ys : List VL) (x : VL) (h1 : ∃ v, xs[1]? = some v ∧ v.k = 8) (h2 : xs[2]? = some ⟨3, 0, ⟨#[]⟩⟩) (w : World) (h : St L xs w)
    (hk : ∀ (g cap : Nat) (V : World), Below w.heap.size w V → Own V g xs → w.heap.size ≤ g → Calls Tryz.prog 28 #[.pointer (some ⟨L.wb, L.wo, none⟩), recA, cellA 7 0 0 0 (.slice (some ⟨g, 0, none⟩) xs.length cap)] V fun e w' => NkR L ys x g V e w') :
    Calls Tryz.prog 9 #[.pointer (some ⟨L.wb, L.wo, none⟩), recA] w fun e w' => NxR L ys x w e w' := by
  have HS : Hid (∀ W, Below w.heap.size w W → St L xs W) := Lib.hid fun W hW => h.below hW
  have HK := Lib.hid hk
  obtain ⟨hl4, hl1000⟩ := h.gd.len
  have HF := Lib.hid (h.off (r := w.heap.size + 1 + 1) (by omega))
  have hyl : L.yb < w.heap.size := by obtain ⟨_, _, ⟨y0, _⟩, _⟩ := h.rc.cells; exact lt_of_cell y0
  obtain ⟨v1, h1, hv1⟩ := h1
  have hv8 : (v1.k == 8) = true := by rw [hv1]; rfl
  have hk1 : decide (xs.length ≤ 1) = false := by simp; omega
  have hk2 : decide (xs.length ≤ 2) = false := by simp; omega
  unfold recA
  obtain ⟨b1, b2, b3, b4, b5⟩ := al3k w (.cells #[.pointer (some ⟨L.wb, L.wo, none⟩)] 24) (.cells #[.int .i64 9, .int .i64 41, .string ⟨#[]⟩] 23) (.cells #[.int .i64 0, .int .i64 0, .int .i64 0, .int .i64 0, .string ⟨#[]⟩] 29)
  clear h hk
  obtain ⟨W, hW⟩ : ∃ W, ((w.alloc (.cells #[.pointer (some ⟨L.wb, L.wo, none⟩)] 24)).alloc (.cells #[.int .i64 9, .int .i64 41, .string ⟨#[]⟩] 23)).alloc (.cells #[.int .i64 0, .int .i64 0, .int .i64 0, .int .i64 0, .string ⟨#[]⟩] 29) = W := ⟨_, rfl⟩
  rw [hW] at b1 b2 b3 b4 b5
  obtain ⟨q0, q1, q2, qf⟩ := box3 b4.out
  have t0 : W.cell? ⟨w.heap.size, 0, none⟩ = some (.pointer (some ⟨L.wb, L.wo, none⟩)) := (Lib.cell_of_heap b3.out 0).trans rfl
  go_enter Tryz.func9, Tryz.ntmps9
  go_wp2_with fail
  go_at_call 27
  refine (record_ret L xs _ (HS.out _ b1.out)).mono ?_
  rintro e w1 hr
  obtain ⟨⟨g, cap, rfl, hg1, hown⟩, hb1⟩ := hr
  clear hW q0 q1 q2 qf t0
  unfold cellA
  obtain ⟨n1, n2, n3⟩ := al1k w1 (.cells #[.int .i64 7, .int .i64 0, .int .i64 0, .int .i64 0, .slice none 0 0, .slice (some ⟨g, 0, none⟩) xs.length cap] 66)
  have hb1s := hb1.size
  obtain ⟨V, hV⟩ : ∃ V, w1.alloc (.cells #[.int .i64 7, .int .i64 0, .int .i64 0, .int .i64 0, .slice none 0 0, .slice (some ⟨g, 0, none⟩) xs.length cap] 66) = V := ⟨_, rfl⟩
  rw [hV] at n1 n2 n3
  have HOV := Lib.hid (hown.below n1.out)
  have hbWV := hb1.trans (n1.out.mono hb1s)
  have HB := Lib.hid (b1.out.trans (hbWV.mono b1.out.size))
  have r3 := Lib.hid (keep_below hbWV b3.out)
  have r4 := Lib.hid (keep_below hbWV b4.out)
  have r5 := Lib.hid (keep_below hbWV b5.out)
  obtain ⟨q0, q1, q2, qf⟩ := box3 r4.out
  have t0 : V.cell? ⟨w.heap.size, 0, none⟩ = some (.pointer (some ⟨L.wb, L.wo, none⟩)) := (Lib.cell_of_heap r3.out 0).trans rfl
  obtain ⟨p0, p1, p2, p3, p4, p5, pf⟩ := box6 n3.out
  obtain ⟨c3, c4, c5⟩ := lie_cells HOV.out.lie h1
  obtain ⟨c6, c7, c8⟩ := lie_cells HOV.out.lie h2
  have hg0 : w.heap.size ≤ g := by omega
  have hV5 : w.heap.size + 1 + 1 < V.heap.size := by omega
  clear hown hb1 hbWV b1 b3 b4 b5
  go_wp2_with fail
  go_at_call 28
  refine (HK.out g cap V HB.out HOV.out hg0).mono ?_
  rintro e w5 ⟨rfl, hs5, hk5⟩
  clear hV q0 q1 q2 qf t0 p0 p1 p2 p3 p4 p5 pf c3 c4 c5 c6 c7 c8
  have R5 := hk5.heap r5.out (by omega) (by omega)
  obtain ⟨s0, s1, s2, s3, s4, sf⟩ := box5 R5
  have HKE := Lib.hid (hk5.keep (Keep.of HB.out) hg0)
  replace hs5 := Lib.hid hs5
  clear hk5 R5
  unfold endA
  go_wp2_with fail
  refine bodyPost_ret (v := endA x) ?_ rfl ⟨rfl, ?_, ?_⟩
  · rw [results_cell_one rfl]
    go_simp
    rfl
  · refine StN.weak (n := V.heap.size) ?_ (Nat.zero_le _)
    iterate 5 refine StN.set ?_ hV5 HF.out _ _
    exact hs5.out
  · iterate 5 refine Keep.setn ?_ (by omega)
    exact HKE.out

end Go.Proofs.YtfiainenbpldgaaGreatDoor
