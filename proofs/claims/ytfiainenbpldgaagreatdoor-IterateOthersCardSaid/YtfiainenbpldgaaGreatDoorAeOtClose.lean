/-
  IterateOthers: iterate.Next where nothing is left; Done; Close.
-/
import Derived.Test.YtfiainenbpldgaaGreatDoorAeOtStep
namespace Go.Proofs.YtfiainenbpldgaaGreatDoor
open Go.RowKit
set_option maxRecDepth 100000
set_option linter.unusedVariables false
set_option linter.unusedSimpArgs false

/-- no cell -/
def cellZ : Value := .agg #[.int .i64 0, .int .i64 0, .int .i64 0, .int .i64 0, .slice none 0 0, .slice none 0 0]
/-- the empty completion -/
def endZ : Value := .agg #[.int .i64 0, .int .i64 0, .int .i64 0, .int .i64 0, .string ⟨#[]⟩]

set_option maxHeartbeats 1000000 in
theorem record_no (b o : Nat) (x : VL) (hk : (x.k != 9) = true) (w : World) : Calls Tryz.prog 27 #[.pointer (some ⟨b, o, none⟩), .agg #[.int .i64 x.k, .int .i64 x.n, .string x.s]] w fun e w' => e = .returned (.tuple #[cellZ, .bool false]) ∧ Below w.heap.size w w' := by
  have hb := Lib.hid (below_al2 w (.cells #[.int .i64 x.k, .int .i64 x.n, .string x.s] 23) (.cells #[.int .i64 0, .int .i64 0, .int .i64 0, .int .i64 0, .slice none 0 0, .slice none 0 0] 66))
  go_enter Tryz.func27, Tryz.ntmps27
  go_wp2_with fail
  refine bodyPost_ret (v := .tuple #[cellZ, .bool false]) ?_ rfl ⟨rfl, ?_⟩
  · rw [results_cell_tmp rfl]
    go_simp
    rfl
  · repeat (with_reducible first | refine bset ?_ (by omega))
    exact hb.out

set_option maxHeartbeats 1000000 in
theorem next_no (b o : Nat) (x : VL) (hk : (x.k != 9) = true) (w : World) : Calls Tryz.prog 9 #[.pointer (some ⟨b, o, none⟩), .agg #[.int .i64 x.k, .int .i64 x.n, .string x.s]] w fun e w' => e = .returned (endA hole) ∧ Below w.heap.size w w' := by
  obtain ⟨b1, b2, b3, b4, b5⟩ := al3k w (.cells #[.pointer (some ⟨b, o, none⟩)] 24) (.cells #[.int .i64 x.k, .int .i64 x.n, .string x.s] 23) (.cells #[.int .i64 0, .int .i64 0, .int .i64 0, .int .i64 0, .string ⟨#[]⟩] 29)
  obtain ⟨W, hW⟩ : ∃ W, ((w.alloc (.cells #[.pointer (some ⟨b, o, none⟩)] 24)).alloc (.cells #[.int .i64 x.k, .int .i64 x.n, .string x.s] 23)).alloc (.cells #[.int .i64 0, .int .i64 0, .int .i64 0, .int .i64 0, .string ⟨#[]⟩] 29) = W := ⟨_, rfl⟩
  rw [hW] at b1 b2 b3 b4 b5
  obtain ⟨q0, q1, q2, qf⟩ := box3 b4.out
  have t0 : W.cell? ⟨w.heap.size, 0, none⟩ = some (.pointer (some ⟨b, o, none⟩)) := (Lib.cell_of_heap b3.out 0).trans rfl
  go_enter Tryz.func9, Tryz.ntmps9
  go_wp2_with fail
  go_at_call 27
  refine (record_no b o x hk _).mono ?_
  rintro e w1 ⟨rfl, hb1⟩
  clear hW q0 q1 q2 qf t0
  unfold cellZ
  obtain ⟨n1, n2, n3⟩ := al1k w1 (.cells #[.int .i64 0, .int .i64 0, .int .i64 0, .int .i64 0, .slice none 0 0, .slice none 0 0] 66)
  have hb1s := hb1.size
  have hbWV := hb1.trans (n1.out.mono hb1s)
  have HB := Lib.hid (b1.out.trans (hbWV.mono b1.out.size))
  have r5 := Lib.hid (keep_below hbWV b5.out)
  have hz5 : w.heap.size + 1 + 1 < w1.heap.size := by omega
  clear hb1 hbWV b1 b3 b4 b5 n1 n2 n3
  go_wp2_with fail
  go_at_call 18
  refine (atEnd_ret _).mono ?_
  rintro e w5 ⟨rfl, hb5⟩
  obtain ⟨s0, s1, s2, s3, s4, sf⟩ := box5 (keep_below hb5 r5.out)
  have HK := Lib.hid (HB.out.trans (hb5.mono HB.out.size))
  clear hb5
  unfold endA hole
  go_wp2_with fail
  refine bodyPost_ret (v := endA hole) ?_ rfl ⟨rfl, ?_⟩
  · rw [results_cell_one rfl]
    go_simp
    rfl
  · iterate 5 refine bset ?_ (by omega)
    exact HK.out

set_option maxHeartbeats 1000000 in
theorem done_no (b o : Nat) (x : VL) (hk : (x.k != 9) = true) (w : World) : Calls Tryz.prog 13 #[.pointer (some ⟨b, o, none⟩), .agg #[.int .i64 x.k, .int .i64 x.n, .string x.s]] w fun e w' => e = .returned (.bool true) ∧ Below w.heap.size w w' := by
  have hb := Lib.hid (new_below w (.cells #[.int .i64 x.k, .int .i64 x.n, .string x.s] 23))
  go_enter Tryz.func13, Tryz.ntmps13
  go_wp2_with fail
  go_at_call 27
  refine (record_no b o x hk _).mono ?_
  rintro e w1 ⟨rfl, hb1⟩
  have HB := Lib.hid (hb.out.trans (hb1.mono hb.out.size))
  clear hb1
  unfold cellZ
  go_wp2_with fail
  go_ret
  exact ⟨rfl, ball HB.out⟩

set_option maxHeartbeats 1000000 in
theorem close_no (b o : Nat) (x : VL) (q : Bool) (hk : (x.k != 9) = true) (w : World) : Calls Tryz.prog 12 #[.pointer (some ⟨b, o, none⟩), .agg #[.int .i64 x.k, .int .i64 x.n, .string x.s], .bool q] w fun e w' => e = .returned endZ ∧ Below w.heap.size w w' := by
  obtain ⟨b1, b2, b3, b4, b5⟩ := al3k w (.cells #[.pointer (some ⟨b, o, none⟩)] 24) (.cells #[.int .i64 x.k, .int .i64 x.n, .string x.s] 23) (.cells #[.int .i64 0, .int .i64 0, .int .i64 0, .int .i64 0, .string ⟨#[]⟩] 29)
  obtain ⟨W, hW⟩ : ∃ W, ((w.alloc (.cells #[.pointer (some ⟨b, o, none⟩)] 24)).alloc (.cells #[.int .i64 x.k, .int .i64 x.n, .string x.s] 23)).alloc (.cells #[.int .i64 0, .int .i64 0, .int .i64 0, .int .i64 0, .string ⟨#[]⟩] 29) = W := ⟨_, rfl⟩
  rw [hW] at b1 b2 b3 b4 b5
  obtain ⟨q0, q1, q2, qf⟩ := box3 b4.out
  have t0 : W.cell? ⟨w.heap.size, 0, none⟩ = some (.pointer (some ⟨b, o, none⟩)) := (Lib.cell_of_heap b3.out 0).trans rfl
  go_enter Tryz.func12, Tryz.ntmps12
  go_wp2_with fail
  go_at_call 27
  refine (record_no b o x hk _).mono ?_
  rintro e w1 ⟨rfl, hb1⟩
  clear hW q0 q1 q2 qf t0
  unfold cellZ
  obtain ⟨n1, n2, n3⟩ := al1k w1 (.cells #[.int .i64 0, .int .i64 0, .int .i64 0, .int .i64 0, .slice none 0 0, .slice none 0 0] 66)
  have hb1s := hb1.size
  have hbWV := hb1.trans (n1.out.mono hb1s)
  have HB := Lib.hid (b1.out.trans (hb1.mono b1.out.size))
  obtain ⟨s0, s1, s2, s3, s4, sf⟩ := box5 (keep_below hb1 b5.out)
  have hz5 : w.heap.size + 1 + 1 < w1.heap.size := by omega
  clear hb1 hbWV b1 b3 b4 b5 n1 n2 n3
  go_wp2_with fail
  refine bodyPost_ret (v := endZ) ?_ rfl ⟨rfl, ?_⟩
  · rw [results_cell_one rfl]
    go_simp
    rfl
  · refine ball ?_
    iterate 5 refine bset ?_ (by omega)
    exact HB.out

set_option maxHeartbeats 2000000 in
theorem next_end (L : Lc) (xs : List VL) (h2 : xs[2]? = some ⟨3, 1, ⟨#[]⟩⟩) (w : World) (h : St L xs w) : Calls Tryz.prog 9 #[.pointer (some ⟨L.wb, L.wo, none⟩), recA] w fun e w' => NxR L xs hole w e w' := by
  have HS : Hid (∀ W, Below w.heap.size w W → St L xs W) := Lib.hid fun W hW => h.below hW
  obtain ⟨hl4, hl1000⟩ := h.gd.len
  have hk2 : decide (xs.length ≤ 2) = false := by simp; omega
  unfold recA
  obtain ⟨b1, b2, b3, b4, b5⟩ := al3k w (.cells #[.pointer (some ⟨L.wb, L.wo, none⟩)] 24) (.cells #[.int .i64 9, .int .i64 41, .string ⟨#[]⟩] 23) (.cells #[.int .i64 0, .int .i64 0, .int .i64 0, .int .i64 0, .string ⟨#[]⟩] 29)
  clear h
  obtain ⟨W, hW⟩ : ∃ W, ((w.alloc (.cells #[.pointer (some ⟨L.wb, L.wo, none⟩)] 24)).alloc (.cells #[.int .i64 9, .int .i64 41, .string ⟨#[]⟩] 23)).alloc (.cells #[.int .i64 0, .int .i64 0, .int .i64 0, .int .i64 0, .string ⟨#[]⟩] 29) = W := ⟨_, rfl⟩
  rw [hW] at b1 b2 b3 b4 b5
  obtain ⟨q0, q1, q2, qf⟩ := box3 b4.out
  have t0 : W.cell? ⟨w.heap.size, 0, none⟩ = some (.pointer (some ⟨L.wb, L.wo, none⟩)) := (Lib.cell_of_heap b3.out 0).trans rfl
  go_enter Tryz.func9, Tryz.ntmps9
  go_wp2_with fail
  go_at_call 27
  refine (record_ret L xs _ (HS.out _ b1.out)).mono ?_
  rintro e w1 hr
  obtain ⟨⟨g, cap, rfl, hg1, hown⟩, hb1⟩ := hr
  clear hW q0 q1 q2 qf t0
  unfold cellA
  obtain ⟨n1, n2, n3⟩ := al1k w1 (.cells #[.int .i64 7, .int .i64 0, .int .i64 0, .int .i64 0, .slice none 0 0, .slice (some ⟨g, 0, none⟩) xs.length cap] 66)
  have hb1s := hb1.size
  obtain ⟨V, hV⟩ : ∃ V, w1.alloc (.cells #[.int .i64 7, .int .i64 0, .int .i64 0, .int .i64 0, .slice none 0 0, .slice (some ⟨g, 0, none⟩) xs.length cap] 66) = V := ⟨_, rfl⟩
  rw [hV] at n1 n2 n3
  have HOV := Lib.hid (hown.below n1.out)
  have hbWV := hb1.trans (n1.out.mono hb1s)
  have HB := Lib.hid (b1.out.trans (hbWV.mono b1.out.size))
  have r5 := Lib.hid (keep_below hbWV b5.out)
  obtain ⟨p0, p1, p2, p3, p4, p5, pf⟩ := box6 n3.out
  obtain ⟨c6, c7, c8⟩ := lie_cells HOV.out.lie h2
  clear hown hb1 hbWV b1 b3 b4 b5
  go_wp2_with fail
  go_at_call 18
  refine (atEnd_ret _).mono ?_
  rintro e w5 ⟨rfl, hb5⟩
  clear hV p0 p1 p2 p3 p4 p5 pf c6 c7 c8
  obtain ⟨s0, s1, s2, s3, s4, sf⟩ := box5 (keep_below hb5 r5.out)
  have HK := Lib.hid (HB.out.trans (hb5.mono HB.out.size))
  clear hb5
  unfold endA hole
  go_wp2_with fail
  have HE : Hid (Below w.heap.size w (((((w5.setCell ⟨w.heap.size + 1 + 1, 0, none⟩ (.int .i64 0)).setCell ⟨w.heap.size + 1 + 1, 1, none⟩ (.int .i64 0)).setCell ⟨w.heap.size + 1 + 1, 2, none⟩ (.int .i64 8)).setCell ⟨w.heap.size + 1 + 1, 3, none⟩ (.int .i64 0)).setCell ⟨w.heap.size + 1 + 1, 4, none⟩ (.string ⟨#[]⟩))) := Lib.hid (bset (bset (bset (bset (bset HK.out (by omega)) (by omega)) (by omega)) (by omega)) (by omega))
  refine bodyPost_ret (v := endA hole) ?_ rfl ⟨rfl, HS.out _ HE.out, Keep.of HE.out⟩
  rw [results_cell_one rfl]
  go_simp
  rfl

set_option maxHeartbeats 2000000 in
theorem done_end (L : Lc) (xs : List VL) (h2 : xs[2]? = some ⟨3, 1, ⟨#[]⟩⟩) (w : World) (h : St L xs w) : Calls Tryz.prog 13 #[.pointer (some ⟨L.wb, L.wo, none⟩), recA] w fun e w' => e = .returned (.bool true) ∧ Below w.heap.size w w' := by
  have HS : Hid (∀ W, Below w.heap.size w W → St L xs W) := Lib.hid fun W hW => h.below hW
  obtain ⟨hl4, hl1000⟩ := h.gd.len
  have hk2 : decide (xs.length ≤ 2) = false := by simp; omega
  unfold recA
  obtain ⟨b1, b2, b3⟩ := al1k w (.cells #[.int .i64 9, .int .i64 41, .string ⟨#[]⟩] 23)
  clear h
  go_enter Tryz.func13, Tryz.ntmps13
  go_wp2_with fail
  go_at_call 27
  refine (record_ret L xs _ (HS.out _ b1.out)).mono ?_
  rintro e w1 hr
  obtain ⟨⟨g, cap, rfl, hg1, hown⟩, hb1⟩ := hr
  unfold cellA
  have HB := Lib.hid (b1.out.trans (hb1.mono b1.out.size))
  obtain ⟨c6, c7, c8⟩ := lie_cells hown.lie h2
  have hgl := hown.lt
  clear hown hb1 b1 b3
  go_wp2_with fail
  go_ret
  exact ⟨rfl, ball HB.out⟩

set_option maxHeartbeats 2000000 in
theorem close_end (L : Lc) (xs : List VL) (h2 : xs[2]? = some ⟨3, 1, ⟨#[]⟩⟩) (w : World) (h : St L xs w) : Calls Tryz.prog 12 #[.pointer (some ⟨L.wb, L.wo, none⟩), recA, .bool false] w fun e w' => e = .returned endZ ∧ Below w.heap.size w w' := by
  have HS : Hid (∀ W, Below w.heap.size w W → St L xs W) := Lib.hid fun W hW => h.below hW
  obtain ⟨hl4, hl1000⟩ := h.gd.len
  have hk2 : decide (xs.length ≤ 2) = false := by simp; omega
  unfold recA
  obtain ⟨b1, b2, b3, b4, b5⟩ := al3k w (.cells #[.pointer (some ⟨L.wb, L.wo, none⟩)] 24) (.cells #[.int .i64 9, .int .i64 41, .string ⟨#[]⟩] 23) (.cells #[.int .i64 0, .int .i64 0, .int .i64 0, .int .i64 0, .string ⟨#[]⟩] 29)
  clear h
  obtain ⟨W, hW⟩ : ∃ W, ((w.alloc (.cells #[.pointer (some ⟨L.wb, L.wo, none⟩)] 24)).alloc (.cells #[.int .i64 9, .int .i64 41, .string ⟨#[]⟩] 23)).alloc (.cells #[.int .i64 0, .int .i64 0, .int .i64 0, .int .i64 0, .string ⟨#[]⟩] 29) = W := ⟨_, rfl⟩
  rw [hW] at b1 b2 b3 b4 b5
  obtain ⟨q0, q1, q2, qf⟩ := box3 b4.out
  have t0 : W.cell? ⟨w.heap.size, 0, none⟩ = some (.pointer (some ⟨L.wb, L.wo, none⟩)) := (Lib.cell_of_heap b3.out 0).trans rfl
  go_enter Tryz.func12, Tryz.ntmps12
  go_wp2_with fail
  go_at_call 27
  refine (record_ret L xs _ (HS.out _ b1.out)).mono ?_
  rintro e w1 hr
  obtain ⟨⟨g, cap, rfl, hg1, hown⟩, hb1⟩ := hr
  clear hW q0 q1 q2 qf t0
  unfold cellA
  obtain ⟨n1, n2, n3⟩ := al1k w1 (.cells #[.int .i64 7, .int .i64 0, .int .i64 0, .int .i64 0, .slice none 0 0, .slice (some ⟨g, 0, none⟩) xs.length cap] 66)
  have hb1s := hb1.size
  obtain ⟨V, hV⟩ : ∃ V, w1.alloc (.cells #[.int .i64 7, .int .i64 0, .int .i64 0, .int .i64 0, .slice none 0 0, .slice (some ⟨g, 0, none⟩) xs.length cap] 66) = V := ⟨_, rfl⟩
  rw [hV] at n1 n2 n3
  have HOV := Lib.hid (hown.below n1.out)
  have hbWV := hb1.trans (n1.out.mono hb1s)
  have HB := Lib.hid (b1.out.trans (hbWV.mono b1.out.size))
  have r5 := Lib.hid (keep_below hbWV b5.out)
  obtain ⟨p0, p1, p2, p3, p4, p5, pf⟩ := box6 n3.out
  obtain ⟨c6, c7, c8⟩ := lie_cells HOV.out.lie h2
  clear hown hb1 hbWV b1 b3 b4 b5
  obtain ⟨s0, s1, s2, s3, s4, sf⟩ := box5 r5.out
  go_wp2_with fail
  refine bodyPost_ret (v := endZ) ?_ rfl ⟨rfl, ?_⟩
  · rw [results_cell_one rfl]
    go_simp
    rfl
  · iterate 5 refine bset ?_ (by omega)
    exact HB.out

/-- closed -/
structure ClsR (L : Lc) (ys : List VL) (w : World) (e : Ending) (w' : World) : Prop where
  ret : e = .returned endZ
  st : St L ys w'
  keep : Keep L.yb w w'

set_option maxHeartbeats 2000000 in
theorem close_key (L : Lc) (xs : List VL) (h1 : ∃ v, xs[1]? = some v ∧ v.k = 8) (h2 : xs[2]? = some ⟨3, 0, ⟨#[]⟩⟩) (w : World) (h : St L xs w) :
    Calls Tryz.prog 12 #[.pointer (some ⟨L.wb, L.wo, none⟩), recA, .bool false] w fun e w' => ClsR L (xs.set 2 ⟨3, 1, ⟨#[]⟩⟩) w e w' := by
  have HS : Hid (∀ W, Below w.heap.size w W → St L xs W) := Lib.hid fun W hW => h.below hW
  obtain ⟨hl4, hl1000⟩ := h.gd.len
  have HF := Lib.hid (h.off (r := w.heap.size + 1 + 1) (by omega))
  have hyl : L.yb < w.heap.size := by obtain ⟨_, _, ⟨y0, _⟩, _⟩ := h.rc.cells; exact lt_of_cell y0
  obtain ⟨v1, h1, hv1⟩ := h1
  have hv8 : (v1.k == 8) = true := by rw [hv1]; rfl
  have hk1 : decide (xs.length ≤ 1) = false := by simp; omega
  have hk2 : decide (xs.length ≤ 2) = false := by simp; omega
  unfold recA
  obtain ⟨b1, b2, b3, b4, b5⟩ := al3k w (.cells #[.pointer (some ⟨L.wb, L.wo, none⟩)] 24) (.cells #[.int .i64 9, .int .i64 41, .string ⟨#[]⟩] 23) (.cells #[.int .i64 0, .int .i64 0, .int .i64 0, .int .i64 0, .string ⟨#[]⟩] 29)
  clear h
  obtain ⟨W, hW⟩ : ∃ W, ((w.alloc (.cells #[.pointer (some ⟨L.wb, L.wo, none⟩)] 24)).alloc (.cells #[.int .i64 9, .int .i64 41, .string ⟨#[]⟩] 23)).alloc (.cells #[.int .i64 0, .int .i64 0, .int .i64 0, .int .i64 0, .string ⟨#[]⟩] 29) = W := ⟨_, rfl⟩
  rw [hW] at b1 b2 b3 b4 b5
  obtain ⟨q0, q1, q2, qf⟩ := box3 b4.out
  have t0 : W.cell? ⟨w.heap.size, 0, none⟩ = some (.pointer (some ⟨L.wb, L.wo, none⟩)) := (Lib.cell_of_heap b3.out 0).trans rfl
  go_enter Tryz.func12, Tryz.ntmps12
  go_wp2_with fail
  go_at_call 27
  refine (record_ret L xs _ (HS.out _ b1.out)).mono ?_
  rintro e w1 hr
  obtain ⟨⟨g, cap, rfl, hg1, hown⟩, hb1⟩ := hr
  clear hW q0 q1 q2 qf t0
  unfold cellA
  obtain ⟨n1, n2, n3⟩ := al1k w1 (.cells #[.int .i64 7, .int .i64 0, .int .i64 0, .int .i64 0, .slice none 0 0, .slice (some ⟨g, 0, none⟩) xs.length cap] 66)
  have hb1s := hb1.size
  obtain ⟨V, hV⟩ : ∃ V, w1.alloc (.cells #[.int .i64 7, .int .i64 0, .int .i64 0, .int .i64 0, .slice none 0 0, .slice (some ⟨g, 0, none⟩) xs.length cap] 66) = V := ⟨_, rfl⟩
  rw [hV] at n1 n2 n3
  have HOV := Lib.hid (hown.below n1.out)
  have hbWV := hb1.trans (n1.out.mono hb1s)
  have HB := Lib.hid (b1.out.trans (hbWV.mono b1.out.size))
  have r3 := Lib.hid (keep_below hbWV b3.out)
  have r4 := Lib.hid (keep_below hbWV b4.out)
  have r5 := Lib.hid (keep_below hbWV b5.out)
  obtain ⟨q0, q1, q2, qf⟩ := box3 r4.out
  have t0 : V.cell? ⟨w.heap.size, 0, none⟩ = some (.pointer (some ⟨L.wb, L.wo, none⟩)) := (Lib.cell_of_heap r3.out 0).trans rfl
  obtain ⟨p0, p1, p2, p3, p4, p5, pf⟩ := box6 n3.out
  obtain ⟨c3, c4, c5⟩ := lie_cells HOV.out.lie h1
  obtain ⟨c6, c7, c8⟩ := lie_cells HOV.out.lie h2
  have hg0 : w.heap.size ≤ g := by omega
  have hV5 : w.heap.size + 1 + 1 < V.heap.size := by omega
  clear hown hb1 hbWV b1 b3 b4 b5
  go_wp2_with fail
  go_at_call 32
  refine (finish_ret L xs _ (HS.out _ HB.out)).mono ?_
  rintro e w5 ⟨rfl, hs5, hk5⟩
  clear hV q0 q1 q2 qf t0 p0 p1 p2 p3 p4 p5 pf c3 c4 c5 c6 c7 c8
  obtain ⟨s0, s1, s2, s3, s4, sf⟩ := box5 (hk5.heap r5.out (by omega))
  obtain ⟨p0, p1, p2, p3, p4, p5, pf⟩ := box6 (hk5.heap n3.out (by omega))
  obtain ⟨c3, c4, c5⟩ := lie_cells (HOV.out.keep hk5 (by omega)).lie h1
  have HKE := Lib.hid ((Keep.of (y := L.yb) HB.out).trans hk5)
  replace hs5 := Lib.hid hs5
  clear hk5
  go_wp2_with fail
  refine bodyPost_ret (v := endZ) ?_ rfl ⟨rfl, ?_, ?_⟩
  · rw [results_cell_one rfl]
    go_simp
    rfl
  · refine StN.weak (n := V.heap.size) ?_ (Nat.zero_le _)
    iterate 5 refine StN.set ?_ hV5 HF.out _ _
    exact hs5.out
  · iterate 5 refine Keep.setn ?_ (by omega)
    exact HKE.out

end Go.Proofs.YtfiainenbpldgaaGreatDoor
