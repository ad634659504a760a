/-
  IterateOthers: iterate.nextKey.
-/
import Derived.Test.YtfiainenbpldgaaGreatDoorAeOtFin
namespace Go.Proofs.YtfiainenbpldgaaGreatDoor
open Go.RowKit
set_option maxRecDepth 100000
set_option linter.unusedVariables false
set_option linter.unusedSimpArgs false

/-- a completion -/
def endA (x : VL) : Value := .agg #[.int .i64 0, .int .i64 0, .int .i64 x.k, .int .i64 x.n, .string x.s]
def hole : VL := ⟨8, 0, ⟨#[]⟩⟩

set_option maxHeartbeats 1000000 in
theorem normal_ret (x : VL) (w : World) : Calls Tryz.prog 24 #[.agg #[.int .i64 x.k, .int .i64 x.n, .string x.s]] w fun e w' => e = .returned (endA x) ∧ Below w.heap.size w w' := by
  have hb0 := Lib.hid (below_al2 w (.cells #[.int .i64 x.k, .int .i64 x.n, .string x.s] 23) (.cells #[.int .i64 0, .int .i64 0, .int .i64 x.k, .int .i64 x.n, .string x.s] 29))
  go_enter Tryz.func24, Tryz.ntmps24
  go_wp2
  refine bodyPost_ret (v := endA x) ?_ rfl ⟨rfl, ?_⟩
  · rw [results_cell_one rfl]
    go_simp
    rfl
  · exact hb0.out

set_option maxHeartbeats 1000000 in
theorem atEnd_ret (w : World) : Calls Tryz.prog 18 #[] w fun e w' => e = .returned (endA hole) ∧ Below w.heap.size w w' := by
  have hb0 := Lib.hid (new_below w (.cells #[.int .i64 0, .int .i64 0, .int .i64 0, .int .i64 0, .string ⟨#[]⟩] 29))
  go_enter Tryz.func18, Tryz.ntmps18
  go_wp2_with (first
    | (go_at_call 24; refine (normal_ret hole _).mono ?_; rintro e w1 ⟨rfl, hb1⟩; have r1 := keep_below hb1 (heap_alloc_new w _); have s0 := (Lib.cell_of_heap r1 0).trans rfl; have s1 := (Lib.cell_of_heap r1 1).trans rfl; have s2 := (Lib.cell_of_heap r1 2).trans rfl; have s3 := (Lib.cell_of_heap r1 3).trans rfl; have s4 := (Lib.cell_of_heap r1 4).trans rfl; have sf := Lib.frozen_of_heap r1; replace hb0 := Lib.hid (hb0.out.trans (hb1.mono hb0.out.size)); clear hb1 r1; unfold endA hole)
    | fail)
  refine bodyPost_ret (v := endA hole) ?_ rfl ⟨rfl, ?_⟩
  · rw [results_cell_one rfl]
    go_simp
    rfl
  · iterate 5 refine bset ?_ (by omega)
    exact hb0.out

theorem Good.kind {xs : List VL} (h : Good xs) {i : Nat} {x : VL} (hi : xs[i]? = some x) : (x.k == 7) = false := by
  have hk := (h.ok x (List.mem_of_getElem? hi)).k
  have : ¬ x.k = 7 := by omega
  simpa using this

theorem al3 (w : World) (X Y Z : Obj) : Below w.heap.size w (((w.alloc X).alloc Y).alloc Z) ∧ (((w.alloc X).alloc Y).alloc Z).heap.size = w.heap.size + 3 ∧ (((w.alloc X).alloc Y).alloc Z).heap[w.heap.size]? = some X ∧ (((w.alloc X).alloc Y).alloc Z).heap[w.heap.size + 1]? = some Y ∧ (((w.alloc X).alloc Y).alloc Z).heap[w.heap.size + 2]? = some Z := by
  have e2 : ((w.alloc X).alloc Y).heap.size = w.heap.size + 2 := by simp
  obtain ⟨a, b⟩ := two_al w X Y
  have hb := new_below ((w.alloc X).alloc Y) Z
  refine ⟨ball (below_al2 w X Y), by simp, keep_below hb a, keep_below hb b, ?_⟩
  have := heap_alloc_new ((w.alloc X).alloc Y) Z
  rw [e2] at this
  exact this

theorem box5 {W : World} {b : Nat} {a0 a1 a2 a3 a4 : Value} {T : TypeId} (h : W.heap[b]? = some (.cells #[a0, a1, a2, a3, a4] T (0, 0))) :
    W.cell? ⟨b, 0, none⟩ = some a0 ∧ W.cell? ⟨b, 1, none⟩ = some a1 ∧ W.cell? ⟨b, 2, none⟩ = some a2 ∧ W.cell? ⟨b, 3, none⟩ = some a3 ∧ W.cell? ⟨b, 4, none⟩ = some a4 ∧ ∀ j, W.frozen? ⟨b, j, none⟩ = false :=
  ⟨(Lib.cell_of_heap h 0).trans rfl, (Lib.cell_of_heap h 1).trans rfl, (Lib.cell_of_heap h 2).trans rfl, (Lib.cell_of_heap h 3).trans rfl, (Lib.cell_of_heap h 4).trans rfl, Lib.frozen_of_heap h⟩

def zero29 : Array Value := #[.int .i64 0, .int .i64 0, .int .i64 0, .int .i64 0, .string ⟨#[]⟩]

/-- the boxes of a call -/
structure Bx (n : Nat) (C : Array Value) (x : VL) (W : World) : Prop where
  a : W.heap[n]? = some (.cells #[.int .i64 9, .int .i64 41, .string ⟨#[]⟩] 23 (0, 0))
  b : W.heap[n + 1]? = some (.cells C 66 (0, 0))
  c : W.heap[n + 2]? = some (.cells zero29 29 (0, 0))
  d : W.heap[n + 3]? = some (.cells #[.int .i64 x.k, .int .i64 x.n, .string x.s] 23 (0, 0))

theorem Bx.keep {n y : Nat} {C : Array Value} {x : VL} {W W' : World} (h : Bx n C x W) (k : Keep y W W') (hy : y < n) : Bx n C x W' :=
  ⟨k.heap h.a (by omega), k.heap h.b (by omega), k.heap h.c (by omega), k.heap h.d (by omega)⟩

theorem Own.keep {y g : Nat} {xs : List VL} {W W' : World} (h : Own W g xs) (k : Keep y W W') (hy : g ≠ y) : Own W' g xs :=
  ⟨h.lie.other (k.block g h.lt hy), fun j => by rw [World.frozen?_of_block (a := ⟨g, j, none⟩) (k.block g h.lt hy)]; exact h.fz j, Nat.lt_of_lt_of_le h.lt k.size⟩

/-- all but two blocks is as it was -/
structure Keep2 (y g : Nat) (w w' : World) : Prop where
  os : w'.os = w.os
  tape : w'.tape = w.tape
  output : w'.output = w.output
  size : w.heap.size ≤ w'.heap.size
  block : ∀ k, k < w.heap.size → k ≠ y → k ≠ g → w'.heap[k]? = w.heap[k]?

theorem Keep2.of {y g : Nat} {w w' : World} (h : Below w.heap.size w w') : Keep2 y g w w' := ⟨h.os, h.tape, h.output, h.size, fun k hk _ _ => h.block k hk⟩
theorem Keep2.ofK {y g : Nat} {w w' : World} (h : Keep y w w') : Keep2 y g w w' := ⟨h.os, h.tape, h.output, h.size, fun k hk hn _ => h.block k hk hn⟩
theorem Keep2.trans {y g : Nat} {a b c : World} (h : Keep2 y g a b) (k : Keep2 y g b c) : Keep2 y g a c :=
  ⟨k.os.trans h.os, k.tape.trans h.tape, k.output.trans h.output, Nat.le_trans h.size k.size, fun x hx hn hm => (k.block x (Nat.lt_of_lt_of_le hx h.size) hn hm).trans (h.block x hx hn hm)⟩
theorem Keep2.setg {y g i : Nat} {a w : World} {v : Value} (h : Keep2 y g a w) : Keep2 y g a (w.setCell ⟨g, i, none⟩ v) :=
  ⟨h.os, h.tape, h.output, by rw [set_size]; exact h.size, fun k hk hn hm => by rw [set_other v hm]; exact h.block k hk hn hm⟩
theorem Keep2.setn {y g r i : Nat} {a w : World} {v : Value} (h : Keep2 y g a w) (hr : a.heap.size ≤ r) : Keep2 y g a (w.setCell ⟨r, i, none⟩ v) :=
  ⟨h.os, h.tape, h.output, by rw [set_size]; exact h.size, fun k hk hn hm => by rw [set_other v (by omega)]; exact h.block k hk hn hm⟩
theorem Keep2.keep {y g : Nat} {a w w' : World} (h : Keep2 y g w w') (hb : Keep y a w) (hg : a.heap.size ≤ g) : Keep y a w' :=
  ⟨h.os.trans hb.os, h.tape.trans hb.tape, h.output.trans hb.output, Nat.le_trans hb.size h.size, fun k hk hn => (h.block k (Nat.lt_of_lt_of_le hk hb.size) hn (by omega)).trans (hb.block k hk hn)⟩
theorem Keep2.heap {y g : Nat} {w w' : World} (h : Keep2 y g w w') {b : Nat} {o : Obj} (hc : w.heap[b]? = some o) (hn : b ≠ y) (hm : b ≠ g) : w'.heap[b]? = some o :=
  (h.block b (Array.getElem?_eq_some_iff.1 hc).1 hn hm).trans hc

/-- it hands back x; the record holds ys -/
structure NkR (L : Lc) (ys : List VL) (x : VL) (g : Nat) (w : World) (e : Ending) (w' : World) : Prop where
  ret : e = .returned (endA x)
  st : StN L w.heap.size ys w'
  keep : Keep2 L.yb g w w'

set_option maxHeartbeats 800000 in
theorem nextKey_some (L : Lc) (xs : List VL) (g cap p : Nat) (x : VL) (hp : p ≤ 1000) (h3 : xs[3]? = some ⟨3, (p : Int), ⟨#[]⟩⟩) (hx : xs[4 + p]? = some x) (w0 w : World) (h : St L xs w0) (hw0 : Below w0.heap.size w0 w) (ho : Own w g xs) (hg0 : w0.heap.size ≤ g) :
    Calls Tryz.prog 28 #[.pointer (some ⟨L.wb, L.wo, none⟩), recA, cellA 7 0 0 0 (.slice (some ⟨g, 0, none⟩) xs.length cap)] w fun e w' => NkR L (xs.set 3 ⟨3, (p : Int) + 1, ⟨#[]⟩⟩) x g w e w' := by
  have HS : Hid (∀ W, Below w0.heap.size w0 W → St L xs W) := Lib.hid fun W hW => h.below hW
  have HO : Hid (∀ W, Below w.heap.size w W → Own W g xs) := Lib.hid fun W hW => ho.below hW
  obtain ⟨hl4, hl1000⟩ := h.gd.len
  have HG := Lib.hid (h.gd.moved ((p : Int) + 1) (by omega) (by omega))
  have hx0 := List.getElem?_eq_getElem (show 0 < xs.length by omega)
  have hk7 := h.gd.kind hx0
  have hlt : 4 + p < xs.length := (List.getElem?_eq_some_iff.1 hx).1
  have hyl0 : L.yb < w0.heap.size := by obtain ⟨_, _, ⟨y0, _⟩, _⟩ := h.rc.cells; exact lt_of_cell y0
  have hsz0 := hw0.size
  have hyl : L.yb < w.heap.size := by omega
  have hgy : g ≠ L.yb := by omega
  have HW0 := Lib.hid hw0
  have hgl := ho.lt
  unfold recA cellA
  obtain ⟨b1, b2, b3, b4, b5⟩ := al3 w (.cells #[.int .i64 9, .int .i64 41, .string ⟨#[]⟩] 23) (.cells #[.int .i64 7, .int .i64 0, .int .i64 0, .int .i64 0, .slice none 0 0, .slice (some ⟨g, 0, none⟩) xs.length cap] 66) (.cells #[.int .i64 0, .int .i64 0, .int .i64 0, .int .i64 0, .string ⟨#[]⟩] 29)
  clear h ho hw0
  obtain ⟨W, hW⟩ : ∃ W, ((w.alloc (.cells #[.int .i64 9, .int .i64 41, .string ⟨#[]⟩] 23)).alloc (.cells #[.int .i64 7, .int .i64 0, .int .i64 0, .int .i64 0, .slice none 0 0, .slice (some ⟨g, 0, none⟩) xs.length cap] 66)).alloc (.cells #[.int .i64 0, .int .i64 0, .int .i64 0, .int .i64 0, .string ⟨#[]⟩] 29) = W := ⟨_, rfl⟩
  rw [hW] at b1 b2 b3 b4 b5
  replace b1 := Lib.hid b1
  replace b3 := Lib.hid b3
  replace b4 := Lib.hid b4
  replace b5 := Lib.hid b5
  obtain ⟨q0, q1, q2, qf⟩ := box3 b3.out
  obtain ⟨p0, p1, p2, p3, p4, p5, pf⟩ := box6 b4.out
  have HOW := Lib.hid (HO.out W b1.out)
  obtain ⟨d0, d1, d2⟩ := lie_cells HOW.out.lie hx0
  obtain ⟨x0, x1, x2⟩ := lie_cells HOW.out.lie hx
  rw [Nat.zero_add] at x0 x1 x2
  obtain ⟨c9, c10, c11⟩ := lie_cells HOW.out.lie h3
  go_enter Tryz.func28, Tryz.ntmps28
  go_wp2_with fail
  clear hW
  go_loopw [7] (fun i wr => i = .int .i64 p ∧ W = wr) (fun _ _ => 0)
  case atStart => exact ⟨rfl, rfl⟩
  case round =>
    obtain ⟨rfl, rfl⟩ := hrel
    have hj : decide ((4 : Int) + (p : Int) < (xs.length : Int)) = true := by simp; omega
    go_wp2_with fail
    have hbV := new_below W (.cells #[.int .i64 x.k, .int .i64 x.n, .string x.s] 23)
    have hdV := heap_alloc_new W (.cells #[.int .i64 x.k, .int .i64 x.n, .string x.s] 23)
    obtain ⟨V, hV⟩ : ∃ V, W.alloc (.cells #[.int .i64 x.k, .int .i64 x.n, .string x.s] 23) = V := ⟨_, rfl⟩
    rw [hV] at hbV hdV ⊢
    rw [b2] at hdV
    have hzV : V.heap.size = w.heap.size + 4 := by rw [← hV]; simp [b2]
    have HX : Hid (Bx w.heap.size #[.int .i64 7, .int .i64 0, .int .i64 0, .int .i64 0, .slice none 0 0, .slice (some ⟨g, 0, none⟩) xs.length cap] x V) := Lib.hid ⟨keep_below hbV b3.out, keep_below hbV b4.out, keep_below hbV b5.out, hdV⟩
    have HB := Lib.hid (HW0.out.trans ((b1.out.trans (hbV.mono b1.out.size)).mono hsz0))
    have HBw := Lib.hid (b1.out.trans (hbV.mono b1.out.size))
    have HOV := Lib.hid (HOW.out.below hbV)
    clear hV hbV hdV b1 b2 b3 b4 b5 HOW q0 q1 q2 qf p0 p1 p2 p3 p4 p5 pf d0 d1 d2 x0 x1 x2 c9 c10 c11 hj
    obtain ⟨p0, p1, p2, p3, p4, p5, pf⟩ := box6 HX.out.b
    have hx3 := h3
    have hk3 : decide (xs.length ≤ 3) = false := by simp; omega
    have HP : Hid (∀ W', St L xs W' → Own W' g (xs.set 3 ⟨3, (p : Int) + 1, ⟨#[]⟩⟩) → Calls Tryz.prog 60 #[.pointer (some ⟨L.wb, L.wo, none⟩), recA, cellA 7 0 0 0 (.slice (some ⟨g, 0, none⟩) xs.length cap)] W' fun e w' => SetR L (xs.set 3 ⟨3, (p : Int) + 1, ⟨#[]⟩⟩) W' e w') := Lib.hid fun W' hS ho => by
      have hp := rput_ret L xs (xs.set 3 ⟨3, (p : Int) + 1, ⟨#[]⟩⟩) HG.out g 0 cap W' hS ho.lt ho.lie
      rw [List.length_set] at hp
      exact hp
    have hwr := Go.IntWalk.i64_in ((p : Int) + 1) ⟨by omega, by omega⟩
    have hne : ∀ j, w.heap.size + j ≠ g := fun j => by omega
    have hne0 : w.heap.size ≠ g := by omega
    go_region_with (first
      | (go_at_call 20; refine (num_ret ((p : Int) + 1) _).mono ?_; rintro e w2 ⟨rfl, hb2⟩; clear p0 p1 p2 p3 p4 p5 pf; have HX2 := Lib.hid (HX.out.keep (y := L.yb) (Keep.of ((Below.refl _ _).drew.trans hb2)) hyl); obtain ⟨p0, p1, p2, p3, p4, p5, pf⟩ := box6 HX2.out.b; obtain ⟨k0, k1, k2, kf⟩ := box3 HX2.out.a; have HO2 := Lib.hid (HOV.out.below ((Below.refl _ _).drew.trans hb2)); obtain ⟨c9, c10, c11⟩ := lie_cells HO2.out.lie h3; have cf := HO2.out.fz; have HB2 := Lib.hid (HB.out.trans (((Below.refl _ _).drew.trans hb2).mono HB.out.size)); have HBw2 := Lib.hid (HBw.out.trans (((Below.refl _ _).drew.trans hb2).mono HBw.out.size)); have hz2 : w.heap.size + 2 < w2.heap.size := Nat.lt_of_lt_of_le (by show w.heap.size + 2 < V.heap.size; omega) hb2.size; clear hb2))
    all_goals
      have HO3 := Lib.hid (HO2.out.put3 3 ⟨3, (p : Int) + 1, ⟨#[]⟩⟩ (by omega) 9 rfl)
      have HB3 : Hid (Below w0.heap.size w0 (((w2.setCell ⟨g, 9, none⟩ (.int .i64 3)).setCell ⟨g, 10, none⟩ (.int .i64 ((p : Int) + 1))).setCell ⟨g, 11, none⟩ (.string ⟨#[]⟩))) := Lib.hid (bset (bset (bset HB2.out (by omega)) (by omega)) (by omega))
      have HX3 : Hid (Bx w.heap.size #[.int .i64 7, .int .i64 0, .int .i64 0, .int .i64 0, .slice none 0 0, .slice (some ⟨g, 0, none⟩) xs.length cap] x (((w2.setCell ⟨g, 9, none⟩ (.int .i64 3)).setCell ⟨g, 10, none⟩ (.int .i64 ((p : Int) + 1))).setCell ⟨g, 11, none⟩ (.string ⟨#[]⟩))) := Lib.hid (((HX2.out.keep (Keep.set _ _ _ _) hgl).keep (Keep.set _ _ _ _) hgl).keep (Keep.set _ _ _ _) hgl)
      have hx0' : (xs.set 3 ⟨3, (p : Int) + 1, ⟨#[]⟩⟩)[0]? = some xs[0] := by rw [List.getElem?_set_ne (by decide)]; exact hx0
      clear HO2 HX2 HX HOV HB HB2 c9 c10 c11 cf HG HO
      go_wp2_with (first
        | (go_at_call 60; refine (HP.out _ (HS.out _ HB3.out) HO3.out).mono ?_; rintro e w4 ⟨rfl, hs4, hk4⟩; clear p0 p1 p2 p3 p4 p5 pf k0 k1 k2 kf; have HX4 := Lib.hid (HX3.out.keep hk4 hyl); obtain ⟨p0, p1, p2, p3, p4, p5, pf⟩ := box6 HX4.out.b; obtain ⟨k0, k1, k2, kf⟩ := box3 HX4.out.d; have HO4 := Lib.hid (HO3.out.keep hk4 hgy); obtain ⟨d0, d1, d2⟩ := lie_cells HO4.out.lie hx0'; have HK4 := Lib.hid ((Keep2.setg (Keep2.setg (Keep2.setg (Keep2.of (y := L.yb) (g := g) HBw2.out)))).trans (Keep2.ofK hk4)); have HF := Lib.hid ((HS.out w0 (Below.refl _ _)).off (r := w.heap.size + 1 + 1) (by omega)); have hzz : w.heap.size + 1 + 1 < w2.heap.size := hz2; replace hs4 := Lib.hid (hs4.weak (m := w2.heap.size) (by simp only [set_size]; exact Nat.le_refl _)); clear hk4 HX3 HB3 HO3)
        | (go_at_call 24; refine (normal_ret x _).mono ?_; rintro e w5 ⟨rfl, hb5⟩; have r5 : w5.heap[w.heap.size + 1 + 1]? = some (.cells zero29 29 (0, 0)) := keep_below hb5 HX4.out.c; unfold zero29 at r5; obtain ⟨s0, s1, s2, s3, s4, sf⟩ := box5 r5; have HK5 := Lib.hid (HK4.out.trans (Keep2.of hb5)); have hs5 := Lib.hid (hs4.out.below hb5); clear hb5 r5; unfold endA)
        | fail)
      refine bodyPost_ret (v := endA x) ?_ rfl ⟨rfl, ?_, ?_⟩
      · rw [results_cell_one rfl]
        go_simp
        rfl
      · refine StN.weak (n := w2.heap.size) ?_ (by omega)
        iterate 5 refine StN.set ?_ hzz HF.out _ _
        exact hs5.out
      · iterate 5 refine Keep2.setn ?_ (by omega)
        exact HK5.out

set_option maxHeartbeats 2000000 in
theorem nextKey_none (L : Lc) (xs : List VL) (g cap p : Nat) (hp : p ≤ 1000) (h3 : xs[3]? = some ⟨3, (p : Int), ⟨#[]⟩⟩) (hx : xs.length ≤ 4 + p) (w0 w : World) (h : St L xs w0) (hw0 : Below w0.heap.size w0 w) (ho : Own w g xs) :
    Calls Tryz.prog 28 #[.pointer (some ⟨L.wb, L.wo, none⟩), recA, cellA 7 0 0 0 (.slice (some ⟨g, 0, none⟩) xs.length cap)] w fun e w' => NkR L (xs.set 2 ⟨3, 1, ⟨#[]⟩⟩) hole g w e w' := by
  have HS : Hid (∀ W, Below w0.heap.size w0 W → St L xs W) := Lib.hid fun W hW => h.below hW
  have HO : Hid (∀ W, Below w.heap.size w W → Own W g xs) := Lib.hid fun W hW => ho.below hW
  obtain ⟨hl4, hl1000⟩ := h.gd.len
  have hyl0 : L.yb < w0.heap.size := by obtain ⟨_, _, ⟨y0, _⟩, _⟩ := h.rc.cells; exact lt_of_cell y0
  have hsz0 := hw0.size
  have hyl : L.yb < w.heap.size := by omega
  have HW0 := Lib.hid hw0
  have hgl := ho.lt
  unfold recA cellA
  obtain ⟨b1, b2, b3, b4, b5⟩ := al3 w (.cells #[.int .i64 9, .int .i64 41, .string ⟨#[]⟩] 23) (.cells #[.int .i64 7, .int .i64 0, .int .i64 0, .int .i64 0, .slice none 0 0, .slice (some ⟨g, 0, none⟩) xs.length cap] 66) (.cells #[.int .i64 0, .int .i64 0, .int .i64 0, .int .i64 0, .string ⟨#[]⟩] 29)
  clear h ho hw0
  obtain ⟨W, hW⟩ : ∃ W, ((w.alloc (.cells #[.int .i64 9, .int .i64 41, .string ⟨#[]⟩] 23)).alloc (.cells #[.int .i64 7, .int .i64 0, .int .i64 0, .int .i64 0, .slice none 0 0, .slice (some ⟨g, 0, none⟩) xs.length cap] 66)).alloc (.cells #[.int .i64 0, .int .i64 0, .int .i64 0, .int .i64 0, .string ⟨#[]⟩] 29) = W := ⟨_, rfl⟩
  rw [hW] at b1 b2 b3 b4 b5
  replace b1 := Lib.hid b1
  replace b3 := Lib.hid b3
  replace b4 := Lib.hid b4
  replace b5 := Lib.hid b5
  obtain ⟨q0, q1, q2, qf⟩ := box3 b3.out
  obtain ⟨p0, p1, p2, p3, p4, p5, pf⟩ := box6 b4.out
  have HOW := Lib.hid (HO.out W b1.out)
  obtain ⟨c9, c10, c11⟩ := lie_cells HOW.out.lie h3
  go_enter Tryz.func28, Tryz.ntmps28
  go_wp2_with fail
  clear hW
  go_loopw [7] (fun i wr => i = .int .i64 p ∧ W = wr) (fun _ _ => 0)
  case atStart => exact ⟨rfl, rfl⟩
  case round =>
    obtain ⟨rfl, rfl⟩ := hrel
    have hj : decide ((4 : Int) + (p : Int) < (xs.length : Int)) = false := by simp; omega
    have HB := Lib.hid (HW0.out.trans (b1.out.mono hsz0))
    have HF := Lib.hid ((HS.out w0 (Below.refl _ _)).off (r := w.heap.size + 1 + 1) (by omega))
    clear HO HOW c9 c10 c11 HW0
    go_wp2_with fail
    go_at_call 32
    refine (finish_ret L xs _ (HS.out _ HB.out)).mono ?_
    rintro e w2 ⟨rfl, hs2, hk2⟩
    have hz2 : w.heap.size + 1 + 1 < w2.heap.size := Nat.lt_of_lt_of_le (by omega) hk2.size
    have hzW : w.heap.size + 1 + 1 < W.heap.size := by omega
    have R2 := Lib.hid (hk2.heap b5.out (by omega))
    have HK := Lib.hid ((Keep2.of (y := L.yb) (g := g) b1.out).trans (Keep2.ofK hk2))
    replace hs2 := Lib.hid hs2
    clear hk2 HB q0 q1 q2 qf p0 p1 p2 p3 p4 p5 pf
    go_wp2_with (first
      | (go_at_call 18; refine (atEnd_ret _).mono ?_; rintro e w5 ⟨rfl, hb5⟩; have r5 : w5.heap[w.heap.size + 1 + 1]? = some (.cells #[.int .i64 0, .int .i64 0, .int .i64 0, .int .i64 0, .string ⟨#[]⟩] 29 (0, 0)) := keep_below hb5 R2.out; obtain ⟨s0, s1, s2, s3, s4, sf⟩ := box5 r5; have HK5 := Lib.hid (HK.out.trans (Keep2.of hb5)); have hs5 := Lib.hid (hs2.out.below hb5); clear hb5 r5; unfold endA hole)
      | fail)
    refine bodyPost_ret (v := endA hole) ?_ rfl ⟨rfl, ?_, ?_⟩
    · rw [results_cell_one rfl]
      go_simp
      rfl
    · refine StN.weak (n := W.heap.size) ?_ (by omega)
      iterate 5 refine StN.set ?_ hzW HF.out _ _
      exact hs5.out
    · iterate 5 refine Keep2.setn ?_ (by omega)
      exact HK5.out

end Go.Proofs.YtfiainenbpldgaaGreatDoor
