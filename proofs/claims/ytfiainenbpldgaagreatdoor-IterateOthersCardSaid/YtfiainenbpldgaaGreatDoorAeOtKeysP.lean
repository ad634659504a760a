/-
  IterateOthers: iterate.Keys: what it keeps.
-/
import Derived.Test.YtfiainenbpldgaaGreatDoorAeOtKeys
namespace Go.Proofs.YtfiainenbpldgaaGreatDoor
open Go.RowKit
set_option maxRecDepth 100000
set_option linter.unusedVariables false
set_option linter.unusedSimpArgs false

/-- all but the realm's own blocks is as it was -/
structure KeepQ (q : Lp) (w w' : World) : Prop where
  os : w'.os = w.os
  tape : w'.tape = w.tape
  output : w'.output = w.output
  size : w.heap.size ≤ w'.heap.size
  block : ∀ k, k < w.heap.size → k ≠ q.wb → k ≠ q.hb → k ≠ q.yb → k ≠ q.rb → w'.heap[k]? = w.heap[k]?

theorem KeepQ.of {q : Lp} {w w' : World} (h : Below w.heap.size w w') : KeepQ q w w' := ⟨h.os, h.tape, h.output, h.size, fun k hk _ _ _ _ => h.block k hk⟩
theorem KeepQ.trans {q : Lp} {a b c : World} (h : KeepQ q a b) (h' : KeepQ q b c) : KeepQ q a c :=
  ⟨h'.os.trans h.os, h'.tape.trans h.tape, h'.output.trans h.output, Nat.le_trans h.size h'.size, fun k hk h1 h2 h3 h4 => (h'.block k (Nat.lt_of_lt_of_le hk h.size) h1 h2 h3 h4).trans (h.block k hk h1 h2 h3 h4)⟩
theorem KeepQ.ofK {q : Lp} {w w' : World} (h : Keep q.wb w w') : KeepQ q w w' := ⟨h.os, h.tape, h.output, h.size, fun k hk h1 _ _ _ => h.block k hk h1⟩
theorem KeepQ.of2 {q : Lp} {w w' : World} (h : Keep2 q.yb q.hb w w') : KeepQ q w w' := ⟨h.os, h.tape, h.output, h.size, fun k hk _ h2 h3 _ => h.block k hk h3 h2⟩
theorem KeepQ.setn {q : Lp} {w w' : World} (h : KeepQ q w w') {r : Nat} (hr : w.heap.size ≤ r) (i : Nat) (v : Value) : KeepQ q w (w'.setCell ⟨r, i, none⟩ v) :=
  ⟨h.os, h.tape, h.output, by rw [set_size]; exact h.size, fun k hk h1 h2 h3 h4 => (set_other v (by omega)).trans (h.block k hk h1 h2 h3 h4)⟩

/-- behind Keys -/
structure KyR (q : Lp) (xs : List VL) (w : World) (e : Ending) (w' : World) : Prop where
  ret : e = .returned (endA ⟨9, 41, ⟨#[]⟩⟩)
  ex : ∃ yb yo yc eb ec n, (yb = q.yb ∨ w.heap.size ≤ yb) ∧ Mid q yb yo yc eb ec n xs w'
  keep : KeepQ q w w'

theorem Mid.set {q : Lp} {yb yo yc eb ec n : Nat} {xs : List VL} {w : World} (h : Mid q yb yo yc eb ec n xs w) {r : Nat} (hr : r < n) (a1 : r ≠ q.wb) (a2 : r ≠ eb) (a3 : r ≠ q.hb) (a4 : r ≠ yb) (a5 : r ≠ q.rb) (i : Nat) (v : Value) : Mid q yb yo yc eb ec n xs (w.setCell ⟨r, i, none⟩ v) := by
  have hk := Keep.set w r i v
  have k : ∀ b o v', w.cell? ⟨b, o, none⟩ = some v' → b ≠ r → (w.setCell ⟨r, i, none⟩ v).cell? ⟨b, o, none⟩ = some v' := fun b o v' hc hn => hk.cell hc hn
  refine ⟨k _ _ _ h.wh a1.symm, k _ _ _ h.wev a1.symm, fun j v hj => k _ _ _ (h.ev j v hj) a2.symm, k _ _ _ h.h0 a3.symm, k _ _ _ h.h1 a3.symm, k _ _ _ h.h2 a3.symm, k _ _ _ h.h4 a3.symm, fun j => by rw [World.frozen?_setCell]; exact h.hf j, h.rr.keep (hk.block _ h.rr.lt a5.symm), ?_, h.gd, h.n1, h.n2, h.n3, h.n4, h.n5, h.n6, h.m1, h.m2, h.m3, h.k1, h.k2⟩
  obtain ⟨mb, mc, arr, ty, h0, h1, h2, h3, h4, h5, h6, h7, h8, h9, h10, h11⟩ := h.rc.ex
  exact ⟨mb, mc, arr, ty, h0, hk.heap h1 (show yb ≠ r from a4.symm), h2, h3, h4, h5, h6, h7, h8, h9, Nat.lt_of_lt_of_le h10 hk.size, h11.other (hk.block mb h10 (by omega))⟩

/-- behind Hide, with the result's box at r -/
structure KyW (q : Lp) (xs : List VL) (w0 : World) (r : Nat) (W : World) : Prop where
  ex : ∃ yb yo yc eb ec n, (yb = q.yb ∨ w0.heap.size ≤ yb) ∧ r < n ∧ r ≠ q.wb ∧ r ≠ eb ∧ r ≠ q.hb ∧ r ≠ yb ∧ r ≠ q.rb ∧ Mid q yb yo yc eb ec n xs W
  keep : KeepQ q w0 W
  hr : w0.heap.size ≤ r

theorem KyW.below {q : Lp} {xs : List VL} {w0 : World} {r : Nat} {W W' : World} (h : KyW q xs w0 r W) (hb : Below W.heap.size W W') : KyW q xs w0 r W' := by
  obtain ⟨yb, yo, yc, eb, ec, n, h1, h2, h3, h4, h5, h6, h7, h8⟩ := h.ex
  exact ⟨⟨yb, yo, yc, eb, ec, n, h1, h2, h3, h4, h5, h6, h7, h8.below hb⟩, h.keep.trans (KeepQ.of hb), h.hr⟩
theorem KyW.set {q : Lp} {xs : List VL} {w0 : World} {r : Nat} {W : World} (h : KyW q xs w0 r W) (i : Nat) (v : Value) : KyW q xs w0 r (W.setCell ⟨r, i, none⟩ v) := by
  obtain ⟨yb, yo, yc, eb, ec, n, h1, h2, h3, h4, h5, h6, h7, h8⟩ := h.ex
  exact ⟨⟨yb, yo, yc, eb, ec, n, h1, h2, h3, h4, h5, h6, h7, h8.set h2 h3 h4 h5 h6 h7 i v⟩, h.keep.setn h.hr i v, h.hr⟩
theorem KyW.fin {q : Lp} {xs : List VL} {w0 : World} {r : Nat} {W : World} (h : KyW q xs w0 r W) : KyR q xs w0 (.returned (endA ⟨9, 41, ⟨#[]⟩⟩)) W := by
  obtain ⟨yb, yo, yc, eb, ec, n, h1, h2, h3, h4, h5, h6, h7, h8⟩ := h.ex
  exact ⟨rfl, ⟨yb, yo, yc, eb, ec, n, h1, h8⟩, h.keep⟩

theorem KyW.make {q : Lp} {xs : List VL} (gd : Good xs) {eb ec : Nat} {w0 W0 w1 W w7 : World} (hP0 : Pre q (.slice none 0 0) w0) (hb0 : Below w0.heap.size w0 W0) (hz0 : W0.heap.size = w0.heap.size + 2) (hk1 : Keep q.wb W0 w1) (heb : W0.heap.size ≤ eb)
    (hP : Pre q (.slice (some ⟨eb, 0, none⟩) 1 ec) w1) (hev : ∀ j v, evC[j]? = some v → w1.cell? ⟨eb, j, none⟩ = some v) (hb : Below w1.heap.size w1 W) (hm : Mk q xs W.heap.size W w7) : KyW q xs w0 (w0.heap.size + 1) w7 := by
  obtain ⟨yb, yo, yc, e1, e2, e3⟩ := hm.ex
  have hPW := hP.below hb
  have hel := lt_of_cell (hev 0 _ rfl)
  have l1 := lt_of_cell hP0.wh
  have l2 := lt_of_cell hP0.h0
  have l3 := hP0.ry.lt
  have l4 := hP0.rr.lt
  have z1 := hk1.size
  have z2 := hb.size
  have t1 := hP.n1; have t2 := hP.n2; have t3 := hP.n3; have t4 := hP.n4; have t5 := hP.n5; have t6 := hP.n6
  have k : ∀ b o v, W.cell? ⟨b, o, none⟩ = some v → b ≠ q.yb → b ≠ q.hb → w7.cell? ⟨b, o, none⟩ = some v := fun b o v hc h1 h2 => by
    rw [World.cell?_of_block (a := ⟨b, o, none⟩) (hm.keep.block b (lt_of_cell hc) h1 h2)]
    exact hc
  have kev : ∀ j v, evC[j]? = some v → W.cell? ⟨eb, j, none⟩ = some v := fun j v hj => (hb.cell (p := ⟨eb, j, none⟩) hel).trans (hev j v hj)
  have hW4 := lt_of_cell hPW.wh
  refine ⟨⟨yb, yo, yc, eb, ec, W.heap.size, by omega, by omega, by omega, by omega, by omega, by omega, by omega, ?_⟩, ((((KeepQ.of hb0).trans (KeepQ.ofK hk1)).trans (KeepQ.of hb)).trans (KeepQ.of2 hm.keep)), by omega⟩
  exact ⟨k _ _ _ hPW.wh t2 t1, k _ _ _ hPW.wev t2 t1, fun j v hj => k _ _ _ (kev j v hj) (by omega) (by omega), e3, (hm.cells (q.ho + 1) (by omega)).trans hPW.h1, (hm.cells (q.ho + 2) (by omega)).trans hPW.h2, (hm.cells (q.ho + 4) (by omega)).trans hPW.h4, hm.fz, hPW.rr.keep (hm.keep.block _ hPW.rr.lt t6.symm t5.symm), e2, gd, t1, by omega, t3, by omega, t5, by omega, by omega, by omega, by omega, by omega, by omega⟩

theorem Tab.at0 {w w' : World} (h : Tab w) (he : w'.heap[0]? = w.heap[0]?) : Tab w' := by
  have hn0 : Tryz.prog.globalNamed "internal/strconv.uint64pow10" = some 0 := by kernel_rfl
  unfold Tab Lib.TabIs World.var? at *
  rw [hn0] at *
  simp only [Option.bind_some] at *
  rw [he]
  exact h

theorem KyW.to {q : Lp} {xs : List VL} {w0 : World} {r : Nat} {W : World} (h : KyW q xs w0 r W) : KyR q xs w0 (.returned (endA ⟨9, 41, ⟨#[]⟩⟩)) W := h.fin

/-- the row of values, so far -/
structure RowK (w1 : World) (v : VL) (k g cap : Nat) (W : World) : Prop where
  own : W.ownsRow w1.heap.size 23 3 (.slice (some ⟨g, 0, none⟩) (4 + k) cap) (4 + k) ((xsOf v k).flatMap cV)
  bel : Below w1.heap.size w1 W

theorem own_below {w w1 : World} {base n size : Nat} {e : TypeId} {v : Value} {xs : List Value} (h : w.ownsRow base e size v n xs) (hb : Below w.heap.size w w1) : w1.ownsRow base e size v n xs := by
  refine ⟨h.1, ?_⟩
  rcases h.2 with h1 | ⟨g, cap, cur, h1, h2, h3, h4⟩
  · exact Or.inl h1
  · exact Or.inr ⟨g, cap, cur, h1, h2, keep_below hb h3, h4⟩

theorem RowK.below {w1 : World} {v : VL} {k g cap : Nat} {W W' : World} (h : RowK w1 v k g cap W) (hb : Below W.heap.size W W') : RowK w1 v k g cap W' :=
  ⟨own_below h.own hb, h.bel.trans (hb.mono h.bel.size)⟩

theorem RowK.start {w1 : World} {v : VL} {W : World} {cur : Array Value} (hc : cur.toList = (xsOf v 0).flatMap cV) (hb : Below w1.heap.size w1 W) : RowK w1 v 0 W.heap.size 4 (W.alloc (.cells cur 23)) := by
  have hl : cur.size = 12 := by rw [← Array.length_toList, hc]; rfl
  refine ⟨⟨rfl, Or.inr ⟨W.heap.size, 4, cur, rfl, hb.size, heap_alloc_new W _, Nat.le_refl _, by unfold maxLen; omega, by omega, ?_⟩⟩, hb.alloc hb.size _⟩
  rw [hc]
  rfl

theorem RowK.app {w1 : World} {v : VL} {k g cap g' cap' : Nat} {W W' : World} (h : RowK w1 v k g cap W) (ho : W'.ownsRow w1.heap.size 23 3 (.slice (some ⟨g', 0, none⟩) (4 + k + 1) cap') (4 + k + 1) ((xsOf v k).flatMap cV ++ cV (txt k))) (hg : W.grownBy W' (Value.slice (some ⟨g, 0, none⟩) (4 + k) cap).ownBlock) : RowK w1 v (k + 1) g' cap' W' := by
  refine ⟨?_, h.bel.grown hg h.bel.size (fun q hq => (h.own.lt q hq).1)⟩
  rw [xsOf_succ, List.flatMap_append]
  have e : ([txt k].flatMap cV) = cV (txt k) := by simp
  rw [e]
  exact ho

theorem RowK.own' {w1 : World} {v : VL} {k g cap : Nat} {W : World} (h : RowK w1 v k g cap W) : Lie W g 0 (xsOf v k) ∧ g < W.heap.size := by
  have := own_own h.own (by omega)
  exact ⟨this.lie, this.lt⟩

end Go.Proofs.YtfiainenbpldgaaGreatDoor
