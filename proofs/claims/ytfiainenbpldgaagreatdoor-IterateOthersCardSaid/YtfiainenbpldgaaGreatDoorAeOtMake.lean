/-
  IterateOthers: the record's cell is made.
-/
import Derived.Test.YtfiainenbpldgaaGreatDoorAeOtPre
namespace Go.Proofs.YtfiainenbpldgaaGreatDoor
open Go.RowKit
set_option maxRecDepth 100000
set_option linter.unusedVariables false
set_option linter.unusedSimpArgs false

theorem cellInfo : (Tryz.prog.info? 66).map (fun i => (i.zero, i.size, i.bytes)) = some (some (.agg #[.int .i64 0, .int .i64 0, .int .i64 0, .int .i64 0, .slice none 0 0, .slice none 0 0]), 6, 80) := by kernel_rfl

set_option maxHeartbeats 1000000 in
theorem nobody_h (hb ho : Nat) (a : Addr) (w : World) (h : w.cell? ⟨hb, ho + 4, none⟩ = some (.pointer (some a))) : Calls Tryz.prog 58 #[.pointer (some ⟨hb, ho, none⟩)] w fun e w' => e = .returned (.bool false) ∧ w' = w := by
  go_enter Tryz.func58, Tryz.ntmps58
  go_wp2
  go_ret
  exact ⟨rfl, rfl⟩

def recC (g n cap : Nat) : List Value := [.int .i64 7, .int .i64 0, .int .i64 0, .int .i64 0, .slice none 0 0, .slice (some ⟨g, 0, none⟩) n cap]

/-- a box of a cell, written anew -/
def putB (w : World) (b g n cap : Nat) : World :=
  ((((((w.setCell ⟨b, 0, none⟩ (.int .i64 7)).setCell ⟨b, 1, none⟩ (.int .i64 0)).setCell ⟨b, 2, none⟩ (.int .i64 0)).setCell ⟨b, 3, none⟩ (.int .i64 0)).setCell ⟨b, 4, none⟩ (.slice none 0 0)).setCell ⟨b, 5, none⟩ (.slice (some ⟨g, 0, none⟩) n cap)).setCell ⟨b, 3, none⟩ (.int .i64 0)

theorem putB_heap {w : World} {b g n cap : Nat} {m : Value} (h : w.heap[b]? = some (.cells #[.int .i64 7, .int .i64 0, .int .i64 0, .int .i64 0, .slice none 0 0, m] 66 (0, 0))) : (putB w b g n cap).heap[b]? = some (.cells #[.int .i64 7, .int .i64 0, .int .i64 0, .int .i64 0, .slice none 0 0, .slice (some ⟨g, 0, none⟩) n cap] 66 (0, 0)) := by
  have e1 := set_block (i := 0) h (.int .i64 7)
  have e2 := set_block (i := 1) e1 (.int .i64 0)
  have e3 := set_block (i := 2) e2 (.int .i64 0)
  have e4 := set_block (i := 3) e3 (.int .i64 0)
  have e5 := set_block (i := 4) e4 (.slice none 0 0)
  have e6 := set_block (i := 5) e5 (.slice (some ⟨g, 0, none⟩) n cap)
  have e7 := set_block (i := 3) e6 (.int .i64 0)
  unfold putB
  rw [e7]
  simp [Array.setIfInBounds]
theorem putB_size (w : World) (b g n cap : Nat) : (putB w b g n cap).heap.size = w.heap.size := by unfold putB; simp only [set_size]
theorem putB_keep (w : World) (b g n cap : Nat) : Keep b w (putB w b g n cap) :=
  (((((((Keep.set _ _ _ _).trans (Keep.set _ _ _ _)).trans (Keep.set _ _ _ _)).trans (Keep.set _ _ _ _)).trans (Keep.set _ _ _ _)).trans (Keep.set _ _ _ _)).trans (Keep.set _ _ _ _))

theorem keep_grown {y : Nat} {a W w : World} (hb : Below a.heap.size a W) (hg : W.grownBy w (some y)) : Keep y a w :=
  ⟨hg.os.trans hb.os, hg.tape.trans hb.tape, hg.output.trans hb.output, Nat.le_trans hb.size hg.size, fun k hk hn => (hg.block k (Nat.lt_of_lt_of_le hk hb.size) (by intro e; cases e; exact hn rfl)).trans (hb.block k hk)⟩

/-- where things lie behind it -/
def lcOf (q : Lp) (yb yo yc : Nat) : Lc := ⟨q.wb, q.hb, yb, yo, yc, q.rb, q.ro, q.rc, q.pb, 0, 0, q.wo, q.ho⟩

/-- what a Make does; what is new lies at n or beyond -/
structure Mk (q : Lp) (xs : List VL) (n : Nat) (w w' : World) : Prop where
  ex : ∃ yb yo yc, (yb = q.yb ∨ n ≤ yb) ∧ Rc (lcOf q yb yo yc) n xs w' ∧ w'.cell? ⟨q.hb, q.ho, none⟩ = some (.slice (some ⟨yb, yo, none⟩) 21 yc)
  cells : ∀ j, j ≠ q.ho → w'.cell? ⟨q.hb, j, none⟩ = w.cell? ⟨q.hb, j, none⟩
  fz : ∀ j, w'.frozen? ⟨q.hb, j, none⟩ = false
  keep : Keep2 q.yb q.hb w w'

theorem Mk.from {q : Lp} {xs : List VL} {n : Nat} {a w w' : World} (h : Mk q xs n w w') (hb : Below a.heap.size a w) (hh : q.hb < a.heap.size) : Mk q xs n a w' :=
  ⟨h.ex, fun j hj => (h.cells j hj).trans (hb.cell (p := ⟨q.hb, j, none⟩) hh), h.fz, (Keep2.of hb).trans h.keep⟩

theorem Mk.below {q : Lp} {xs : List VL} {n : Nat} {w w' w'' : World} (h : Mk q xs n w w') (hb : Below w'.heap.size w' w'') (hh : q.hb < w'.heap.size) : Mk q xs n w w'' := by
  obtain ⟨yb, yo, yc, h1, h2, h3⟩ := h.ex
  exact ⟨⟨yb, yo, yc, h1, h2.keep hb, (hb.cell (p := ⟨q.hb, q.ho, none⟩) hh).trans h3⟩, fun j hj => (hb.cell (p := ⟨q.hb, j, none⟩) hh).trans (h.cells j hj), fun j => (hb.frozen (p := ⟨q.hb, j, none⟩) hh).trans (h.fz j), h.keep.trans (Keep2.of hb)⟩

theorem Mk.set {q : Lp} {xs : List VL} {n : Nat} {w w' : World} (h : Mk q xs n w w') {r : Nat} (hr : r < n) (hw : w.heap.size ≤ r) (hh : q.hb < w.heap.size) (hy : q.yb < w.heap.size) (i : Nat) (v : Value) : Mk q xs n w (w'.setCell ⟨r, i, none⟩ v) := by
  obtain ⟨yb, yo, yc, h1, h2, h3⟩ := h.ex
  have hk := Keep.set w' r i v
  have hyr : yb ≠ r := by omega
  refine ⟨⟨yb, yo, yc, h1, ?_, hk.cell h3 (by omega)⟩, fun j hj => ?_, fun j => by rw [World.frozen?_setCell]; exact h.fz j, h.keep.setn hw⟩
  · obtain ⟨mb, mc, arr, ty, h0, h1, h2, h3, h4, h5, h6, h7, h8, h9, h10, h11⟩ := h2.ex
    exact ⟨mb, mc, arr, ty, h0, hk.heap h1 hyr, h2, h3, h4, h5, h6, h7, h8, h9, Nat.lt_of_lt_of_le h10 hk.size, h11.other (hk.block mb h10 (by omega))⟩
  · rw [World.cell?_setCell_far _ _ _ _ (by show r ≠ q.hb; omega)]
    exact h.cells j hj

theorem Mk.weak {q : Lp} {xs : List VL} {n m : Nat} {w w' : World} (h : Mk q xs n w w') (hm : m ≤ n) : Mk q xs m w w' := by
  obtain ⟨yb, yo, yc, h1, h2, h3⟩ := h.ex
  obtain ⟨mb, mc, arr, ty, h0, h4⟩ := h2.ex
  exact ⟨⟨yb, yo, yc, by omega, ⟨⟨mb, mc, arr, ty, Nat.le_trans hm h0, h4⟩⟩, h3⟩, h.cells, h.fz, h.keep⟩

/-- behind Make -/
structure MkR (q : Lp) (xs : List VL) (w : World) (e : Ending) (w' : World) : Prop where
  ret : e = .returned (.tuple #[.int .i64 41, .int .i64 0])
  made : Mk q xs w.heap.size w w'

theorem mk_facts {q : Lp} {ev : Value} {xs : List VL} {w W3 W4 w4 : World} {g cap g' o' cap' : Nat} (hP : Pre q ev w) (hB : Below w.heap.size w W3) (hO : Own W3 g xs) (hn : NewR W4 w4 q.yb g' o' 20 6 (recC g xs.length cap)) (hK : Keep q.yb W3 w4) (hg : w.heap.size ≤ g) (hw : w.heap.size ≤ W3.heap.size)
    (h4 : 4 ≤ xs.length) (_h5 : xs.length ≤ 1000) (hz : W3.heap.size ≤ W4.heap.size) : MkR q xs w (.returned (.tuple #[.int .i64 41, .int .i64 0])) (w4.setCell ⟨q.hb, q.ho, none⟩ (.slice (some ⟨g', o', none⟩) 21 cap')) := by
  obtain ⟨⟨cur, e, c1, c2, c3⟩, _, hat⟩ := hn
  have hyl := hP.ry.lt
  have hhl := lt_of_cell hP.h0
  have hgl := hO.lt
  have hP3 := hP.below hB
  have hKh := Keep.set w4 q.hb q.ho (.slice (some ⟨g', o', none⟩) 21 cap')
  have hg'h : g' ≠ q.hb := by
    rcases hat with h | h
    · rw [h]; exact hP.n4.symm
    · omega
  have hgg : g ≠ g' := by
    rcases hat with h | h <;> omega
  have hgy : g ≠ q.yb := by omega
  have hgh : g ≠ q.hb := by omega
  have hO5 := (hO.keep hK hgy).keep hKh hgh
  have hne : ∀ j : Nat, j ≠ q.ho → (⟨q.hb, q.ho, none⟩ : Addr) ≠ ⟨q.hb, j, none⟩ := fun j hj e => hj (by cases e; rfl)
  have k : ∀ j v, (recC g xs.length cap)[j]? = some v → cur[o' + 120 + j]? = some v := fun j v hj => c3 j v hj
  refine ⟨rfl, ⟨⟨g', o', cap', ?_, ⟨⟨g, cap, cur, e, hg, hKh.heap c1 hg'h, ?_, k 0 _ rfl, k 1 _ rfl, k 2 _ rfl, k 3 _ rfl, k 4 _ rfl, k 5 _ rfl, hgg, hO5.lt, hO5.lie⟩⟩, World.cell?_setCell_same _ _ _ (hK.cell hP3.h0 hP.n4)⟩, fun j hj => ?_, fun j => ?_, ?_⟩⟩
  · rcases hat with h | h
    · exact .inl h
    · right; omega
  · show o' + 126 ≤ cur.size
    omega
  · rw [World.cell?_setCell_other _ _ _ _ (hne j hj)]
    rw [World.cell?_of_block (a := ⟨q.hb, j, none⟩) (hK.block q.hb (by omega) hP.n4)]
    exact hB.cell (p := ⟨q.hb, j, none⟩) hhl
  · rw [World.frozen?_setCell]
    exact hK.frozen (hP3.hf j) (by omega) hP.n4
  · exact ((Keep2.of hB).trans (Keep2.ofK hK)).setg

set_option maxHeartbeats 2000000 in
theorem make_ret (q : Lp) (ev : Value) (xs : List VL) (hg : Good xs) (b o c : Nat) (w : World) (h : Pre q ev w) (hb : b < w.heap.size) (hc : Lie w b o xs) :
    Calls Tryz.prog 57 #[.pointer (some ⟨q.hb, q.ho, none⟩), cellA 7 0 0 0 (.slice (some ⟨b, o, none⟩) xs.length c)] w fun e w' => MkR q xs w e w' := by
  obtain ⟨i0, hi, hz0, hz1, hz2⟩ := info_parts cellInfo
  have HI := Lib.hid hi
  have HZ0 := Lib.hid hz0
  have HZ1 := Lib.hid hz1
  have HZ2 := Lib.hid hz2
  clear hi hz0 hz1 hz2
  obtain ⟨hl4, hl1000⟩ := hg.len
  have HG := Lib.hid hg
  have HH := Lib.hid h
  have HL := Lib.hid hc
  clear h hc hg
  unfold cellA
  obtain ⟨n1, n2, n3⟩ := al1k w (.cells #[.int .i64 7, .int .i64 0, .int .i64 0, .int .i64 0, .slice none 0 0, .slice (some ⟨b, o, none⟩) xs.length c] 66)
  obtain ⟨W, hW⟩ : ∃ W, w.alloc (.cells #[.int .i64 7, .int .i64 0, .int .i64 0, .int .i64 0, .slice none 0 0, .slice (some ⟨b, o, none⟩) xs.length c] 66) = W := ⟨_, rfl⟩
  rw [hW] at n1 n2 n3
  obtain ⟨p0, p1, p2, p3, p4, p5, pf⟩ := box6 n3.out
  go_enter Tryz.func57, Tryz.ntmps57
  go_wp2_with fail
  clear hW
  go_at_call 58
  refine (nobody_h q.hb q.ho _ W (HH.out.below n1.out).h4).mono ?_
  rintro e w0 ⟨rfl, rfl⟩
  go_wp2_with fail
  go_at_call 96
  refine (right_ret b o c xs HG.out _ (by omega) (HL.out.mono n1.out hb)).mono ?_
  rintro e w1 ⟨rfl, hb1⟩
  clear p0 p1 p2 p3 p4 p5 pf
  have r1 := Lib.hid (keep_below hb1 n3.out)
  obtain ⟨p0, p1, p2, p3, p4, p5, pf⟩ := box6 r1.out
  have HB1 := Lib.hid (n1.out.trans (hb1.mono n1.out.size))
  have hz1 : w.heap.size + 1 ≤ w1.heap.size := Nat.le_trans (Nat.le_of_eq n2.symm) hb1.size
  clear hb1
  go_wp2_with fail
  go_at_call 97
  refine (copy_ret 7 0 0 0 b o c xs (by omega) (by omega) _ (by omega) (HL.out.mono HB1.out hb)).mono ?_
  rintro e w2 hr
  obtain ⟨⟨g, cap, rfl, hg1, hown⟩, hb2⟩ := hr
  clear p0 p1 p2 p3 p4 p5 pf
  have r2 := Lib.hid (keep_below hb2 r1.out)
  obtain ⟨p0, p1, p2, p3, p4, p5, pf⟩ := box6 r2.out
  have HB2 := Lib.hid (HB1.out.trans (hb2.mono HB1.out.size))
  have hz2 : w1.heap.size ≤ w2.heap.size := hb2.size
  have hgl := hown.lt
  replace hown := Lib.hid hown
  clear hb2 r1 HB1
  unfold cellA
  go_wp2_with fail
  obtain ⟨W3, hW3⟩ : ∃ W3, putB w2 w.heap.size g xs.length cap = W3 := ⟨_, rfl⟩
  have hK3 := putB_keep w2 w.heap.size g xs.length cap
  have hr3 := putB_heap (g := g) (n := xs.length) (cap := cap) r2.out
  have hs3 := putB_size w2 w.heap.size g xs.length cap
  rw [hW3] at hK3 hr3 hs3
  unfold putB at hW3
  rw [hW3]
  have HB3 := Lib.hid ((Keep.of (y := w.heap.size) HB2.out).trans hK3 |>.below (Nat.le_refl _) (Nat.le_refl _))
  have hO3 := Lib.hid (hown.out.keep hK3 (by omega))
  have hP3 := Lib.hid (HH.out.below HB3.out)
  clear hW3 hK3 p0 p1 p2 p3 p4 p5 pf r2 hown HB2 n1 n3
  obtain ⟨p0, p1, p2, p3, p4, p5, pf⟩ := box6 hr3
  have h0 := hP3.out.h0
  have hf := hP3.out.hf
  have hlh := lt_of_cell h0
  have HRY := Lib.hid hP3.out.ry
  have hO1 : Hid (∀ u ∈ recC g xs.length cap, u.oneCell' = true) := Lib.hid (by unfold recC; simp [Value.oneCell'])
  have HLN : Hid ((recC g xs.length cap).length = 6) := Lib.hid rfl
  have hq1 := HH.out.n4
  have hs3a := Nat.le_of_eq hs3
  have hs3b := Nat.le_of_eq hs3.symm
  clear hs3
  have HPB : Hid (∀ R, Pre q ev (W3.alloc R).drew) := Lib.hid fun R => hP3.out.below ((new_below W3 R).drew)
  have HBB : Hid (∀ R, Below W3.heap.size W3 (W3.alloc R).drew) := Lib.hid fun R => (new_below W3 R).drew
  go_region_law ((refine step_append_sh (by rfl) _ _ 106 (by rfl) 66 i0 (.agg #[.int .i64 0, .int .i64 0, .int .i64 0, .int .i64 0, .slice none 0 0, .slice none 0 0]) Tryz.underlying106 HI.out HZ0.out 6 HZ1.out rfl q.yb q.yo 20 q.yc (by rfl) (HPB.out _).ry ⟨W3.heap.size, 0, none⟩ 1 (recC g xs.length cap) (by rfl) HLN.out (World.news_of_block (heap_alloc_new W3 _)) hO1.out (by omega) (by rw [HZ2.out]; omega) ?_; intro g' o' cap' w4 hn; have HK4 := Lib.hid (keep_grown (HBB.out _) hn.grow); have h04 := HK4.out.cell h0 hq1; have hf4 := fun j => HK4.out.frozen (hf j) hlh hq1; have hlt4 := HK4.out.size; replace hn := Lib.hid hn))
  all_goals
    have HOE := Lib.hid hO3
    have HF := Lib.hid (mk_facts (cap' := cap') HH.out HB3.out hO3.out hn.out HK4.out (by omega) (by omega) (by omega) (by omega) (by exact (HBB.out _).size))
    clear hn HK4 HRY hP3 p0 p1 p2 p3 p4 p5 pf HPB HBB HB3 hO3
    go_wp2_with fail
    go_ret2
    exact HF.out

end Go.Proofs.YtfiainenbpldgaaGreatDoor
