/-
  IterateOthers: the heap's At and Put at the record.
-/
import Derived.Test.YtfiainenbpldgaaGreatDoorAeOtState
import Derived.Laws.ResultCell
namespace Go.Proofs.YtfiainenbpldgaaGreatDoor
open Go.RowKit
set_option maxRecDepth 100000
set_option linter.unusedVariables false
set_option linter.unusedSimpArgs false

theorem Rc.cells {L : Lc} {n : Nat} {xs : List VL} {w : World} (h : Rc L n xs w) : ∃ mb mc, (w.cell? ⟨L.yb, L.yo + 120, none⟩ = some (.int .i64 7) ∧ w.cell? ⟨L.yb, L.yo + 120 + 1, none⟩ = some (.int .i64 0) ∧ w.cell? ⟨L.yb, L.yo + 120 + 2, none⟩ = some (.int .i64 0) ∧
    w.cell? ⟨L.yb, L.yo + 120 + 3, none⟩ = some (.int .i64 0) ∧ w.cell? ⟨L.yb, L.yo + 120 + 4, none⟩ = some (.slice none 0 0) ∧ w.cell? ⟨L.yb, L.yo + 120 + 5, none⟩ = some (.slice (some ⟨mb, 0, none⟩) xs.length mc)) ∧ (∀ j, w.frozen? ⟨L.yb, j, none⟩ = false) ∧ mb ≠ L.yb ∧ mb < w.heap.size ∧ Lie w mb 0 xs := by
  obtain ⟨mb, mc, arr, ty, _, h1, h2, h3, h4, h5, h6, h7, h8, h9, h10, h11⟩ := h.ex
  exact ⟨mb, mc, ⟨(Lib.cell_of_heap h1 _).trans h3, (Lib.cell_of_heap h1 _).trans h4, (Lib.cell_of_heap h1 _).trans h5, (Lib.cell_of_heap h1 _).trans h6, (Lib.cell_of_heap h1 _).trans h7, (Lib.cell_of_heap h1 _).trans h8⟩, Lib.frozen_of_heap h1, h9, h10, h11⟩

/-- a copy of the record -/
structure AtR (xs : List VL) (w : World) (e : Ending) (w' : World) : Prop where
  ex : ∃ g cap, e = .returned (.tuple #[cellA 7 0 0 0 (.slice (some ⟨g, 0, none⟩) xs.length cap), .bool true]) ∧ w.heap.size ≤ g ∧ Own w' g xs
  bel : Below w.heap.size w w'

def zero66 : Array Value := #[.int .i64 0, .int .i64 0, .int .i64 0, .int .i64 0, .slice none 0 0, .slice none 0 0]

set_option maxHeartbeats 4000000 in
theorem at_ret (L : Lc) (xs : List VL) (w : World) (h : St L xs w) : Calls Tryz.prog 99 #[.pointer (some ⟨L.hb, L.ho, none⟩), .int .i64 41] w fun e w' => AtR xs w e w' := by
  have HS : Hid (∀ W, Below w.heap.size w W → St L xs W) := Lib.hid fun W hW => h.below hW
  obtain ⟨hl4, hl1000⟩ := h.gd.len
  have HB := Lib.hid (new_below w (.cells zero66 66))
  have hz : (w.alloc (.cells zero66 66)).heap.size = w.heap.size + 1 := by simp
  have HR := Lib.hid (heap_alloc_new w (.cells zero66 66))
  unfold zero66 at HB HR hz
  clear h
  go_enter Tryz.func99, Tryz.ntmps99
  go_wp2_with (first
    | (go_at_call 149; refine (has_ret L _ (HS.out _ HB.out).fx).mono ?_; rintro e w1 ⟨rfl, hb1⟩; have R1 := Lib.hid (keep_below hb1 HR.out); replace HB := Lib.hid (HB.out.trans (hb1.mono HB.out.size)); have hz1 : w.heap.size + 1 ≤ w1.heap.size := Nat.le_trans (Nat.le_of_eq hz.symm) hb1.size; have hs := Lib.hid (HS.out _ HB.out); obtain ⟨mb, mc, ⟨y0, y1, y2, y3, y4, y5⟩, yf, hmy, hmb, hlie⟩ := hs.out.rc.cells; replace hlie := Lib.hid hlie; clear hb1 HR)
    | (go_at_call 150; refine (place_ret L _ hs.out.fx).mono ?_; rintro e w2 ⟨rfl, rfl⟩)
    | (go_at_call 97; refine (copy_ret 7 0 0 0 mb 0 mc xs (by omega) (by omega) _ hmb hlie.out).mono ?_; rintro e w3 hr; obtain ⟨⟨g, cap, rfl, hg1, hown⟩, hb3⟩ := hr; obtain ⟨s0, s1, s2, s3, s4, s5, sf⟩ := box6 (keep_below hb3 R1.out); replace hown := Lib.hid hown; replace HB := Lib.hid (HB.out.trans (hb3.mono HB.out.size)); clear hb3 y0 y1 y2 y3 y4 y5 yf; unfold cellA)
    | fail)
  refine bodyPost_ret (v := .tuple #[cellA 7 0 0 0 (.slice (some ⟨g, 0, none⟩) xs.length cap), .bool true]) ?_ rfl ⟨⟨g, cap, rfl, by omega, ?_⟩, ?_⟩
  · rw [results_cell_tmp rfl]
    go_simp
    rfl
  · iterate 6 refine Own.set ?_ (by omega) _ _
    exact hown.out
  · iterate 6 refine Below.setCell ?_ (by exact Nat.le_refl _) _
    exact HB.out

/-- the record's cell, written anew -/
def putW (L : Lc) (w : World) (g n cap : Nat) : World :=
  ((((((w.setCell ⟨L.yb, L.yo + 120, none⟩ (.int .i64 7)).setCell ⟨L.yb, L.yo + 120 + 1, none⟩ (.int .i64 0)).setCell ⟨L.yb, L.yo + 120 + 2, none⟩ (.int .i64 0)).setCell ⟨L.yb, L.yo + 120 + 3, none⟩ (.int .i64 0)).setCell ⟨L.yb, L.yo + 120 + 4, none⟩ (.slice none 0 0)).setCell ⟨L.yb, L.yo + 120 + 5, none⟩ (.slice (some ⟨g, 0, none⟩) n cap)).setCell ⟨L.yb, L.yo + 120 + 3, none⟩ (.int .i64 0)

theorem put_st {L : Lc} {xs ys : List VL} {w : World} {g cap : Nat} (h : St L xs w) (hg : Good ys) (ho : Own w g ys) (hgy : g ≠ L.yb) : StN L g ys (putW L w g ys.length cap) ∧ Keep L.yb w (putW L w g ys.length cap) := by
  have hk : Keep L.yb w (putW L w g ys.length cap) := (((((((Keep.set _ _ _ _).trans (Keep.set _ _ _ _)).trans (Keep.set _ _ _ _)).trans (Keep.set _ _ _ _)).trans (Keep.set _ _ _ _)).trans (Keep.set _ _ _ _)).trans (Keep.set _ _ _ _))
  refine ⟨⟨h.fx.keep hk, ?_, hg⟩, hk⟩
  obtain ⟨mb, mc, arr, ty, _, h1, h2, h3, h4, h5, h6, h7, h8, h9, h10, h11⟩ := h.rc.ex
  refine ⟨g, cap, _, ty, Nat.le_refl _, set_block (set_block (set_block (set_block (set_block (set_block (set_block h1 _) _) _) _) _) _) _, ?_, ?_, ?_, ?_, ?_, ?_, ?_, hgy, ?_, ?_⟩
  · simp only [Array.size_setIfInBounds]; exact h2
  · simp [Array.getElem?_setIfInBounds]; omega
  · simp [Array.getElem?_setIfInBounds]; omega
  · simp [Array.getElem?_setIfInBounds]; omega
  · simp [Array.getElem?_setIfInBounds]; omega
  · simp [Array.getElem?_setIfInBounds]; omega
  · simp [Array.getElem?_setIfInBounds]; omega
  · exact Nat.lt_of_lt_of_le ho.lt hk.size
  · exact ho.lie.other (hk.block g ho.lt hgy)

/-- the record is replaced -/
structure PtR (L : Lc) (ys : List VL) (w : World) (e : Ending) (w' : World) : Prop where
  ret : e = .returned (.int .i64 0)
  st : StN L w.heap.size ys w'
  keep : Keep L.yb w w'

set_option maxHeartbeats 4000000 in
theorem put_ret (L : Lc) (xs ys : List VL) (hg : Good ys) (b o c : Nat) (w : World) (h : St L xs w) (hb : b < w.heap.size) (hc : Lie w b o ys) :
    Calls Tryz.prog 100 #[.pointer (some ⟨L.hb, L.ho, none⟩), .int .i64 41, cellA 7 0 0 0 (.slice (some ⟨b, o, none⟩) ys.length c)] w fun e w' => PtR L ys w e w' := by
  have HS : Hid (∀ W, Below w.heap.size w W → St L xs W) := Lib.hid fun W hW => h.below hW
  have HL : Hid (∀ W, Below w.heap.size w W → Lie W b o ys ∧ b < W.heap.size) := Lib.hid fun W hW => ⟨hc.mono hW hb, Nat.lt_of_lt_of_le hb hW.size⟩
  obtain ⟨hl4, hl1000⟩ := hg.len
  have HG := Lib.hid hg
  unfold cellA
  have HB := Lib.hid (new_below w (.cells #[.int .i64 7, .int .i64 0, .int .i64 0, .int .i64 0, .slice none 0 0, .slice (some ⟨b, o, none⟩) ys.length c] 66))
  have HR := Lib.hid (heap_alloc_new w (.cells #[.int .i64 7, .int .i64 0, .int .i64 0, .int .i64 0, .slice none 0 0, .slice (some ⟨b, o, none⟩) ys.length c] 66))
  clear h hc hg
  go_enter Tryz.func100, Tryz.ntmps100
  go_wp2_with (first
    | (go_at_call 58; refine (nobody_ret L _ (HS.out _ HB.out).fx).mono ?_; rintro e w0 ⟨rfl, rfl⟩)
    | (go_at_call 149; refine (has_ret L _ (HS.out _ HB.out).fx).mono ?_; rintro e w1 ⟨rfl, hb1⟩; have R1 := Lib.hid (keep_below hb1 HR.out); obtain ⟨p0, p1, p2, p3, p4, p5, pf⟩ := box6 R1.out; replace HB := Lib.hid (HB.out.trans (hb1.mono HB.out.size)); clear hb1 HR)
    | (go_at_call 96; refine (right_ret b o c ys HG.out _ (HL.out _ HB.out).2 (HL.out _ HB.out).1).mono ?_; rintro e w2 ⟨rfl, hb2⟩; have R2 := Lib.hid (keep_below hb2 R1.out); clear p0 p1 p2 p3 p4 p5 pf; obtain ⟨p0, p1, p2, p3, p4, p5, pf⟩ := box6 R2.out; replace HB := Lib.hid (HB.out.trans (hb2.mono HB.out.size)); clear hb2 R1; have hs := Lib.hid (HS.out _ HB.out); obtain ⟨mb, mc, ⟨y0, y1, y2, y3, y4, y5⟩, yf, hmy, hmb, hlie⟩ := hs.out.rc.cells; clear hlie)
    | (go_at_call 150; refine (place_ret L _ hs.out.fx).mono ?_; rintro e w3 ⟨rfl, rfl⟩)
    | (go_at_call 97; refine (copy_ret 7 0 0 0 b o c ys (by omega) (by omega) _ (HL.out _ HB.out).2 (HL.out _ HB.out).1).mono ?_; rintro e w4 hr; obtain ⟨⟨g, cap, rfl, hg1, hown⟩, hb4⟩ := hr; have hlt := lt_of_cell y0; have hw3 := HB.out.size; replace HB := Lib.hid (HB.out.trans (hb4.mono HB.out.size)); replace hs := Lib.hid (hs.out.below hb4); clear hb4 y0 y1 y2 y3 y4 y5 yf hmy hmb p0 p1 p2 p3 p4 p5 pf R2; obtain ⟨mb, mc, ⟨y0, y1, y2, y3, y4, y5⟩, yf, hmy, hmb, hlie⟩ := hs.out.rc.cells; clear hlie; replace hown := Lib.hid hown; unfold cellA)
    | fail)
  obtain ⟨k1, k2⟩ := put_st (cap := cap) hs.out HG.out hown.out (by omega)
  have hgw : w.heap.size ≤ g := by omega
  go_ret
  exact ⟨rfl, k1.weak hgw, (Keep.of HB.out).trans k2⟩

end Go.Proofs.YtfiainenbpldgaaGreatDoor
