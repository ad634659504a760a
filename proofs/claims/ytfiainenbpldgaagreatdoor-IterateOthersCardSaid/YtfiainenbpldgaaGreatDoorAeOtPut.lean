/-
  IterateOthers: the realm's Put, At at the record; record, finish.
-/
import Derived.Test.YtfiainenbpldgaaGreatDoorAeOtRealm
namespace Go.Proofs.YtfiainenbpldgaaGreatDoor
open Go.RowKit
set_option maxRecDepth 100000
set_option linter.unusedVariables false
set_option linter.unusedSimpArgs false

theorem Own.drew {w : World} {g : Nat} {xs : List VL} (h : Own w g xs) : Own w.drew g xs := h.below ((Below.refl _ _).drew)

/-- the record is replaced; nothing is handed back -/
structure SetR (L : Lc) (ys : List VL) (w : World) (e : Ending) (w' : World) : Prop where
  ret : e = .returned (.tuple #[])
  st : StN L w.heap.size ys w'
  keep : Keep L.yb w w'

set_option maxHeartbeats 4000000 in
theorem rput_ret (L : Lc) (xs ys : List VL) (hg : Good ys) (b o c : Nat) (w : World) (h : St L xs w) (hb : b < w.heap.size) (hc : Lie w b o ys) :
    Calls Tryz.prog 60 #[.pointer (some ⟨L.wb, L.wo, none⟩), recA, cellA 7 0 0 0 (.slice (some ⟨b, o, none⟩) ys.length c)] w fun e w' => SetR L ys w e w' := by
  have HS : Hid (∀ W, Below w.heap.size w W → St L xs W) := Lib.hid fun W hW => h.below hW
  have HL : Hid (∀ W, Below w.heap.size w W → Lie W b o ys ∧ b < W.heap.size) := Lib.hid fun W hW => ⟨hc.mono hW hb, Nat.lt_of_lt_of_le hb hW.size⟩
  have HG := Lib.hid hg
  unfold recA cellA
  have HB := Lib.hid (below_al2 w (.cells #[.int .i64 9, .int .i64 41, .string ⟨#[]⟩] 23) (.cells #[.int .i64 7, .int .i64 0, .int .i64 0, .int .i64 0, .slice none 0 0, .slice (some ⟨b, o, none⟩) ys.length c] 66))
  have HR := Lib.hid (two_al w (.cells #[.int .i64 9, .int .i64 41, .string ⟨#[]⟩] 23) (.cells #[.int .i64 7, .int .i64 0, .int .i64 0, .int .i64 0, .slice none 0 0, .slice (some ⟨b, o, none⟩) ys.length c] 66))
  clear h hc hg
  go_enter Tryz.func60, Tryz.ntmps60
  go_wp2_with (first
    | (go_at_call 98; refine (leads_ret _).mono ?_; rintro e w1 ⟨rfl, hb1⟩; obtain ⟨q0, q1, q2, qf⟩ := box3 (keep_below hb1 HR.out.1); obtain ⟨p0, p1, p2, p3, p4, p5, pf⟩ := box6 (keep_below hb1 HR.out.2); replace HB := Lib.hid (HB.out.trans (hb1.mono HB.out.size)); clear hb1 HR; have hs := Lib.hid (HS.out _ HB.out); have cw := hs.out.fx.wh)
    | fail)
  go_region_with (first
    | (go_at_call 100; refine (put_ret L xs ys HG.out b o c _ (hs.out.below (Below.refl _ _).drew) (HL.out _ HB.out).2 (HL.out _ HB.out.drew).1).mono ?_; rintro e w2 ⟨rfl, hs2, hk2⟩; replace hs2 := Lib.hid (hs2.weak (m := w.heap.size) HB.out.size); have HK := Lib.hid ((Keep.of HB.out.drew).trans hk2); clear hk2))
  all_goals
    clear HS HL HB hs cw
    go_wp2
    refine bodyPost_ret (results_none rfl _ _ _) rfl ?_
    exact ⟨rfl, hs2.out, HK.out⟩

set_option maxHeartbeats 1000000 in
theorem root_ret (L : Lc) (w : World) (h : Fix L w) : Calls Tryz.prog 33 #[.pointer (some ⟨L.hb, L.ho, none⟩), .int .i64 20] w fun e w' => e = .returned recA ∧ Below w.heap.size w w' := by
  have hb0 := Lib.hid (new_below w (.cells #[.int .i64 0, .int .i64 0, .string ⟨#[]⟩] 23))
  have HF : Hid (∀ W, Below w.heap.size w W → Fix L W) := Lib.hid fun W hW => h.keep (Keep.of hW)
  have hF := HF.out _ hb0.out
  obtain ⟨c0, c1, c2, c4⟩ := hF.heap4
  have r0 := hF.r0
  have r1 := hF.r1
  have r2 := hF.r2
  clear h hF
  go_enter Tryz.func33, Tryz.ntmps33
  go_wp2_with (first
    | (go_at_call 58; refine (nobody_ret L _ (HF.out _ hb0.out)).mono ?_; rintro e w0 ⟨rfl, rfl⟩)
    | fail)
  refine bodyPost_ret (v := recA) ?_ rfl ⟨rfl, ?_⟩
  · rw [results_cell_one rfl]
    go_simp
    rfl
  · repeat (with_reducible first | refine bset ?_ (by omega))
    exact new_below w _

set_option maxHeartbeats 1000000 in
theorem rat_ret (L : Lc) (w : World) (h : Fix L w) : Calls Tryz.prog 10 #[.pointer (some ⟨L.wb, L.wo, none⟩), .int .i64 20] w fun e w' => e = .returned recA ∧ Below w.heap.size w w' := by
  have hb0 := Lib.hid (new_below w (.cells #[.int .i64 0, .int .i64 0, .string ⟨#[]⟩] 23))
  have HF : Hid (∀ W, Below w.heap.size w W → Fix L W) := Lib.hid fun W hW => h.keep (Keep.of hW)
  have hF := HF.out _ hb0.out
  have cw := hF.wh
  clear h hF
  go_enter Tryz.func10, Tryz.ntmps10
  go_wp2_with (first
    | (go_at_call 33; refine (root_ret L _ (HF.out _ hb0.out)).mono ?_; rintro e w1 ⟨rfl, hb1⟩; obtain ⟨q0, q1, q2, qf⟩ := box3 (keep_below hb1 (heap_alloc_new w _)); replace hb0 := Lib.hid (hb0.out.trans (hb1.mono hb0.out.size)); clear hb1; unfold recA)
    | fail)
  refine bodyPost_ret (v := recA) ?_ rfl ⟨rfl, ?_⟩
  · rw [results_cell_one rfl]
    go_simp
    rfl
  · repeat (with_reducible first | refine bset ?_ (by omega))
    exact hb0.out

/-- the record is a record -/
structure RcR (xs : List VL) (w : World) (e : Ending) (w' : World) : Prop where
  ex : ∃ g cap, e = .returned (.tuple #[cellA 7 0 0 0 (.slice (some ⟨g, 0, none⟩) xs.length cap), .bool true]) ∧ w.heap.size ≤ g ∧ Own w' g xs
  bel : Below w.heap.size w w'

set_option maxHeartbeats 4000000 in
theorem record_ret (L : Lc) (xs : List VL) (w : World) (h : St L xs w) : Calls Tryz.prog 27 #[.pointer (some ⟨L.wb, L.wo, none⟩), recA] w fun e w' => RcR xs w e w' := by
  have HS : Hid (∀ W, Below w.heap.size w W → St L xs W) := Lib.hid fun W hW => h.below hW
  obtain ⟨hl4, hl1000⟩ := h.gd.len
  unfold recA
  have HB := Lib.hid (below_al2 w (.cells #[.int .i64 9, .int .i64 41, .string ⟨#[]⟩] 23) (.cells #[.int .i64 0, .int .i64 0, .int .i64 0, .int .i64 0, .slice none 0 0, .slice none 0 0] 66))
  have HR := Lib.hid (two_al w (.cells #[.int .i64 9, .int .i64 41, .string ⟨#[]⟩] 23) (.cells #[.int .i64 0, .int .i64 0, .int .i64 0, .int .i64 0, .slice none 0 0, .slice none 0 0] 66))
  clear h
  go_enter Tryz.func27, Tryz.ntmps27
  go_wp2_with fail
  go_at_call 59
  refine (cell_ret L xs _ (HS.out _ HB.out)).mono ?_
  rintro e w1 hr
  obtain ⟨⟨g, cap, rfl, hg1, hown⟩, hb1⟩ := hr
  obtain ⟨s0, s1, s2, s3, s4, s5, sf⟩ := box6 (keep_below hb1 HR.out.2)
  have hz2 : w.heap.size + 2 ≤ w1.heap.size := Nat.le_trans (by simp) hb1.size
  have hz3 : w.heap.size + 1 < w1.heap.size := by omega
  have hg2 : w.heap.size + 2 ≤ g := Nat.le_trans (by simp) hg1
  replace HB := Lib.hid (HB.out.trans (hb1.mono HB.out.size))
  replace hown := Lib.hid hown
  clear hb1 hg1 HR HS
  unfold cellA
  go_wp2_with fail
  have h4 : decide ((4 : Int) ≤ (xs.length : Int)) = true := by simp; omega
  go_region
  go_wp2
  refine bodyPost_ret (v := .tuple #[cellA 7 0 0 0 (.slice (some ⟨g, 0, none⟩) xs.length cap), .bool true]) ?_ rfl ⟨⟨g, cap, rfl, by omega, ?_⟩, ?_⟩
  · rw [results_cell_tmp rfl]
    go_simp
    rfl
  · repeat (with_reducible first | refine Own.drew ?_ | refine Own.alloc ?_ _ | refine Own.set ?_ (by omega) _ _)
    with_reducible exact hown.out
  · repeat (with_reducible first | refine Below.drew ?_ | refine ball ?_ | refine bset ?_ (by omega))
    with_reducible exact HB.out

end Go.Proofs.YtfiainenbpldgaaGreatDoor
