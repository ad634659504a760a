/-
  IterateOthers: the realm's functions at the record.
-/
import Derived.Test.YtfiainenbpldgaaGreatDoorAeOtHeap
namespace Go.Proofs.YtfiainenbpldgaaGreatDoor
open Go.RowKit
set_option maxRecDepth 100000
set_option linter.unusedVariables false
set_option linter.unusedSimpArgs false

theorem Own.alloc {w : World} {g : Nat} {xs : List VL} (h : Own w g xs) (o : Obj) : Own (w.alloc o) g xs := h.below (new_below w o)

theorem bset {n b i : Nat} {a w : World} {v : Value} (h : Below n a w) (hle : n ≤ b) : Below n a (w.setCell ⟨b, i, none⟩ v) := h.setCell (p := ⟨b, i, none⟩) hle v
theorem ball {a w : World} {o : Obj} (h : Below a.heap.size a w) : Below a.heap.size a (w.alloc o) := h.alloc h.size o

/-- the record's value -/
def recA : Value := .agg #[.int .i64 9, .int .i64 41, .string ⟨#[]⟩]

set_option maxHeartbeats 1000000 in
theorem leads_ret (w : World) : Calls Tryz.prog 98 #[recA] w fun e w' => e = .returned (.bool true) ∧ Below w.heap.size w w' := by
  unfold recA
  have hb0 := Lib.hid (new_below w (.cells #[.int .i64 9, .int .i64 41, .string ⟨#[]⟩] 23))
  go_enter Tryz.func98, Tryz.ntmps98
  go_wp2
  go_ret
  exact ⟨rfl, hb0.out⟩

set_option maxHeartbeats 4000000 in
theorem cell_ret (L : Lc) (xs : List VL) (w : World) (h : St L xs w) : Calls Tryz.prog 59 #[.pointer (some ⟨L.wb, L.wo, none⟩), recA] w fun e w' => CpR 7 0 0 0 xs w e w' := by
  have HS : Hid (∀ W, Below w.heap.size w W → St L xs W) := Lib.hid fun W hW => h.below hW
  have HB := Lib.hid (below_al2 w (.cells #[.int .i64 9, .int .i64 41, .string ⟨#[]⟩] 23) (.cells #[.int .i64 0, .int .i64 0, .int .i64 0, .int .i64 0, .slice none 0 0, .slice none 0 0] 66))
  have HR := Lib.hid (two_al w (.cells #[.int .i64 9, .int .i64 41, .string ⟨#[]⟩] 23) (.cells #[.int .i64 0, .int .i64 0, .int .i64 0, .int .i64 0, .slice none 0 0, .slice none 0 0] 66))
  unfold recA
  clear h
  go_enter Tryz.func59, Tryz.ntmps59
  go_wp2_with (first
    | (go_at_call 98; refine (leads_ret _).mono ?_; rintro e w1 ⟨rfl, hb1⟩; obtain ⟨q0, q1, q2, qf⟩ := box3 (keep_below hb1 HR.out.1); have R1 := Lib.hid (keep_below hb1 HR.out.2); obtain ⟨s0, s1, s2, s3, s4, s5, sf⟩ := box6 R1.out; replace HB := Lib.hid (HB.out.trans (hb1.mono HB.out.size)); have hz : w.heap.size + 2 ≤ w1.heap.size := Nat.le_trans (by simp) hb1.size; clear hb1 HR; have hs := Lib.hid (HS.out _ HB.out); have cw := hs.out.fx.wh)
    | fail)
  have hlw := lt_of_cell cw
  have hwz : w.heap.size < w1.heap.size := by omega
  have hwz1 : w.heap.size + 1 < w1.heap.size := by omega
  have newD : ∀ ob, (w1.drew.alloc ob).heap[w1.heap.size]? = some ob := fun ob => heap_alloc_new w1.drew ob
  have ND := Lib.hid newD
  clear newD
  go_region_with (first
    | (go_at_call 99; refine (at_ret L xs _ (hs.out.below (Below.refl _ _).drew)).mono ?_; rintro e w2 hr; obtain ⟨⟨g, cap, rfl, hg1, hown⟩, hb2⟩ := hr; clear s0 s1 s2 s3 s4 s5 sf q0 q1 q2 qf; obtain ⟨s0, s1, s2, s3, s4, s5, sf⟩ := box6 (keep_below hb2 R1.out); have hz2 : w1.heap.size ≤ w2.heap.size := hb2.size; have hz3 : w.heap.size + 1 < w2.heap.size := Nat.lt_of_lt_of_le hwz1 hz2; have hg2 : w1.heap.size ≤ g := hg1; clear hg1; replace hown := Lib.hid hown; have HB2 := Lib.hid (HB.out.drew.trans (hb2.mono HB.out.size)); have hgl := hown.out.lt; clear hb2; unfold cellA)
    | (go_at_call 99; refine (at_ret L xs _ (hs.out.below ((Below.refl _ _).drew.alloc (Nat.le_refl _) _))).mono ?_; rintro e w2 hr; obtain ⟨⟨g, cap, rfl, hg1, hown⟩, hb2⟩ := hr; obtain ⟨t0, t1, t2, t3, t4, t5, tf⟩ := box6 (keep_below hb2 (ND.out _)); clear s0 s1 s2 s3 s4 s5 sf q0 q1 q2 qf; obtain ⟨s0, s1, s2, s3, s4, s5, sf⟩ := box6 (keep_below hb2 (keep_below (new_below w1.drew _) R1.out)); have hz2 : w1.heap.size ≤ w2.heap.size := Nat.le_trans (by show w1.heap.size ≤ (w1.drew.alloc _).heap.size; simp) hb2.size; have hg2 : w1.heap.size < g := Nat.lt_of_lt_of_le (by show w1.heap.size < (w1.drew.alloc _).heap.size; simp) hg1; clear hg1; replace hown := Lib.hid hown; have HB2 := Lib.hid ((HB.out.drew.alloc HB.out.size _).trans (hb2.mono (Nat.le_trans HB.out.size (by show w1.heap.size ≤ (w1.drew.alloc _).heap.size; simp)))); have hgl := hown.out.lt; clear hb2; unfold cellA))
  all_goals
    clear hs ND HS HB
    go_wp2
  all_goals refine bodyPost_ret (v := cellA 7 0 0 0 (.slice (some ⟨g, 0, none⟩) xs.length cap)) ?_ rfl ⟨⟨g, cap, rfl, by omega, ?_⟩, ?_⟩
  all_goals first
    | (rw [results_cell_one rfl]; go_simp; rfl)
    | (repeat (with_reducible first | refine Own.alloc ?_ _ | refine Own.set ?_ (by omega) _ _)
       with_reducible exact hown.out)
    | (repeat (with_reducible first | refine ball ?_ | refine bset ?_ (by omega))
       with_reducible exact HB2.out)

end Go.Proofs.YtfiainenbpldgaaGreatDoor
