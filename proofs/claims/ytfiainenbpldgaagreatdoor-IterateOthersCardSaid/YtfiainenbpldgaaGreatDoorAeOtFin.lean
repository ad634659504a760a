/-
  IterateOthers: a record's values turned; iterate.finish.
-/
import Derived.Test.YtfiainenbpldgaaGreatDoorAeOtPut
namespace Go.Proofs.YtfiainenbpldgaaGreatDoor
open Go.RowKit
set_option maxRecDepth 100000
set_option linter.unusedVariables false
set_option linter.unusedSimpArgs false

theorem Own.put3 {w : World} {g : Nat} {xs : List VL} (h : Own w g xs) (i : Nat) (x : VL) (hi : i < xs.length) (o : Nat) (ho : o = i * 3) :
    Own (((w.setCell ⟨g, o, none⟩ (.int .i64 x.k)).setCell ⟨g, o + 1, none⟩ (.int .i64 x.n)).setCell ⟨g, o + 2, none⟩ (.string x.s)) g (xs.set i x) := by
  subst ho
  have hne : ∀ a b : Nat, a ≠ b → (⟨g, a, none⟩ : Addr) ≠ ⟨g, b, none⟩ := fun a b hab e => hab (by cases e; rfl)
  obtain ⟨c0, c1, c2⟩ := lie_cells h.lie (List.getElem?_eq_getElem hi)
  rw [Nat.zero_add] at c0 c1 c2
  refine ⟨fun i' y hi' j z hj => ?_, fun j => by rw [World.frozen?_setCell, World.frozen?_setCell, World.frozen?_setCell]; exact h.fz j, by rw [set_size, set_size, set_size]; exact h.lt⟩
  have hj3 : j < 3 := (List.getElem?_eq_some_iff.1 hj).1
  rw [Nat.zero_add]
  by_cases e : i' = i
  · subst e
    rw [List.getElem?_set_self hi] at hi'
    cases hi'
    have hj' : j = 0 ∨ j = 1 ∨ j = 2 := by omega
    rcases hj' with rfl | rfl | rfl
    · cases hj
      rw [World.cell?_setCell_other _ _ _ _ (hne _ _ (by omega)), World.cell?_setCell_other _ _ _ _ (hne _ _ (by omega)), Nat.add_zero]
      exact World.cell?_setCell_same _ _ _ c0
    · cases hj
      rw [World.cell?_setCell_other _ _ _ _ (hne _ _ (by omega))]
      exact World.cell?_setCell_same _ _ _ (by rw [World.cell?_setCell_other _ _ _ _ (hne _ _ (by omega))]; exact c1)
    · cases hj
      exact World.cell?_setCell_same _ _ _ (by rw [World.cell?_setCell_other _ _ _ _ (hne _ _ (by omega)), World.cell?_setCell_other _ _ _ _ (hne _ _ (by omega))]; exact c2)
  · rw [List.getElem?_set_ne (Ne.symm e)] at hi'
    rw [World.cell?_setCell_other _ _ _ _ (hne _ _ (by omega)), World.cell?_setCell_other _ _ _ _ (hne _ _ (by omega)), World.cell?_setCell_other _ _ _ _ (hne _ _ (by omega))]
    have := h.lie i' y hi' j z hj
    rw [Nat.zero_add] at this
    exact this

theorem okNum (n : Int) (h0 : 0 ≤ n) (h1 : n ≤ 9007199254740992) : OkV ⟨3, n, ⟨#[]⟩⟩ := by
  refine ⟨.inl ⟨by show (0 : Int) ≤ 3; decide, by show (3 : Int) ≤ 6; decide⟩, ⟨by show -9223372036854775808 ≤ n; omega, by show n ≤ 9223372036854775807; omega⟩, ?_⟩
  have e : (⟨#[]⟩ : ByteArray).size = 0 := rfl
  show AE.mayP 3 n (⟨#[]⟩ : ByteArray).size = true
  rw [e]
  unfold AE.mayP
  simp
  omega

theorem Good.ended {xs : List VL} (h : Good xs) : Good (xs.set 2 ⟨3, 1, ⟨#[]⟩⟩) := by
  obtain ⟨l1, l2⟩ := h.len
  obtain ⟨v3, h30, h31, h3⟩ := h.three
  refine ⟨fun x hx => ?_, by rw [List.length_set]; exact h.len, ⟨1, by decide, by decide, List.getElem?_set_self (by omega)⟩, ⟨v3, h30, h31, by rw [List.getElem?_set_ne (by decide)]; exact h3⟩⟩
  rcases List.mem_or_eq_of_mem_set hx with hx | rfl
  · exact h.ok x hx
  · exact okNum 1 (by decide) (by decide)

theorem Good.moved {xs : List VL} (h : Good xs) (n : Int) (h0 : 0 ≤ n) (h1 : n ≤ 9007199254740992) : Good (xs.set 3 ⟨3, n, ⟨#[]⟩⟩) := by
  obtain ⟨l1, l2⟩ := h.len
  obtain ⟨v2, h20, h21, h2⟩ := h.two
  refine ⟨fun x hx => ?_, by rw [List.length_set]; exact h.len, ⟨v2, h20, h21, by rw [List.getElem?_set_ne (by decide)]; exact h2⟩, ⟨n, h0, h1, List.getElem?_set_self (by omega)⟩⟩
  rcases List.mem_or_eq_of_mem_set hx with hx | rfl
  · exact h.ok x hx
  · exact okNum n h0 h1

set_option maxHeartbeats 1000000 in
theorem num_ret (n : Int) (w : World) : Calls Tryz.prog 20 #[.int .i64 n] w fun e w' => e = .returned (.agg #[.int .i64 3, .int .i64 n, .string ⟨#[]⟩]) ∧ Below w.heap.size w w' := by
  have hb0 := Lib.hid (new_below w (.cells #[.int .i64 3, .int .i64 n, .string ⟨#[]⟩] 23))
  go_enter Tryz.func20, Tryz.ntmps20
  go_wp2
  refine bodyPost_ret (v := .agg #[.int .i64 3, .int .i64 n, .string ⟨#[]⟩]) ?_ rfl ⟨rfl, ?_⟩
  · rw [results_cell_one rfl]
    go_simp
  · exact hb0.out

set_option maxHeartbeats 4000000 in
theorem finish_ret (L : Lc) (xs : List VL) (w : World) (h : St L xs w) : Calls Tryz.prog 32 #[.pointer (some ⟨L.wb, L.wo, none⟩), recA] w fun e w' => SetR L (xs.set 2 ⟨3, 1, ⟨#[]⟩⟩) w e w' := by
  have HS : Hid (∀ W, Below w.heap.size w W → St L xs W) := Lib.hid fun W hW => h.below hW
  obtain ⟨hl4, hl1000⟩ := h.gd.len
  have HG := Lib.hid h.gd.ended
  unfold recA
  have HB := Lib.hid (new_below w (.cells #[.int .i64 9, .int .i64 41, .string ⟨#[]⟩] 23))
  have HR := Lib.hid (heap_alloc_new w (.cells #[.int .i64 9, .int .i64 41, .string ⟨#[]⟩] 23))
  have hk2 : decide (xs.length ≤ 2) = false := by simp; omega
  clear h
  go_enter Tryz.func32, Tryz.ntmps32
  go_wp2_with (first
    | (go_at_call 27; refine (record_ret L xs _ (HS.out _ HB.out)).mono ?_; rintro e w1 hr; obtain ⟨⟨g, cap, rfl, hg1, hown⟩, hb1⟩ := hr; obtain ⟨q0, q1, q2, qf⟩ := box3 (keep_below hb1 HR.out); have hz2 : w.heap.size + 1 ≤ w1.heap.size := Nat.le_trans (by simp) hb1.size; have hg2 : w.heap.size + 1 ≤ g := Nat.le_trans (by simp) hg1; replace HB := Lib.hid (HB.out.trans (hb1.mono HB.out.size)); have hgl := hown.lt; replace hown := Lib.hid hown; clear hb1 hg1 HR; unfold cellA)
    | fail)
  have hob := heap_alloc_new w1 (.cells #[.int .i64 7, .int .i64 0, .int .i64 0, .int .i64 0, .slice none 0 0, .slice (some ⟨g, 0, none⟩) xs.length cap] 66)
  have hbW := new_below w1 (.cells #[.int .i64 7, .int .i64 0, .int .i64 0, .int .i64 0, .slice none 0 0, .slice (some ⟨g, 0, none⟩) xs.length cap] 66)
  obtain ⟨W, hW⟩ : ∃ W, w1.alloc (.cells #[.int .i64 7, .int .i64 0, .int .i64 0, .int .i64 0, .slice none 0 0, .slice (some ⟨g, 0, none⟩) xs.length cap] 66) = W := ⟨_, rfl⟩
  have hzW : W.heap.size = w1.heap.size + 1 := by rw [← hW]; simp
  have hoW := Lib.hid (hown.out.below hbW)
  have HBW := Lib.hid (HB.out.trans (hbW.mono HB.out.size))
  rw [hW] at hob hbW hoW HBW ⊢
  obtain ⟨p0, p1, p2, p3, p4, p5, pf⟩ := box6 hob
  obtain ⟨k0, k1, k2, kf⟩ : W.cell? ⟨w.heap.size, 0, none⟩ = some (.int .i64 9) ∧ W.cell? ⟨w.heap.size, 1, none⟩ = some (.int .i64 41) ∧ W.cell? ⟨w.heap.size, 2, none⟩ = some (.string ⟨#[]⟩) ∧ w.heap.size < W.heap.size := ⟨(hbW.cell (p := ⟨w.heap.size, 0, none⟩) hz2).trans q0, (hbW.cell (p := ⟨w.heap.size, 1, none⟩) hz2).trans q1, (hbW.cell (p := ⟨w.heap.size, 2, none⟩) hz2).trans q2, by omega⟩
  have HOB := Lib.hid hob
  clear hW hob q0 q1 q2 qf hown HB hbW
  have hx2 := List.getElem?_eq_getElem (show 2 < xs.length by omega)
  have HP : Hid (∀ W', Below w.heap.size w W' → Own W' g (xs.set 2 ⟨3, 1, ⟨#[]⟩⟩) → Calls Tryz.prog 60 #[.pointer (some ⟨L.wb, L.wo, none⟩), recA, cellA 7 0 0 0 (.slice (some ⟨g, 0, none⟩) xs.length cap)] W' fun e w' => SetR L (xs.set 2 ⟨3, 1, ⟨#[]⟩⟩) W' e w') := Lib.hid fun W' hW' ho => by
    have hp := rput_ret L xs (xs.set 2 ⟨3, 1, ⟨#[]⟩⟩) HG.out g 0 cap W' (HS.out W' hW') ho.lt ho.lie
    rw [List.length_set] at hp
    exact hp
  have hne1 : g ≠ w.heap.size := by omega
  have hne2 : g ≠ w1.heap.size := by omega
  have hne3 : w.heap.size ≠ g := by omega
  have hne4 : w1.heap.size ≠ g := by omega
  clear HG HS
  go_region_with (first
    | (go_at_call 20; refine (num_ret 1 _).mono ?_; rintro e w2 ⟨rfl, hb2⟩; clear p0 p1 p2 p3 p4 p5 pf; obtain ⟨p0, p1, p2, p3, p4, p5, pf⟩ := box6 (keep_below hb2 HOB.out); have ho2 := Lib.hid (hoW.out.drew.below hb2); have HB2 := Lib.hid (HBW.out.drew.trans (hb2.mono HBW.out.size)); obtain ⟨c6, c7, c8⟩ := lie_cells ho2.out.lie hx2; have cf := ho2.out.fz; obtain ⟨k0, k1, k2, k9⟩ : w2.cell? ⟨w.heap.size, 0, none⟩ = some (.int .i64 9) ∧ w2.cell? ⟨w.heap.size, 1, none⟩ = some (.int .i64 41) ∧ w2.cell? ⟨w.heap.size, 2, none⟩ = some (.string ⟨#[]⟩) ∧ 1 = 1 := ⟨(hb2.cell (p := ⟨w.heap.size, 0, none⟩) kf).trans k0, (hb2.cell (p := ⟨w.heap.size, 1, none⟩) kf).trans k1, (hb2.cell (p := ⟨w.heap.size, 2, none⟩) kf).trans k2, rfl⟩; clear hb2 k9))
  all_goals
    have ho3 := Lib.hid (ho2.out.put3 2 ⟨3, 1, ⟨#[]⟩⟩ (by omega) 6 rfl)
    have HB3 : Hid (Below w.heap.size w (((w2.setCell ⟨g, 6, none⟩ (.int .i64 3)).setCell ⟨g, 7, none⟩ (.int .i64 1)).setCell ⟨g, 8, none⟩ (.string ⟨#[]⟩))) := Lib.hid (bset (bset (bset HB2.out (by omega)) (by omega)) (by omega))
    clear HBW HOB hoW ho2 HB2 c6 c7 c8 cf
    go_wp2_with (first
      | (go_at_call 60; refine (HP.out _ HB3.out ho3.out).mono ?_; rintro e w4 ⟨rfl, hs4, hk4⟩; replace hs4 := Lib.hid (hs4.weak (m := w.heap.size) HB3.out.size); have HK := Lib.hid ((Keep.of (y := L.yb) HB3.out).trans hk4); clear hk4)
      | fail)
    refine bodyPost_ret (results_none rfl _ _ _) rfl ?_
    exact ⟨rfl, hs4.out, HK.out⟩

end Go.Proofs.YtfiainenbpldgaaGreatDoor
