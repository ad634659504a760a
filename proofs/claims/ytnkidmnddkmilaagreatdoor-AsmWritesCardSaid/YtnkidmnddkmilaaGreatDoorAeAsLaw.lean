/-
  The statement's own code: all of it but the examples.
-/
import Derived.Test.YtnkidmnddkmilaaGreatDoorAeAsFew
namespace Go.Proofs.YtnkidmnddkmilaaGreatDoor
open Go.RowKit
set_option maxRecDepth 100000

theorem textV_tuple (xs : List CodeV) : ∃ (s : ByteArray) (c : Int), textV xs = .tuple #[.string s, .int .i64 c] := by
  unfold textV
  split <;> exact ⟨_, _, rfl⟩

/-- what a round of the last loop finds -/
def LoopS (b0 : Nat) (sl : Value) (bk o : Nat) (x0 x1 x2 x3 x4 x5 x6 x7 : Value) (w0 W : World) : Prop :=
  W.cell? ⟨b0, 0, none⟩ = some sl ∧ W.cell? ⟨bk, o, none⟩ = some x0 ∧ W.cell? ⟨bk, o + 1, none⟩ = some x1 ∧ W.cell? ⟨bk, o + 2, none⟩ = some x2 ∧ W.cell? ⟨bk, o + 3, none⟩ = some x3 ∧
  W.cell? ⟨bk, o + 4, none⟩ = some x4 ∧ W.cell? ⟨bk, o + 5, none⟩ = some x5 ∧ W.cell? ⟨bk, o + 6, none⟩ = some x6 ∧ W.cell? ⟨bk, o + 7, none⟩ = some x7 ∧ Below w0.heap.size w0 W ∧ b0 < W.heap.size

theorem LoopS.keep {b0 : Nat} {sl : Value} {bk o : Nat} {x0 x1 x2 x3 x4 x5 x6 x7 : Value} {w0 W W' : World} (hb : Below W.heap.size W W') (c : W.cell? ⟨b0, 0, none⟩ = some sl) (c0 : W.cell? ⟨bk, o, none⟩ = some x0) (c1 : W.cell? ⟨bk, o + 1, none⟩ = some x1) (c2 : W.cell? ⟨bk, o + 2, none⟩ = some x2) (c3 : W.cell? ⟨bk, o + 3, none⟩ = some x3)
    (c4 : W.cell? ⟨bk, o + 4, none⟩ = some x4) (c5 : W.cell? ⟨bk, o + 5, none⟩ = some x5) (c6 : W.cell? ⟨bk, o + 6, none⟩ = some x6) (c7 : W.cell? ⟨bk, o + 7, none⟩ = some x7) (hw : Below w0.heap.size w0 W) (hl : b0 < W.heap.size) : LoopS b0 sl bk o x0 x1 x2 x3 x4 x5 x6 x7 w0 W' := by
  have hbk := lt_of_cell c0
  have q : ∀ j y, W.cell? ⟨bk, j, none⟩ = some y → W'.cell? ⟨bk, j, none⟩ = some y := fun j y h => by rw [hb.cell (p := ⟨bk, j, none⟩) hbk]; exact h
  exact ⟨by rw [hb.cell (p := ⟨b0, 0, none⟩) hl]; exact c, q _ _ c0, q _ _ c1, q _ _ c2, q _ _ c3, q _ _ c4, q _ _ c5, q _ _ c6, q _ _ c7, hw.trans (hb.mono hw.size), Nat.lt_of_lt_of_le hl hb.size⟩

set_option maxHeartbeats 16000000 in
theorem law_ret (xs : List CodeV) (B : Nat) (v : Value) (at' : Int) (_hat : inI at') (w : World) (hG : G w) (hB : B ≤ w.heap.size) (hv : Img0 w B v xs)
    (hgoes : ∀ W, G W → Calls Tryz.prog 5 #[] W fun e w' => e = .returned (.bool true) ∧ Below W.heap.size W w') :
    Calls Tryz.prog 3 #[.agg #[v], .int .i64 at'] w fun e w' => e = .returned (.bool true) ∧ Below w.heap.size w w' := by
  obtain ⟨a, cap, rfl⟩ := hv.sl.slice
  have hlen := hv.len
  have HV := Lib.hid hv
  have HGO := Lib.hid hgoes
  have HG := Lib.hid hG
  clear hv hgoes hG
  rw [List.length_map]
  have HB0 : Hid (Below w.heap.size w (w.alloc (.cells #[.slice a xs.length cap] 24))) := Lib.hid ((Below.refl _ _).alloc (Nat.le_refl _) _)
  have box0 : (w.alloc (.cells #[.slice a xs.length cap] 24)).heap[w.heap.size]? = some (.cells #[.slice a xs.length cap] 24 (0, 0)) := heap_alloc_new w _
  have hs0 : w.heap.size < (w.alloc (.cells #[.slice a xs.length cap] 24)).heap.size := by simp
  have HV1 : Img0 w B (.slice a xs.length cap) xs := by have h := HV.out; rw [List.length_map] at h; exact h
  have HFEW := Lib.hid (few_ret xs B (.slice a xs.length cap) (w.alloc (.cells #[.slice a xs.length cap] 24)) (Nat.le_trans hB (Nat.le_of_lt hs0)) (HV1.below (HB0.out.mono hB)))
  have HV := Lib.hid HV1
  clear HV1
  have HGO2 : Hid (∀ W, Below w.heap.size w W → Calls Tryz.prog 5 #[] W fun e w' => e = .returned (.bool true) ∧ Below w.heap.size w w') := Lib.hid fun W hb => (HGO.out W (HG.out.below hb HG.out.size)).mono fun e w' he => ⟨he.1, hb.trans (he.2.mono hb.size)⟩
  have HTX : Hid ((xs.length ≤ 1499 ∧ ∀ x ∈ xs, Few x.c) → ∀ f, (f = 6 ∨ f = 7) → ∀ W, Below w.heap.size w W → Calls Tryz.prog f #[.agg #[.slice a xs.length cap]] W fun e w' => e = .returned (textV xs) ∧ Below W.heap.size W w') := Lib.hid fun hf f hff W hb => by
    have hi := (HV.out.below (hb.mono hB)).few hf.2
    rcases hff with rfl | rfl
    · exact Text_ret xs B _ hf.1 W (HG.out.below hb HG.out.size) (Nat.le_trans hB hb.size) hi
    · exact rText_ret xs B _ hf.1 W (HG.out.below hb HG.out.size) (Nat.le_trans hB hb.size) hi
  have hbx0 : (w.alloc (.cells #[.slice a xs.length cap] 24)).cell? ⟨w.heap.size, 0, none⟩ = some (.slice a xs.length cap) := by rw [Lib.cell_of_heap box0]; rfl
  obtain ⟨s, c, hT⟩ := textV_tuple xs
  rw [hT] at HTX
  clear hT HGO
  go_enter Tryz.func3, Tryz.ntmps3
  go_wp2_with (go_at_call 4; refine HFEW.out.mono ?_; rintro e w1 ⟨r, rfl, hr, hb1⟩; have hbx1 := (hb1.cell (p := ⟨w.heap.size, 0, none⟩) hs0).trans hbx0; have hbw1 := HB0.out.trans (hb1.mono HB0.out.size); have hs1 := Nat.lt_of_lt_of_le hs0 hb1.size)
  · go_wp2_with (go_at_call 5; refine (HGO2.out _ hbw1).mono ?_; rintro e w2 ⟨rfl, hb2⟩)
    go_ret
    exact ⟨rfl, hb2⟩
  · obtain rfl : r = true := by simpa using ‹(!r) = false›
    have HTY := Lib.hid (HTX.out (hr rfl))
    clear hr HTX
    go_wp2_with (first
      | (go_at_call 6; refine (HTY.out 6 (Or.inl rfl) _ hbw1).mono ?_; rintro e w2 ⟨rfl, hb2⟩; have hbx2 := (hb2.cell (p := ⟨w.heap.size, 0, none⟩) hs1).trans hbx1; have hbw2 := hbw1.trans (hb2.mono hbw1.size); have hs2 := Nat.lt_of_lt_of_le hs1 hb2.size)
      | (go_at_call 7; refine (HTY.out 7 (Or.inr rfl) _ hbw2).mono ?_; rintro e w3 ⟨rfl, hb3⟩; have hbx3 := (hb3.cell (p := ⟨w.heap.size, 0, none⟩) hs2).trans hbx2; have hbw3 := hbw2.trans (hb3.mono hbw2.size); have hs3 := Nat.lt_of_lt_of_le hs2 hb3.size))
    have HHV := Lib.hid (HV.out)
    have HLI : Hid (∀ f, (f = 8 ∨ f = 9) → ∀ x ∈ xs, ∀ (i : Int) W, G W → Below w.heap.size w W → Calls Tryz.prog f #[.agg #[.string x.c.name, .int .i64 x.c.kind, .int .i64 x.c.len, .int .i64 x.c.regs, x.vi, x.vp, x.vk, x.vg], .int .i64 i] W fun e w' => e = .returned (.string (bs (lineAt x.c.ins i))) ∧ Below W.heap.size W w') := Lib.hid fun f hf x hx i W hg hb =>
      Line_both f hf _ _ _ _ x.c.ins (HHV.out.nums x hx).ins B x.vi x.vp x.vk x.vg i W hg ((HHV.out.codes x hx).ins.below (hb.mono hB))
    clear HTY HHV HFEW HB0 box0 hs0 hbx0 hbx1 hbw1 hs1 hb1 hbx2 hbw2 hs2 hb2 hb3
    obtain ⟨w9, hw9⟩ : ∃ w9 : World, w9 = w3 := ⟨_, rfl⟩
    have hbx9 := hbx3
    have hbw9 := hbw3
    have hs9 := hs3
    clear hbx3 hbw3 hs3
    subst hw9
    go_loopw [35] (fun i W => ∃ k : Nat, k ≤ xs.length ∧ i = .int .i64 k ∧ Hid (Below w.heap.size w W) ∧ W.cell? ⟨w.heap.size, 0, none⟩ = some (.slice a xs.length cap) ∧ w.heap.size < W.heap.size) (fun i _ => xs.length - (intOf i).toNat)
    case atStart => exact ⟨0, Nat.zero_le _, rfl, Lib.hid hbw9, hbx9, hs9⟩
    case round =>
      obtain ⟨k, hk, rfl, hbl, hbox, hwl⟩ := hrel
      clear hbx9 hbw9 hs9
      by_cases hlt : k < xs.length
      · obtain ⟨bk, o, ea, hbk, hsl, hcell⟩ := HV.out.elem k hlt
        obtain ⟨q0, q1, q2, q3, q4, q5, q6, q7⟩ := hcell wr (hbl.out.mono hB)
        have HLK : Hid (∀ f, (f = 8 ∨ f = 9) → ∀ (i : Int) W, Below w.heap.size w W → Calls Tryz.prog f #[.agg #[.string xs[k].c.name, .int .i64 xs[k].c.kind, .int .i64 xs[k].c.len, .int .i64 xs[k].c.regs, xs[k].vi, xs[k].vp, xs[k].vk, xs[k].vg], .int .i64 i] W fun e w' => e = .returned (.string (bs (lineAt xs[k].c.ins i))) ∧ Below W.heap.size W w') :=
          Lib.hid fun f hf i W hb => HLI.out f hf _ (List.getElem_mem hlt) i W (HG.out.below hb HG.out.size) hb
        subst ea
        clear hcell HLI HGO2
        obtain ⟨ai, ci, ap, cp, ak, ck, ag, cg, e1, e2, e3, e4⟩ := hsl
        rw [e1] at q4 HLK
        rw [e2] at q5 HLK
        rw [e3] at q6 HLK
        rw [e4] at q7 HLK
        clear e1 e2 e3 e4
        generalize xs[k] = x at *
        have hk0 : (0 : Int) ≤ (k : Int) := Int.natCast_nonneg _
        have hk1 : decide ((k : Int) < 0) = false := by simp
        have hk2 : decide (xs.length ≤ k) = false := by simp; omega
        have HBL : Below w.heap.size w wr.drew := Below.drew hbl.out
        go_wp2_with fail
        go_region_held3 (fun w' => w'.cell? ⟨w.heap.size, 0, none⟩ = some (.slice (some ⟨bk, o, none⟩) xs.length cap) ∧ w'.cell? ⟨bk, o + k * 8, none⟩ = some (.string x.c.name) ∧ w'.cell? ⟨bk, o + k * 8 + 1, none⟩ = some (.int .i64 x.c.kind) ∧ w'.cell? ⟨bk, o + k * 8 + 2, none⟩ = some (.int .i64 x.c.len) ∧ w'.cell? ⟨bk, o + k * 8 + 3, none⟩ = some (.int .i64 x.c.regs) ∧
            w'.cell? ⟨bk, o + k * 8 + 4, none⟩ = some (.slice ai x.c.ins.length ci) ∧ w'.cell? ⟨bk, o + k * 8 + 5, none⟩ = some (.slice ap x.c.pool.length cp) ∧ w'.cell? ⟨bk, o + k * 8 + 6, none⟩ = some (.slice ak x.c.keys.length ck) ∧ w'.cell? ⟨bk, o + k * 8 + 7, none⟩ = some (.slice ag x.c.guards.length cg) ∧ Below w.heap.size w w' ∧ w.heap.size < w'.heap.size)
          (first | go_keep | (go_split_ands; exact LoopS.keep hbel (by assumption) (by assumption) (by assumption) (by assumption) (by assumption) (by assumption) (by assumption) (by assumption) (by assumption) (by assumption) (by assumption)))
          ((first
            | (go_at_call 8; refine (HLK.out 8 (Or.inl rfl) _ _ ?h2).mono ?_; (case h2 => (go_split_ands; assumption)); rintro e w1 ⟨rfl, hbel⟩)
            | (go_at_call 9; refine (HLK.out 9 (Or.inr rfl) _ _ ?h2).mono ?_; (case h2 => (go_split_ands; assumption)); rintro e w1 ⟨rfl, hbel⟩)))
        obtain ⟨hx0, _, _, _, _, _, _, _, _, hx1, hx2⟩ := ‹w1.cell? ⟨w.heap.size, 0, none⟩ = some _ ∧ _›
        go_wp2_with fail
        go_roundw
        case rel => exact ⟨k + 1, by omega, by go_num, Lib.hid hx1, hx0, hx2⟩
        case measure => simp [intOf]; omega
      · go_wp2_with (go_at_call 5; refine (HGO2.out _ hbl.out).mono ?_; rintro e w2 ⟨rfl, hb2⟩)
        go_ret
        exact ⟨rfl, hb2⟩

end Go.Proofs.YtnkidmnddkmilaaGreatDoor
