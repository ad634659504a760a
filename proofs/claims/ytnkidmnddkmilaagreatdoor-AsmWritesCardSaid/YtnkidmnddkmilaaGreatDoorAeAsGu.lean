/-
  Which handlers are right.
-/
import Derived.Test.YtnkidmnddkmilaaGreatDoorAeAsInsB
namespace Go.Proofs.YtnkidmnddkmilaaGreatDoor
open Go.RowKit
set_option maxRecDepth 100000

/-- a handler is right -/
def guB (c : CodeL) (g : GuL) : Bool := decide (0 ≤ g.f ∧ g.f < g.t ∧ g.t ≤ (c.ins.length : Int)) && (opndB c 106 g.g && opndB c 114 g.r)

set_option maxHeartbeats 4000000 in
theorem gu_aux (s : ByteArray) (k l r : Int) (ai : Option Addr) (li ci : Nat) (vp vk vg : Value) (f t g q : Int) (b1 b2 : Bool) (hf : inI f) (ht : inI t) (_hli : li ≤ 1499) (w : World)
    (r1 : ∀ w', Below w.heap.size w w' → Calls Tryz.prog 69 #[.agg #[.string s, .int .i64 k, .int .i64 l, .int .i64 r, .slice ai li ci, vp, vk, vg], .int .u8 106, .int .i64 g] w' fun e w'' => e = .returned (.bool b1) ∧ Below w'.heap.size w' w'')
    (r2 : ∀ w', Below w.heap.size w w' → Calls Tryz.prog 69 #[.agg #[.string s, .int .i64 k, .int .i64 l, .int .i64 r, .slice ai li ci, vp, vk, vg], .int .u8 114, .int .i64 q] w' fun e w'' => e = .returned (.bool b2) ∧ Below w'.heap.size w' w'') :
    Calls Tryz.prog 39 #[.agg #[.string s, .int .i64 k, .int .i64 l, .int .i64 r, .slice ai li ci, vp, vk, vg], .agg #[.int .i64 f, .int .i64 t, .int .i64 g, .int .i64 q]] w fun e w' => e = .returned (.bool (decide (0 ≤ f ∧ f < t ∧ t ≤ (li : Int)) && (b1 && b2))) ∧ Below w.heap.size w w' := by
  obtain ⟨f0, f1⟩ := hf
  obtain ⟨t0, t1⟩ := ht
  have hb0 : Below w.heap.size w ((w.alloc (.cells #[.string s, .int .i64 k, .int .i64 l, .int .i64 r, .slice ai li ci, vp, vk, vg] 36)).alloc (.cells #[.int .i64 f, .int .i64 t, .int .i64 g, .int .i64 q] 61)) := ((Below.refl _ _).alloc (Nat.le_refl _) _).alloc (by simp) _
  by_cases h : 0 ≤ f ∧ f < t ∧ t ≤ (li : Int)
  · rw [decide_eq_true h, Bool.true_and]
    obtain ⟨a1, a2, a3⟩ := h
    have HR1 := Lib.hid r1
    have HR2 := Lib.hid r2
    have HB0 := Lib.hid hb0
    clear r1 r2 hb0
    cases b1
    · go_enter Tryz.func39, Tryz.ntmps39
      go_wp2_with (go_at_call 69; refine (HR1.out _ HB0.out).mono ?_; rintro e w1 ⟨rfl, hb1⟩)
      go_ret
      exact ⟨rfl, HB0.out.trans (hb1.mono HB0.out.size)⟩
    · go_enter Tryz.func39, Tryz.ntmps39
      go_wp2_with (go_at_call 69; ((with_reducible refine (HR1.out _ HB0.out).mono ?_); rintro e w1 ⟨rfl, hb1⟩; obtain ⟨hcc, hff⟩ := bcell hb1))
      have HBA := Lib.hid (HB0.out.trans (hb1.mono HB0.out.size))
      clear hb1
      go_wp2_with (go_at_call 69; ((with_reducible refine (HR2.out _ HBA.out).mono ?_); rintro e w2 ⟨rfl, hb2⟩))
      all_goals
        go_ret
        exact ⟨rfl, HBA.out.trans (hb2.mono HBA.out.size)⟩
  · rw [decide_eq_false h, Bool.false_and]
    by_cases c1 : 0 ≤ f
    · by_cases c2 : f < t
      · have c3 : (li : Int) < t := by omega
        clear h
        go_enter Tryz.func39, Tryz.ntmps39
        go_wp2
        go_ret
        exact ⟨rfl, hb0⟩
      · have c3 : t ≤ f := by omega
        have c4 : decide (f < t) = false := by simpa using c2
        clear h c2
        go_enter Tryz.func39, Tryz.ntmps39
        go_wp2
        go_ret
        exact ⟨rfl, hb0⟩
    · have c3 : decide (0 ≤ f) = false := by simpa using c1
      have c4 : f < 0 := by omega
      clear h c1
      go_enter Tryz.func39, Tryz.ntmps39
      go_wp2
      go_ret
      exact ⟨rfl, hb0⟩

theorem gu_ret (c : CodeL) (B : Nat) (vi vp vk vg : Value) (hw : Few c) (h0 : 0 ≤ c.regs) (h1 : c.regs ≤ 4096) (g : GuL) (hg : inI g.f ∧ inI g.t ∧ inI g.g ∧ inI g.r) (w : World) (hB : B ≤ w.heap.size) (hc : CodeAt w B c vi vp vk vg) :
    Calls Tryz.prog 39 #[.agg #[.string c.name, .int .i64 c.kind, .int .i64 c.len, .int .i64 c.regs, vi, vp, vk, vg], .agg #[.int .i64 g.f, .int .i64 g.t, .int .i64 g.g, .int .i64 g.r]] w fun e w' => e = .returned (.bool (guB c g)) ∧ Below w.heap.size w w' := by
  have R : ∀ (x n : Int), (x = 45 ∨ isSign x) → inI n → ∀ w', Below w.heap.size w w' → Calls Tryz.prog 69 #[.agg #[.string c.name, .int .i64 c.kind, .int .i64 c.len, .int .i64 c.regs, vi, vp, vk, vg], .int .u8 x, .int .i64 n] w' fun e w'' => e = .returned (.bool (opndB c x n)) ∧ Below w'.heap.size w' w'' :=
    fun x n hx hn w' hbw => opnd_ret 69 (Or.inl rfl) c B vi vp vk vg hw h0 h1 _ n hx hn w' (hc.below (hbw.mono hB))
  have r1 := R 106 g.g (Or.inr (by unfold isSign; omega)) hg.2.2.1
  have r2 := R 114 g.r (Or.inr (by unfold isSign; omega)) hg.2.2.2
  obtain ⟨ai, ci, rfl⟩ := hc.ins.slice
  have hl := hw.ins
  rw [List.length_map] at *
  exact gu_aux _ _ _ _ _ _ _ _ _ _ g.f g.t g.g g.r _ _ hg.1 hg.2.1 hl w r1 r2

end Go.Proofs.YtnkidmnddkmilaaGreatDoor
