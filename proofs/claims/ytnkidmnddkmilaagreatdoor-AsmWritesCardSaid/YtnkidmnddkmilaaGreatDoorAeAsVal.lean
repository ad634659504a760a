/-
  Which constants are right.
-/
import Derived.Test.YtnkidmnddkmilaaGreatDoorAeAsKeyR
namespace Go.Proofs.YtnkidmnddkmilaaGreatDoor
open Go.RowKit
set_option maxRecDepth 100000

def ValOk (k n : Int) (s : ByteArray) : Prop := (k = 5 ∧ n = 0) ∨ (k = 2 ∧ s.size = 0 ∧ 0 ≤ n ∧ n ≤ 1) ∨ (k = 3 ∧ s.size = 0 ∧ -9007199254740992 ≤ n ∧ n ≤ 9007199254740992) ∨ ((k = 0 ∨ k = 1 ∨ k = 4 ∨ k = 8) ∧ s.size = 0 ∧ n = 0)
instance (k n : Int) (s : ByteArray) : Decidable (ValOk k n s) := by unfold ValOk; infer_instance
def valB (k n : Int) (s : ByteArray) : Bool := decide (ValOk k n s)
theorem valB_of {k n : Int} {s : ByteArray} {b : Bool} (h : b = true ↔ ValOk k n s) : b = valB k n s := by
  unfold valB
  rw [Bool.eq_iff_iff, decide_eq_true_eq]
  exact h

set_option maxHeartbeats 4000000 in
theorem val_ret (k n : Int) (s : ByteArray) (hs : s.size ≤ 1499) (w : World) : Calls Tryz.prog 31 #[.agg #[.int .i64 k, .int .i64 n, .string s]] w fun e w' => e = .returned (.bool (valB k n s)) ∧ Below w.heap.size w w' := by
  have hb0 : ∀ ob, Below w.heap.size w (w.alloc ob) := fun ob => (Below.refl _ _).alloc (Nat.le_refl _) ob
  have hs2 : (s.size : Int) ≤ 1499 := by omega
  by_cases hk : k = 5 ∨ k = 2 ∨ k = 3 ∨ k = 0 ∨ k = 1 ∨ k = 4 ∨ k = 8
  · rcases empty_or s with rfl | ⟨hne, hs0⟩
    all_goals
      rcases hk with rfl | rfl | rfl | rfl | rfl | rfl | rfl
      all_goals
        go_enter Tryz.func31, Tryz.ntmps31
        go_wp2
        all_goals
          go_ret
          refine ⟨ret_bool (valB_of ?_), hb0 _⟩
          unfold ValOk
          first
            | (simp [empty_size]; done)
            | (simp [empty_size]; omega)
            | (simp [hs0]; done)
            | (simp [hs0]; omega)
  · have K : Hid (¬ ValOk k n s) := Lib.hid (by unfold ValOk; omega)
    have n5 : (k == 5) = false := by simp; omega
    have n2 : (k == 2) = false := by simp; omega
    have n3 : (k == 3) = false := by simp; omega
    have n0 : (k == 0) = false := by simp; omega
    have n1 : (k == 1) = false := by simp; omega
    have n4 : (k == 4) = false := by simp; omega
    have n8 : (k == 8) = false := by simp; omega
    clear hk
    go_enter Tryz.func31, Tryz.ntmps31
    go_wp2
    all_goals
      go_ret
      exact ⟨ret_bool (valB_of (Iff.intro (fun h => by simp at h) (fun h => absurd h K.out))), hb0 _⟩

set_option maxHeartbeats 4000000 in
theorem rval_ret (k n : Int) (s : ByteArray) (hs : s.size ≤ 1499) (w : World) : Calls Tryz.prog 48 #[.agg #[.int .i64 k, .int .i64 n, .string s]] w fun e w' => e = .returned (.bool (valB k n s)) ∧ Below w.heap.size w w' := by
  have hb0 : ∀ ob, Below w.heap.size w (w.alloc ob) := fun ob => (Below.refl _ _).alloc (Nat.le_refl _) ob
  have hs2 : (s.size : Int) ≤ 1499 := by omega
  by_cases hk : k = 5 ∨ k = 2 ∨ k = 3 ∨ k = 0 ∨ k = 1 ∨ k = 4 ∨ k = 8
  · rcases empty_or s with rfl | ⟨hne, hs0⟩
    all_goals
      rcases hk with rfl | rfl | rfl | rfl | rfl | rfl | rfl
      all_goals
        go_enter Tryz.func48, Tryz.ntmps48
        go_wp2
        all_goals
          go_ret
          refine ⟨ret_bool (valB_of ?_), hb0 _⟩
          unfold ValOk
          first
            | (simp [empty_size]; done)
            | (simp [empty_size]; omega)
            | (simp [hs0]; done)
            | (simp [hs0]; omega)
  · have K : Hid (¬ ValOk k n s) := Lib.hid (by unfold ValOk; omega)
    have n5 : (k == 5) = false := by simp; omega
    have n2 : (k == 2) = false := by simp; omega
    have n3 : (k == 3) = false := by simp; omega
    have n0 : (k == 0) = false := by simp; omega
    have n1 : (k == 1) = false := by simp; omega
    have n4 : (k == 4) = false := by simp; omega
    have n8 : (k == 8) = false := by simp; omega
    clear hk
    go_enter Tryz.func48, Tryz.ntmps48
    go_wp2
    all_goals
      go_ret
      exact ⟨ret_bool (valB_of (Iff.intro (fun h => by simp at h) (fun h => absurd h K.out))), hb0 _⟩

end Go.Proofs.YtnkidmnddkmilaaGreatDoor
