/-
  Which keys are right.
-/
import Derived.Test.YtnkidmnddkmilaaGreatDoorAeAsKey
namespace Go.Proofs.YtnkidmnddkmilaaGreatDoor
open Go.RowKit
set_option maxRecDepth 100000

def KeyOk (k n : Int) (s : ByteArray) : Prop := (k = 0 ∧ s.size = 0 ∧ 0 ≤ n ∧ n ≤ 4294967294) ∨ (k = 1 ∧ n = 0 ∧ idxF s = none) ∨ (k = 2 ∧ s.size = 0 ∧ 1 ≤ n)
instance (k n : Int) (s : ByteArray) : Decidable (KeyOk k n s) := by unfold KeyOk; infer_instance
def keyB (k n : Int) (s : ByteArray) : Bool := decide (KeyOk k n s)

theorem idxV_cases (s : ByteArray) : (idxF s = none ∧ idxV s = .tuple #[.int .i64 0, .bool false]) ∨ ∃ m, idxF s = some m ∧ idxV s = .tuple #[.int .i64 m, .bool true] := by
  unfold idxV
  cases h : idxF s with
  | none => exact Or.inl ⟨rfl, rfl⟩
  | some m => exact Or.inr ⟨m, rfl, rfl⟩

theorem empty_or (s : ByteArray) : s = ⟨#[]⟩ ∨ (s.toList.isEmpty = false ∧ s.size ≠ 0) := by
  by_cases h0 : s.size = 0
  · left
    apply ByteArray.ext
    exact Array.eq_empty_of_size_eq_zero h0
  · right
    refine ⟨?_, h0⟩
    rw [ByteArray.toList_eq]
    cases h : s.data.toList with
    | nil => exact absurd (by rw [← Array.length_toList, h]; rfl : s.data.size = 0) h0
    | cons => rfl

theorem empty_size : (⟨#[]⟩ : ByteArray).size = 0 := rfl

theorem keyB_of {k n : Int} {s : ByteArray} {b : Bool} (h : b = true ↔ KeyOk k n s) : b = keyB k n s := by
  unfold keyB
  rw [Bool.eq_iff_iff, decide_eq_true_eq]
  exact h

set_option maxHeartbeats 2000000 in
theorem keyRight (k n : Int) (s : ByteArray) (hs : s.size ≤ 1499) (w : World) : Calls Tryz.prog 33 #[.agg #[.int .i64 k, .int .i64 n, .string s]] w fun e w' => e = .returned (.bool (keyB k n s)) ∧ Below w.heap.size w w' := by
  have hb0 : ∀ ob, Below w.heap.size w (w.alloc ob) := fun ob => (Below.refl _ _).alloc (Nat.le_refl _) ob
  have hs2 : (s.size : Int) ≤ 1499 := by omega
  by_cases k1 : k = 1
  · subst k1
    rcases idxV_cases s with ⟨hi, hv⟩ | ⟨m, hi, hv⟩
    · have hc : ∀ w, Calls Tryz.prog 66 #[.string s] w fun e w' => e = .returned (.tuple #[.int .i64 0, .bool false]) ∧ w = w' := fun w => (index_ret s hs w).mono fun e w' he => ⟨by rw [he.1, hv], he.2⟩
      have HI := Lib.hid hi
      clear hi hv
      go_enter Tryz.func33, Tryz.ntmps33
      go_wp2_with (go_at_call 66; refine (hc _).mono ?_; rintro e w' ⟨rfl, rfl⟩)
      all_goals
        go_ret
        refine ⟨ret_bool (keyB_of ?_), hb0 _⟩
        have hi := HI.out
        unfold KeyOk
        first
          | (simp [hi]; done)
          | (simp [hi]; omega)
    · have hc : ∀ w, Calls Tryz.prog 66 #[.string s] w fun e w' => e = .returned (.tuple #[.int .i64 m, .bool true]) ∧ w = w' := fun w => (index_ret s hs w).mono fun e w' he => ⟨by rw [he.1, hv], he.2⟩
      have HI := Lib.hid hi
      clear hi hv
      go_enter Tryz.func33, Tryz.ntmps33
      go_wp2_with (go_at_call 66; refine (hc _).mono ?_; rintro e w' ⟨rfl, rfl⟩)
      all_goals
        go_ret
        refine ⟨ret_bool (keyB_of ?_), hb0 _⟩
        have hi := HI.out
        unfold KeyOk
        first
          | (simp [hi]; done)
          | (simp [hi]; omega)
  have e1 : (k == 1) = false := by simpa using k1
  by_cases k0 : k = 0
  · subst k0
    rcases empty_or s with rfl | ⟨hne, hs0⟩
    all_goals
      go_enter Tryz.func33, Tryz.ntmps33
      go_wp2
      all_goals
        go_ret
        refine ⟨ret_bool (keyB_of ?_), hb0 _⟩
        unfold KeyOk
        first
          | (simp [empty_size]; done)
          | (simp [empty_size]; omega)
          | (simp [hs0]; done)
  have e0 : (k == 0) = false := by simpa using k0
  by_cases k2 : k = 2
  · subst k2
    rcases empty_or s with rfl | ⟨hne, hs0⟩
    all_goals
      go_enter Tryz.func33, Tryz.ntmps33
      go_wp2
      all_goals
        go_ret
        refine ⟨ret_bool (keyB_of ?_), hb0 _⟩
        unfold KeyOk
        first
          | (simp [empty_size]; done)
          | (simp; omega)
          | (simp [hs0]; done)
  have e2 : (k == 2) = false := by simpa using k2
  have K : Hid (¬ KeyOk k n s) := Lib.hid (by unfold KeyOk; omega)
  clear k0 k1 k2
  go_enter Tryz.func33, Tryz.ntmps33
  go_wp2
  go_ret
  exact ⟨ret_bool (keyB_of (Iff.intro (fun h => Bool.noConfusion h) (fun h => absurd h K.out))), hb0 _⟩

set_option maxHeartbeats 2000000 in
theorem rkeyRight (k n : Int) (s : ByteArray) (hs : s.size ≤ 1499) (w : World) : Calls Tryz.prog 49 #[.agg #[.int .i64 k, .int .i64 n, .string s]] w fun e w' => e = .returned (.bool (keyB k n s)) ∧ Below w.heap.size w w' := by
  have hb0 : ∀ ob, Below w.heap.size w (w.alloc ob) := fun ob => (Below.refl _ _).alloc (Nat.le_refl _) ob
  have hs2 : (s.size : Int) ≤ 1499 := by omega
  by_cases k1 : k = 1
  · subst k1
    rcases idxV_cases s with ⟨hi, hv⟩ | ⟨m, hi, hv⟩
    · have hc : ∀ w, Calls Tryz.prog 79 #[.string s] w fun e w' => e = .returned (.tuple #[.int .i64 0, .bool false]) ∧ w = w' := fun w => (rindex_ret s hs w).mono fun e w' he => ⟨by rw [he.1, hv], he.2⟩
      have HI := Lib.hid hi
      clear hi hv
      go_enter Tryz.func49, Tryz.ntmps49
      go_wp2_with (go_at_call 79; refine (hc _).mono ?_; rintro e w' ⟨rfl, rfl⟩)
      all_goals
        go_ret
        refine ⟨ret_bool (keyB_of ?_), hb0 _⟩
        have hi := HI.out
        unfold KeyOk
        first
          | (simp [hi]; done)
          | (simp [hi]; omega)
    · have hc : ∀ w, Calls Tryz.prog 79 #[.string s] w fun e w' => e = .returned (.tuple #[.int .i64 m, .bool true]) ∧ w = w' := fun w => (rindex_ret s hs w).mono fun e w' he => ⟨by rw [he.1, hv], he.2⟩
      have HI := Lib.hid hi
      clear hi hv
      go_enter Tryz.func49, Tryz.ntmps49
      go_wp2_with (go_at_call 79; refine (hc _).mono ?_; rintro e w' ⟨rfl, rfl⟩)
      all_goals
        go_ret
        refine ⟨ret_bool (keyB_of ?_), hb0 _⟩
        have hi := HI.out
        unfold KeyOk
        first
          | (simp [hi]; done)
          | (simp [hi]; omega)
  have e1 : (k == 1) = false := by simpa using k1
  by_cases k0 : k = 0
  · subst k0
    rcases empty_or s with rfl | ⟨hne, hs0⟩
    all_goals
      go_enter Tryz.func49, Tryz.ntmps49
      go_wp2
      all_goals
        go_ret
        refine ⟨ret_bool (keyB_of ?_), hb0 _⟩
        unfold KeyOk
        first
          | (simp [empty_size]; done)
          | (simp [empty_size]; omega)
          | (simp [hs0]; done)
  have e0 : (k == 0) = false := by simpa using k0
  by_cases k2 : k = 2
  · subst k2
    rcases empty_or s with rfl | ⟨hne, hs0⟩
    all_goals
      go_enter Tryz.func49, Tryz.ntmps49
      go_wp2
      all_goals
        go_ret
        refine ⟨ret_bool (keyB_of ?_), hb0 _⟩
        unfold KeyOk
        first
          | (simp [empty_size]; done)
          | (simp [empty_size]; omega)
          | (simp [hs0]; done)
  have e2 : (k == 2) = false := by simpa using k2
  have K : Hid (¬ KeyOk k n s) := Lib.hid (by unfold KeyOk; omega)
  clear k0 k1 k2
  go_enter Tryz.func49, Tryz.ntmps49
  go_wp2
  go_ret
  exact ⟨ret_bool (keyB_of (Iff.intro (fun h => Bool.noConfusion h) (fun h => absurd h K.out))), hb0 _⟩

end Go.Proofs.YtnkidmnddkmilaaGreatDoor
