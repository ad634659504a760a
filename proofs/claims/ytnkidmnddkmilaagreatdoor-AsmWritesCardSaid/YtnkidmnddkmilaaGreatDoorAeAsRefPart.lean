/-
  Operands as text: the reference.
-/
import Derived.Test.YtnkidmnddkmilaaGreatDoorAeAsPart
import Derived.Laws.BitsLemmas
namespace Go.Proofs.YtnkidmnddkmilaaGreatDoor
open Go.RowKit
set_option maxRecDepth 100000

theorem i64_and1 (n : Int) : bits .and .i64 n 1 = n % 2 := by
  have h1 : (BitVec.ofInt 64 1).toNat = 2 ^ 1 - 1 := by decide
  have key : (BitVec.ofInt 64 n &&& BitVec.ofInt 64 1).toNat = (n % ((2 ^ 64 : Nat) : Int)).toNat % 2 ^ 1 := by
    rw [BitVec.toNat_and, BitVec.toNat_ofInt, h1, Nat.and_two_pow_sub_one_eq_mod]
  show IntKind.i64.wrap ((BitVec.ofInt 64 n &&& BitVec.ofInt 64 1).toNat : Nat) = n % 2
  rw [key, IntKind.wrap_i64]
  omega
theorem i64_and3 (n : Int) : bits .and .i64 n 3 = n % 4 := by
  have h1 : (BitVec.ofInt 64 3).toNat = 2 ^ 2 - 1 := by decide
  have key : (BitVec.ofInt 64 n &&& BitVec.ofInt 64 3).toNat = (n % ((2 ^ 64 : Nat) : Int)).toNat % 2 ^ 2 := by
    rw [BitVec.toNat_and, BitVec.toNat_ofInt, h1, Nat.and_two_pow_sub_one_eq_mod]
  show IntKind.i64.wrap ((BitVec.ofInt 64 n &&& BitVec.ofInt 64 3).toNat : Nat) = n % 4
  rw [key, IntKind.wrap_i64]
  omega

set_option maxHeartbeats 1000000 in
theorem rpart_t0 (n : Int) (hn : inI n) (hb : bits .and .i64 n 3 = 0) (w : World) : Calls Tryz.prog 57 #[.int .u8 116, .int .i64 n] w fun e w' => e = .returned (.string (bs (32 :: 114 :: (Lib.itoa (n / 4) ++ [])))) ∧ Below w.heap.size w w' := by
  have hn4 := inI_div hn (Or.inr rfl)
  have s0 := itoa_size (n / 4) hn4
  have l0 : ¬ (9223372036854775807 < 2 + (bs (Lib.itoa (n / 4))).size) := by omega
  have l1 : ¬ (9223372036854775807 < 2 + (bs (Lib.itoa (n / 4))).size + 1) := by omega
  obtain ⟨h0, h1⟩ := hn
  have hbl : Below w.heap.size w w.drew := (Below.refl _ _).drew
  go_enter Tryz.func57, Tryz.ntmps57
  go_wp2_with (fail)
  go_region_with (first | (go_at_call 82; refine (digits_ret _ (by assumption) _).mono ?_; rintro e w2 ⟨rfl, hsz, hbel⟩; obtain ⟨hc, hf⟩ := bcell hbel))
  all_goals
    go_wp2
    go_ret
    refine ⟨ret_str ?_, by first | exact (hbl.trans (hbel.mono hbl.size)).alloc (Nat.le_trans hbl.size hbel.size) _ | exact (hbl.alloc hbl.size _).trans (hbel.mono (hbl.alloc hbl.size _).size)⟩
    show bs [32, 114] ++ bs _ ++ bs [] = _
    simp only [bs_append]
    rfl

set_option maxHeartbeats 1000000 in
theorem rpart_t1 (n : Int) (hn : inI n) (hb : bits .and .i64 n 3 = 1) (w : World) : Calls Tryz.prog 57 #[.int .u8 116, .int .i64 n] w fun e w' => e = .returned (.string (bs (32 :: 114 :: (Lib.itoa (n / 4) ++ [60])))) ∧ Below w.heap.size w w' := by
  have hn4 := inI_div hn (Or.inr rfl)
  have s0 := itoa_size (n / 4) hn4
  have l0 : ¬ (9223372036854775807 < 2 + (bs (Lib.itoa (n / 4))).size) := by omega
  have l1 : ¬ (9223372036854775807 < 2 + (bs (Lib.itoa (n / 4))).size + 1) := by omega
  obtain ⟨h0, h1⟩ := hn
  have hbl : Below w.heap.size w w.drew := (Below.refl _ _).drew
  go_enter Tryz.func57, Tryz.ntmps57
  go_wp2_with (fail)
  go_region_with (first | (go_at_call 82; refine (digits_ret _ (by assumption) _).mono ?_; rintro e w2 ⟨rfl, hsz, hbel⟩; obtain ⟨hc, hf⟩ := bcell hbel))
  all_goals
    go_wp2
    go_ret
    refine ⟨ret_str ?_, by first | exact (hbl.trans (hbel.mono hbl.size)).alloc (Nat.le_trans hbl.size hbel.size) _ | exact (hbl.alloc hbl.size _).trans (hbel.mono (hbl.alloc hbl.size _).size)⟩
    show bs [32, 114] ++ bs _ ++ bs [60] = _
    simp only [bs_append]
    rfl

set_option maxHeartbeats 1000000 in
theorem rpart_t2 (n : Int) (hn : inI n) (hb : bits .and .i64 n 3 = 2) (w : World) : Calls Tryz.prog 57 #[.int .u8 116, .int .i64 n] w fun e w' => e = .returned (.string (bs (32 :: 114 :: (Lib.itoa (n / 4) ++ [62])))) ∧ Below w.heap.size w w' := by
  have hn4 := inI_div hn (Or.inr rfl)
  have s0 := itoa_size (n / 4) hn4
  have l0 : ¬ (9223372036854775807 < 2 + (bs (Lib.itoa (n / 4))).size) := by omega
  have l1 : ¬ (9223372036854775807 < 2 + (bs (Lib.itoa (n / 4))).size + 1) := by omega
  obtain ⟨h0, h1⟩ := hn
  have hbl : Below w.heap.size w w.drew := (Below.refl _ _).drew
  go_enter Tryz.func57, Tryz.ntmps57
  go_wp2_with (fail)
  go_region_with (first | (go_at_call 82; refine (digits_ret _ (by assumption) _).mono ?_; rintro e w2 ⟨rfl, hsz, hbel⟩; obtain ⟨hc, hf⟩ := bcell hbel))
  all_goals
    go_wp2
    go_ret
    refine ⟨ret_str ?_, by first | exact (hbl.trans (hbel.mono hbl.size)).alloc (Nat.le_trans hbl.size hbel.size) _ | exact (hbl.alloc hbl.size _).trans (hbel.mono (hbl.alloc hbl.size _).size)⟩
    show bs [32, 114] ++ bs _ ++ bs [62] = _
    simp only [bs_append]
    rfl

set_option maxHeartbeats 1000000 in
theorem rpart_t3 (n : Int) (hn : inI n) (hb : bits .and .i64 n 3 = 3) (w : World) : Calls Tryz.prog 57 #[.int .u8 116, .int .i64 n] w fun e w' => e = .returned (.string (bs (32 :: 114 :: (Lib.itoa (n / 4) ++ [63])))) ∧ Below w.heap.size w w' := by
  have hn4 := inI_div hn (Or.inr rfl)
  have s0 := itoa_size (n / 4) hn4
  have l0 : ¬ (9223372036854775807 < 2 + (bs (Lib.itoa (n / 4))).size) := by omega
  have l1 : ¬ (9223372036854775807 < 2 + (bs (Lib.itoa (n / 4))).size + 1) := by omega
  obtain ⟨h0, h1⟩ := hn
  have hbl : Below w.heap.size w w.drew := (Below.refl _ _).drew
  go_enter Tryz.func57, Tryz.ntmps57
  go_wp2_with (fail)
  go_region_with (first | (go_at_call 82; refine (digits_ret _ (by assumption) _).mono ?_; rintro e w2 ⟨rfl, hsz, hbel⟩; obtain ⟨hc, hf⟩ := bcell hbel))
  all_goals
    go_wp2
    go_ret
    refine ⟨ret_str ?_, by first | exact (hbl.trans (hbel.mono hbl.size)).alloc (Nat.le_trans hbl.size hbel.size) _ | exact (hbl.alloc hbl.size _).trans (hbel.mono (hbl.alloc hbl.size _).size)⟩
    show bs [32, 114] ++ bs _ ++ bs [63] = _
    simp only [bs_append]
    rfl

set_option maxHeartbeats 1000000 in
theorem rpart_q1 (n : Int) (hn : inI n) (hb : bits .and .i64 n 1 = 1) (w : World) : Calls Tryz.prog 57 #[.int .u8 113, .int .i64 n] w fun e w' => e = .returned (.string (bs (32 :: 114 :: (Lib.itoa (n / 2) ++ [33])))) ∧ Below w.heap.size w w' := by
  have hn4 := inI_div hn (Or.inl rfl)
  obtain ⟨h0, h1⟩ := hn
  go_enter Tryz.func57, Tryz.ntmps57
  go_wp2_with (go_at_call 82; refine (digits_ret _ (by assumption) _).mono ?_; rintro e w2 ⟨rfl, hsz, hbel⟩)
  go_ret
  refine ⟨ret_str ?_, by assumption⟩
  show bs [32, 114] ++ bs _ ++ bs [33] = _
  simp only [bs_append]
  rfl

set_option maxHeartbeats 1000000 in
theorem rpart_q0 (n : Int) (hn : inI n) (hb : bits .and .i64 n 1 = 0) (w : World) : Calls Tryz.prog 57 #[.int .u8 113, .int .i64 n] w fun e w' => e = .returned (.string (bs (32 :: 114 :: (Lib.itoa (n / 2) ++ [])))) ∧ Below w.heap.size w w' := by
  have hn4 := inI_div hn (Or.inl rfl)
  obtain ⟨h0, h1⟩ := hn
  go_enter Tryz.func57, Tryz.ntmps57
  go_wp2_with (go_at_call 82; refine (digits_ret _ (by assumption) _).mono ?_; rintro e w2 ⟨rfl, hsz, hbel⟩)
  go_ret
  refine ⟨ret_str ?_, by assumption⟩
  rw [List.append_nil]
  show bs [32, 114] ++ bs _ = _
  simp only [bs_append]
  rfl

set_option maxHeartbeats 1000000 in
theorem rpart_114 (n : Int) (hn : inI n) (w : World) : Calls Tryz.prog 57 #[.int .u8 114, .int .i64 n] w fun e w' => e = .returned (.string (bs (32 :: 114 :: Lib.itoa n))) ∧ Below w.heap.size w w' := by
  go_enter Tryz.func57, Tryz.ntmps57
  go_wp2_with (go_at_call 82; refine (digits_ret n hn _).mono ?_; rintro e w1 ⟨rfl, hsz, hbel⟩)
  go_ret
  exact ⟨ret_str (bs_append [32, 114] _), hbel⟩

set_option maxHeartbeats 1000000 in
theorem rpart_100 (n : Int) (hn : inI n) (w : World) : Calls Tryz.prog 57 #[.int .u8 100, .int .i64 n] w fun e w' => e = .returned (.string (bs (32 :: 114 :: Lib.itoa n))) ∧ Below w.heap.size w w' := by
  go_enter Tryz.func57, Tryz.ntmps57
  go_wp2_with (go_at_call 82; refine (digits_ret n hn _).mono ?_; rintro e w1 ⟨rfl, hsz, hbel⟩)
  go_ret
  exact ⟨ret_str (bs_append [32, 114] _), hbel⟩

set_option maxHeartbeats 1000000 in
theorem rpart_112 (n : Int) (hn : inI n) (w : World) : Calls Tryz.prog 57 #[.int .u8 112, .int .i64 n] w fun e w' => e = .returned (.string (bs (32 :: 99 :: Lib.itoa n))) ∧ Below w.heap.size w w' := by
  go_enter Tryz.func57, Tryz.ntmps57
  go_wp2_with (go_at_call 82; refine (digits_ret n hn _).mono ?_; rintro e w1 ⟨rfl, hsz, hbel⟩)
  go_ret
  exact ⟨ret_str (bs_append [32, 99] _), hbel⟩

set_option maxHeartbeats 1000000 in
theorem rpart_111 (n : Int) (hn : inI n) (w : World) : Calls Tryz.prog 57 #[.int .u8 111, .int .i64 n] w fun e w' => e = .returned (.string (bs (32 :: 99 :: Lib.itoa n))) ∧ Below w.heap.size w w' := by
  go_enter Tryz.func57, Tryz.ntmps57
  go_wp2_with (go_at_call 82; refine (digits_ret n hn _).mono ?_; rintro e w1 ⟨rfl, hsz, hbel⟩)
  go_ret
  exact ⟨ret_str (bs_append [32, 99] _), hbel⟩

set_option maxHeartbeats 1000000 in
theorem rpart_107 (n : Int) (hn : inI n) (w : World) : Calls Tryz.prog 57 #[.int .u8 107, .int .i64 n] w fun e w' => e = .returned (.string (bs (32 :: 107 :: Lib.itoa n))) ∧ Below w.heap.size w w' := by
  go_enter Tryz.func57, Tryz.ntmps57
  go_wp2_with (go_at_call 82; refine (digits_ret n hn _).mono ?_; rintro e w1 ⟨rfl, hsz, hbel⟩)
  go_ret
  exact ⟨ret_str (bs_append [32, 107] _), hbel⟩

set_option maxHeartbeats 1000000 in
theorem rpart_103 (n : Int) (hn : inI n) (w : World) : Calls Tryz.prog 57 #[.int .u8 103, .int .i64 n] w fun e w' => e = .returned (.string (bs (32 :: 107 :: Lib.itoa n))) ∧ Below w.heap.size w w' := by
  go_enter Tryz.func57, Tryz.ntmps57
  go_wp2_with (go_at_call 82; refine (digits_ret n hn _).mono ?_; rintro e w1 ⟨rfl, hsz, hbel⟩)
  go_ret
  exact ⟨ret_str (bs_append [32, 107] _), hbel⟩

set_option maxHeartbeats 1000000 in
theorem rpart_102 (n : Int) (hn : inI n) (w : World) : Calls Tryz.prog 57 #[.int .u8 102, .int .i64 n] w fun e w' => e = .returned (.string (bs (32 :: 102 :: Lib.itoa n))) ∧ Below w.heap.size w w' := by
  go_enter Tryz.func57, Tryz.ntmps57
  go_wp2_with (go_at_call 82; refine (digits_ret n hn _).mono ?_; rintro e w1 ⟨rfl, hsz, hbel⟩)
  go_ret
  exact ⟨ret_str (bs_append [32, 102] _), hbel⟩

set_option maxHeartbeats 1000000 in
theorem rpart_106 (n : Int) (hn : inI n) (w : World) : Calls Tryz.prog 57 #[.int .u8 106, .int .i64 n] w fun e w' => e = .returned (.string (bs (32 :: 64 :: Lib.itoa n))) ∧ Below w.heap.size w w' := by
  go_enter Tryz.func57, Tryz.ntmps57
  go_wp2_with (go_at_call 82; refine (digits_ret n hn _).mono ?_; rintro e w1 ⟨rfl, hsz, hbel⟩)
  go_ret
  exact ⟨ret_str (bs_append [32, 64] _), hbel⟩

set_option maxHeartbeats 1000000 in
theorem rpart_110 (n : Int) (hn : inI n) (w : World) : Calls Tryz.prog 57 #[.int .u8 110, .int .i64 n] w fun e w' => e = .returned (.string (bs (32 :: Lib.itoa n))) ∧ Below w.heap.size w w' := by
  go_enter Tryz.func57, Tryz.ntmps57
  go_wp2_with (go_at_call 82; refine (digits_ret n hn _).mono ?_; rintro e w1 ⟨rfl, hsz, hbel⟩)
  go_ret
  exact ⟨ret_str (bs_append [32] _), hbel⟩

set_option maxHeartbeats 1000000 in
theorem rpart_97 (n : Int) (hn : inI n) (w : World) : Calls Tryz.prog 57 #[.int .u8 97, .int .i64 n] w fun e w' => e = .returned (.string (bs (32 :: Lib.itoa n))) ∧ Below w.heap.size w w' := by
  go_enter Tryz.func57, Tryz.ntmps57
  go_wp2_with (go_at_call 82; refine (digits_ret n hn _).mono ?_; rintro e w1 ⟨rfl, hsz, hbel⟩)
  go_ret
  exact ⟨ret_str (bs_append [32] _), hbel⟩

set_option maxHeartbeats 1000000 in
theorem rpart_98 (n : Int) (hn : inI n) (w : World) : Calls Tryz.prog 57 #[.int .u8 98, .int .i64 n] w fun e w' => e = .returned (.string (bs (32 :: Lib.itoa n))) ∧ Below w.heap.size w w' := by
  go_enter Tryz.func57, Tryz.ntmps57
  go_wp2_with (go_at_call 82; refine (digits_ret n hn _).mono ?_; rintro e w1 ⟨rfl, hsz, hbel⟩)
  go_ret
  exact ⟨ret_str (bs_append [32] _), hbel⟩

theorem rpart_none (n : Int) (w : World) : Calls Tryz.prog 57 #[.int .u8 45, .int .i64 n] w fun e w' => e = .returned (.string (bs [])) ∧ Below w.heap.size w w' := by
  go_enter Tryz.func57, Tryz.ntmps57
  go_wp2
  go_ret
  exact ⟨rfl, Below.refl _ _⟩

theorem rpart_ret (g n : Int) (hg : isSign g) (hn : inI n) (w : World) : Calls Tryz.prog 57 #[.int .u8 g, .int .i64 n] w fun e w' => e = .returned (.string (bs (32 :: partL g n))) ∧ Below w.heap.size w w' := by
  rcases hg with rfl | rfl | rfl | rfl | rfl | rfl | rfl | rfl | rfl | rfl | rfl | rfl | rfl
  · exact rpart_114 n hn w
  · exact rpart_100 n hn w
  · show Calls Tryz.prog 57 _ w fun e w' => e = .returned (.string (bs (32 :: 114 :: (Lib.itoa (n / 2) ++ if n % 2 = 1 then [33] else [])))) ∧ _
    by_cases hr : n % 2 = 1
    · rw [if_pos hr]
      exact rpart_q1 n hn (by rw [i64_and1]; exact hr) w
    · rw [if_neg hr]
      exact rpart_q0 n hn (by rw [i64_and1]; omega) w
  · show Calls Tryz.prog 57 _ w fun e w' => e = .returned (.string (bs (32 :: 114 :: (Lib.itoa (n / 4) ++ sufT (n % 4))))) ∧ _
    by_cases h1 : n % 4 = 1
    · rw [h1]; exact rpart_t1 n hn (by rw [i64_and3]; exact h1) w
    by_cases h2 : n % 4 = 2
    · rw [h2]; exact rpart_t2 n hn (by rw [i64_and3]; exact h2) w
    by_cases h3 : n % 4 = 3
    · rw [h3]; exact rpart_t3 n hn (by rw [i64_and3]; exact h3) w
    have h0 : n % 4 = 0 := by omega
    rw [h0]; exact rpart_t0 n hn (by rw [i64_and3]; exact h0) w
  · exact rpart_112 n hn w
  · exact rpart_111 n hn w
  · exact rpart_107 n hn w
  · exact rpart_103 n hn w
  · exact rpart_102 n hn w
  · exact rpart_106 n hn w
  · exact rpart_110 n hn w
  · exact rpart_97 n hn w
  · exact rpart_98 n hn w

end Go.Proofs.YtnkidmnddkmilaaGreatDoor
