/-
  Operands as text.
  Operands as text: the reference.
  Constants and keys as text.
  The map of the constants that are words.
  A constant of a text.
  strings.Builder.WriteString with what it leaves alone: every block but the builder's own and rows of bytes.
  Lines that are joined out of several texts in one statement.
  Which texts are indices: the program's key.Index, the reference's.
-/
import Derived.Test.YtfngechoipngmaaGreatDoorAeTxt1
import Derived.Laws.BitsLemmas
import Derived.Test.YtfngechoipngmaaGreatDoorAeTxt2
import Derived.MapKept
import Derived.Laws.Entries
import Derived.Carry
namespace Go.Proofs.YtfngechoipngmaaGreatDoor
open Go.RowKit
set_option maxRecDepth 100000

theorem tdiv_pos' {n : Int} (h : 0 ≤ n) (k : Int) : n.tdiv k = n / k := Int.tdiv_eq_ediv_of_nonneg h
theorem tmod_pos' {n : Int} (h : 0 ≤ n) (k : Int) : n.tmod k = n % k := Int.tmod_eq_emod_of_nonneg h
theorem tdiv_neg' {n : Int} (h : n < 0) (k : Int) : n.tdiv k = -((-n) / k) := by
  have := Int.neg_tdiv (-n) k
  rw [Int.neg_neg] at this
  rw [this, tdiv_pos' (by omega)]
theorem tmod_neg' {n : Int} (h : n < 0) (k : Int) : n.tmod k = -((-n) % k) := by
  have := Int.neg_tmod (-n) k
  rw [Int.neg_neg] at this
  rw [this, tmod_pos' (by omega)]

theorem floor_t2 (n : Int) : (n.tmod 2 < 0 → n.tdiv 2 - 1 = n / 2 ∧ n.tmod 2 + 2 = n % 2) ∧ (0 ≤ n.tmod 2 → n.tdiv 2 = n / 2 ∧ n.tmod 2 = n % 2) := by
  by_cases h : n < 0
  · rw [tdiv_neg' h, tmod_neg' h]; omega
  · rw [tdiv_pos' (by omega), tmod_pos' (by omega)]; omega
theorem floor_t4 (n : Int) : (n.tmod 4 < 0 → n.tdiv 4 - 1 = n / 4 ∧ n.tmod 4 + 4 = n % 4) ∧ (0 ≤ n.tmod 4 → n.tdiv 4 = n / 4 ∧ n.tmod 4 = n % 4) := by
  by_cases h : n < 0
  · rw [tdiv_neg' h, tmod_neg' h]; omega
  · rw [tdiv_pos' (by omega), tmod_pos' (by omega)]; omega

theorem ret_two {a b c d : Int} (h1 : a = c) (h2 : b = d) : Ending.returned (.tuple #[.int .i64 a, .int .i64 b]) = .returned (.tuple #[.int .i64 c, .int .i64 d]) := by rw [h1, h2]

theorem floor_2 (n q r : Int) (hn : inI n) (hq : q = n / 2) (hr : r = n % 2) (w : World) : Calls Tryz.prog 78 #[.int .i64 n, .int .i64 2] w fun e w' => e = .returned (.tuple #[.int .i64 q, .int .i64 r]) ∧ Below w.heap.size w w' := by
  obtain ⟨ha, hb⟩ := hn
  have hf := floor_t2 n
  have HQ := Lib.hid hq
  have HR := Lib.hid hr
  have HF := Lib.hid hf
  clear hq hr hf
  go_enter Tryz.func78, Tryz.ntmps78
  go_wp2_with (fail)
  go_quiet (fail)
  go_wp2
  all_goals
    go_ret2
    refine ⟨?_, below_drewN (Below.refl _ _) _⟩
    have hq := HQ.out
    have hr := HR.out
    have hf := HF.out
    refine ret_two ?_ ?_
    all_goals
      first
        | (rw [Go.IntWalk.wrap64_in _ (by omega)]; omega)
        | omega

theorem floor_4 (n q r : Int) (hn : inI n) (hq : q = n / 4) (hr : r = n % 4) (w : World) : Calls Tryz.prog 78 #[.int .i64 n, .int .i64 4] w fun e w' => e = .returned (.tuple #[.int .i64 q, .int .i64 r]) ∧ Below w.heap.size w w' := by
  obtain ⟨ha, hb⟩ := hn
  have hf := floor_t4 n
  have HQ := Lib.hid hq
  have HR := Lib.hid hr
  have HF := Lib.hid hf
  clear hq hr hf
  go_enter Tryz.func78, Tryz.ntmps78
  go_wp2_with (fail)
  go_quiet (fail)
  go_wp2
  all_goals
    go_ret2
    refine ⟨?_, below_drewN (Below.refl _ _) _⟩
    have hq := HQ.out
    have hr := HR.out
    have hf := HF.out
    refine ret_two ?_ ?_
    all_goals
      first
        | (rw [Go.IntWalk.wrap64_in _ (by omega)]; omega)
        | omega

/-- the mark behind an operand that is the kind of a property -/
def sufT (k : Int) : List UInt8 := if k = 1 then [60] else if k = 2 then [62] else if k = 3 then [63] else []

/-- an operand of a kind, as text -/
def partL (g n : Int) : List UInt8 :=
  if g = 114 ∨ g = 100 then 114 :: Lib.itoa n
  else if g = 113 then 114 :: (Lib.itoa (n / 2) ++ if n % 2 = 1 then [33] else [])
  else if g = 116 then 114 :: (Lib.itoa (n / 4) ++ sufT (n % 4))
  else if g = 112 ∨ g = 111 then 99 :: Lib.itoa n
  else if g = 107 ∨ g = 103 then 107 :: Lib.itoa n
  else if g = 102 then 102 :: Lib.itoa n
  else if g = 106 then 64 :: Lib.itoa n
  else Lib.itoa n

theorem odd_0 (W : World) : (Instr.index 104 (.agg #[.string ⟨#[]⟩, .string ⟨#[33]⟩]) (.int .i64 0)).run Tryz.prog W = .ok (.string ⟨#[]⟩) W := by
  unfold Instr.index
  simp [go_sem, run_underlying Tryz.underlying104]
theorem odd_1 (W : World) : (Instr.index 104 (.agg #[.string ⟨#[]⟩, .string ⟨#[33]⟩]) (.int .i64 1)).run Tryz.prog W = .ok (.string ⟨#[33]⟩) W := by
  unfold Instr.index
  simp [go_sem, run_underlying Tryz.underlying104]

theorem kind_cell {w : World} (hG : G w) : (w.cell? ⟨0, 0, none⟩ = some (.string ⟨#[]⟩) ∧ w.cell? ⟨0, 1, none⟩ = some (.string ⟨#[60]⟩)) ∧ w.cell? ⟨0, 2, none⟩ = some (.string ⟨#[62]⟩) ∧ w.cell? ⟨0, 3, none⟩ = some (.string ⟨#[63]⟩) := by
  obtain ⟨ty, fr, e⟩ := hG.kinds
  refine ⟨⟨?_, ?_⟩, ?_, ?_⟩ <;> (rw [Lib.cell_of_heap e]; rfl)

set_option maxHeartbeats 1000000 in
theorem part_114 (n : Int) (hn : inI n) (w : World) (hG : G w) : Calls Tryz.prog 46 #[.int .u8 114, .int .i64 n] w fun e w' => e = .returned (.string (bs (114 :: Lib.itoa n))) ∧ Below w.heap.size w w' := by
  go_enter Tryz.func46, Tryz.ntmps46
  go_wp2_with (go_at_call 42; refine (itoa_ret n hn _ (by assumption)).mono ?_; rintro e w1 ⟨rfl, hsz, hbel⟩)
  go_ret
  exact ⟨ret_str (bs_append [114] _), hbel⟩

set_option maxHeartbeats 1000000 in
theorem part_100 (n : Int) (hn : inI n) (w : World) (hG : G w) : Calls Tryz.prog 46 #[.int .u8 100, .int .i64 n] w fun e w' => e = .returned (.string (bs (114 :: Lib.itoa n))) ∧ Below w.heap.size w w' := by
  go_enter Tryz.func46, Tryz.ntmps46
  go_wp2_with (go_at_call 42; refine (itoa_ret n hn _ (by assumption)).mono ?_; rintro e w1 ⟨rfl, hsz, hbel⟩)
  go_ret
  exact ⟨ret_str (bs_append [114] _), hbel⟩

set_option maxHeartbeats 1000000 in
theorem part_112 (n : Int) (hn : inI n) (w : World) (hG : G w) : Calls Tryz.prog 46 #[.int .u8 112, .int .i64 n] w fun e w' => e = .returned (.string (bs (99 :: Lib.itoa n))) ∧ Below w.heap.size w w' := by
  go_enter Tryz.func46, Tryz.ntmps46
  go_wp2_with (go_at_call 42; refine (itoa_ret n hn _ (by assumption)).mono ?_; rintro e w1 ⟨rfl, hsz, hbel⟩)
  go_ret
  exact ⟨ret_str (bs_append [99] _), hbel⟩

set_option maxHeartbeats 1000000 in
theorem part_111 (n : Int) (hn : inI n) (w : World) (hG : G w) : Calls Tryz.prog 46 #[.int .u8 111, .int .i64 n] w fun e w' => e = .returned (.string (bs (99 :: Lib.itoa n))) ∧ Below w.heap.size w w' := by
  go_enter Tryz.func46, Tryz.ntmps46
  go_wp2_with (go_at_call 42; refine (itoa_ret n hn _ (by assumption)).mono ?_; rintro e w1 ⟨rfl, hsz, hbel⟩)
  go_ret
  exact ⟨ret_str (bs_append [99] _), hbel⟩

set_option maxHeartbeats 1000000 in
theorem part_107 (n : Int) (hn : inI n) (w : World) (hG : G w) : Calls Tryz.prog 46 #[.int .u8 107, .int .i64 n] w fun e w' => e = .returned (.string (bs (107 :: Lib.itoa n))) ∧ Below w.heap.size w w' := by
  go_enter Tryz.func46, Tryz.ntmps46
  go_wp2_with (go_at_call 42; refine (itoa_ret n hn _ (by assumption)).mono ?_; rintro e w1 ⟨rfl, hsz, hbel⟩)
  go_ret
  exact ⟨ret_str (bs_append [107] _), hbel⟩

set_option maxHeartbeats 1000000 in
theorem part_103 (n : Int) (hn : inI n) (w : World) (hG : G w) : Calls Tryz.prog 46 #[.int .u8 103, .int .i64 n] w fun e w' => e = .returned (.string (bs (107 :: Lib.itoa n))) ∧ Below w.heap.size w w' := by
  go_enter Tryz.func46, Tryz.ntmps46
  go_wp2_with (go_at_call 42; refine (itoa_ret n hn _ (by assumption)).mono ?_; rintro e w1 ⟨rfl, hsz, hbel⟩)
  go_ret
  exact ⟨ret_str (bs_append [107] _), hbel⟩

set_option maxHeartbeats 1000000 in
theorem part_102 (n : Int) (hn : inI n) (w : World) (hG : G w) : Calls Tryz.prog 46 #[.int .u8 102, .int .i64 n] w fun e w' => e = .returned (.string (bs (102 :: Lib.itoa n))) ∧ Below w.heap.size w w' := by
  go_enter Tryz.func46, Tryz.ntmps46
  go_wp2_with (go_at_call 42; refine (itoa_ret n hn _ (by assumption)).mono ?_; rintro e w1 ⟨rfl, hsz, hbel⟩)
  go_ret
  exact ⟨ret_str (bs_append [102] _), hbel⟩

set_option maxHeartbeats 1000000 in
theorem part_106 (n : Int) (hn : inI n) (w : World) (hG : G w) : Calls Tryz.prog 46 #[.int .u8 106, .int .i64 n] w fun e w' => e = .returned (.string (bs (64 :: Lib.itoa n))) ∧ Below w.heap.size w w' := by
  go_enter Tryz.func46, Tryz.ntmps46
  go_wp2_with (go_at_call 42; refine (itoa_ret n hn _ (by assumption)).mono ?_; rintro e w1 ⟨rfl, hsz, hbel⟩)
  go_ret
  exact ⟨ret_str (bs_append [64] _), hbel⟩

set_option maxHeartbeats 1000000 in
theorem part_110 (n : Int) (hn : inI n) (w : World) (hG : G w) : Calls Tryz.prog 46 #[.int .u8 110, .int .i64 n] w fun e w' => e = .returned (.string (bs (Lib.itoa n))) ∧ Below w.heap.size w w' := by
  go_enter Tryz.func46, Tryz.ntmps46
  go_wp2_with (go_at_call 42; refine (itoa_ret n hn _ (by assumption)).mono ?_; rintro e w1 ⟨rfl, hsz, hbel⟩)
  go_ret
  exact ⟨ret_str rfl, hbel⟩

set_option maxHeartbeats 1000000 in
theorem part_97 (n : Int) (hn : inI n) (w : World) (hG : G w) : Calls Tryz.prog 46 #[.int .u8 97, .int .i64 n] w fun e w' => e = .returned (.string (bs (Lib.itoa n))) ∧ Below w.heap.size w w' := by
  go_enter Tryz.func46, Tryz.ntmps46
  go_wp2_with (go_at_call 42; refine (itoa_ret n hn _ (by assumption)).mono ?_; rintro e w1 ⟨rfl, hsz, hbel⟩)
  go_ret
  exact ⟨ret_str rfl, hbel⟩

set_option maxHeartbeats 1000000 in
theorem part_98 (n : Int) (hn : inI n) (w : World) (hG : G w) : Calls Tryz.prog 46 #[.int .u8 98, .int .i64 n] w fun e w' => e = .returned (.string (bs (Lib.itoa n))) ∧ Below w.heap.size w w' := by
  go_enter Tryz.func46, Tryz.ntmps46
  go_wp2_with (go_at_call 42; refine (itoa_ret n hn _ (by assumption)).mono ?_; rintro e w1 ⟨rfl, hsz, hbel⟩)
  go_ret
  exact ⟨ret_str rfl, hbel⟩

set_option maxHeartbeats 1000000 in
theorem part_q0 (n q : Int) (hq : inI q) (hf : ∀ w, Calls Tryz.prog 78 #[.int .i64 n, .int .i64 2] w fun e w' => e = .returned (.tuple #[.int .i64 q, .int .i64 0]) ∧ Below w.heap.size w w') (w : World) (hG : G w) :
    Calls Tryz.prog 46 #[.int .u8 113, .int .i64 n] w fun e w' => e = .returned (.string (bs (114 :: (Lib.itoa q ++ [])))) ∧ Below w.heap.size w w' := by
  have s0 := itoa_size q hq
  have l0 : ¬ (9223372036854775807 < 1 + (bs (Lib.itoa q)).size) := by omega
  have l1 : ¬ (9223372036854775807 < 1 + (bs (Lib.itoa q)).size + 1) := by omega
  go_enter Tryz.func46, Tryz.ntmps46
  go_wp2_with (go_at_call 78; refine (hf _).mono ?_; rintro e w1 ⟨rfl, hb1⟩)
  have hG1 : G w1.drew := (hG.below hb1 hG.size).below (Below.drew (Below.refl _ _)) (Nat.le_trans hG.size hb1.size)
  have hb2 : Below w.heap.size w w1.drew := hb1.drew
  have ho := odd_0
  go_region_held3 (fun w' => G w' ∧ Below w.heap.size w w')
    (first | go_keep | (go_split_ands; exact ⟨‹G _›.below hbel ‹G _›.size, ‹Below w.heap.size w _›.trans (hbel.mono ‹Below w.heap.size w _›.size)⟩))
    ((first | (go_at_call 42; refine (itoa_ret _ ?h1 _ ?h2).mono ?_; (case h1 => assumption); (case h2 => (go_split_ands; assumption)); rintro e w2 ⟨rfl, hsz, hbel⟩)))
  all_goals
    go_wp2
    go_ret
    go_split_ands
    refine ⟨ret_str ?_, by assumption⟩
    show bs [114] ++ bs _ ++ bs [] = _
    simp only [bs_append]
    rfl

set_option maxHeartbeats 1000000 in
theorem part_q1 (n q : Int) (hq : inI q) (hf : ∀ w, Calls Tryz.prog 78 #[.int .i64 n, .int .i64 2] w fun e w' => e = .returned (.tuple #[.int .i64 q, .int .i64 1]) ∧ Below w.heap.size w w') (w : World) (hG : G w) :
    Calls Tryz.prog 46 #[.int .u8 113, .int .i64 n] w fun e w' => e = .returned (.string (bs (114 :: (Lib.itoa q ++ [33])))) ∧ Below w.heap.size w w' := by
  have s0 := itoa_size q hq
  have l0 : ¬ (9223372036854775807 < 1 + (bs (Lib.itoa q)).size) := by omega
  have l1 : ¬ (9223372036854775807 < 1 + (bs (Lib.itoa q)).size + 1) := by omega
  go_enter Tryz.func46, Tryz.ntmps46
  go_wp2_with (go_at_call 78; refine (hf _).mono ?_; rintro e w1 ⟨rfl, hb1⟩)
  have hG1 : G w1.drew := (hG.below hb1 hG.size).below (Below.drew (Below.refl _ _)) (Nat.le_trans hG.size hb1.size)
  have hb2 : Below w.heap.size w w1.drew := hb1.drew
  have ho := odd_1
  go_region_held3 (fun w' => G w' ∧ Below w.heap.size w w')
    (first | go_keep | (go_split_ands; exact ⟨‹G _›.below hbel ‹G _›.size, ‹Below w.heap.size w _›.trans (hbel.mono ‹Below w.heap.size w _›.size)⟩))
    ((first | (go_at_call 42; refine (itoa_ret _ ?h1 _ ?h2).mono ?_; (case h1 => assumption); (case h2 => (go_split_ands; assumption)); rintro e w2 ⟨rfl, hsz, hbel⟩)))
  all_goals
    go_wp2
    go_ret
    go_split_ands
    refine ⟨ret_str ?_, by assumption⟩
    show bs [114] ++ bs _ ++ bs [33] = _
    simp only [bs_append]
    rfl

set_option maxHeartbeats 1000000 in
theorem part_t0 (n q : Int) (hq : inI q) (hf : ∀ w, Calls Tryz.prog 78 #[.int .i64 n, .int .i64 4] w fun e w' => e = .returned (.tuple #[.int .i64 q, .int .i64 0]) ∧ Below w.heap.size w w') (w : World) (hG : G w) :
    Calls Tryz.prog 46 #[.int .u8 116, .int .i64 n] w fun e w' => e = .returned (.string (bs (114 :: (Lib.itoa q ++ [])))) ∧ Below w.heap.size w w' := by
  have s0 := itoa_size q hq
  have l0 : ¬ (9223372036854775807 < 1 + (bs (Lib.itoa q)).size) := by omega
  have l1 : ¬ (9223372036854775807 < 1 + (bs (Lib.itoa q)).size + 1) := by omega
  go_enter Tryz.func46, Tryz.ntmps46
  go_wp2_with (go_at_call 78; refine (hf _).mono ?_; rintro e w1 ⟨rfl, hb1⟩)
  have hG1 : G w1.drew := (hG.below hb1 hG.size).below (Below.drew (Below.refl _ _)) (Nat.le_trans hG.size hb1.size)
  have hb2 : Below w.heap.size w w1.drew := hb1.drew
  have hk := (kind_cell hG1).1.1
  go_region_held3 (fun w' => w'.cell? ⟨0, 0, none⟩ = some (.string ⟨#[]⟩) ∧ G w' ∧ Below w.heap.size w w')
    (first | go_keep | (go_split_ands; have hg2 := ‹G _›.below hbel ‹G _›.size; exact ⟨(kind_cell hg2).1.1, hg2, ‹Below w.heap.size w _›.trans (hbel.mono ‹Below w.heap.size w _›.size)⟩))
    ((first | (go_at_call 42; refine (itoa_ret _ ?h1 _ ?h2).mono ?_; (case h1 => assumption); (case h2 => (go_split_ands; assumption)); rintro e w2 ⟨rfl, hsz, hbel⟩)))
  all_goals
    go_wp2
    go_ret
    go_split_ands
    refine ⟨ret_str ?_, by assumption⟩
    show bs [114] ++ bs _ ++ bs [] = _
    simp only [bs_append]
    rfl

set_option maxHeartbeats 1000000 in
theorem part_t1 (n q : Int) (hq : inI q) (hf : ∀ w, Calls Tryz.prog 78 #[.int .i64 n, .int .i64 4] w fun e w' => e = .returned (.tuple #[.int .i64 q, .int .i64 1]) ∧ Below w.heap.size w w') (w : World) (hG : G w) :
    Calls Tryz.prog 46 #[.int .u8 116, .int .i64 n] w fun e w' => e = .returned (.string (bs (114 :: (Lib.itoa q ++ [60])))) ∧ Below w.heap.size w w' := by
  have s0 := itoa_size q hq
  have l0 : ¬ (9223372036854775807 < 1 + (bs (Lib.itoa q)).size) := by omega
  have l1 : ¬ (9223372036854775807 < 1 + (bs (Lib.itoa q)).size + 1) := by omega
  go_enter Tryz.func46, Tryz.ntmps46
  go_wp2_with (go_at_call 78; refine (hf _).mono ?_; rintro e w1 ⟨rfl, hb1⟩)
  have hG1 : G w1.drew := (hG.below hb1 hG.size).below (Below.drew (Below.refl _ _)) (Nat.le_trans hG.size hb1.size)
  have hb2 : Below w.heap.size w w1.drew := hb1.drew
  have hk := (kind_cell hG1).1.2
  go_region_held3 (fun w' => w'.cell? ⟨0, 1, none⟩ = some (.string ⟨#[60]⟩) ∧ G w' ∧ Below w.heap.size w w')
    (first | go_keep | (go_split_ands; have hg2 := ‹G _›.below hbel ‹G _›.size; exact ⟨(kind_cell hg2).1.2, hg2, ‹Below w.heap.size w _›.trans (hbel.mono ‹Below w.heap.size w _›.size)⟩))
    ((first | (go_at_call 42; refine (itoa_ret _ ?h1 _ ?h2).mono ?_; (case h1 => assumption); (case h2 => (go_split_ands; assumption)); rintro e w2 ⟨rfl, hsz, hbel⟩)))
  all_goals
    go_wp2
    go_ret
    go_split_ands
    refine ⟨ret_str ?_, by assumption⟩
    show bs [114] ++ bs _ ++ bs [60] = _
    simp only [bs_append]
    rfl

set_option maxHeartbeats 1000000 in
theorem part_t2 (n q : Int) (hq : inI q) (hf : ∀ w, Calls Tryz.prog 78 #[.int .i64 n, .int .i64 4] w fun e w' => e = .returned (.tuple #[.int .i64 q, .int .i64 2]) ∧ Below w.heap.size w w') (w : World) (hG : G w) :
    Calls Tryz.prog 46 #[.int .u8 116, .int .i64 n] w fun e w' => e = .returned (.string (bs (114 :: (Lib.itoa q ++ [62])))) ∧ Below w.heap.size w w' := by
  have s0 := itoa_size q hq
  have l0 : ¬ (9223372036854775807 < 1 + (bs (Lib.itoa q)).size) := by omega
  have l1 : ¬ (9223372036854775807 < 1 + (bs (Lib.itoa q)).size + 1) := by omega
  go_enter Tryz.func46, Tryz.ntmps46
  go_wp2_with (go_at_call 78; refine (hf _).mono ?_; rintro e w1 ⟨rfl, hb1⟩)
  have hG1 : G w1.drew := (hG.below hb1 hG.size).below (Below.drew (Below.refl _ _)) (Nat.le_trans hG.size hb1.size)
  have hb2 : Below w.heap.size w w1.drew := hb1.drew
  have hk := (kind_cell hG1).2.1
  go_region_held3 (fun w' => w'.cell? ⟨0, 2, none⟩ = some (.string ⟨#[62]⟩) ∧ G w' ∧ Below w.heap.size w w')
    (first | go_keep | (go_split_ands; have hg2 := ‹G _›.below hbel ‹G _›.size; exact ⟨(kind_cell hg2).2.1, hg2, ‹Below w.heap.size w _›.trans (hbel.mono ‹Below w.heap.size w _›.size)⟩))
    ((first | (go_at_call 42; refine (itoa_ret _ ?h1 _ ?h2).mono ?_; (case h1 => assumption); (case h2 => (go_split_ands; assumption)); rintro e w2 ⟨rfl, hsz, hbel⟩)))
  all_goals
    go_wp2
    go_ret
    go_split_ands
    refine ⟨ret_str ?_, by assumption⟩
    show bs [114] ++ bs _ ++ bs [62] = _
    simp only [bs_append]
    rfl

set_option maxHeartbeats 1000000 in
theorem part_t3 (n q : Int) (hq : inI q) (hf : ∀ w, Calls Tryz.prog 78 #[.int .i64 n, .int .i64 4] w fun e w' => e = .returned (.tuple #[.int .i64 q, .int .i64 3]) ∧ Below w.heap.size w w') (w : World) (hG : G w) :
    Calls Tryz.prog 46 #[.int .u8 116, .int .i64 n] w fun e w' => e = .returned (.string (bs (114 :: (Lib.itoa q ++ [63])))) ∧ Below w.heap.size w w' := by
  have s0 := itoa_size q hq
  have l0 : ¬ (9223372036854775807 < 1 + (bs (Lib.itoa q)).size) := by omega
  have l1 : ¬ (9223372036854775807 < 1 + (bs (Lib.itoa q)).size + 1) := by omega
  go_enter Tryz.func46, Tryz.ntmps46
  go_wp2_with (go_at_call 78; refine (hf _).mono ?_; rintro e w1 ⟨rfl, hb1⟩)
  have hG1 : G w1.drew := (hG.below hb1 hG.size).below (Below.drew (Below.refl _ _)) (Nat.le_trans hG.size hb1.size)
  have hb2 : Below w.heap.size w w1.drew := hb1.drew
  have hk := (kind_cell hG1).2.2
  go_region_held3 (fun w' => w'.cell? ⟨0, 3, none⟩ = some (.string ⟨#[63]⟩) ∧ G w' ∧ Below w.heap.size w w')
    (first | go_keep | (go_split_ands; have hg2 := ‹G _›.below hbel ‹G _›.size; exact ⟨(kind_cell hg2).2.2, hg2, ‹Below w.heap.size w _›.trans (hbel.mono ‹Below w.heap.size w _›.size)⟩))
    ((first | (go_at_call 42; refine (itoa_ret _ ?h1 _ ?h2).mono ?_; (case h1 => assumption); (case h2 => (go_split_ands; assumption)); rintro e w2 ⟨rfl, hsz, hbel⟩)))
  all_goals
    go_wp2
    go_ret
    go_split_ands
    refine ⟨ret_str ?_, by assumption⟩
    show bs [114] ++ bs _ ++ bs [63] = _
    simp only [bs_append]
    rfl

/-- the kinds of operands that the table has -/
def isSign (g : Int) : Prop := g = 114 ∨ g = 100 ∨ g = 113 ∨ g = 116 ∨ g = 112 ∨ g = 111 ∨ g = 107 ∨ g = 103 ∨ g = 102 ∨ g = 106 ∨ g = 110 ∨ g = 97 ∨ g = 98

theorem inI_div {n : Int} (hn : inI n) {k : Int} (hk : k = 2 ∨ k = 4) : inI (n / k) := by
  obtain ⟨h0, h1⟩ := hn
  rcases hk with rfl | rfl
  · exact ⟨by omega, by omega⟩
  · exact ⟨by omega, by omega⟩

theorem part_ret (g n : Int) (hg : isSign g) (hn : inI n) (w : World) (hG : G w) : Calls Tryz.prog 46 #[.int .u8 g, .int .i64 n] w fun e w' => e = .returned (.string (bs (partL g n))) ∧ Below w.heap.size w w' := by
  rcases hg with rfl | rfl | rfl | rfl | rfl | rfl | rfl | rfl | rfl | rfl | rfl | rfl | rfl
  · exact part_114 n hn w hG
  · exact part_100 n hn w hG
  · show Calls Tryz.prog 46 _ w fun e w' => e = .returned (.string (bs (114 :: (Lib.itoa (n / 2) ++ if n % 2 = 1 then [33] else [])))) ∧ _
    by_cases hr : n % 2 = 1
    · rw [if_pos hr]
      exact part_q1 n (n / 2) (inI_div hn (Or.inl rfl)) (floor_2 n _ 1 hn rfl hr.symm) w hG
    · rw [if_neg hr]
      exact part_q0 n (n / 2) (inI_div hn (Or.inl rfl)) (floor_2 n _ 0 hn rfl (by omega)) w hG
  · show Calls Tryz.prog 46 _ w fun e w' => e = .returned (.string (bs (114 :: (Lib.itoa (n / 4) ++ sufT (n % 4))))) ∧ _
    have hi := inI_div hn (Or.inr rfl)
    by_cases h1 : n % 4 = 1
    · rw [h1]; exact part_t1 n _ hi (floor_4 n _ 1 hn rfl h1.symm) w hG
    by_cases h2 : n % 4 = 2
    · rw [h2]; exact part_t2 n _ hi (floor_4 n _ 2 hn rfl h2.symm) w hG
    by_cases h3 : n % 4 = 3
    · rw [h3]; exact part_t3 n _ hi (floor_4 n _ 3 hn rfl h3.symm) w hG
    have h0 : n % 4 = 0 := by omega
    rw [h0]; exact part_t0 n _ hi (floor_4 n _ 0 hn rfl h0.symm) w hG
  · exact part_112 n hn w hG
  · exact part_111 n hn w hG
  · exact part_107 n hn w hG
  · exact part_103 n hn w hG
  · exact part_102 n hn w hG
  · exact part_106 n hn w hG
  · exact part_110 n hn w hG
  · exact part_97 n hn w hG
  · exact part_98 n hn w hG

theorem part_len (g n : Int) (hn : inI n) : (partL g n).length ≤ 24 := by
  have h := fun m hm => itoa_size m hm
  have h1 := h n hn
  have h2 := h _ (inI_div hn (Or.inl rfl))
  have h4 := h _ (inI_div hn (Or.inr rfl))
  rw [bs_size] at h1 h2 h4
  have hs : (sufT (n % 4)).length ≤ 1 := by unfold sufT; repeat' split
                                            all_goals simp
  unfold partL
  repeat' split
  all_goals simp
  all_goals omega

end Go.Proofs.YtfngechoipngmaaGreatDoor

namespace Go.Proofs.YtfngechoipngmaaGreatDoor
open Go.RowKit
set_option maxRecDepth 100000

end Go.Proofs.YtfngechoipngmaaGreatDoor

namespace Go.Proofs.YtfngechoipngmaaGreatDoor
open Go.RowKit
set_option maxRecDepth 100000

structure ValL where
  k : Int
  n : Int
  s : ByteArray
structure KeyL where
  k : Int
  n : Int
  s : ByteArray

/-- a constant, as text -/
def constL (v : ValL) : List UInt8 :=
  if v.k = 0 then [117, 110, 100, 101, 102, 105, 110, 101, 100]
  else if v.k = 1 then [110, 117, 108, 108]
  else if v.k = 2 then (if v.n = 1 then [116, 114, 117, 101] else [102, 97, 108, 115, 101])
  else if v.k = 8 then [104, 111, 108, 101]
  else if v.k = 5 then quoteL v.s.data.toList
  else if v.k = 4 then [78, 97, 78]
  else Lib.itoa v.n
/-- a key, as text -/
def keyL (v : KeyL) : List UInt8 :=
  if v.k = 0 then Lib.itoa v.n
  else if v.k = 1 then quoteL v.s.data.toList
  else 35 :: Lib.itoa v.n

/-- which constants are right -/
def okK (k n : Int) : Prop := (k = 0 ∨ k = 1 ∨ k = 3 ∨ k = 4 ∨ k = 5 ∨ k = 8) ∨ (k = 2 ∧ (n = 0 ∨ n = 1))

theorem fmt_ret (b : Bool) (w : World) : Calls Tryz.prog 43 #[.bool b] w fun e w' => e = .returned (.string (bs (if b then [116, 114, 117, 101] else [102, 97, 108, 115, 101]))) ∧ w = w' := by
  refine (strconv_FormatBool b w).mono fun e w' he => ?_
  obtain ⟨rfl, rfl⟩ := he
  cases b <;> exact ⟨rfl, rfl⟩

set_option maxHeartbeats 1000000 in
theorem constant_ret (k n : Int) (s : ByteArray) (hk : okK k n) (hn : inI n) (hs : s.size ≤ 65536) (w : World) (hG : G w) :
    Calls Tryz.prog 17 #[.agg #[.int .i64 k, .int .i64 n, .string s]] w fun e w' => e = .returned (.string (bs (constL ⟨k, n, s⟩))) ∧ Below w.heap.size w w' := by
  have hb0 : ∀ ob, Below w.heap.size w (w.alloc ob) := fun ob => (Below.refl _ _).alloc (Nat.le_refl _) ob
  have hG0 : ∀ ob, G (w.alloc ob) := fun ob => hG.below (hb0 ob) hG.size
  rcases hk with (rfl | rfl | rfl | rfl | rfl | rfl) | ⟨rfl, rfl | rfl⟩
  all_goals
    go_enter Tryz.func17, Tryz.ntmps17
    go_wp2_with (first
      | (go_at_call 42; refine (itoa_ret n hn _ (hG0 _)).mono ?_; rintro e w1 ⟨rfl, hsz, hbel⟩)
      | (go_at_call 41; refine (quote_ret s hs _).mono ?_; rintro e w1 ⟨rfl, hsz, hbel⟩)
      | (go_at_call 43; refine (fmt_ret _ _).mono ?_; rintro e w1 ⟨rfl, rfl⟩))
    go_ret
    refine ⟨ret_str rfl, ?_⟩
    first
      | exact hb0 _
      | exact (hb0 _).trans (hbel.mono (hb0 _).size)
      | exact (hb0 _).alloc (hb0 _).size _

set_option maxHeartbeats 1000000 in
theorem keyed_ret (k n : Int) (s : ByteArray) (hk : k = 0 ∨ k = 1 ∨ k = 2) (hn : inI n) (hs : s.size ≤ 65536) (w : World) (hG : G w) :
    Calls Tryz.prog 18 #[.agg #[.int .i64 k, .int .i64 n, .string s]] w fun e w' => e = .returned (.string (bs (keyL ⟨k, n, s⟩))) ∧ Below w.heap.size w w' := by
  have hb0 : ∀ ob, Below w.heap.size w (w.alloc ob) := fun ob => (Below.refl _ _).alloc (Nat.le_refl _) ob
  have hG0 : ∀ ob, G (w.alloc ob) := fun ob => hG.below (hb0 ob) hG.size
  rcases hk with rfl | rfl | rfl
  all_goals
    go_enter Tryz.func18, Tryz.ntmps18
    go_wp2_with (first
      | (go_at_call 42; refine (itoa_ret n hn _ (hG0 _)).mono ?_; rintro e w1 ⟨rfl, hsz, hbel⟩)
      | (go_at_call 41; refine (quote_ret s hs _).mono ?_; rintro e w1 ⟨rfl, hsz, hbel⟩))
    go_ret
    refine ⟨?_, (hb0 _).trans (hbel.mono (hb0 _).size)⟩
    first
      | exact ret_str rfl
      | exact ret_str (bs_append [35] _)

end Go.Proofs.YtfngechoipngmaaGreatDoor

namespace Go.Proofs.YtfngechoipngmaaGreatDoor
open Go.RowKit Go.Instr
set_option maxRecDepth 100000

def wordK : List (ByteArray × Int × Int) := [(⟨#[117, 110, 100, 101, 102, 105, 110, 101, 100]⟩, 0, 0), (⟨#[110, 117, 108, 108]⟩, 1, 0), (⟨#[102, 97, 108, 115, 101]⟩, 2, 0), (⟨#[116, 114, 117, 101]⟩, 2, 1), (⟨#[104, 111, 108, 101]⟩, 8, 0), (⟨#[78, 97, 78]⟩, 4, 0)]
def valW (k n : Int) : Value := .agg #[.int .i64 k, .int .i64 n, .string ⟨#[]⟩]
/-- the entries behind i insertions -/
def mapE (i : Nat) : Array MapEntry := (((wordK.take i).zipIdx).map fun p => ({ key := .string p.1.1, val := valW p.1.2.1 p.1.2.2, born := p.2 } : MapEntry)).toArray

theorem set_last (w : World) (X O O' : Obj) (n : Nat) (hn : n = w.heap.size + 1) : { ((w.alloc X).alloc O) with heap := ((w.alloc X).alloc O).heap.setIfInBounds n O' } = (w.alloc X).alloc O' := by
  subst hn
  have e : (w.alloc X).heap.size = w.heap.size + 1 := by show (w.heap.push X).size = _; simp only [Array.size_push]
  have : ((w.alloc X).heap.push O).setIfInBounds (w.heap.size + 1) O' = (w.alloc X).heap.push O' := by
    rw [← e]
    apply Array.ext_getElem?
    intro i
    rw [Array.getElem?_setIfInBounds, Array.getElem?_push, Array.getElem?_push]
    by_cases h : (w.alloc X).heap.size = i
    · subst h; simp
    · simp only [if_neg h]
      by_cases h' : i = (w.alloc X).heap.size
      · exact absurd h'.symm h
      · simp only [if_neg h']
  exact congrArg (fun h => ({ (w.alloc X) with heap := h } : World)) this

theorem al_last (w : World) (X O : Obj) : ((w.alloc X).alloc O).heap[w.heap.size + 1]? = some O := by
  have e : (w.alloc X).heap.size = w.heap.size + 1 := by show (w.heap.push X).size = _; simp only [Array.size_push]
  rw [← e]
  show ((w.alloc X).heap.push O)[(w.alloc X).heap.size]? = _
  rw [Array.getElem?_push, if_pos rfl]

theorem ck_key (m : Nat) (b : Bool) (k : ByteArray) (w : World) : (checkKey b (m + 1) 9 (.string k)).run Tryz.prog w = .ok () w := by
  simp [checkKey, Sem.run_bind, Sem.run_pure, Result.andThen, run_underlying Tryz.underlying9]

theorem ins_one (w : World) (X : Obj) (es es' : Array MapEntry) (c : Nat) (k : ByteArray) (v : Value) (hf : findNow .string (.string k) es.toList 0 = some none) (he : es.push { key := .string k, val := v, born := c } = es') :
    (Instr.mapUpdate 141 (.map (some (w.heap.size + 1))) (.string k) v).run Tryz.prog ((w.alloc X).alloc (.map es c)) = .ok () ((w.alloc X).alloc (.map es' (c + 1))) := by
  subst he
  have hb := al_last w X (.map es c)
  have e : (10000 : Nat) = 9999 + 1 := rfl
  unfold Instr.mapUpdate
  rw [e]
  generalize (9999 : Nat) = m
  have hc := ck_key m false k ((w.alloc X).alloc (.map es c))
  simp only [Sem.run_bind, Result.andThen, run_underlying Tryz.underlying141, MapKept.run_getObj_map hb, hc]
  simp only [findKey, Sem.run_bind, Sem.run_pure, Result.andThen, run_underlying Tryz.underlying9, hf, MapKept.run_setObj_map _ hb, set_last w X _ _ _ rfl]

/-- what is found: a value of the map's, or none -/
theorem find_word (s : ByteArray) : (∃ i k n, findNow .string (.string s) (mapE 6).toList 0 = some (some (i, valW k n)) ∧ okK k n ∧ inI k ∧ inI n) ∨ findNow .string (.string s) (mapE 6).toList 0 = some none := by
  have e : (mapE 6).toList = [⟨.string ⟨#[117, 110, 100, 101, 102, 105, 110, 101, 100]⟩, valW 0 0, 0⟩, ⟨.string ⟨#[110, 117, 108, 108]⟩, valW 1 0, 1⟩, ⟨.string ⟨#[102, 97, 108, 115, 101]⟩, valW 2 0, 2⟩, ⟨.string ⟨#[116, 114, 117, 101]⟩, valW 2 1, 3⟩, ⟨.string ⟨#[104, 111, 108, 101]⟩, valW 8 0, 4⟩, ⟨.string ⟨#[78, 97, 78]⟩, valW 4 0, 5⟩] := rfl
  rw [e]
  simp only [findNow, sameNow]
  generalize (s == ⟨#[117, 110, 100, 101, 102, 105, 110, 101, 100]⟩) = b0
  generalize (s == ⟨#[110, 117, 108, 108]⟩) = b1
  generalize (s == ⟨#[102, 97, 108, 115, 101]⟩) = b2
  generalize (s == ⟨#[116, 114, 117, 101]⟩) = b3
  generalize (s == ⟨#[104, 111, 108, 101]⟩) = b4
  generalize (s == ⟨#[78, 97, 78]⟩) = b5
  cases b0
  · cases b1
    · cases b2
      · cases b3
        · cases b4
          · cases b5
            · exact .inr rfl
            · exact .inl ⟨_, _, _, rfl, by unfold okK; omega, by unfold inI; omega, by unfold inI; omega⟩
          · exact .inl ⟨_, _, _, rfl, by unfold okK; omega, by unfold inI; omega, by unfold inI; omega⟩
        · exact .inl ⟨_, _, _, rfl, by unfold okK; omega, by unfold inI; omega, by unfold inI; omega⟩
      · exact .inl ⟨_, _, _, rfl, by unfold okK; omega, by unfold inI; omega, by unfold inI; omega⟩
    · exact .inl ⟨_, _, _, rfl, by unfold okK; omega, by unfold inI; omega, by unfold inI; omega⟩
  · exact .inl ⟨_, _, _, rfl, by unfold okK; omega, by unfold inI; omega, by unfold inI; omega⟩

theorem look_word (w : World) (X : Obj) (s : ByteArray) :
    ∃ (k n : Int) (ok : Bool), (Instr.lookup 141 (.map (some (w.heap.size + 1))) (.string s) true).run Tryz.prog ((w.alloc X).alloc (.map (mapE 6) 6)) = .ok (.tuple #[.agg #[.int .i64 k, .int .i64 n, .string ⟨#[]⟩], .bool ok]) ((w.alloc X).alloc (.map (mapE 6) 6)) ∧ okK k n ∧ inI k ∧ inI n := by
  have hb := al_last w X (.map (mapE 6) 6)
  have e : (10000 : Nat) = 9999 + 1 := rfl
  unfold Instr.lookup
  rw [e]
  generalize (9999 : Nat) = m
  have hc := ck_key m (mapE 6).isEmpty s ((w.alloc X).alloc (.map (mapE 6) 6))
  have hz := Tryz.zeroValue43 (w := (w.alloc X).alloc (.map (mapE 6) 6))
  rcases find_word s with ⟨i, k, n, hf, hp, hk, hn⟩ | hf
  · refine ⟨k, n, true, ?_, hp, hk, hn⟩
    simp only [Sem.run_bind, Sem.run_pure, Result.andThen, run_underlying Tryz.underlying141, MapKept.run_getObj_map hb, hc, findKey, run_underlying Tryz.underlying9, hf, valW, if_true]
  · refine ⟨0, 0, false, ?_, by unfold okK; omega, by unfold inI; omega, by unfold inI; omega⟩
    simp only [Sem.run_bind, Sem.run_pure, Result.andThen, run_underlying Tryz.underlying141, MapKept.run_getObj_map hb, hc, findKey, run_underlying Tryz.underlying9, hf, hz, if_true]

end Go.Proofs.YtfngechoipngmaaGreatDoor

namespace Go.Proofs.YtfngechoipngmaaGreatDoor
open Go.RowKit
set_option maxRecDepth 100000

theorem al3 (w : World) (X Y Z : Obj) : (((w.alloc X).alloc Y).alloc Z).heap[w.heap.size]? = some X := by
  have e : ((w.alloc X).alloc Y).heap.size = w.heap.size + 1 + 1 := by show ((w.heap.push X).push Y).size = _; simp only [Array.size_push]
  rw [Below.heap_alloc _ _ _ (by omega)]
  exact (two_al w X Y).1
theorem al3_lt (w : World) (X Y Z : Obj) : w.heap.size < (((w.alloc X).alloc Y).alloc Z).heap.size := by
  show _ < (((w.heap.push X).push Y).push Z).size
  simp only [Array.size_push]
  omega
theorem below_al3 (w : World) (X Y Z : Obj) : Below w.heap.size w (((w.alloc X).alloc Y).alloc Z) := (below_al2 w X Y).alloc (below_al2 w X Y).size _

set_option maxHeartbeats 4000000 in
theorem value_ret (s : ByteArray) (hs : s.size ≤ 400000) (w : World) (hG : GE w) :
    Calls Tryz.prog 88 #[.string s] w fun e w' => RetK okK e ∧ Below w.heap.size w w' := by
  have h7 := hG.g.size
  have HG : Hid (∀ W, Below w.heap.size w W → GE W) := Lib.hid fun W hb => hG.below hb h7
  clear hG
  obtain ⟨X, hX⟩ : ∃ X : Obj, X = .cells #[.int .i64 0, .int .i64 0, .string ⟨#[]⟩] 43 (0, 0) := ⟨_, rfl⟩
  have m0 : (Instr.makeMap 141 none).run Tryz.prog (w.alloc X) = .ok (.map (some (w.heap.size + 1))) ((w.alloc X).alloc (.map (mapE 0) 0)) := by
    have e : (w.alloc X).heap.size = w.heap.size + 1 := by show (w.heap.push X).size = _; simp only [Array.size_push]
    rw [run_makeMap, e]
    rfl
  have i0 := ins_one w X (mapE 0) (mapE 1) 0 ⟨#[117, 110, 100, 101, 102, 105, 110, 101, 100]⟩ (valW 0 0) rfl rfl
  have i1 := ins_one w X (mapE 1) (mapE 2) 1 ⟨#[110, 117, 108, 108]⟩ (valW 1 0) rfl rfl
  have i2 := ins_one w X (mapE 2) (mapE 3) 2 ⟨#[102, 97, 108, 115, 101]⟩ (valW 2 0) rfl rfl
  have i3 := ins_one w X (mapE 3) (mapE 4) 3 ⟨#[116, 114, 117, 101]⟩ (valW 2 1) rfl rfl
  have i4 := ins_one w X (mapE 4) (mapE 5) 4 ⟨#[104, 111, 108, 101]⟩ (valW 8 0) rfl rfl
  have i5 := ins_one w X (mapE 5) (mapE 6) 5 ⟨#[78, 97, 78]⟩ (valW 4 0) rfl rfl
  simp only [valW, Nat.zero_add, Nat.reduceAdd] at i0 i1 i2 i3 i4 i5
  subst hX
  obtain ⟨lk, ln, lok, hl, hlp, hlk, hln⟩ := look_word w (.cells #[.int .i64 0, .int .i64 0, .string ⟨#[]⟩] 43 (0, 0)) s
  replace hlp := Lib.hid hlp
  generalize mapE 0 = E0 at *
  generalize mapE 1 = E1 at *
  generalize mapE 2 = E2 at *
  generalize mapE 3 = E3 at *
  generalize mapE 4 = E4 at *
  generalize mapE 5 = E5 at *
  generalize mapE 6 = E6 at *
  go_enter Tryz.func88, Tryz.ntmps88
  have HB : Hid (∀ Z W, Below (((w.alloc (.cells #[.int .i64 0, .int .i64 0, .string ⟨#[]⟩] 43 (0, 0))).alloc (.map E6 6)).alloc Z).heap.size (((w.alloc (.cells #[.int .i64 0, .int .i64 0, .string ⟨#[]⟩] 43 (0, 0))).alloc (.map E6 6)).alloc Z) W → Below w.heap.size w W) := Lib.hid fun Z W hb => (below_al3 w _ _ Z).trans (hb.mono (below_al3 w _ _ Z).size)
  have lt0 : ∀ Z, w.heap.size < (((w.alloc (.cells #[.int .i64 0, .int .i64 0, .string ⟨#[]⟩] 43 (0, 0))).alloc (.map E6 6)).alloc Z).heap.size := fun Z => al3_lt w _ _ Z
  go_wp2_with (first
    | (simp only [m0, i0, i1, i2, i3, i4, i5, hl])
    | (go_at_call 107; clear m0 i0 i1 i2 i3 i4 i5 hl; refine (hasp_ret _ _ _).mono ?_; rintro e w1 ⟨hr, rfl⟩; obtain ⟨b, rfl⟩ := hr.out; clear hr; cases b)
    | (go_at_call 106; refine (number_ret _ _ _ hs _ (HG.out _ (below_al3 _ _ _ _))).mono ?_; rintro e w1 ⟨hr, hb1⟩; obtain ⟨n, bb, rfl, hn⟩ := hr.ex; clear hr; have e0 := (hb1.block _ (lt0 _)).trans (al3 _ _ _ _); have hb := HB.out _ _ hb1; clear hb1; have b0 : w1.cell? ⟨w.heap.size, 0, none⟩ = some _ := (Lib.cell_of_heap e0 0).trans rfl; have b1 : w1.cell? ⟨w.heap.size, 1, none⟩ = some _ := (Lib.cell_of_heap e0 1).trans rfl; have b2 : w1.cell? ⟨w.heap.size, 2, none⟩ = some _ := (Lib.cell_of_heap e0 2).trans rfl; have d0 := Lib.frozen_of_heap e0 0; have d1 := Lib.frozen_of_heap e0 1; have d2 := Lib.frozen_of_heap e0 2; clear e0)
    | (go_at_call 105; refine (unquote_ret _ hs _).mono ?_; rintro e w1 ⟨hr, hb1⟩; obtain ⟨t, bb, rfl, ht⟩ := hr.ex; clear hr; have e0 := (hb1.block _ (lt0 _)).trans (al3 _ _ _ _); have hb := HB.out _ _ hb1; clear hb1; have b0 : w1.cell? ⟨w.heap.size, 0, none⟩ = some _ := (Lib.cell_of_heap e0 0).trans rfl; have b1 : w1.cell? ⟨w.heap.size, 1, none⟩ = some _ := (Lib.cell_of_heap e0 1).trans rfl; have b2 : w1.cell? ⟨w.heap.size, 2, none⟩ = some _ := (Lib.cell_of_heap e0 2).trans rfl; have d0 := Lib.frozen_of_heap e0 0; have d1 := Lib.frozen_of_heap e0 1; have d2 := Lib.frozen_of_heap e0 2; clear e0)
    | fail)
  all_goals
    (try simp only [Exit.inBlock, Exit.then])
    first
      | (refine bodyPost_ret (v := .tuple #[.agg #[.int .i64 lk, .int .i64 ln, .string ⟨#[]⟩], .bool true]) ?_ rfl ⟨RetK.mk' hlp.out hlk hln (by decide), below_al3 _ _ _ _⟩; rw [results_cell_tmp rfl]; go_simp; done)
      | (refine bodyPost_ret (v := .tuple #[.agg #[.int .i64 3, .int .i64 n, .string ⟨#[]⟩], .bool bb]) ?_ rfl ⟨RetK.mk' (by unfold okK; omega) (by unfold inI; omega) hn (by decide), ((hb.setCell (Nat.le_refl _) _).setCell (Nat.le_refl _) _).setCell (Nat.le_refl _) _⟩; rw [results_cell_tmp rfl]; go_simp; done)
      | (refine bodyPost_ret (v := .tuple #[.agg #[.int .i64 5, .int .i64 0, .string t], .bool bb]) ?_ rfl ⟨RetK.mk' (by unfold okK; omega) (by unfold inI; omega) (by unfold inI; omega) ht, ((hb.setCell (Nat.le_refl _) _).setCell (Nat.le_refl _) _).setCell (Nat.le_refl _) _⟩; rw [results_cell_tmp rfl]; go_simp; done)

end Go.Proofs.YtfngechoipngmaaGreatDoor

namespace Go.Proofs.YtfngechoipngmaaGreatDoor
open Go.RowKit
set_option maxRecDepth 100000

/-- every block but b that is no row of bytes stays -/
def Side (b : Nat) (w w' : World) : Prop := ∀ k cs T fr, k ≠ b → T ≠ 5 → w.heap[k]? = some (.cells cs T fr) → w'.heap[k]? = some (.cells cs T fr)

theorem Side.refl (b : Nat) (w : World) : Side b w w := fun _ _ _ _ _ _ h => h
theorem Side.trans {b : Nat} {w w1 w2 : World} (h : Side b w w1) (h' : Side b w1 w2) : Side b w w2 := fun k cs T fr e n x => h' k cs T fr e n (h k cs T fr e n x)
theorem Side.below {b : Nat} {w w' : World} (h : Below w.heap.size w w') : Side b w w' := fun k cs T fr _ _ x => by
  rw [h.block k ?_]
  · exact x
  · rcases Nat.lt_or_ge k w.heap.size with h' | h'
    · exact h'
    · simp [Array.getElem?_eq_none h'] at x

theorem copyCheck_ret (B b : Nat) (l : List Value) (w : World) (h : Lib.IsBuilder 51 5 B b l w) :
    Calls Tryz.prog 29 #[.pointer (some ⟨b, 0, none⟩)] w fun e w' => e = .returned (.tuple #[]) ∧ Lib.BuilderAt 51 5 B b (.pointer (some ⟨b, 0, none⟩)) l w' ∧ Below B w w' ∧ Side b w w' := by
  rcases h with h | h
  · refine (Any.Builder_copyCheck_fresh { lays156 with } Builder_Extra_156.toX72 b w h.cell0 h.shape h.frozen0).mono ?_
    rintro e w' ⟨rfl, rfl⟩
    refine ⟨rfl, h.used _, (Below.refl B w).setCell (p := ⟨b, 0, none⟩) h.1 _, fun k cs T fr e n x => ?_⟩
    rw [← x]
    exact Below.heap_setCell _ _ _ _ e
  · refine (Any.Builder_copyCheck_used { lays156 with } Builder_Extra_156.toX72 b w h.cell0).mono ?_
    rintro e w' ⟨rfl, rfl⟩
    exact ⟨rfl, h, Below.refl B _, Side.refl _ _⟩

theorem byteInfo : (Tryz.prog.info? 5).map (fun i => (i.zero, i.size, i.bytes)) = some (some (.int .u8 0), 1, 1) := by kernel_rfl

set_option maxHeartbeats 2000000 in
theorem wsB_ret (B b : Nat) (l : List UInt8) (s : ByteArray) (w : World) (h : Bd B b l w) (hl : l.length + s.size ≤ 140737488355328) :
    Calls Tryz.prog 14 #[.pointer (some ⟨b, 0, none⟩), .string s] w fun e w' => e = .returned (.tuple #[.int .i64 s.size, .nilIface]) ∧ Bd B b (l ++ s.data.toList) w' ∧ Below B w w' ∧ Side b w w' := by
  obtain ⟨i0, hi, hz0, hz1, hz2⟩ := info_parts byteInfo
  have hBw := h.size
  have hlen : (Lib.byteCells l).length + s.size ≤ 140737488355328 := by rw [Lib.byteCells_length]; exact hl
  have hcc := copyCheck_ret B b _ w h.is
  have hbc : Lib.byteCells l ++ Lib.strCells s = Lib.byteCells (l ++ s.data.toList) := (Lib.byteCells_append _ _).symm
  have HBC := Lib.hid hbc
  clear hbc h hl
  generalize Lib.byteCells l = bl at *
  have HCC := Lib.hid hcc
  clear hcc
  go_enter Tryz.func14, Tryz.ntmps14
  go_wp2_with (go_at_call 29; refine HCC.out.mono ?_)
  rintro e w1 ⟨rfl, h1, hb1, hs1⟩
  obtain ⟨hB, v, hbk, hown, hne⟩ := h1
  have c0 : w1.cell? ⟨b, 0, none⟩ = some (.pointer (some ⟨b, 0, none⟩)) := by rw [Lib.cell_of_heap hbk]; rfl
  have c1 : w1.cell? ⟨b, 1, none⟩ = some v := by rw [Lib.cell_of_heap hbk]; rfl
  go_wp2_with (at_builtin; refine Lib.wpList_append_own_string _ rfl _ _ 49 9 rfl B 5 i0 Tryz.underlying49 Tryz.underlying9 hi hz0 hz1 hz2 _ _ _ rfl hown s rfl ?c3 ?c4 ?c5 ?_)
  case c3 => unfold maxLen; omega
  case c4 => omega
  case c5 => have := hb1.size; omega
  intro v' w2 hown' hgrow _
  have hlt : b < w1.heap.size := by
    rcases Nat.lt_or_ge b w1.heap.size with h' | h'
    · exact h'
    · simp [Array.getElem?_eq_none h'] at hbk
  have hb2 : w2.heap[b]? = some (.cells #[.pointer (some ⟨b, 0, none⟩), v] 51 (0, 0)) := by
    rw [hgrow.block b hlt (fun e => hne e.symm)]
    exact hbk
  have d0 : w2.cell? ⟨b, 0, none⟩ = some (.pointer (some ⟨b, 0, none⟩)) := by rw [Lib.cell_of_heap hb2]; rfl
  have d1 : w2.cell? ⟨b, 1, none⟩ = some v := by rw [Lib.cell_of_heap hb2]; rfl
  have f1 : w2.frozen? ⟨b, 1, none⟩ = false := Lib.frozen_of_heap hb2 1
  obtain ⟨ao, n', cap, rfl⟩ : ∃ ao n' cap, v' = .slice ao n' cap := by
    rcases hown'.2 with ⟨hv, _⟩ | ⟨g, cap, cur, hv, _⟩
    · exact ⟨_, _, _, hv⟩
    · exact ⟨_, _, _, hv⟩
  go_wp2
  go_ret2
  have hbe : Below B w (w2.setCell ⟨b, 1, none⟩ (.slice ao n' cap)) := (hb1.grown hgrow (by have := hb1.size; omega) (fun k hk => (hown.lt k hk).1)).setCell (p := ⟨b, 1, none⟩) hB _
  refine ⟨rfl, ⟨Or.inr ?_, Nat.le_trans hBw hbe.size⟩, hbe, hs1.trans fun k cs T fr e n x => ?_⟩
  · rw [← HBC.out]
    exact Lib.BuilderAt.put (T := 51) (e := 5) hB hb2 (bs' := bl ++ Lib.strCells s) (by simpa [Lib.strCells_length] using hown') (by decide)
  · rw [Below.heap_setCell _ _ _ _ e, hgrow.block k ?_ ?_]
    · exact x
    · rcases Nat.lt_or_ge k w1.heap.size with h' | h'
      · exact h'
      · simp [Array.getElem?_eq_none h'] at x
    · intro e
      exact Lib.ownBlock_ne hown x n e.symm

end Go.Proofs.YtfngechoipngmaaGreatDoor

namespace Go.Proofs.YtfngechoipngmaaGreatDoor
open Go.RowKit
set_option maxRecDepth 100000

/-- an exception handler's line -/
def guardL (a b c d : Int) : List UInt8 := [103, 117, 97, 114, 100, 32] ++ Lib.itoa a ++ [32] ++ Lib.itoa b ++ [32, 64] ++ Lib.itoa c ++ [32, 114] ++ Lib.itoa d
/-- the first line of a code -/
def headL (s : List UInt8) (a b c : Int) : List UInt8 := [99, 111, 100, 101, 32] ++ quoteL s ++ [32] ++ Lib.itoa a ++ [32] ++ Lib.itoa b ++ [32] ++ Lib.itoa c

set_option maxHeartbeats 1000000 in
theorem guarded_ret (a b c d : Int) (ha : inI a) (hb : inI b) (hc : inI c) (hd : inI d) (w : World) (hG : G w) :
    Calls Tryz.prog 20 #[.agg #[.int .i64 a, .int .i64 b, .int .i64 c, .int .i64 d]] w fun e w' => e = .returned (.string (bs (guardL a b c d))) ∧ Below w.heap.size w w' := by
  have sa := itoa_size a ha
  have sb := itoa_size b hb
  have sc := itoa_size c hc
  have sd := itoa_size d hd
  have l0 : ¬ (9223372036854775807 < 6 + (bs (Lib.itoa a)).size) := by omega
  have l1 : ¬ (9223372036854775807 < 6 + (bs (Lib.itoa a)).size + 1) := by omega
  have l2 : ¬ (9223372036854775807 < 6 + (bs (Lib.itoa a)).size + 1 + (bs (Lib.itoa b)).size) := by omega
  have l3 : ¬ (9223372036854775807 < 6 + (bs (Lib.itoa a)).size + 1 + (bs (Lib.itoa b)).size + 2) := by omega
  have l4 : ¬ (9223372036854775807 < 6 + (bs (Lib.itoa a)).size + 1 + (bs (Lib.itoa b)).size + 2 + (bs (Lib.itoa c)).size) := by omega
  have l5 : ¬ (9223372036854775807 < 6 + (bs (Lib.itoa a)).size + 1 + (bs (Lib.itoa b)).size + 2 + (bs (Lib.itoa c)).size + 2) := by omega
  have l6 : ¬ (9223372036854775807 < 6 + (bs (Lib.itoa a)).size + 1 + (bs (Lib.itoa b)).size + 2 + (bs (Lib.itoa c)).size + 2 + (bs (Lib.itoa d)).size) := by omega
  obtain ⟨g1, g2, g3⟩ := startS hG (Obj.cells #[Value.int IntKind.i64 a, Value.int IntKind.i64 b, Value.int IntKind.i64 c, Value.int IntKind.i64 d] 63)
  go_enter Tryz.func20, Tryz.ntmps20
  go_wp2_with fail
  go_region_held3 (fun w' => w'.cell? ⟨w.heap.size, 0, none⟩ = some (.int .i64 a) ∧ w'.cell? ⟨w.heap.size, 1, none⟩ = some (.int .i64 b) ∧ w'.cell? ⟨w.heap.size, 2, none⟩ = some (.int .i64 c) ∧ w'.cell? ⟨w.heap.size, 3, none⟩ = some (.int .i64 d) ∧ G w' ∧ Below w.heap.size w w' ∧ w.heap.size < w'.heap.size)
    (first | go_keep | (go_split_ands; obtain ⟨k1, k2, k3, k4⟩ := keepS (by assumption) (by assumption) (by assumption) (Nat.le_refl _) hbel; refine ⟨?_, ?_, ?_, ?_, k1, k2, k3⟩ <;> (rw [k4]; assumption)))
    ((first | (go_at_call 42; refine (itoa_ret _ ?h1 _ ?h2).mono ?_; (case h1 => assumption); (case h2 => (go_split_ands; assumption)); rintro e w1 ⟨rfl, hsz, hbel⟩)))
  all_goals
    go_wp2
    go_ret
    go_split_ands
    refine ⟨ret_str ?_, by assumption⟩
    show bs [103, 117, 97, 114, 100, 32] ++ bs _ ++ bs [32] ++ bs _ ++ bs [32, 64] ++ bs _ ++ bs [32, 114] ++ bs _ = _
    simp only [bs_append]
    rfl

set_option maxHeartbeats 1000000 in
theorem headed_ret (s : ByteArray) (a b c : Int) (vi vp vk vg : Value) (hs : s.size ≤ 65536) (ha : inI a) (hb : inI b) (hc : inI c) (w : World) (hG : G w) :
    Calls Tryz.prog 16 #[.agg #[.string s, .int .i64 a, .int .i64 b, .int .i64 c, vi, vp, vk, vg]] w fun e w' => e = .returned (.string (bs (headL s.data.toList a b c))) ∧ Below w.heap.size w w' := by
  have sq := quote_size s hs
  have sa := itoa_size a ha
  have sb := itoa_size b hb
  have sc := itoa_size c hc
  have l0 : ¬ (9223372036854775807 < 5 + (bs (quoteL s.data.toList)).size) := by omega
  have l1 : ¬ (9223372036854775807 < 5 + (bs (quoteL s.data.toList)).size + 1) := by omega
  have l2 : ¬ (9223372036854775807 < 5 + (bs (quoteL s.data.toList)).size + 1 + (bs (Lib.itoa a)).size) := by omega
  have l3 : ¬ (9223372036854775807 < 5 + (bs (quoteL s.data.toList)).size + 1 + (bs (Lib.itoa a)).size + 1) := by omega
  have l4 : ¬ (9223372036854775807 < 5 + (bs (quoteL s.data.toList)).size + 1 + (bs (Lib.itoa a)).size + 1 + (bs (Lib.itoa b)).size) := by omega
  have l5 : ¬ (9223372036854775807 < 5 + (bs (quoteL s.data.toList)).size + 1 + (bs (Lib.itoa a)).size + 1 + (bs (Lib.itoa b)).size + 1) := by omega
  have l6 : ¬ (9223372036854775807 < 5 + (bs (quoteL s.data.toList)).size + 1 + (bs (Lib.itoa a)).size + 1 + (bs (Lib.itoa b)).size + 1 + (bs (Lib.itoa c)).size) := by omega
  obtain ⟨g1, g2, g3⟩ := startS hG (Obj.cells #[.string s, .int .i64 a, .int .i64 b, .int .i64 c, vi, vp, vk, vg] 36)
  go_enter Tryz.func16, Tryz.ntmps16
  go_wp2_with fail
  go_region_held3 (fun w' => w'.cell? ⟨w.heap.size, 0, none⟩ = some (.string s) ∧ w'.cell? ⟨w.heap.size, 1, none⟩ = some (.int .i64 a) ∧ w'.cell? ⟨w.heap.size, 2, none⟩ = some (.int .i64 b) ∧ w'.cell? ⟨w.heap.size, 3, none⟩ = some (.int .i64 c) ∧ G w' ∧ Below w.heap.size w w' ∧ w.heap.size < w'.heap.size)
    (first | go_keep | (go_split_ands; obtain ⟨k1, k2, k3, k4⟩ := keepS (by assumption) (by assumption) (by assumption) (Nat.le_refl _) hbel; refine ⟨?_, ?_, ?_, ?_, k1, k2, k3⟩ <;> (rw [k4]; assumption)))
    ((first
      | (go_at_call 42; refine (itoa_ret _ ?h1 _ ?h2).mono ?_; (case h1 => assumption); (case h2 => (go_split_ands; assumption)); rintro e w1 ⟨rfl, hsz, hbel⟩)
      | (go_at_call 41; refine (quote_ret s ?h1 _).mono ?_; (case h1 => assumption); rintro e w1 ⟨rfl, hsz, hbel⟩)))
  all_goals
    go_wp2
    go_ret
    go_split_ands
    refine ⟨ret_str ?_, by assumption⟩
    show bs [99, 111, 100, 101, 32] ++ bs _ ++ bs [32] ++ bs _ ++ bs [32] ++ bs _ ++ bs [32] ++ bs _ = _
    simp only [bs_append]
    rfl

end Go.Proofs.YtfngechoipngmaaGreatDoor

namespace Go.Proofs.YtfngechoipngmaaGreatDoor
open Go.RowKit
set_option maxRecDepth 100000

def byteAt (s : ByteArray) (k : Nat) : Int := ((s[k]?.getD 0).toNat : Int)
theorem byteAt_eq {s : ByteArray} {k : Nat} (h : k < s.size) : byteAt s k = (s[k].toNat : Int) := by
  unfold byteAt
  rw [getElem?_pos s k h]
  rfl

/-- the number that the first bytes say, if they do -/
def numF (s : ByteArray) : Nat → Option Int
  | 0 => some 0
  | k + 1 => match numF s k with
    | none => none
    | some n => if 48 ≤ byteAt s k ∧ byteAt s k ≤ 57 then some (10 * n + (byteAt s k - 48)) else none

theorem numF_none {s : ByteArray} {k : Nat} (h : numF s k = none) : ∀ {m : Nat}, k ≤ m → numF s m = none := by
  intro m hm
  induction m with
  | zero =>
    obtain rfl : k = 0 := by omega
    exact h
  | succ m ih =>
    rcases Nat.lt_or_ge m k with h' | h'
    · obtain rfl : k = m + 1 := by omega
      exact h
    · rw [numF, ih h']

theorem numF_in {s : ByteArray} : ∀ {k : Nat} {n : Int}, numF s k = some n → 0 ≤ n ∧ n < ((10 ^ k : Nat) : Int)
  | 0, n, h => by cases h; decide
  | k + 1, n, h => by
    rw [numF] at h
    split at h
    · cases h
    · rename_i m hm
      have hi := numF_in hm
      split at h
      · cases h
        rw [Nat.pow_succ]
        omega
      · cases h

theorem numF_small {s : ByteArray} {k : Nat} {n : Int} (h : numF s k = some n) (hk : k ≤ 10) : 0 ≤ n ∧ n < 10000000000 := by
  have h1 := numF_in h
  have h2 : ((10 ^ k : Nat) : Int) ≤ ((10 ^ 10 : Nat) : Int) := Int.ofNat_le.2 (Nat.pow_le_pow_right (by omega) hk)
  have h3 : (10 ^ 10 : Nat) = 10000000000 := by decide
  rw [h3] at h2
  omega

theorem num_bad {s : ByteArray} {k : Nat} (h : k < s.size) (hd : ¬ (48 ≤ (s[k].toNat : Int) ∧ (s[k].toNat : Int) ≤ 57)) : numF s s.size = none := by
  have : numF s (k + 1) = none := by
    rw [numF]
    split
    · rfl
    · rw [byteAt_eq h, if_neg hd]
  exact numF_none this h

theorem num_next {s : ByteArray} {k : Nat} {m : Int} (hm : numF s k = some m) (h : k < s.size) (hd : 48 ≤ (s[k].toNat : Int) ∧ (s[k].toNat : Int) ≤ 57) : numF s (k + 1) = some (10 * m + ((s[k].toNat : Int) - 48)) := by
  rw [numF, hm]
  simp only [byteAt_eq h]
  rw [if_pos hd]

/-- the index that a text says -/
def idxF (s : ByteArray) : Option Int :=
  if s.size = 0 ∨ 10 < s.size ∨ (byteAt s 0 = 48 ∧ 1 < s.size) then none
  else match numF s s.size with
    | none => none
    | some n => if 4294967294 < n then none else some n

def idxV (s : ByteArray) : Value := match idxF s with | none => .tuple #[.int .i64 0, .bool false] | some n => .tuple #[.int .i64 n, .bool true]

theorem idx_early {s : ByteArray} (h : s.size = 0 ∨ 10 < s.size ∨ (byteAt s 0 = 48 ∧ 1 < s.size)) : idxV s = .tuple #[.int .i64 0, .bool false] := by
  unfold idxV idxF
  rw [if_pos h]
theorem idx_bad {s : ByteArray} (h : numF s s.size = none) : idxV s = .tuple #[.int .i64 0, .bool false] := by
  have e : idxF s = none := by
    unfold idxF
    rw [h]
    simp only [ite_self]
  unfold idxV
  rw [e]
theorem idx_big {s : ByteArray} {n : Int} (h : numF s s.size = some n) (hn : 4294967294 < n) : idxV s = .tuple #[.int .i64 0, .bool false] := by
  have e : idxF s = none := by
    unfold idxF
    rw [h]
    simp only [if_pos hn, ite_self]
  unfold idxV
  rw [e]
theorem idx_ok {s : ByteArray} {n : Int} (h0 : ¬ (s.size = 0 ∨ 10 < s.size ∨ (byteAt s 0 = 48 ∧ 1 < s.size))) (h : numF s s.size = some n) (hn : ¬ 4294967294 < n) : idxV s = .tuple #[.int .i64 n, .bool true] := by
  unfold idxV idxF
  rw [if_neg h0, h]
  simp only [if_neg hn]

set_option maxHeartbeats 2000000 in
theorem index_ret (s : ByteArray) (hs : s.size ≤ 65536) (w : World) : Calls Tryz.prog 67 #[.string s] w fun e w' => e = .returned (idxV s) ∧ w = w' := by
  by_cases h0 : s.size = 0
  · have HB := Lib.hid (idx_early (s := s) (Or.inl h0))
    have he : s = ByteArray.empty := by
      apply ByteArray.ext
      apply Array.eq_empty_of_size_eq_zero
      exact h0
    have hi : idxV ByteArray.empty = .tuple #[.int .i64 0, .bool false] := by rw [← he]; exact HB.out
    subst he
    have HI := Lib.hid hi
    clear HB h0 hi
    go_enter Tryz.func67, Tryz.ntmps67
    go_wp2
    go_ret2
    exact ⟨congrArg Ending.returned HI.out.symm, rfl⟩
  have hne : s.toList.isEmpty = false := by
    rw [ByteArray.toList_eq]
    cases h : s.data.toList with
    | nil => exact absurd (by rw [← Array.length_toList, h]; rfl : s.data.size = 0) h0
    | cons => rfl
  by_cases h10 : 10 < s.size
  · have HB := Lib.hid (idx_early (s := s) (Or.inr (Or.inl h10)))
    have h10' : (10 : Int) < (s.size : Int) := by omega
    go_enter Tryz.func67, Tryz.ntmps67
    go_wp2
    go_ret2
    exact ⟨congrArg Ending.returned HB.out.symm, rfl⟩
  have h10' : (s.size : Int) ≤ 10 := by omega
  have h10d : decide (10 < s.size) = false := by simp; omega
  have hpos : 0 < s.size := by omega
  have eb := byteAt_eq hpos
  have hc := byte_hi s[0]
  by_cases h48 : (s[0].toNat : Int) = 48
  · have f48 : ((s[0].toNat : Int) == 48) = true := by simpa using h48
    by_cases h1 : 1 < s.size
    · have HB := Lib.hid (idx_early (s := s) (Or.inr (Or.inr ⟨eb.trans h48, h1⟩)))
      have h1' : (1 : Int) < (s.size : Int) := by omega
      clear eb h48
      go_enter Tryz.func67, Tryz.ntmps67
      go_wp2
      go_ret2
      exact ⟨congrArg Ending.returned HB.out.symm, rfl⟩
    · have H0 : Hid (¬ (s.size = 0 ∨ 10 < s.size ∨ (byteAt s 0 = 48 ∧ 1 < s.size))) := Lib.hid (by omega)
      have h1' : decide (1 < s.size) = false := by simp; omega
      clear eb h48
      go_enter Tryz.func67, Tryz.ntmps67
      go_wp2
      go_loop [4, 25] (fun n i => ∃ (k : Nat) (m : Int), k ≤ s.size ∧ i = .int .i64 k ∧ n = .int .i64 m ∧ numF s k = some m) (fun _ i => s.size - (intOf i).toNat)
      case atStart => exact ⟨0, 0, Nat.zero_le _, rfl, rfl, rfl⟩
      case round =>
        obtain ⟨k, m, hk, rfl, rfl, hm⟩ := hrel
        obtain ⟨hm0, hm1⟩ := numF_small hm (by omega)
        have HM := Lib.hid hm
        clear hm
        by_cases hlt : k < s.size
        · have hc := byte_hi s[k]
          have hc0 : (0 : Int) ≤ (s[k].toNat : Int) := Int.natCast_nonneg _
          by_cases hd : 48 ≤ (s[k].toNat : Int) ∧ (s[k].toNat : Int) ≤ 57
          · have HN := Lib.hid (num_next HM.out hlt hd)
            obtain ⟨hd0, hd1⟩ := hd
            have hd2 : decide ((s[k].toNat : Int) < 48) = false := by simp; omega
            have hd3 : decide (57 < (s[k].toNat : Int)) = false := by simp; omega
            go_wp2
            go_round
            case rel => exact ⟨k + 1, 10 * m + ((s[k].toNat : Int) - 48), by omega, by go_num, congrArg (Value.int .i64) (by omega), HN.out⟩
            case measure => simp [intOf]; omega
          · have HN := Lib.hid (idx_bad (num_bad hlt hd))
            have hd' : (s[k].toNat : Int) < 48 ∨ 57 < (s[k].toNat : Int) := by omega
            clear hd
            rcases hd' with hd | hd
            · go_wp2
              go_ret2
              exact ⟨congrArg Ending.returned HN.out.symm, rfl⟩
            · have hd2 : decide ((s[k].toNat : Int) < 48) = false := by simp; omega
              go_wp2
              go_ret2
              exact ⟨congrArg Ending.returned HN.out.symm, rfl⟩
        · have hk' : k = s.size := by omega
          have HN : Hid (numF s s.size = some m) := Lib.hid (by rw [← hk']; exact HM.out)
          clear hk'
          by_cases hb : 4294967294 < m
          · have HB := Lib.hid (idx_big HN.out hb)
            go_wp2
            go_ret2
            exact ⟨congrArg Ending.returned HB.out.symm, rfl⟩
          · have HB := Lib.hid (idx_ok H0.out HN.out hb)
            have hb' : m ≤ 4294967294 := by omega
            clear hb
            go_wp2
            go_ret2
            exact ⟨congrArg Ending.returned HB.out.symm, rfl⟩
  · have f48 : ((s[0].toNat : Int) == 48) = false := by simpa using h48
    have H0 : Hid (¬ (s.size = 0 ∨ 10 < s.size ∨ (byteAt s 0 = 48 ∧ 1 < s.size))) := Lib.hid (by rw [eb]; omega)
    clear eb h48
    · go_enter Tryz.func67, Tryz.ntmps67
      go_wp2
      go_loop [4, 25] (fun n i => ∃ (k : Nat) (m : Int), k ≤ s.size ∧ i = .int .i64 k ∧ n = .int .i64 m ∧ numF s k = some m) (fun _ i => s.size - (intOf i).toNat)
      case atStart => exact ⟨0, 0, Nat.zero_le _, rfl, rfl, rfl⟩
      case round =>
        obtain ⟨k, m, hk, rfl, rfl, hm⟩ := hrel
        obtain ⟨hm0, hm1⟩ := numF_small hm (by omega)
        have HM := Lib.hid hm
        clear hm
        by_cases hlt : k < s.size
        · have hc := byte_hi s[k]
          have hc0 : (0 : Int) ≤ (s[k].toNat : Int) := Int.natCast_nonneg _
          by_cases hd : 48 ≤ (s[k].toNat : Int) ∧ (s[k].toNat : Int) ≤ 57
          · have HN := Lib.hid (num_next HM.out hlt hd)
            obtain ⟨hd0, hd1⟩ := hd
            have hd2 : decide ((s[k].toNat : Int) < 48) = false := by simp; omega
            have hd3 : decide (57 < (s[k].toNat : Int)) = false := by simp; omega
            go_wp2
            go_round
            case rel => exact ⟨k + 1, 10 * m + ((s[k].toNat : Int) - 48), by omega, by go_num, congrArg (Value.int .i64) (by omega), HN.out⟩
            case measure => simp [intOf]; omega
          · have HN := Lib.hid (idx_bad (num_bad hlt hd))
            have hd' : (s[k].toNat : Int) < 48 ∨ 57 < (s[k].toNat : Int) := by omega
            clear hd
            rcases hd' with hd | hd
            · go_wp2
              go_ret2
              exact ⟨congrArg Ending.returned HN.out.symm, rfl⟩
            · have hd2 : decide ((s[k].toNat : Int) < 48) = false := by simp; omega
              go_wp2
              go_ret2
              exact ⟨congrArg Ending.returned HN.out.symm, rfl⟩
        · have hk' : k = s.size := by omega
          have HN : Hid (numF s s.size = some m) := Lib.hid (by rw [← hk']; exact HM.out)
          clear hk'
          by_cases hb : 4294967294 < m
          · have HB := Lib.hid (idx_big HN.out hb)
            go_wp2
            go_ret2
            exact ⟨congrArg Ending.returned HB.out.symm, rfl⟩
          · have HB := Lib.hid (idx_ok H0.out HN.out hb)
            have hb' : m ≤ 4294967294 := by omega
            clear hb
            go_wp2
            go_ret2
            exact ⟨congrArg Ending.returned HB.out.symm, rfl⟩

end Go.Proofs.YtfngechoipngmaaGreatDoor
