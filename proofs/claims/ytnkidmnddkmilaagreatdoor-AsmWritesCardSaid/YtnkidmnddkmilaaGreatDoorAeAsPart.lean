/-
  Operands as text.
-/
import Derived.Test.YtnkidmnddkmilaaGreatDoorAeAsNum
namespace Go.Proofs.YtnkidmnddkmilaaGreatDoor
open Go.RowKit
set_option maxRecDepth 100000

theorem tdiv_pos' {n : Int} (h : 0 ≤ n) (k : Int) : n.tdiv k = n / k := Int.tdiv_eq_ediv_of_nonneg h
theorem tmod_pos' {n : Int} (h : 0 ≤ n) (k : Int) : n.tmod k = n % k := Int.tmod_eq_emod_of_nonneg h
theorem tdiv_neg' {n : Int} (h : n < 0) (k : Int) : n.tdiv k = -((-n) / k) := by
  have := Int.neg_tdiv (-n) k
  rw [Int.neg_neg] at this
  rw [this, tdiv_pos' (by omega)]
theorem tmod_neg' {n : Int} (h : n < 0) (k : Int) : n.tmod k = -((-n) % k) := by
  have := Int.neg_tmod (-n) k
  rw [Int.neg_neg] at this
  rw [this, tmod_pos' (by omega)]

theorem floor_t2 (n : Int) : (n.tmod 2 < 0 → n.tdiv 2 - 1 = n / 2 ∧ n.tmod 2 + 2 = n % 2) ∧ (0 ≤ n.tmod 2 → n.tdiv 2 = n / 2 ∧ n.tmod 2 = n % 2) := by
  by_cases h : n < 0
  · rw [tdiv_neg' h, tmod_neg' h]; omega
  · rw [tdiv_pos' (by omega), tmod_pos' (by omega)]; omega
theorem floor_t4 (n : Int) : (n.tmod 4 < 0 → n.tdiv 4 - 1 = n / 4 ∧ n.tmod 4 + 4 = n % 4) ∧ (0 ≤ n.tmod 4 → n.tdiv 4 = n / 4 ∧ n.tmod 4 = n % 4) := by
  by_cases h : n < 0
  · rw [tdiv_neg' h, tmod_neg' h]; omega
  · rw [tdiv_pos' (by omega), tmod_pos' (by omega)]; omega

theorem ret_two {a b c d : Int} (h1 : a = c) (h2 : b = d) : Ending.returned (.tuple #[.int .i64 a, .int .i64 b]) = .returned (.tuple #[.int .i64 c, .int .i64 d]) := by rw [h1, h2]

theorem floor_2 (n q r : Int) (hn : inI n) (hq : q = n / 2) (hr : r = n % 2) (w : World) : Calls Tryz.prog 77 #[.int .i64 n, .int .i64 2] w fun e w' => e = .returned (.tuple #[.int .i64 q, .int .i64 r]) ∧ Below w.heap.size w w' := by
  obtain ⟨ha, hb⟩ := hn
  have hf := floor_t2 n
  have HQ := Lib.hid hq
  have HR := Lib.hid hr
  have HF := Lib.hid hf
  clear hq hr hf
  go_enter Tryz.func77, Tryz.ntmps77
  go_wp2_with (fail)
  go_quiet (fail)
  go_wp2
  all_goals
    go_ret2
    refine ⟨?_, below_drewN (Below.refl _ _) _⟩
    have hq := HQ.out
    have hr := HR.out
    have hf := HF.out
    refine ret_two ?_ ?_
    all_goals
      first
        | (rw [Go.IntWalk.wrap64_in _ (by omega)]; omega)
        | omega

theorem floor_4 (n q r : Int) (hn : inI n) (hq : q = n / 4) (hr : r = n % 4) (w : World) : Calls Tryz.prog 77 #[.int .i64 n, .int .i64 4] w fun e w' => e = .returned (.tuple #[.int .i64 q, .int .i64 r]) ∧ Below w.heap.size w w' := by
  obtain ⟨ha, hb⟩ := hn
  have hf := floor_t4 n
  have HQ := Lib.hid hq
  have HR := Lib.hid hr
  have HF := Lib.hid hf
  clear hq hr hf
  go_enter Tryz.func77, Tryz.ntmps77
  go_wp2_with (fail)
  go_quiet (fail)
  go_wp2
  all_goals
    go_ret2
    refine ⟨?_, below_drewN (Below.refl _ _) _⟩
    have hq := HQ.out
    have hr := HR.out
    have hf := HF.out
    refine ret_two ?_ ?_
    all_goals
      first
        | (rw [Go.IntWalk.wrap64_in _ (by omega)]; omega)
        | omega

/-- the mark behind an operand that is the kind of a property -/
def sufT (k : Int) : List UInt8 := if k = 1 then [60] else if k = 2 then [62] else if k = 3 then [63] else []

/-- an operand of a kind, as text -/
def partL (g n : Int) : List UInt8 :=
  if g = 114 ∨ g = 100 then 114 :: Lib.itoa n
  else if g = 113 then 114 :: (Lib.itoa (n / 2) ++ if n % 2 = 1 then [33] else [])
  else if g = 116 then 114 :: (Lib.itoa (n / 4) ++ sufT (n % 4))
  else if g = 112 ∨ g = 111 then 99 :: Lib.itoa n
  else if g = 107 ∨ g = 103 then 107 :: Lib.itoa n
  else if g = 102 then 102 :: Lib.itoa n
  else if g = 106 then 64 :: Lib.itoa n
  else Lib.itoa n

theorem odd_0 (W : World) : (Instr.index 102 (.agg #[.string ⟨#[]⟩, .string ⟨#[33]⟩]) (.int .i64 0)).run Tryz.prog W = .ok (.string ⟨#[]⟩) W := by
  unfold Instr.index
  simp [go_sem, run_underlying Tryz.underlying102]
theorem odd_1 (W : World) : (Instr.index 102 (.agg #[.string ⟨#[]⟩, .string ⟨#[33]⟩]) (.int .i64 1)).run Tryz.prog W = .ok (.string ⟨#[33]⟩) W := by
  unfold Instr.index
  simp [go_sem, run_underlying Tryz.underlying102]

theorem kind_cell {w : World} (hG : G w) : (w.cell? ⟨0, 0, none⟩ = some (.string ⟨#[]⟩) ∧ w.cell? ⟨0, 1, none⟩ = some (.string ⟨#[60]⟩)) ∧ w.cell? ⟨0, 2, none⟩ = some (.string ⟨#[62]⟩) ∧ w.cell? ⟨0, 3, none⟩ = some (.string ⟨#[63]⟩) := by
  obtain ⟨ty, fr, e⟩ := hG.kinds
  refine ⟨⟨?_, ?_⟩, ?_, ?_⟩ <;> (rw [Lib.cell_of_heap e]; rfl)

set_option maxHeartbeats 1000000 in
theorem part_114 (n : Int) (hn : inI n) (w : World) (hG : G w) : Calls Tryz.prog 45 #[.int .u8 114, .int .i64 n] w fun e w' => e = .returned (.string (bs (114 :: Lib.itoa n))) ∧ Below w.heap.size w w' := by
  go_enter Tryz.func45, Tryz.ntmps45
  go_wp2_with (go_at_call 41; refine (itoa_ret n hn _ (by assumption)).mono ?_; rintro e w1 ⟨rfl, hsz, hbel⟩)
  go_ret
  exact ⟨ret_str (bs_append [114] _), hbel⟩

set_option maxHeartbeats 1000000 in
theorem part_100 (n : Int) (hn : inI n) (w : World) (hG : G w) : Calls Tryz.prog 45 #[.int .u8 100, .int .i64 n] w fun e w' => e = .returned (.string (bs (114 :: Lib.itoa n))) ∧ Below w.heap.size w w' := by
  go_enter Tryz.func45, Tryz.ntmps45
  go_wp2_with (go_at_call 41; refine (itoa_ret n hn _ (by assumption)).mono ?_; rintro e w1 ⟨rfl, hsz, hbel⟩)
  go_ret
  exact ⟨ret_str (bs_append [114] _), hbel⟩

set_option maxHeartbeats 1000000 in
theorem part_112 (n : Int) (hn : inI n) (w : World) (hG : G w) : Calls Tryz.prog 45 #[.int .u8 112, .int .i64 n] w fun e w' => e = .returned (.string (bs (99 :: Lib.itoa n))) ∧ Below w.heap.size w w' := by
  go_enter Tryz.func45, Tryz.ntmps45
  go_wp2_with (go_at_call 41; refine (itoa_ret n hn _ (by assumption)).mono ?_; rintro e w1 ⟨rfl, hsz, hbel⟩)
  go_ret
  exact ⟨ret_str (bs_append [99] _), hbel⟩

set_option maxHeartbeats 1000000 in
theorem part_111 (n : Int) (hn : inI n) (w : World) (hG : G w) : Calls Tryz.prog 45 #[.int .u8 111, .int .i64 n] w fun e w' => e = .returned (.string (bs (99 :: Lib.itoa n))) ∧ Below w.heap.size w w' := by
  go_enter Tryz.func45, Tryz.ntmps45
  go_wp2_with (go_at_call 41; refine (itoa_ret n hn _ (by assumption)).mono ?_; rintro e w1 ⟨rfl, hsz, hbel⟩)
  go_ret
  exact ⟨ret_str (bs_append [99] _), hbel⟩

set_option maxHeartbeats 1000000 in
theorem part_107 (n : Int) (hn : inI n) (w : World) (hG : G w) : Calls Tryz.prog 45 #[.int .u8 107, .int .i64 n] w fun e w' => e = .returned (.string (bs (107 :: Lib.itoa n))) ∧ Below w.heap.size w w' := by
  go_enter Tryz.func45, Tryz.ntmps45
  go_wp2_with (go_at_call 41; refine (itoa_ret n hn _ (by assumption)).mono ?_; rintro e w1 ⟨rfl, hsz, hbel⟩)
  go_ret
  exact ⟨ret_str (bs_append [107] _), hbel⟩

set_option maxHeartbeats 1000000 in
theorem part_103 (n : Int) (hn : inI n) (w : World) (hG : G w) : Calls Tryz.prog 45 #[.int .u8 103, .int .i64 n] w fun e w' => e = .returned (.string (bs (107 :: Lib.itoa n))) ∧ Below w.heap.size w w' := by
  go_enter Tryz.func45, Tryz.ntmps45
  go_wp2_with (go_at_call 41; refine (itoa_ret n hn _ (by assumption)).mono ?_; rintro e w1 ⟨rfl, hsz, hbel⟩)
  go_ret
  exact ⟨ret_str (bs_append [107] _), hbel⟩

set_option maxHeartbeats 1000000 in
theorem part_102 (n : Int) (hn : inI n) (w : World) (hG : G w) : Calls Tryz.prog 45 #[.int .u8 102, .int .i64 n] w fun e w' => e = .returned (.string (bs (102 :: Lib.itoa n))) ∧ Below w.heap.size w w' := by
  go_enter Tryz.func45, Tryz.ntmps45
  go_wp2_with (go_at_call 41; refine (itoa_ret n hn _ (by assumption)).mono ?_; rintro e w1 ⟨rfl, hsz, hbel⟩)
  go_ret
  exact ⟨ret_str (bs_append [102] _), hbel⟩

set_option maxHeartbeats 1000000 in
theorem part_106 (n : Int) (hn : inI n) (w : World) (hG : G w) : Calls Tryz.prog 45 #[.int .u8 106, .int .i64 n] w fun e w' => e = .returned (.string (bs (64 :: Lib.itoa n))) ∧ Below w.heap.size w w' := by
  go_enter Tryz.func45, Tryz.ntmps45
  go_wp2_with (go_at_call 41; refine (itoa_ret n hn _ (by assumption)).mono ?_; rintro e w1 ⟨rfl, hsz, hbel⟩)
  go_ret
  exact ⟨ret_str (bs_append [64] _), hbel⟩

set_option maxHeartbeats 1000000 in
theorem part_110 (n : Int) (hn : inI n) (w : World) (hG : G w) : Calls Tryz.prog 45 #[.int .u8 110, .int .i64 n] w fun e w' => e = .returned (.string (bs (Lib.itoa n))) ∧ Below w.heap.size w w' := by
  go_enter Tryz.func45, Tryz.ntmps45
  go_wp2_with (go_at_call 41; refine (itoa_ret n hn _ (by assumption)).mono ?_; rintro e w1 ⟨rfl, hsz, hbel⟩)
  go_ret
  exact ⟨ret_str rfl, hbel⟩

set_option maxHeartbeats 1000000 in
theorem part_97 (n : Int) (hn : inI n) (w : World) (hG : G w) : Calls Tryz.prog 45 #[.int .u8 97, .int .i64 n] w fun e w' => e = .returned (.string (bs (Lib.itoa n))) ∧ Below w.heap.size w w' := by
  go_enter Tryz.func45, Tryz.ntmps45
  go_wp2_with (go_at_call 41; refine (itoa_ret n hn _ (by assumption)).mono ?_; rintro e w1 ⟨rfl, hsz, hbel⟩)
  go_ret
  exact ⟨ret_str rfl, hbel⟩

set_option maxHeartbeats 1000000 in
theorem part_98 (n : Int) (hn : inI n) (w : World) (hG : G w) : Calls Tryz.prog 45 #[.int .u8 98, .int .i64 n] w fun e w' => e = .returned (.string (bs (Lib.itoa n))) ∧ Below w.heap.size w w' := by
  go_enter Tryz.func45, Tryz.ntmps45
  go_wp2_with (go_at_call 41; refine (itoa_ret n hn _ (by assumption)).mono ?_; rintro e w1 ⟨rfl, hsz, hbel⟩)
  go_ret
  exact ⟨ret_str rfl, hbel⟩


set_option maxHeartbeats 1000000 in
theorem part_q0 (n q : Int) (hq : inI q) (hf : ∀ w, Calls Tryz.prog 77 #[.int .i64 n, .int .i64 2] w fun e w' => e = .returned (.tuple #[.int .i64 q, .int .i64 0]) ∧ Below w.heap.size w w') (w : World) (hG : G w) :
    Calls Tryz.prog 45 #[.int .u8 113, .int .i64 n] w fun e w' => e = .returned (.string (bs (114 :: (Lib.itoa q ++ [])))) ∧ Below w.heap.size w w' := by
  have s0 := itoa_size q hq
  have l0 : ¬ (9223372036854775807 < 1 + (bs (Lib.itoa q)).size) := by omega
  have l1 : ¬ (9223372036854775807 < 1 + (bs (Lib.itoa q)).size + 1) := by omega
  go_enter Tryz.func45, Tryz.ntmps45
  go_wp2_with (go_at_call 77; refine (hf _).mono ?_; rintro e w1 ⟨rfl, hb1⟩)
  have hG1 : G w1.drew := (hG.below hb1 hG.size).below (Below.drew (Below.refl _ _)) (Nat.le_trans hG.size hb1.size)
  have hb2 : Below w.heap.size w w1.drew := hb1.drew
  have ho := odd_0
  go_region_held3 (fun w' => G w' ∧ Below w.heap.size w w')
    (first | go_keep | (go_split_ands; exact ⟨‹G _›.below hbel ‹G _›.size, ‹Below w.heap.size w _›.trans (hbel.mono ‹Below w.heap.size w _›.size)⟩))
    ((first | (go_at_call 41; refine (itoa_ret _ ?h1 _ ?h2).mono ?_; (case h1 => assumption); (case h2 => (go_split_ands; assumption)); rintro e w2 ⟨rfl, hsz, hbel⟩)))
  all_goals
    go_wp2
    go_ret
    go_split_ands
    refine ⟨ret_str ?_, by assumption⟩
    show bs [114] ++ bs _ ++ bs [] = _
    simp only [bs_append]
    rfl

set_option maxHeartbeats 1000000 in
theorem part_q1 (n q : Int) (hq : inI q) (hf : ∀ w, Calls Tryz.prog 77 #[.int .i64 n, .int .i64 2] w fun e w' => e = .returned (.tuple #[.int .i64 q, .int .i64 1]) ∧ Below w.heap.size w w') (w : World) (hG : G w) :
    Calls Tryz.prog 45 #[.int .u8 113, .int .i64 n] w fun e w' => e = .returned (.string (bs (114 :: (Lib.itoa q ++ [33])))) ∧ Below w.heap.size w w' := by
  have s0 := itoa_size q hq
  have l0 : ¬ (9223372036854775807 < 1 + (bs (Lib.itoa q)).size) := by omega
  have l1 : ¬ (9223372036854775807 < 1 + (bs (Lib.itoa q)).size + 1) := by omega
  go_enter Tryz.func45, Tryz.ntmps45
  go_wp2_with (go_at_call 77; refine (hf _).mono ?_; rintro e w1 ⟨rfl, hb1⟩)
  have hG1 : G w1.drew := (hG.below hb1 hG.size).below (Below.drew (Below.refl _ _)) (Nat.le_trans hG.size hb1.size)
  have hb2 : Below w.heap.size w w1.drew := hb1.drew
  have ho := odd_1
  go_region_held3 (fun w' => G w' ∧ Below w.heap.size w w')
    (first | go_keep | (go_split_ands; exact ⟨‹G _›.below hbel ‹G _›.size, ‹Below w.heap.size w _›.trans (hbel.mono ‹Below w.heap.size w _›.size)⟩))
    ((first | (go_at_call 41; refine (itoa_ret _ ?h1 _ ?h2).mono ?_; (case h1 => assumption); (case h2 => (go_split_ands; assumption)); rintro e w2 ⟨rfl, hsz, hbel⟩)))
  all_goals
    go_wp2
    go_ret
    go_split_ands
    refine ⟨ret_str ?_, by assumption⟩
    show bs [114] ++ bs _ ++ bs [33] = _
    simp only [bs_append]
    rfl

set_option maxHeartbeats 1000000 in
theorem part_t0 (n q : Int) (hq : inI q) (hf : ∀ w, Calls Tryz.prog 77 #[.int .i64 n, .int .i64 4] w fun e w' => e = .returned (.tuple #[.int .i64 q, .int .i64 0]) ∧ Below w.heap.size w w') (w : World) (hG : G w) :
    Calls Tryz.prog 45 #[.int .u8 116, .int .i64 n] w fun e w' => e = .returned (.string (bs (114 :: (Lib.itoa q ++ [])))) ∧ Below w.heap.size w w' := by
  have s0 := itoa_size q hq
  have l0 : ¬ (9223372036854775807 < 1 + (bs (Lib.itoa q)).size) := by omega
  have l1 : ¬ (9223372036854775807 < 1 + (bs (Lib.itoa q)).size + 1) := by omega
  go_enter Tryz.func45, Tryz.ntmps45
  go_wp2_with (go_at_call 77; refine (hf _).mono ?_; rintro e w1 ⟨rfl, hb1⟩)
  have hG1 : G w1.drew := (hG.below hb1 hG.size).below (Below.drew (Below.refl _ _)) (Nat.le_trans hG.size hb1.size)
  have hb2 : Below w.heap.size w w1.drew := hb1.drew
  have hk := (kind_cell hG1).1.1
  go_region_held3 (fun w' => w'.cell? ⟨0, 0, none⟩ = some (.string ⟨#[]⟩) ∧ G w' ∧ Below w.heap.size w w')
    (first | go_keep | (go_split_ands; have hg2 := ‹G _›.below hbel ‹G _›.size; exact ⟨(kind_cell hg2).1.1, hg2, ‹Below w.heap.size w _›.trans (hbel.mono ‹Below w.heap.size w _›.size)⟩))
    ((first | (go_at_call 41; refine (itoa_ret _ ?h1 _ ?h2).mono ?_; (case h1 => assumption); (case h2 => (go_split_ands; assumption)); rintro e w2 ⟨rfl, hsz, hbel⟩)))
  all_goals
    go_wp2
    go_ret
    go_split_ands
    refine ⟨ret_str ?_, by assumption⟩
    show bs [114] ++ bs _ ++ bs [] = _
    simp only [bs_append]
    rfl

set_option maxHeartbeats 1000000 in
theorem part_t1 (n q : Int) (hq : inI q) (hf : ∀ w, Calls Tryz.prog 77 #[.int .i64 n, .int .i64 4] w fun e w' => e = .returned (.tuple #[.int .i64 q, .int .i64 1]) ∧ Below w.heap.size w w') (w : World) (hG : G w) :
    Calls Tryz.prog 45 #[.int .u8 116, .int .i64 n] w fun e w' => e = .returned (.string (bs (114 :: (Lib.itoa q ++ [60])))) ∧ Below w.heap.size w w' := by
  have s0 := itoa_size q hq
  have l0 : ¬ (9223372036854775807 < 1 + (bs (Lib.itoa q)).size) := by omega
  have l1 : ¬ (9223372036854775807 < 1 + (bs (Lib.itoa q)).size + 1) := by omega
  go_enter Tryz.func45, Tryz.ntmps45
  go_wp2_with (go_at_call 77; refine (hf _).mono ?_; rintro e w1 ⟨rfl, hb1⟩)
  have hG1 : G w1.drew := (hG.below hb1 hG.size).below (Below.drew (Below.refl _ _)) (Nat.le_trans hG.size hb1.size)
  have hb2 : Below w.heap.size w w1.drew := hb1.drew
  have hk := (kind_cell hG1).1.2
  go_region_held3 (fun w' => w'.cell? ⟨0, 1, none⟩ = some (.string ⟨#[60]⟩) ∧ G w' ∧ Below w.heap.size w w')
    (first | go_keep | (go_split_ands; have hg2 := ‹G _›.below hbel ‹G _›.size; exact ⟨(kind_cell hg2).1.2, hg2, ‹Below w.heap.size w _›.trans (hbel.mono ‹Below w.heap.size w _›.size)⟩))
    ((first | (go_at_call 41; refine (itoa_ret _ ?h1 _ ?h2).mono ?_; (case h1 => assumption); (case h2 => (go_split_ands; assumption)); rintro e w2 ⟨rfl, hsz, hbel⟩)))
  all_goals
    go_wp2
    go_ret
    go_split_ands
    refine ⟨ret_str ?_, by assumption⟩
    show bs [114] ++ bs _ ++ bs [60] = _
    simp only [bs_append]
    rfl

set_option maxHeartbeats 1000000 in
theorem part_t2 (n q : Int) (hq : inI q) (hf : ∀ w, Calls Tryz.prog 77 #[.int .i64 n, .int .i64 4] w fun e w' => e = .returned (.tuple #[.int .i64 q, .int .i64 2]) ∧ Below w.heap.size w w') (w : World) (hG : G w) :
    Calls Tryz.prog 45 #[.int .u8 116, .int .i64 n] w fun e w' => e = .returned (.string (bs (114 :: (Lib.itoa q ++ [62])))) ∧ Below w.heap.size w w' := by
  have s0 := itoa_size q hq
  have l0 : ¬ (9223372036854775807 < 1 + (bs (Lib.itoa q)).size) := by omega
  have l1 : ¬ (9223372036854775807 < 1 + (bs (Lib.itoa q)).size + 1) := by omega
  go_enter Tryz.func45, Tryz.ntmps45
  go_wp2_with (go_at_call 77; refine (hf _).mono ?_; rintro e w1 ⟨rfl, hb1⟩)
  have hG1 : G w1.drew := (hG.below hb1 hG.size).below (Below.drew (Below.refl _ _)) (Nat.le_trans hG.size hb1.size)
  have hb2 : Below w.heap.size w w1.drew := hb1.drew
  have hk := (kind_cell hG1).2.1
  go_region_held3 (fun w' => w'.cell? ⟨0, 2, none⟩ = some (.string ⟨#[62]⟩) ∧ G w' ∧ Below w.heap.size w w')
    (first | go_keep | (go_split_ands; have hg2 := ‹G _›.below hbel ‹G _›.size; exact ⟨(kind_cell hg2).2.1, hg2, ‹Below w.heap.size w _›.trans (hbel.mono ‹Below w.heap.size w _›.size)⟩))
    ((first | (go_at_call 41; refine (itoa_ret _ ?h1 _ ?h2).mono ?_; (case h1 => assumption); (case h2 => (go_split_ands; assumption)); rintro e w2 ⟨rfl, hsz, hbel⟩)))
  all_goals
    go_wp2
    go_ret
    go_split_ands
    refine ⟨ret_str ?_, by assumption⟩
    show bs [114] ++ bs _ ++ bs [62] = _
    simp only [bs_append]
    rfl

set_option maxHeartbeats 1000000 in
theorem part_t3 (n q : Int) (hq : inI q) (hf : ∀ w, Calls Tryz.prog 77 #[.int .i64 n, .int .i64 4] w fun e w' => e = .returned (.tuple #[.int .i64 q, .int .i64 3]) ∧ Below w.heap.size w w') (w : World) (hG : G w) :
    Calls Tryz.prog 45 #[.int .u8 116, .int .i64 n] w fun e w' => e = .returned (.string (bs (114 :: (Lib.itoa q ++ [63])))) ∧ Below w.heap.size w w' := by
  have s0 := itoa_size q hq
  have l0 : ¬ (9223372036854775807 < 1 + (bs (Lib.itoa q)).size) := by omega
  have l1 : ¬ (9223372036854775807 < 1 + (bs (Lib.itoa q)).size + 1) := by omega
  go_enter Tryz.func45, Tryz.ntmps45
  go_wp2_with (go_at_call 77; refine (hf _).mono ?_; rintro e w1 ⟨rfl, hb1⟩)
  have hG1 : G w1.drew := (hG.below hb1 hG.size).below (Below.drew (Below.refl _ _)) (Nat.le_trans hG.size hb1.size)
  have hb2 : Below w.heap.size w w1.drew := hb1.drew
  have hk := (kind_cell hG1).2.2
  go_region_held3 (fun w' => w'.cell? ⟨0, 3, none⟩ = some (.string ⟨#[63]⟩) ∧ G w' ∧ Below w.heap.size w w')
    (first | go_keep | (go_split_ands; have hg2 := ‹G _›.below hbel ‹G _›.size; exact ⟨(kind_cell hg2).2.2, hg2, ‹Below w.heap.size w _›.trans (hbel.mono ‹Below w.heap.size w _›.size)⟩))
    ((first | (go_at_call 41; refine (itoa_ret _ ?h1 _ ?h2).mono ?_; (case h1 => assumption); (case h2 => (go_split_ands; assumption)); rintro e w2 ⟨rfl, hsz, hbel⟩)))
  all_goals
    go_wp2
    go_ret
    go_split_ands
    refine ⟨ret_str ?_, by assumption⟩
    show bs [114] ++ bs _ ++ bs [63] = _
    simp only [bs_append]
    rfl

/-- the kinds of operands that the table has -/
def isSign (g : Int) : Prop := g = 114 ∨ g = 100 ∨ g = 113 ∨ g = 116 ∨ g = 112 ∨ g = 111 ∨ g = 107 ∨ g = 103 ∨ g = 102 ∨ g = 106 ∨ g = 110 ∨ g = 97 ∨ g = 98

theorem inI_div {n : Int} (hn : inI n) {k : Int} (hk : k = 2 ∨ k = 4) : inI (n / k) := by
  obtain ⟨h0, h1⟩ := hn
  rcases hk with rfl | rfl
  · exact ⟨by omega, by omega⟩
  · exact ⟨by omega, by omega⟩

theorem part_ret (g n : Int) (hg : isSign g) (hn : inI n) (w : World) (hG : G w) : Calls Tryz.prog 45 #[.int .u8 g, .int .i64 n] w fun e w' => e = .returned (.string (bs (partL g n))) ∧ Below w.heap.size w w' := by
  rcases hg with rfl | rfl | rfl | rfl | rfl | rfl | rfl | rfl | rfl | rfl | rfl | rfl | rfl
  · exact part_114 n hn w hG
  · exact part_100 n hn w hG
  · show Calls Tryz.prog 45 _ w fun e w' => e = .returned (.string (bs (114 :: (Lib.itoa (n / 2) ++ if n % 2 = 1 then [33] else [])))) ∧ _
    by_cases hr : n % 2 = 1
    · rw [if_pos hr]
      exact part_q1 n (n / 2) (inI_div hn (Or.inl rfl)) (floor_2 n _ 1 hn rfl hr.symm) w hG
    · rw [if_neg hr]
      exact part_q0 n (n / 2) (inI_div hn (Or.inl rfl)) (floor_2 n _ 0 hn rfl (by omega)) w hG
  · show Calls Tryz.prog 45 _ w fun e w' => e = .returned (.string (bs (114 :: (Lib.itoa (n / 4) ++ sufT (n % 4))))) ∧ _
    have hi := inI_div hn (Or.inr rfl)
    by_cases h1 : n % 4 = 1
    · rw [h1]; exact part_t1 n _ hi (floor_4 n _ 1 hn rfl h1.symm) w hG
    by_cases h2 : n % 4 = 2
    · rw [h2]; exact part_t2 n _ hi (floor_4 n _ 2 hn rfl h2.symm) w hG
    by_cases h3 : n % 4 = 3
    · rw [h3]; exact part_t3 n _ hi (floor_4 n _ 3 hn rfl h3.symm) w hG
    have h0 : n % 4 = 0 := by omega
    rw [h0]; exact part_t0 n _ hi (floor_4 n _ 0 hn rfl h0.symm) w hG
  · exact part_112 n hn w hG
  · exact part_111 n hn w hG
  · exact part_107 n hn w hG
  · exact part_103 n hn w hG
  · exact part_102 n hn w hG
  · exact part_106 n hn w hG
  · exact part_110 n hn w hG
  · exact part_97 n hn w hG
  · exact part_98 n hn w hG

theorem part_len (g n : Int) (hn : inI n) : (partL g n).length ≤ 24 := by
  have h := fun m hm => itoa_size m hm
  have h1 := h n hn
  have h2 := h _ (inI_div hn (Or.inl rfl))
  have h4 := h _ (inI_div hn (Or.inr rfl))
  rw [bs_size] at h1 h2 h4
  have hs : (sufT (n % 4)).length ≤ 1 := by unfold sufT; repeat' split
                                            all_goals simp
  unfold partL
  repeat' split
  all_goals simp
  all_goals omega

end Go.Proofs.YtnkidmnddkmilaaGreatDoor
