/-
  Lines that are joined out of several texts in one statement.
-/
import Derived.Test.YtnkidmnddkmilaaGreatDoorAeAsNum
import Derived.Test.YtnkidmnddkmilaaGreatDoorAeAsQuote
namespace Go.Proofs.YtnkidmnddkmilaaGreatDoor
open Go.RowKit
set_option maxRecDepth 100000

/-- an exception handler's line -/
def guardL (a b c d : Int) : List UInt8 := [103, 117, 97, 114, 100, 32] ++ Lib.itoa a ++ [32] ++ Lib.itoa b ++ [32, 64] ++ Lib.itoa c ++ [32, 114] ++ Lib.itoa d
/-- the first line of a code -/
def headL (s : List UInt8) (a b c : Int) : List UInt8 := [99, 111, 100, 101, 32] ++ quoteL s ++ [32] ++ Lib.itoa a ++ [32] ++ Lib.itoa b ++ [32] ++ Lib.itoa c

set_option maxHeartbeats 1000000 in
theorem guarded_ret (a b c d : Int) (ha : inI a) (hb : inI b) (hc : inI c) (hd : inI d) (w : World) (hG : G w) :
    Calls Tryz.prog 19 #[.agg #[.int .i64 a, .int .i64 b, .int .i64 c, .int .i64 d]] w fun e w' => e = .returned (.string (bs (guardL a b c d))) ∧ Below w.heap.size w w' := by
  have sa := itoa_size a ha
  have sb := itoa_size b hb
  have sc := itoa_size c hc
  have sd := itoa_size d hd
  have l0 : ¬ (9223372036854775807 < 6 + (bs (Lib.itoa a)).size) := by omega
  have l1 : ¬ (9223372036854775807 < 6 + (bs (Lib.itoa a)).size + 1) := by omega
  have l2 : ¬ (9223372036854775807 < 6 + (bs (Lib.itoa a)).size + 1 + (bs (Lib.itoa b)).size) := by omega
  have l3 : ¬ (9223372036854775807 < 6 + (bs (Lib.itoa a)).size + 1 + (bs (Lib.itoa b)).size + 2) := by omega
  have l4 : ¬ (9223372036854775807 < 6 + (bs (Lib.itoa a)).size + 1 + (bs (Lib.itoa b)).size + 2 + (bs (Lib.itoa c)).size) := by omega
  have l5 : ¬ (9223372036854775807 < 6 + (bs (Lib.itoa a)).size + 1 + (bs (Lib.itoa b)).size + 2 + (bs (Lib.itoa c)).size + 2) := by omega
  have l6 : ¬ (9223372036854775807 < 6 + (bs (Lib.itoa a)).size + 1 + (bs (Lib.itoa b)).size + 2 + (bs (Lib.itoa c)).size + 2 + (bs (Lib.itoa d)).size) := by omega
  obtain ⟨g1, g2, g3⟩ := startS hG (Obj.cells #[Value.int IntKind.i64 a, Value.int IntKind.i64 b, Value.int IntKind.i64 c, Value.int IntKind.i64 d] 61)
  go_enter Tryz.func19, Tryz.ntmps19
  go_wp2_with fail
  go_region_held3 (fun w' => w'.cell? ⟨w.heap.size, 0, none⟩ = some (.int .i64 a) ∧ w'.cell? ⟨w.heap.size, 1, none⟩ = some (.int .i64 b) ∧ w'.cell? ⟨w.heap.size, 2, none⟩ = some (.int .i64 c) ∧ w'.cell? ⟨w.heap.size, 3, none⟩ = some (.int .i64 d) ∧ G w' ∧ Below w.heap.size w w' ∧ w.heap.size < w'.heap.size)
    (first | go_keep | (go_split_ands; obtain ⟨k1, k2, k3, k4⟩ := keepS (by assumption) (by assumption) (by assumption) (Nat.le_refl _) hbel; refine ⟨?_, ?_, ?_, ?_, k1, k2, k3⟩ <;> (rw [k4]; assumption)))
    ((first | (go_at_call 41; refine (itoa_ret _ ?h1 _ ?h2).mono ?_; (case h1 => assumption); (case h2 => (go_split_ands; assumption)); rintro e w1 ⟨rfl, hsz, hbel⟩)))
  all_goals
    go_wp2
    go_ret
    go_split_ands
    refine ⟨ret_str ?_, by assumption⟩
    show bs [103, 117, 97, 114, 100, 32] ++ bs _ ++ bs [32] ++ bs _ ++ bs [32, 64] ++ bs _ ++ bs [32, 114] ++ bs _ = _
    simp only [bs_append]
    rfl

set_option maxHeartbeats 1000000 in
theorem guard_ret (a b c d : Int) (ha : inI a) (hb : inI b) (hc : inI c) (hd : inI d) (w : World) (hG : G w) :
    Calls Tryz.prog 54 #[.agg #[.int .i64 a, .int .i64 b, .int .i64 c, .int .i64 d]] w fun e w' => e = .returned (.string (bs (guardL a b c d))) ∧ Below w.heap.size w w' := by
  have sa := itoa_size a ha
  have sb := itoa_size b hb
  have sc := itoa_size c hc
  have sd := itoa_size d hd
  have l0 : ¬ (9223372036854775807 < 6 + (bs (Lib.itoa a)).size) := by omega
  have l1 : ¬ (9223372036854775807 < 6 + (bs (Lib.itoa a)).size + 1) := by omega
  have l2 : ¬ (9223372036854775807 < 6 + (bs (Lib.itoa a)).size + 1 + (bs (Lib.itoa b)).size) := by omega
  have l3 : ¬ (9223372036854775807 < 6 + (bs (Lib.itoa a)).size + 1 + (bs (Lib.itoa b)).size + 2) := by omega
  have l4 : ¬ (9223372036854775807 < 6 + (bs (Lib.itoa a)).size + 1 + (bs (Lib.itoa b)).size + 2 + (bs (Lib.itoa c)).size) := by omega
  have l5 : ¬ (9223372036854775807 < 6 + (bs (Lib.itoa a)).size + 1 + (bs (Lib.itoa b)).size + 2 + (bs (Lib.itoa c)).size + 2) := by omega
  have l6 : ¬ (9223372036854775807 < 6 + (bs (Lib.itoa a)).size + 1 + (bs (Lib.itoa b)).size + 2 + (bs (Lib.itoa c)).size + 2 + (bs (Lib.itoa d)).size) := by omega
  obtain ⟨g1, g2, g3⟩ := startS hG (Obj.cells #[Value.int IntKind.i64 a, Value.int IntKind.i64 b, Value.int IntKind.i64 c, Value.int IntKind.i64 d] 61)
  go_enter Tryz.func54, Tryz.ntmps54
  go_wp2_with fail
  go_region_held3 (fun w' => w'.cell? ⟨w.heap.size, 0, none⟩ = some (.int .i64 a) ∧ w'.cell? ⟨w.heap.size, 1, none⟩ = some (.int .i64 b) ∧ w'.cell? ⟨w.heap.size, 2, none⟩ = some (.int .i64 c) ∧ w'.cell? ⟨w.heap.size, 3, none⟩ = some (.int .i64 d) ∧ G w' ∧ Below w.heap.size w w' ∧ w.heap.size < w'.heap.size)
    (first | go_keep | (go_split_ands; obtain ⟨k1, k2, k3, k4⟩ := keepS (by assumption) (by assumption) (by assumption) (Nat.le_refl _) hbel; refine ⟨?_, ?_, ?_, ?_, k1, k2, k3⟩ <;> (rw [k4]; assumption)))
    ((first | (go_at_call 82; refine (digits_ret _ ?h1 _).mono ?_; (case h1 => assumption); rintro e w1 ⟨rfl, hsz, hbel⟩)))
  all_goals
    go_wp2
    go_ret
    go_split_ands
    refine ⟨ret_str ?_, by assumption⟩
    show bs [103, 117, 97, 114, 100, 32] ++ bs _ ++ bs [32] ++ bs _ ++ bs [32, 64] ++ bs _ ++ bs [32, 114] ++ bs _ = _
    simp only [bs_append]
    rfl

set_option maxHeartbeats 1000000 in
theorem headed_ret (s : ByteArray) (a b c : Int) (vi vp vk vg : Value) (hs : s.size ≤ 1499) (ha : inI a) (hb : inI b) (hc : inI c) (w : World) (hG : G w) :
    Calls Tryz.prog 15 #[.agg #[.string s, .int .i64 a, .int .i64 b, .int .i64 c, vi, vp, vk, vg]] w fun e w' => e = .returned (.string (bs (headL s.data.toList a b c))) ∧ Below w.heap.size w w' := by
  have sq := quote_size s hs
  have sa := itoa_size a ha
  have sb := itoa_size b hb
  have sc := itoa_size c hc
  have l0 : ¬ (9223372036854775807 < 5 + (bs (quoteL s.data.toList)).size) := by omega
  have l1 : ¬ (9223372036854775807 < 5 + (bs (quoteL s.data.toList)).size + 1) := by omega
  have l2 : ¬ (9223372036854775807 < 5 + (bs (quoteL s.data.toList)).size + 1 + (bs (Lib.itoa a)).size) := by omega
  have l3 : ¬ (9223372036854775807 < 5 + (bs (quoteL s.data.toList)).size + 1 + (bs (Lib.itoa a)).size + 1) := by omega
  have l4 : ¬ (9223372036854775807 < 5 + (bs (quoteL s.data.toList)).size + 1 + (bs (Lib.itoa a)).size + 1 + (bs (Lib.itoa b)).size) := by omega
  have l5 : ¬ (9223372036854775807 < 5 + (bs (quoteL s.data.toList)).size + 1 + (bs (Lib.itoa a)).size + 1 + (bs (Lib.itoa b)).size + 1) := by omega
  have l6 : ¬ (9223372036854775807 < 5 + (bs (quoteL s.data.toList)).size + 1 + (bs (Lib.itoa a)).size + 1 + (bs (Lib.itoa b)).size + 1 + (bs (Lib.itoa c)).size) := by omega
  obtain ⟨g1, g2, g3⟩ := startS hG (Obj.cells #[.string s, .int .i64 a, .int .i64 b, .int .i64 c, vi, vp, vk, vg] 36)
  go_enter Tryz.func15, Tryz.ntmps15
  go_wp2_with fail
  go_region_held3 (fun w' => w'.cell? ⟨w.heap.size, 0, none⟩ = some (.string s) ∧ w'.cell? ⟨w.heap.size, 1, none⟩ = some (.int .i64 a) ∧ w'.cell? ⟨w.heap.size, 2, none⟩ = some (.int .i64 b) ∧ w'.cell? ⟨w.heap.size, 3, none⟩ = some (.int .i64 c) ∧ G w' ∧ Below w.heap.size w w' ∧ w.heap.size < w'.heap.size)
    (first | go_keep | (go_split_ands; obtain ⟨k1, k2, k3, k4⟩ := keepS (by assumption) (by assumption) (by assumption) (Nat.le_refl _) hbel; refine ⟨?_, ?_, ?_, ?_, k1, k2, k3⟩ <;> (rw [k4]; assumption)))
    ((first
      | (go_at_call 41; refine (itoa_ret _ ?h1 _ ?h2).mono ?_; (case h1 => assumption); (case h2 => (go_split_ands; assumption)); rintro e w1 ⟨rfl, hsz, hbel⟩)
      | (go_at_call 40; refine (quote_ret s ?h1 _).mono ?_; (case h1 => assumption); rintro e w1 ⟨rfl, hsz, hbel⟩)))
  all_goals
    go_wp2
    go_ret
    go_split_ands
    refine ⟨ret_str ?_, by assumption⟩
    show bs [99, 111, 100, 101, 32] ++ bs _ ++ bs [32] ++ bs _ ++ bs [32] ++ bs _ ++ bs [32] ++ bs _ = _
    simp only [bs_append]
    rfl

set_option maxHeartbeats 1000000 in
theorem head_ret (s : ByteArray) (a b c : Int) (vi vp vk vg : Value) (hs : s.size ≤ 1499) (ha : inI a) (hb : inI b) (hc : inI c) (w : World) (hG : G w) :
    Calls Tryz.prog 51 #[.agg #[.string s, .int .i64 a, .int .i64 b, .int .i64 c, vi, vp, vk, vg]] w fun e w' => e = .returned (.string (bs (headL s.data.toList a b c))) ∧ Below w.heap.size w w' := by
  have sq := quote_size s hs
  have sa := itoa_size a ha
  have sb := itoa_size b hb
  have sc := itoa_size c hc
  have l0 : ¬ (9223372036854775807 < 5 + (bs (quoteL s.data.toList)).size) := by omega
  have l1 : ¬ (9223372036854775807 < 5 + (bs (quoteL s.data.toList)).size + 1) := by omega
  have l2 : ¬ (9223372036854775807 < 5 + (bs (quoteL s.data.toList)).size + 1 + (bs (Lib.itoa a)).size) := by omega
  have l3 : ¬ (9223372036854775807 < 5 + (bs (quoteL s.data.toList)).size + 1 + (bs (Lib.itoa a)).size + 1) := by omega
  have l4 : ¬ (9223372036854775807 < 5 + (bs (quoteL s.data.toList)).size + 1 + (bs (Lib.itoa a)).size + 1 + (bs (Lib.itoa b)).size) := by omega
  have l5 : ¬ (9223372036854775807 < 5 + (bs (quoteL s.data.toList)).size + 1 + (bs (Lib.itoa a)).size + 1 + (bs (Lib.itoa b)).size + 1) := by omega
  have l6 : ¬ (9223372036854775807 < 5 + (bs (quoteL s.data.toList)).size + 1 + (bs (Lib.itoa a)).size + 1 + (bs (Lib.itoa b)).size + 1 + (bs (Lib.itoa c)).size) := by omega
  obtain ⟨g1, g2, g3⟩ := startS hG (Obj.cells #[.string s, .int .i64 a, .int .i64 b, .int .i64 c, vi, vp, vk, vg] 36)
  go_enter Tryz.func51, Tryz.ntmps51
  go_wp2_with fail
  go_region_held3 (fun w' => w'.cell? ⟨w.heap.size, 0, none⟩ = some (.string s) ∧ w'.cell? ⟨w.heap.size, 1, none⟩ = some (.int .i64 a) ∧ w'.cell? ⟨w.heap.size, 2, none⟩ = some (.int .i64 b) ∧ w'.cell? ⟨w.heap.size, 3, none⟩ = some (.int .i64 c) ∧ G w' ∧ Below w.heap.size w w' ∧ w.heap.size < w'.heap.size)
    (first | go_keep | (go_split_ands; obtain ⟨k1, k2, k3, k4⟩ := keepS (by assumption) (by assumption) (by assumption) (Nat.le_refl _) hbel; refine ⟨?_, ?_, ?_, ?_, k1, k2, k3⟩ <;> (rw [k4]; assumption)))
    ((first
      | (go_at_call 82; refine (digits_ret _ ?h1 _).mono ?_; (case h1 => assumption); rintro e w1 ⟨rfl, hsz, hbel⟩)
      | (go_at_call 81; refine (refquote_ret s ?h1 _).mono ?_; (case h1 => assumption); rintro e w1 ⟨rfl, hsz, hbel⟩)))
  all_goals
    go_wp2
    go_ret
    go_split_ands
    refine ⟨ret_str ?_, by assumption⟩
    show bs [99, 111, 100, 101, 32] ++ bs _ ++ bs [32] ++ bs _ ++ bs [32] ++ bs _ ++ bs [32] ++ bs _ = _
    simp only [bs_append]
    rfl

end Go.Proofs.YtnkidmnddkmilaaGreatDoor
