/-
  The table of operations: what Name and Parts answer, in the program and in the reference.
-/
import Derived.Test.YtnkidmnddkmilaaGreatDoorAeAsLays
import Derived.Test.YtnkidmnddkmilaaGreatDoorAeAsBase
namespace Go.Proofs.YtnkidmnddkmilaaGreatDoor
open Go.RowKit
set_option maxRecDepth 100000

/-- names and kinds of operands -/
def rowsN : List (List Nat × List Nat) := [
  ([110, 111, 112], [45, 45, 45]),
  ([108, 111, 97, 100], [114, 112, 45]),
  ([109, 111, 118, 101], [114, 114, 45]),
  ([103, 101, 116, 104, 101, 108, 100], [114, 110, 110]),
  ([115, 101, 116, 104, 101, 108, 100], [110, 110, 114]),
  ([99, 104, 101, 99, 107], [114, 45, 45]),
  ([102, 105, 120, 101, 100], [45, 45, 45]),
  ([103, 108, 111, 98, 97, 108], [114, 103, 45]),
  ([115, 101, 116, 103, 108, 111, 98, 97, 108], [103, 114, 98]),
  ([116, 121, 112, 101, 103, 108, 111, 98, 97, 108], [114, 103, 45]),
  ([116, 121, 112, 101, 111, 102], [114, 114, 45]),
  ([116, 104, 105, 115], [114, 45, 45]),
  ([97, 114, 103], [114, 97, 45]),
  ([114, 101, 115, 116], [114, 110, 45]),
  ([109, 97, 107, 101], [114, 102, 45]),
  ([111, 98, 106, 101, 99, 116], [114, 45, 45]),
  ([112, 117, 116], [114, 114, 116]),
  ([99, 111, 112, 121], [114, 114, 45]),
  ([108, 105, 115, 116], [114, 45, 45]),
  ([97, 114, 114, 97, 121], [114, 114, 45]),
  ([112, 117, 115, 104], [114, 114, 45]),
  ([115, 112, 114, 101, 97, 100], [114, 114, 45]),
  ([103, 101, 116], [114, 114, 114]),
  ([115, 101, 116], [114, 114, 113]),
  ([100, 101, 108, 101, 116, 101], [114, 114, 113]),
  ([105, 110], [114, 114, 114]),
  ([111, 116, 104, 101, 114, 115], [114, 114, 114]),
  ([99, 97, 108, 108], [114, 114, 114]),
  ([99, 97, 108, 108, 111, 110], [114, 100, 114]),
  ([110, 101, 119], [114, 114, 114]),
  ([117, 110, 97, 114, 121], [114, 114, 111]),
  ([98, 105, 110, 97, 114, 121], [114, 114, 111]),
  ([116, 111, 107, 101, 121], [114, 114, 45]),
  ([116, 111, 116, 101, 120, 116], [114, 114, 45]),
  ([116, 111, 110, 117, 109], [114, 114, 45]),
  ([111, 112, 101, 110], [114, 114, 45]),
  ([110, 101, 120, 116], [114, 114, 45]),
  ([99, 108, 111, 115, 101], [114, 98, 45]),
  ([107, 101, 121, 115], [114, 114, 45]),
  ([110, 101, 101, 100], [114, 45, 45]),
  ([106, 117, 109, 112], [106, 45, 45]),
  ([106, 117, 109, 112, 116, 114, 117, 101], [106, 114, 45]),
  ([106, 117, 109, 112, 102, 97, 108, 115, 101], [106, 114, 45]),
  ([106, 117, 109, 112, 110, 117, 108, 108], [106, 114, 45]),
  ([106, 117, 109, 112, 104, 111, 108, 101], [106, 114, 45]),
  ([115, 116, 101, 112], [45, 45, 45]),
  ([121, 105, 101, 108, 100], [100, 45, 45]),
  ([100, 101, 108, 101, 103, 97, 116, 101], [100, 45, 45]),
  ([114, 101, 116, 117, 114, 110], [114, 45, 45]),
  ([116, 104, 114, 111, 119], [114, 98, 45]),
  ([101, 110, 116, 101, 114], [110, 114, 45]),
  ([108, 101, 97, 118, 101], [114, 45, 45]),
  ([102, 114, 101, 115, 104], [45, 45, 45]),
  ([115, 97, 118, 101], [114, 45, 45]),
  ([114, 101, 115, 117, 109, 101], [114, 45, 45])]

/-- the name of an operation, as numbers; the kinds of its operands -/
def nameN (k : Nat) : List Nat := (rowsN.getD k ([], [])).1
def kindN (k : Nat) : List Nat := (rowsN.getD k ([], [])).2
def nameL (op : Int) : List UInt8 := if op < 0 then [] else (nameN op.toNat).map UInt8.ofNat
def kindL (op : Int) : List UInt8 := if op < 0 then [] else (kindN op.toNat).map UInt8.ofNat

section
open Go.AE
noncomputable def runOp (f k : Nat) (l : List Nat) : Bool := evSq env [] prims [] [] 300 100 (.fn f) [.i64 (.ofNat k)] (heapG [] 0) (fun v _ => sameV v (.str l))

theorem run_43 : ((List.range 55).all fun k => runOp 43 k (nameN k)) = true := by kernel_rfl
theorem run_44 : ((List.range 55).all fun k => runOp 44 k (kindN k)) = true := by kernel_rfl
theorem run_23 : ((List.range 55).all fun k => runOp 23 k (nameN k)) = true := by kernel_rfl
theorem run_56 : ((List.range 55).all fun k => runOp 56 k (kindN k)) = true := by kernel_rfl

def noSy : Sy := ⟨fun _ => 0, fun _ => ByteArray.empty, fun _ => (none, 0, 0), fun _ => undef⟩

theorem bytes_bs (l : List Nat) : bytesV l = bs (l.map UInt8.ofNat) := rfl

theorem op_ret {f : Nat} {N : Nat → List Nat} (hr : ((List.range 55).all fun k => runOp f k (N k)) = true) (op : Int) (h0 : 0 ≤ op) (h1 : op < 55) (w : World) :
    Calls Tryz.prog f #[.int .i64 op] w fun e w' => e = .returned (.string (bs ((N op.toNat).map UInt8.ofNat))) ∧ Below w.heap.size w w' := by
  rw [List.all_eq_true] at hr
  have hk := hr op.toNat (List.mem_range.2 (by omega))
  have hl := laid_of_rec (w := w) (Y := noSy) (evSq_ok (env_ok noSy) rfl QtsOk.nil prims_ok KnownOk.nil SumsOk.nil 300 100) (gl := []) (m := 0) (Nat.le_refl 0) hk (cargs := [.int .i64 op]) (by
    have e : Int.ofNat op.toNat = op := by show ((op.toNat : Nat) : Int) = op; omega
    rw [e]
    rfl) ⟨Nat.zero_le _, fun _ _ h => nomatch h⟩
  refine hl.mono fun e w' he => ?_
  obtain ⟨cv, rfl, hc, hb⟩ := he
  simp only [conc] at hc
  split at hc
  · cases hc
    exact ⟨by rw [bytes_bs], hb⟩
  · cases hc
end

set_option maxHeartbeats 1000000 in
theorem row_out (op : Int) (h : op < 0 ∨ 55 ≤ op) (w : World) : Calls Tryz.prog 76 #[.int .i64 op] w fun e w' => e = .returned (.tuple #[.string (bs []), .string (bs [])]) ∧ Below w.heap.size w w' := by
  have hb := Below.refl w.heap.size w
  rcases h with h | h
  · go_enter Tryz.func76, Tryz.ntmps76
    go_wp2
    go_ret2
    exact ⟨rfl, hb⟩
  · have h' : decide (op < 0) = false := by simp; omega
    go_enter Tryz.func76, Tryz.ntmps76
    go_wp2
    go_ret2
    exact ⟨rfl, hb⟩

theorem name_out (op : Int) (h : op < 0 ∨ 55 ≤ op) (w : World) : Calls Tryz.prog 43 #[.int .i64 op] w fun e w' => e = .returned (.string (bs [])) ∧ Below w.heap.size w w' := by
  go_enter Tryz.func43, Tryz.ntmps43
  go_wp2_with (go_at_call 76; refine (row_out op h _).mono ?_; rintro e w1 ⟨rfl, hb⟩)
  go_ret
  exact ⟨rfl, hb⟩

theorem kind_out (op : Int) (h : op < 0 ∨ 55 ≤ op) (w : World) : Calls Tryz.prog 44 #[.int .i64 op] w fun e w' => e = .returned (.string (bs [])) ∧ Below w.heap.size w w' := by
  go_enter Tryz.func44, Tryz.ntmps44
  go_wp2_with (go_at_call 76; refine (row_out op h _).mono ?_; rintro e w1 ⟨rfl, hb⟩)
  go_ret
  exact ⟨rfl, hb⟩

theorem rows_ret (w : World) : Calls Tryz.prog 83 #[] w fun e w' => (∃ a, e = .returned (.slice a 55 55)) ∧ Below w.heap.size w w' := by
  have hb := Below.refl w.heap.size w
  go_enter Tryz.func83, Tryz.ntmps83
  go_wp2
  go_ret
  exact ⟨⟨_, rfl⟩, hb.alloc (Nat.le_refl _) _⟩

set_option maxHeartbeats 1000000 in
theorem rrow_out (op : Int) (h : op < 0 ∨ 55 ≤ op) (w : World) : Calls Tryz.prog 55 #[.int .i64 op] w fun e w' => e = .returned (.string ⟨#[]⟩) ∧ Below w.heap.size w w' := by
  rcases h with h | h
  · go_enter Tryz.func55, Tryz.ntmps55
    go_wp2_with (go_at_call 83; refine (rows_ret _).mono ?_; rintro e w1 ⟨⟨a, rfl⟩, hb⟩)
    go_ret
    exact ⟨rfl, hb⟩
  · have h' : decide (op < 0) = false := by simp; omega
    go_enter Tryz.func55, Tryz.ntmps55
    go_wp2_with (go_at_call 83; refine (rows_ret _).mono ?_; rintro e w1 ⟨⟨a, rfl⟩, hb⟩)
    go_ret
    exact ⟨rfl, hb⟩

theorem rname_out (op : Int) (h : op < 0 ∨ 55 ≤ op) (w : World) : Calls Tryz.prog 23 #[.int .i64 op] w fun e w' => e = .returned (.string (bs [])) ∧ Below w.heap.size w w' := by
  go_enter Tryz.func23, Tryz.ntmps23
  go_wp2_with (go_at_call 55; refine (rrow_out op h _).mono ?_; rintro e w1 ⟨rfl, hb⟩)
  go_ret
  exact ⟨rfl, hb⟩

theorem rkind_out (op : Int) (h : op < 0 ∨ 55 ≤ op) (w : World) : Calls Tryz.prog 56 #[.int .i64 op] w fun e w' => e = .returned (.string (bs [])) ∧ Below w.heap.size w w' := by
  go_enter Tryz.func56, Tryz.ntmps56
  go_wp2_with (go_at_call 55; refine (rrow_out op h _).mono ?_; rintro e w1 ⟨rfl, hb⟩)
  go_ret
  exact ⟨rfl, hb⟩

theorem name_big {op : Int} (h : op < 0 ∨ 55 ≤ op) : nameL op = [] := by
  unfold nameL
  split
  · rfl
  · rw [nameN, List.getD_eq_getElem?_getD, List.getElem?_eq_none (by show 55 ≤ op.toNat; omega)]
    rfl
theorem kind_big {op : Int} (h : op < 0 ∨ 55 ≤ op) : kindL op = [] := by
  unfold kindL
  split
  · rfl
  · rw [kindN, List.getD_eq_getElem?_getD, List.getElem?_eq_none (by show 55 ≤ op.toNat; omega)]
    rfl

theorem op_any {f : Nat} {N : Nat → List Nat} {L : Int → List UInt8} (hr : ((List.range 55).all fun k => runOp f k (N k)) = true) (hL : ∀ op, L op = if op < 0 then [] else (N op.toNat).map UInt8.ofNat)
    (ho : ∀ op : Int, (op < 0 ∨ 55 ≤ op) → L op = []) (hc : ∀ (op : Int), (op < 0 ∨ 55 ≤ op) → ∀ w, Calls Tryz.prog f #[.int .i64 op] w fun e w' => e = .returned (.string (bs [])) ∧ Below w.heap.size w w') (op : Int) (w : World) :
    Calls Tryz.prog f #[.int .i64 op] w fun e w' => e = .returned (.string (bs (L op))) ∧ Below w.heap.size w w' := by
  by_cases h : op < 0 ∨ 55 ≤ op
  · rw [ho op h]
    exact hc op h w
  · rw [hL op, if_neg (by omega)]
    exact op_ret hr op (by omega) (by omega) w

theorem name_ret (op : Int) (w : World) : Calls Tryz.prog 43 #[.int .i64 op] w fun e w' => e = .returned (.string (bs (nameL op))) ∧ Below w.heap.size w w' := op_any run_43 (fun _ => rfl) (fun _ h => name_big h) name_out op w
theorem kind_ret (op : Int) (w : World) : Calls Tryz.prog 44 #[.int .i64 op] w fun e w' => e = .returned (.string (bs (kindL op))) ∧ Below w.heap.size w w' := op_any run_44 (fun _ => rfl) (fun _ h => kind_big h) kind_out op w
theorem rname_ret (op : Int) (w : World) : Calls Tryz.prog 23 #[.int .i64 op] w fun e w' => e = .returned (.string (bs (nameL op))) ∧ Below w.heap.size w w' := op_any run_23 (fun _ => rfl) (fun _ h => name_big h) rname_out op w
theorem rkind_ret (op : Int) (w : World) : Calls Tryz.prog 56 #[.int .i64 op] w fun e w' => e = .returned (.string (bs (kindL op))) ∧ Below w.heap.size w w' := op_any run_56 (fun _ => rfl) (fun _ h => kind_big h) rkind_out op w

/-- what the table is like -/
def goodRow (r : List Nat × List Nat) : Bool := (r.2.length == 3) && (r.1.length != 0) && decide (r.1.length ≤ 12) && r.2.all fun g => [45, 114, 100, 113, 116, 112, 111, 107, 103, 102, 106, 110, 97, 98].contains g
theorem rows_good : rowsN.all goodRow = true := by kernel_rfl
theorem rows_len : rowsN.length = 55 := rfl

end Go.Proofs.YtnkidmnddkmilaaGreatDoor
