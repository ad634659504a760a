/-
  Which keys are right.
  Which constants are right.
  Instructions as text: the reference.
  Instructions as text: the program.
  Images of codes in memory.
  Which operands are right.
-/
import Derived.Test.YtfngechoipngmaaGreatDoorAeTxt4
import Derived.Test.YtfngechoipngmaaGreatDoorAeTxt3
import Derived.Laws.AppendOwn
namespace Go.Proofs.YtfngechoipngmaaGreatDoor
open Go.RowKit
set_option maxRecDepth 100000

def KeyOk (k n : Int) (s : ByteArray) : Prop := (k = 0 ∧ s.size = 0 ∧ 0 ≤ n ∧ n ≤ 4294967294) ∨ (k = 1 ∧ n = 0 ∧ idxF s = none) ∨ (k = 2 ∧ s.size = 0 ∧ 1 ≤ n)
instance (k n : Int) (s : ByteArray) : Decidable (KeyOk k n s) := by unfold KeyOk; infer_instance
def keyB (k n : Int) (s : ByteArray) : Bool := decide (KeyOk k n s)

theorem idxV_cases (s : ByteArray) : (idxF s = none ∧ idxV s = .tuple #[.int .i64 0, .bool false]) ∨ ∃ m, idxF s = some m ∧ idxV s = .tuple #[.int .i64 m, .bool true] := by
  unfold idxV
  cases h : idxF s with
  | none => exact Or.inl ⟨rfl, rfl⟩
  | some m => exact Or.inr ⟨m, rfl, rfl⟩

theorem empty_or (s : ByteArray) : s = ⟨#[]⟩ ∨ (s.toList.isEmpty = false ∧ s.size ≠ 0) := by
  by_cases h0 : s.size = 0
  · left
    apply ByteArray.ext
    exact Array.eq_empty_of_size_eq_zero h0
  · right
    refine ⟨?_, h0⟩
    rw [ByteArray.toList_eq]
    cases h : s.data.toList with
    | nil => exact absurd (by rw [← Array.length_toList, h]; rfl : s.data.size = 0) h0
    | cons => rfl

theorem empty_size : (⟨#[]⟩ : ByteArray).size = 0 := rfl

theorem keyB_of {k n : Int} {s : ByteArray} {b : Bool} (h : b = true ↔ KeyOk k n s) : b = keyB k n s := by
  unfold keyB
  rw [Bool.eq_iff_iff, decide_eq_true_eq]
  exact h

set_option maxHeartbeats 2000000 in
theorem keyRight (k n : Int) (s : ByteArray) (hs : s.size ≤ 65536) (w : World) : Calls Tryz.prog 34 #[.agg #[.int .i64 k, .int .i64 n, .string s]] w fun e w' => e = .returned (.bool (keyB k n s)) ∧ Below w.heap.size w w' := by
  have hb0 : ∀ ob, Below w.heap.size w (w.alloc ob) := fun ob => (Below.refl _ _).alloc (Nat.le_refl _) ob
  have hs2 : (s.size : Int) ≤ 65536 := by omega
  by_cases k1 : k = 1
  · subst k1
    rcases idxV_cases s with ⟨hi, hv⟩ | ⟨m, hi, hv⟩
    · have hc : ∀ w, Calls Tryz.prog 67 #[.string s] w fun e w' => e = .returned (.tuple #[.int .i64 0, .bool false]) ∧ w = w' := fun w => (index_ret s hs w).mono fun e w' he => ⟨by rw [he.1, hv], he.2⟩
      have HI := Lib.hid hi
      clear hi hv
      go_enter Tryz.func34, Tryz.ntmps34
      go_wp2_with (go_at_call 67; refine (hc _).mono ?_; rintro e w' ⟨rfl, rfl⟩)
      all_goals
        go_ret
        refine ⟨ret_bool (keyB_of ?_), hb0 _⟩
        have hi := HI.out
        unfold KeyOk
        first
          | (simp [hi]; done)
          | (simp [hi]; omega)
    · have hc : ∀ w, Calls Tryz.prog 67 #[.string s] w fun e w' => e = .returned (.tuple #[.int .i64 m, .bool true]) ∧ w = w' := fun w => (index_ret s hs w).mono fun e w' he => ⟨by rw [he.1, hv], he.2⟩
      have HI := Lib.hid hi
      clear hi hv
      go_enter Tryz.func34, Tryz.ntmps34
      go_wp2_with (go_at_call 67; refine (hc _).mono ?_; rintro e w' ⟨rfl, rfl⟩)
      all_goals
        go_ret
        refine ⟨ret_bool (keyB_of ?_), hb0 _⟩
        have hi := HI.out
        unfold KeyOk
        first
          | (simp [hi]; done)
          | (simp [hi]; omega)
  have e1 : (k == 1) = false := by simpa using k1
  by_cases k0 : k = 0
  · subst k0
    rcases empty_or s with rfl | ⟨hne, hs0⟩
    all_goals
      go_enter Tryz.func34, Tryz.ntmps34
      go_wp2
      all_goals
        go_ret
        refine ⟨ret_bool (keyB_of ?_), hb0 _⟩
        unfold KeyOk
        first
          | (simp [empty_size]; done)
          | (simp [empty_size]; omega)
          | (simp [hs0]; done)
  have e0 : (k == 0) = false := by simpa using k0
  by_cases k2 : k = 2
  · subst k2
    rcases empty_or s with rfl | ⟨hne, hs0⟩
    all_goals
      go_enter Tryz.func34, Tryz.ntmps34
      go_wp2
      all_goals
        go_ret
        refine ⟨ret_bool (keyB_of ?_), hb0 _⟩
        unfold KeyOk
        first
          | (simp [empty_size]; done)
          | (simp; omega)
          | (simp [hs0]; done)
  have e2 : (k == 2) = false := by simpa using k2
  have K : Hid (¬ KeyOk k n s) := Lib.hid (by unfold KeyOk; omega)
  clear k0 k1 k2
  go_enter Tryz.func34, Tryz.ntmps34
  go_wp2
  go_ret
  exact ⟨ret_bool (keyB_of (Iff.intro (fun h => Bool.noConfusion h) (fun h => absurd h K.out))), hb0 _⟩

end Go.Proofs.YtfngechoipngmaaGreatDoor

namespace Go.Proofs.YtfngechoipngmaaGreatDoor
open Go.RowKit
set_option maxRecDepth 100000

def ValOk (k n : Int) (s : ByteArray) : Prop := (k = 5 ∧ n = 0) ∨ (k = 2 ∧ s.size = 0 ∧ 0 ≤ n ∧ n ≤ 1) ∨ (k = 3 ∧ s.size = 0 ∧ -9007199254740992 ≤ n ∧ n ≤ 9007199254740992) ∨ ((k = 0 ∨ k = 1 ∨ k = 4 ∨ k = 8) ∧ s.size = 0 ∧ n = 0)
instance (k n : Int) (s : ByteArray) : Decidable (ValOk k n s) := by unfold ValOk; infer_instance
def valB (k n : Int) (s : ByteArray) : Bool := decide (ValOk k n s)
theorem valB_of {k n : Int} {s : ByteArray} {b : Bool} (h : b = true ↔ ValOk k n s) : b = valB k n s := by
  unfold valB
  rw [Bool.eq_iff_iff, decide_eq_true_eq]
  exact h

set_option maxHeartbeats 4000000 in
theorem val_ret (k n : Int) (s : ByteArray) (hs : s.size ≤ 65536) (w : World) : Calls Tryz.prog 32 #[.agg #[.int .i64 k, .int .i64 n, .string s]] w fun e w' => e = .returned (.bool (valB k n s)) ∧ Below w.heap.size w w' := by
  have hb0 : ∀ ob, Below w.heap.size w (w.alloc ob) := fun ob => (Below.refl _ _).alloc (Nat.le_refl _) ob
  have hs2 : (s.size : Int) ≤ 65536 := by omega
  by_cases hk : k = 5 ∨ k = 2 ∨ k = 3 ∨ k = 0 ∨ k = 1 ∨ k = 4 ∨ k = 8
  · rcases empty_or s with rfl | ⟨hne, hs0⟩
    all_goals
      rcases hk with rfl | rfl | rfl | rfl | rfl | rfl | rfl
      all_goals
        go_enter Tryz.func32, Tryz.ntmps32
        go_wp2
        all_goals
          go_ret
          refine ⟨ret_bool (valB_of ?_), hb0 _⟩
          unfold ValOk
          first
            | (simp [empty_size]; done)
            | (simp [empty_size]; omega)
            | (simp [hs0]; done)
            | (simp [hs0]; omega)
  · have K : Hid (¬ ValOk k n s) := Lib.hid (by unfold ValOk; omega)
    have n5 : (k == 5) = false := by simp; omega
    have n2 : (k == 2) = false := by simp; omega
    have n3 : (k == 3) = false := by simp; omega
    have n0 : (k == 0) = false := by simp; omega
    have n1 : (k == 1) = false := by simp; omega
    have n4 : (k == 4) = false := by simp; omega
    have n8 : (k == 8) = false := by simp; omega
    clear hk
    go_enter Tryz.func32, Tryz.ntmps32
    go_wp2
    all_goals
      go_ret
      exact ⟨ret_bool (valB_of (Iff.intro (fun h => by simp at h) (fun h => absurd h K.out))), hb0 _⟩

end Go.Proofs.YtfngechoipngmaaGreatDoor

namespace Go.Proofs.YtfngechoipngmaaGreatDoor
open Go.RowKit
set_option maxRecDepth 100000

structure InsL where
  op : Int
  a : Int
  b : Int
  c : Int

/-- an operand in its line -/
def segL (g n : Int) : List UInt8 := if g = 45 then [] else 32 :: partL g n
/-- the three kinds -/
def kd (op : Int) (i : Nat) : UInt8 := (kindL op).getD i 0
/-- an instruction's line -/
def lineL (x : InsL) : List UInt8 :=
  if x.op < 0 ∨ 55 ≤ x.op then [] else nameL x.op ++ segL (kd x.op 0).toNat x.a ++ segL (kd x.op 1).toNat x.b ++ segL (kd x.op 2).toNat x.c

def okSign (g : UInt8) : Prop := (g.toNat : Int) = 45 ∨ isSign g.toNat

theorem row_good {op : Int} (h0 : 0 ≤ op) (h1 : op < 55) : kindL op = [kd op 0, kd op 1, kd op 2] ∧ (∀ i, okSign (kd op i) ∨ 3 ≤ i) ∧ nameL op ≠ [] ∧ (nameL op).length ≤ 12 := by
  have hg := rows_good
  rw [List.all_eq_true] at hg
  have hk : op.toNat < rowsN.length := by rw [rows_len]; omega
  have h := hg (rowsN.getD op.toNat ([], [])) (by rw [List.getD_eq_getElem?_getD, List.getElem?_eq_getElem hk]; exact List.getElem_mem hk)
  unfold goodRow at h
  simp only [Bool.and_eq_true, decide_eq_true_eq, beq_iff_eq, bne_iff_ne] at h
  obtain ⟨⟨⟨h2, h3⟩, h4⟩, h5⟩ := h
  have hn : ¬ op < 0 := by omega
  have ek : kindL op = (kindN op.toNat).map UInt8.ofNat := by unfold kindL; rw [if_neg hn]
  have en : nameL op = (nameN op.toNat).map UInt8.ofNat := by unfold nameL; rw [if_neg hn]
  have h2' : (kindN op.toNat).length = 3 := h2
  have h3' : (nameN op.toNat).length ≠ 0 := h3
  have h4' : (nameN op.toNat).length ≤ 12 := h4
  have h5' : ∀ g ∈ kindN op.toNat, g = 45 ∨ g = 114 ∨ g = 100 ∨ g = 113 ∨ g = 116 ∨ g = 112 ∨ g = 111 ∨ g = 107 ∨ g = 103 ∨ g = 102 ∨ g = 106 ∨ g = 110 ∨ g = 97 ∨ g = 98 := by
    intro g hg
    have := (List.all_eq_true.1 h5) g hg
    simpa using this
  generalize kindN op.toNat = l at h2' h5' ek
  match l, h2' with
  | [x, y, z], _ =>
    have e0 : kd op 0 = UInt8.ofNat x := by unfold kd; rw [ek]; rfl
    have e1 : kd op 1 = UInt8.ofNat y := by unfold kd; rw [ek]; rfl
    have e2 : kd op 2 = UInt8.ofNat z := by unfold kd; rw [ek]; rfl
    have hs : ∀ g : Nat, (g = 45 ∨ g = 114 ∨ g = 100 ∨ g = 113 ∨ g = 116 ∨ g = 112 ∨ g = 111 ∨ g = 107 ∨ g = 103 ∨ g = 102 ∨ g = 106 ∨ g = 110 ∨ g = 97 ∨ g = 98) → okSign (UInt8.ofNat g) := by
      intro g hg
      unfold okSign isSign
      rcases hg with rfl | rfl | rfl | rfl | rfl | rfl | rfl | rfl | rfl | rfl | rfl | rfl | rfl | rfl <;> decide
    refine ⟨by rw [ek, e0, e1, e2]; rfl, fun i => ?_, ?_, ?_⟩
    · match i with
      | 0 => exact Or.inl (by rw [e0]; exact hs x (h5' x (by simp)))
      | 1 => exact Or.inl (by rw [e1]; exact hs y (h5' y (by simp)))
      | 2 => exact Or.inl (by rw [e2]; exact hs z (h5' z (by simp)))
      | i + 3 => exact Or.inr (by omega)
    · rw [en]
      intro e
      exact h3' (by simpa using congrArg List.length e)
    · rw [en, List.length_map]
      exact h4'

theorem seg_len (g n : Int) (hn : inI n) : (bs (segL g n)).size ≤ 25 := by
  have h := part_len g n hn
  rw [bs_size]
  unfold segL
  split
  · simp
  · rw [List.length_cons]; omega

end Go.Proofs.YtfngechoipngmaaGreatDoor

namespace Go.Proofs.YtfngechoipngmaaGreatDoor
open Go.RowKit
set_option maxRecDepth 100000

theorem info9 : (Tryz.prog.info? 9).map (fun i => (i.zero, i.size, i.bytes)) = some (some (.string ByteArray.empty), 1, 16) := by kernel_rfl

theorem part_seg (g : UInt8) (hg : isSign g.toNat) (n : Int) (hn : inI n) (w : World) (hG : G w) : Calls Tryz.prog 46 #[.int .u8 g.toNat, .int .i64 n] w fun e w' => e = .returned (.string (bs (partL g.toNat n))) ∧ Below w.heap.size w w' :=
  part_ret _ n hg hn w hG

/-- an operand as a word of its own -/
def ptL (g : UInt8) (n : Int) : List ByteArray := if (g.toNat : Int) = 45 then [] else [bs (partL g.toNat n)]
/-- the words of an instruction's line, so far -/
def wordsL (n0 : ByteArray) (p0 p1 p2 : List ByteArray) (k : Nat) : List ByteArray :=
  match k with
  | 0 => [n0]
  | 1 => [n0] ++ p0
  | 2 => [n0] ++ p0 ++ p1
  | _ => [n0] ++ p0 ++ p1 ++ p2

theorem pt_len (g : UInt8) (n : Int) : (ptL g n).length ≤ 1 := by unfold ptL; split <;> simp

theorem words_len (n0 : ByteArray) {p0 p1 p2 : List ByteArray} (h0 : p0.length ≤ 1) (h1 : p1.length ≤ 1) (h2 : p2.length ≤ 1) (k : Nat) : (wordsL n0 p0 p1 p2 k).length ≤ 4 := by
  unfold wordsL
  split
  all_goals simp only [List.length_append, List.length_singleton]
  all_goals omega

theorem join_words (l : List UInt8) (g0 g1 g2 : UInt8) (a b c : Int) :
    Lib.join ((wordsL (bs l) (ptL g0 a) (ptL g1 b) (ptL g2 c) 3).map (·.data.toList)) [32] = l ++ segL g0.toNat a ++ segL g1.toNat b ++ segL g2.toNat c := by
  show Lib.join ((([bs l] ++ ptL g0 a ++ ptL g1 b ++ ptL g2 c : List ByteArray)).map (·.data.toList)) [32] = _
  by_cases h0 : (g0.toNat : Int) = 45
  all_goals by_cases h1 : (g1.toNat : Int) = 45
  all_goals by_cases h2 : (g2.toNat : Int) = 45
  all_goals simp [ptL, segL, h0, h1, h2, Lib.join, List.intercalate, bs]

/-- a row of its own behind a call that makes memory -/
theorem own_below {w w1 w0 : World} {base n size : Nat} {e : TypeId} {v : Value} {xs : List Value} (h : w.ownsRow base e size v n xs) (hb : Below w.heap.size w w1) (_hbl : Below base w0 w) : w1.ownsRow base e size v n xs := by
  refine ⟨h.1, ?_⟩
  rcases h.2 with h1 | ⟨g, cap, cur, h1, h2, h3, h4⟩
  · exact Or.inl h1
  · have hlt : g < w.heap.size := by
      rcases Nat.lt_or_ge g w.heap.size with h' | h'
      · exact h'
      · simp [Array.getElem?_eq_none h'] at h3
    exact Or.inr ⟨g, cap, cur, h1, h2, by rw [hb.block g hlt]; exact h3, h4⟩

theorem cell_one_new (w : World) (x : Value) (ty : TypeId) : ∀ j u, ([x] : List Value)[j]? = some u → (w.alloc (.cells #[x] ty)).cell? ((⟨w.heap.size, 0, none⟩ : Addr).add j) = some u := by
  intro j u hj
  match j, hj with
  | 0, hj =>
    cases hj
    show (w.alloc (.cells #[x] ty)).cell? ⟨w.heap.size, 0 + 0, none⟩ = _
    rw [Lib.cell_of_heap (heap_alloc_new w _)]
    rfl

set_option maxHeartbeats 8000000 in
theorem line_aux (op a b c : Int) (n0 : ByteArray) (k0 k1 k2 : UInt8) (ha : inI a) (hb : inI b) (hc : inI c) (hn0 : n0.toList.isEmpty = false) (_hn1 : n0.size ≤ 12) (g0 : okSign k0) (g1 : okSign k1) (g2 : okSign k2)
    (hname : ∀ w, Calls Tryz.prog 44 #[.int .i64 op] w fun e w' => e = .returned (.string n0) ∧ Below w.heap.size w w')
    (hkind : ∀ w, Calls Tryz.prog 45 #[.int .i64 op] w fun e w' => e = .returned (.string ⟨#[k0, k1, k2]⟩) ∧ Below w.heap.size w w') (hj : (Lib.join ((wordsL n0 (ptL k0 a) (ptL k1 b) (ptL k2 c) 3).map (·.data.toList)) [32]).length ≤ 140737488355328) (w : World) (hG : G w) :
    Calls Tryz.prog 19 #[.agg #[.int .i64 op, .int .i64 a, .int .i64 b, .int .i64 c]] w fun e w' => e = .returned (.string (bs (Lib.join ((wordsL n0 (ptL k0 a) (ptL k1 b) (ptL k2 c) 3).map (·.data.toList)) [32]))) ∧ Below w.heap.size w w' := by
  obtain ⟨i0, hi, hz0, hz1, hz2⟩ := info_parts info9
  have HI := Lib.hid hi
  have HZ := Lib.hid hz0
  have hb0 : Below w.heap.size w (w.alloc (Obj.cells #[.int .i64 op, .int .i64 a, .int .i64 b, .int .i64 c] 46)).drew := ((Below.refl _ _).alloc (Nat.le_refl _) _).drew
  have hlt0 : w.heap.size < (w.alloc (Obj.cells #[.int .i64 op, .int .i64 a, .int .i64 b, .int .i64 c] 46)).drew.heap.size := by simp
  have HG := hG.size
  have e0 : ({ data := #[k0, k1, k2] } : ByteArray)[0]'(by show 0 < 3; omega) = k0 := rfl
  have e1 : ({ data := #[k0, k1, k2] } : ByteArray)[1]'(by show 1 < 3; omega) = k1 := rfl
  have e2 : ({ data := #[k0, k1, k2] } : ByteArray)[2]'(by show 2 < 3; omega) = k2 := rfl
  go_enter Tryz.func19, Tryz.ntmps19
  go_wp2_with (fail)
  go_region_held3 (fun w' => w'.cell? ⟨w.heap.size, 0, none⟩ = some (.int .i64 op) ∧ w'.cell? ⟨w.heap.size, 1, none⟩ = some (.int .i64 a) ∧ w'.cell? ⟨w.heap.size, 2, none⟩ = some (.int .i64 b) ∧ w'.cell? ⟨w.heap.size, 3, none⟩ = some (.int .i64 c) ∧ Below w.heap.size w w' ∧ w.heap.size < w'.heap.size)
    (first | go_keep | (go_split_ands; obtain ⟨q1, q2, q3⟩ := keepB (by assumption) (by assumption) hbel; refine ⟨?_, ?_, ?_, ?_, q1, q2⟩ <;> (rw [q3]; assumption)))
    ((first
      | (go_at_call 44; refine (hname _).mono ?_; rintro e w2 ⟨rfl, hbel⟩)
      | (go_at_call 45; refine (hkind _).mono ?_; rintro e w2 ⟨rfl, hbel⟩)))
  all_goals
    go_split_ands
    have hB2 : Below w.heap.size w w2 := by assumption
    have hL2 : w.heap.size < w2.heap.size := by assumption
    go_wp2
    go_loopw [5, 26] (fun v i W => ∃ (k : Nat) (ao : Option Addr) (cv : Nat), k ≤ 3 ∧ i = .int .i64 k ∧ v = .slice ao (wordsL n0 (ptL k0 a) (ptL k1 b) (ptL k2 c) k).length cv ∧ W.ownsRow w.heap.size 9 1 v (wordsL n0 (ptL k0 a) (ptL k1 b) (ptL k2 c) k).length ((wordsL n0 (ptL k0 a) (ptL k1 b) (ptL k2 c) k).map Value.string) ∧ Below w.heap.size w W ∧ W.heap[w2.heap.size + 1]? = some (.cells #[.int .i64 a, .int .i64 b, .int .i64 c] 3 (0, 0)) ∧ G W) (fun _ i _ => 3 - (intOf i).toNat)
    case atStart =>
      refine ⟨0, _, _, by omega, rfl, rfl, ⟨rfl, Or.inr ⟨w2.heap.size, 1, #[.string n0], rfl, by omega, ?_, Nat.le_refl _, by unfold maxLen; omega, rfl, rfl⟩⟩, ?_, ?_, ?_⟩
      · rw [Lib.alloc_old _ _ _ (by simp)]; exact heap_alloc_new w2 _
      · exact (hB2.alloc (by omega) _).alloc (by simp; omega) _
      · have := heap_alloc_new (w2.alloc (Obj.cells #[Value.string n0] 9)) (Obj.cells #[Value.int IntKind.i64 a, Value.int IntKind.i64 b, Value.int IntKind.i64 c] 3)
        simpa using this
      · exact hG.below ((hB2.alloc (by omega) _).alloc (by simp; omega) _) HG
    case round =>
      obtain ⟨k, ao, cv, hk, rfl, rfl, hown, hbl, hab, hGW⟩ := hrel
      have hsz := hbl.size
      have d0 : wr.cell? ⟨w2.heap.size + 1, 0, none⟩ = some (.int .i64 a) := by rw [Lib.cell_of_heap hab]; rfl
      have d1 : wr.cell? ⟨w2.heap.size + 1, 1, none⟩ = some (.int .i64 b) := by rw [Lib.cell_of_heap hab]; rfl
      have d2 : wr.cell? ⟨w2.heap.size + 1, 2, none⟩ = some (.int .i64 c) := by rw [Lib.cell_of_heap hab]; rfl
      have hlab : w2.heap.size + 1 < wr.heap.size := by
        rcases Nat.lt_or_ge (w2.heap.size + 1) wr.heap.size with h' | h'
        · exact h'
        · simp [Array.getElem?_eq_none h'] at hab
      have hlen := words_len n0 (pt_len k0 a) (pt_len k1 b) (pt_len k2 c) k
      rcases (show k = 0 ∨ k = 1 ∨ k = 2 ∨ k = 3 from by omega) with rfl | rfl | rfl | rfl
      · rcases g0 with h45 | hs
        · have hw : Hid (wordsL n0 (ptL k0 a) (ptL k1 b) (ptL k2 c) 1 = wordsL n0 (ptL k0 a) (ptL k1 b) (ptL k2 c) 0) := Lib.hid (by simp [wordsL, ptL, h45])
          have f45 : (((k0).toNat : Int) != 45) = false := by simp [h45]
          clear h45
          go_wp2
          go_roundw
          case rel => exact ⟨1, ao, cv, by omega, by first | rfl | simp, by rw [hw.out], by rw [hw.out]; exact hown, hbl, hab, hGW⟩
          case measure => simp [intOf]
        · have h45 : ¬ ((k0).toNat : Int) = 45 := by unfold isSign at hs; omega
          have hw : Hid (wordsL n0 (ptL k0 a) (ptL k1 b) (ptL k2 c) 1 = wordsL n0 (ptL k0 a) (ptL k1 b) (ptL k2 c) 0 ++ [bs (partL (k0).toNat a)]) := Lib.hid (by simp [wordsL, ptL, h45])
          have f45 : (((k0).toNat : Int) != 45) = true := by simpa using h45
          clear h45
          go_wp2_with (first
            | (go_at_call 46; refine (part_seg k0 hs a ha _ hGW).mono ?_; rintro e w3 ⟨rfl, hb3⟩)
            | (at_builtin; refine wpList_append_own _ rfl _ _ 87 rfl w.heap.size 9 i0 (.string ByteArray.empty) 1 16 Tryz.underlying87 HI.out HZ.out hz1 hz2 rfl (by decide) _ _ _ rfl ((own_below hown hb3 hbl).alloc _) ⟨w3.heap.size, 0, none⟩ 1 1 [.string (bs (partL (k0).toNat a))] rfl rfl (cell_one_new _ _ _) (fun x hx => by simp at hx; subst hx; rfl) (by unfold maxLen; omega) (by omega) (by have := hb3.size; simp; omega) ?_; intro v' w4 hown' hgrow hnil))
          go_roundw
          case rel =>
            have ho2 := (own_below hown hb3 hbl).alloc (.cells #[.string (bs (partL (k0).toNat a))] 9)
            have hb4 : Below w.heap.size w (w3.alloc (.cells #[.string (bs (partL (k0).toNat a))] 9)) := (hbl.trans (hb3.mono hsz)).alloc (by have := hb3.size; omega) _
            have hab3 : w3.heap[w2.heap.size + 1]? = some (.cells #[.int .i64 a, .int .i64 b, .int .i64 c] 3 (0, 0)) := by rw [hb3.block _ hlab]; exact hab
            have hlab3 : w2.heap.size + 1 < w3.heap.size := by have := hb3.size; omega
            have hab4 : (w3.alloc (.cells #[.string (bs (partL (k0).toNat a))] 9)).heap[w2.heap.size + 1]? = some (.cells #[.int .i64 a, .int .i64 b, .int .i64 c] 3 (0, 0)) := by rw [Lib.alloc_old _ _ _ hlab3]; exact hab3
            have hne := Lib.ownBlock_ne ho2 hab4 (by decide)
            have hb5 : Below w.heap.size w w4 := hb4.grown hgrow (by have := hb3.size; simp; omega) (fun q hq => (ho2.lt q hq).1)
            obtain ⟨g3, cap3, hv3⟩ : ∃ g3 cap3, v' = .slice (some ⟨g3, 0, none⟩) ((wordsL n0 (ptL k0 a) (ptL k1 b) (ptL k2 c) 0).length + 1) cap3 := by
              rcases hown'.2 with ⟨_, h⟩ | ⟨g3, cap3, _, h, _⟩
              · omega
              · exact ⟨g3, cap3, h⟩
            exact ⟨1, some ⟨g3, 0, none⟩, cap3, by omega, by first | rfl | simp, by rw [hv3, hw.out]; simp, by rw [hw.out, List.map_append, List.length_append]; exact hown', hb5, by rw [hgrow.block _ (by simp; omega) (fun e => hne e.symm)]; exact hab4, hG.below hb5 HG⟩
          case measure => simp [intOf]
      · rcases g1 with h45 | hs
        · have hw : Hid (wordsL n0 (ptL k0 a) (ptL k1 b) (ptL k2 c) 2 = wordsL n0 (ptL k0 a) (ptL k1 b) (ptL k2 c) 1) := Lib.hid (by simp [wordsL, ptL, h45])
          have f45 : (((k1).toNat : Int) != 45) = false := by simp [h45]
          clear h45
          go_wp2
          go_roundw
          case rel => exact ⟨2, ao, cv, by omega, by first | rfl | simp, by rw [hw.out], by rw [hw.out]; exact hown, hbl, hab, hGW⟩
          case measure => simp [intOf]
        · have h45 : ¬ ((k1).toNat : Int) = 45 := by unfold isSign at hs; omega
          have hw : Hid (wordsL n0 (ptL k0 a) (ptL k1 b) (ptL k2 c) 2 = wordsL n0 (ptL k0 a) (ptL k1 b) (ptL k2 c) 1 ++ [bs (partL (k1).toNat b)]) := Lib.hid (by simp [wordsL, ptL, h45])
          have f45 : (((k1).toNat : Int) != 45) = true := by simpa using h45
          clear h45
          go_wp2_with (first
            | (go_at_call 46; refine (part_seg k1 hs b hb _ hGW).mono ?_; rintro e w3 ⟨rfl, hb3⟩)
            | (at_builtin; refine wpList_append_own _ rfl _ _ 87 rfl w.heap.size 9 i0 (.string ByteArray.empty) 1 16 Tryz.underlying87 HI.out HZ.out hz1 hz2 rfl (by decide) _ _ _ rfl ((own_below hown hb3 hbl).alloc _) ⟨w3.heap.size, 0, none⟩ 1 1 [.string (bs (partL (k1).toNat b))] rfl rfl (cell_one_new _ _ _) (fun x hx => by simp at hx; subst hx; rfl) (by unfold maxLen; omega) (by omega) (by have := hb3.size; simp; omega) ?_; intro v' w4 hown' hgrow hnil))
          go_roundw
          case rel =>
            have ho2 := (own_below hown hb3 hbl).alloc (.cells #[.string (bs (partL (k1).toNat b))] 9)
            have hb4 : Below w.heap.size w (w3.alloc (.cells #[.string (bs (partL (k1).toNat b))] 9)) := (hbl.trans (hb3.mono hsz)).alloc (by have := hb3.size; omega) _
            have hab3 : w3.heap[w2.heap.size + 1]? = some (.cells #[.int .i64 a, .int .i64 b, .int .i64 c] 3 (0, 0)) := by rw [hb3.block _ hlab]; exact hab
            have hlab3 : w2.heap.size + 1 < w3.heap.size := by have := hb3.size; omega
            have hab4 : (w3.alloc (.cells #[.string (bs (partL (k1).toNat b))] 9)).heap[w2.heap.size + 1]? = some (.cells #[.int .i64 a, .int .i64 b, .int .i64 c] 3 (0, 0)) := by rw [Lib.alloc_old _ _ _ hlab3]; exact hab3
            have hne := Lib.ownBlock_ne ho2 hab4 (by decide)
            have hb5 : Below w.heap.size w w4 := hb4.grown hgrow (by have := hb3.size; simp; omega) (fun q hq => (ho2.lt q hq).1)
            obtain ⟨g3, cap3, hv3⟩ : ∃ g3 cap3, v' = .slice (some ⟨g3, 0, none⟩) ((wordsL n0 (ptL k0 a) (ptL k1 b) (ptL k2 c) 1).length + 1) cap3 := by
              rcases hown'.2 with ⟨_, h⟩ | ⟨g3, cap3, _, h, _⟩
              · omega
              · exact ⟨g3, cap3, h⟩
            exact ⟨2, some ⟨g3, 0, none⟩, cap3, by omega, by first | rfl | simp, by rw [hv3, hw.out]; simp, by rw [hw.out, List.map_append, List.length_append]; exact hown', hb5, by rw [hgrow.block _ (by simp; omega) (fun e => hne e.symm)]; exact hab4, hG.below hb5 HG⟩
          case measure => simp [intOf]
      · rcases g2 with h45 | hs
        · have hw : Hid (wordsL n0 (ptL k0 a) (ptL k1 b) (ptL k2 c) 3 = wordsL n0 (ptL k0 a) (ptL k1 b) (ptL k2 c) 2) := Lib.hid (by simp [wordsL, ptL, h45])
          have f45 : (((k2).toNat : Int) != 45) = false := by simp [h45]
          clear h45
          go_wp2
          go_roundw
          case rel => exact ⟨3, ao, cv, by omega, by first | rfl | simp, by rw [hw.out], by rw [hw.out]; exact hown, hbl, hab, hGW⟩
          case measure => simp [intOf]
        · have h45 : ¬ ((k2).toNat : Int) = 45 := by unfold isSign at hs; omega
          have hw : Hid (wordsL n0 (ptL k0 a) (ptL k1 b) (ptL k2 c) 3 = wordsL n0 (ptL k0 a) (ptL k1 b) (ptL k2 c) 2 ++ [bs (partL (k2).toNat c)]) := Lib.hid (by simp [wordsL, ptL, h45])
          have f45 : (((k2).toNat : Int) != 45) = true := by simpa using h45
          clear h45
          go_wp2_with (first
            | (go_at_call 46; refine (part_seg k2 hs c hc _ hGW).mono ?_; rintro e w3 ⟨rfl, hb3⟩)
            | (at_builtin; refine wpList_append_own _ rfl _ _ 87 rfl w.heap.size 9 i0 (.string ByteArray.empty) 1 16 Tryz.underlying87 HI.out HZ.out hz1 hz2 rfl (by decide) _ _ _ rfl ((own_below hown hb3 hbl).alloc _) ⟨w3.heap.size, 0, none⟩ 1 1 [.string (bs (partL (k2).toNat c))] rfl rfl (cell_one_new _ _ _) (fun x hx => by simp at hx; subst hx; rfl) (by unfold maxLen; omega) (by omega) (by have := hb3.size; simp; omega) ?_; intro v' w4 hown' hgrow hnil))
          go_roundw
          case rel =>
            have ho2 := (own_below hown hb3 hbl).alloc (.cells #[.string (bs (partL (k2).toNat c))] 9)
            have hb4 : Below w.heap.size w (w3.alloc (.cells #[.string (bs (partL (k2).toNat c))] 9)) := (hbl.trans (hb3.mono hsz)).alloc (by have := hb3.size; omega) _
            have hab3 : w3.heap[w2.heap.size + 1]? = some (.cells #[.int .i64 a, .int .i64 b, .int .i64 c] 3 (0, 0)) := by rw [hb3.block _ hlab]; exact hab
            have hlab3 : w2.heap.size + 1 < w3.heap.size := by have := hb3.size; omega
            have hab4 : (w3.alloc (.cells #[.string (bs (partL (k2).toNat c))] 9)).heap[w2.heap.size + 1]? = some (.cells #[.int .i64 a, .int .i64 b, .int .i64 c] 3 (0, 0)) := by rw [Lib.alloc_old _ _ _ hlab3]; exact hab3
            have hne := Lib.ownBlock_ne ho2 hab4 (by decide)
            have hb5 : Below w.heap.size w w4 := hb4.grown hgrow (by have := hb3.size; simp; omega) (fun q hq => (ho2.lt q hq).1)
            obtain ⟨g3, cap3, hv3⟩ : ∃ g3 cap3, v' = .slice (some ⟨g3, 0, none⟩) ((wordsL n0 (ptL k0 a) (ptL k1 b) (ptL k2 c) 2).length + 1) cap3 := by
              rcases hown'.2 with ⟨_, h⟩ | ⟨g3, cap3, _, h, _⟩
              · omega
              · exact ⟨g3, cap3, h⟩
            exact ⟨3, some ⟨g3, 0, none⟩, cap3, by omega, by first | rfl | simp, by rw [hv3, hw.out]; simp, by rw [hw.out, List.map_append, List.length_append]; exact hown', hb5, by rw [hgrow.block _ (by simp; omega) (fun e => hne e.symm)]; exact hab4, hG.below hb5 HG⟩
          case measure => simp [intOf]
      · obtain ⟨g, cap, cur, hv, hg, hgh, hcap, hmx, _⟩ : ∃ g cap cur, (Value.slice ao (wordsL n0 (ptL k0 a) (ptL k1 b) (ptL k2 c) 3).length cv) = .slice (some ⟨g, 0, none⟩) (wordsL n0 (ptL k0 a) (ptL k1 b) (ptL k2 c) 3).length cap ∧ w.heap.size ≤ g ∧ wr.heap[g]? = some (.cells cur 9 (0, 0)) ∧ (wordsL n0 (ptL k0 a) (ptL k1 b) (ptL k2 c) 3).length ≤ cap ∧ cap ≤ maxLen ∧ True := by
          rcases hown.2 with ⟨_, h⟩ | ⟨g, cap, cur, h, h1, h2, h3, h4, _⟩
          · simp [wordsL] at h
          · exact ⟨g, cap, cur, h, h1, h2, h3, h4, trivial⟩
        cases hv
        have hgl : g < wr.heap.size := by
          rcases Nat.lt_or_ge g wr.heap.size with h' | h'
          · exact h'
          · simp [Array.getElem?_eq_none h'] at hgh
        have hcs : ∀ (j : Nat) x, (wordsL n0 (ptL k0 a) (ptL k1 b) (ptL k2 c) 3)[j]? = some x → wr.cell? ⟨g, 0 + j, none⟩ = some (.string x) := fun j x hx => by
          have := hown.cells (g := g) rfl j (.string x) (by rw [List.getElem?_map, hx]; rfl)
          rwa [show (⟨g, 0, none⟩ : Addr).add j = ⟨g, 0 + j, none⟩ by unfold Addr.add; split <;> simp_all] at this
        have HCS := Lib.hid hcs
        clear hcs hgh hab d0 d1 d2
        go_wp2_with (go_at_call 47; (refine (strings_Join g 0 cv (wordsL n0 (ptL k0 a) (ptL k1 b) (ptL k2 c) 3) ⟨#[32]⟩ _ HCS.out hgl (by omega) hcap hj).mono ?_); rintro e w3 ⟨rfl, hb3⟩)
        go_ret
        exact ⟨rfl, hbl.trans (hb3.mono hsz)⟩

theorem line_ret (op a b c : Int) (h0 : 0 ≤ op) (h1 : op < 55) (ha : inI a) (hb : inI b) (hc : inI c) (w : World) (hG : G w) :
    Calls Tryz.prog 19 #[.agg #[.int .i64 op, .int .i64 a, .int .i64 b, .int .i64 c]] w fun e w' => e = .returned (.string (bs (lineL ⟨op, a, b, c⟩))) ∧ Below w.heap.size w w' := by
  obtain ⟨hk, hg, hne, hnl⟩ := row_good h0 h1
  have hL : lineL ⟨op, a, b, c⟩ = Lib.join ((wordsL (bs (nameL op)) (ptL (kd op 0) a) (ptL (kd op 1) b) (ptL (kd op 2) c) 3).map (·.data.toList)) [32] := by
    rw [join_words]
    unfold lineL
    rw [if_neg (show ¬ (op < 0 ∨ 55 ≤ op) by omega)]
  have s0 := seg_len (kd op 0).toNat a ha
  have s1 := seg_len (kd op 1).toNat b hb
  have s2 := seg_len (kd op 2).toNat c hc
  rw [bs_size] at s0 s1 s2
  rw [hL]
  refine line_aux op a b c _ _ _ _ ha hb hc ?_ (by rw [bs_size]; exact hnl) ((hg 0).resolve_right (by omega)) ((hg 1).resolve_right (by omega)) ((hg 2).resolve_right (by omega)) (name_ret op) (fun w => (kind_ret op w).mono fun e w' he => ⟨by rw [he.1, hk]; rfl, he.2⟩) ?_ w hG
  · rw [ByteArray.toList_eq, bs_data]
    cases h : nameL op with
    | nil => exact absurd h hne
    | cons => rfl
  · rw [join_words]
    simp only [List.length_append]
    omega

theorem line_len (x : InsL) (ha : inI x.a) (hb : inI x.b) (hc : inI x.c) : (lineL x).length ≤ 100 := by
  unfold lineL
  split
  · simp
  · obtain ⟨_, _, _, hnl⟩ := row_good (op := x.op) (by omega) (by omega)
    have s0 := seg_len (kd x.op 0).toNat x.a ha
    have s1 := seg_len (kd x.op 1).toNat x.b hb
    have s2 := seg_len (kd x.op 2).toNat x.c hc
    rw [bs_size] at s0 s1 s2
    simp only [List.length_append]
    omega

/-- an instruction whose operation there is not -/
theorem line_out (op a b c : Int) (h : op < 0 ∨ 55 ≤ op) (w : World) :
    Calls Tryz.prog 19 #[.agg #[.int .i64 op, .int .i64 a, .int .i64 b, .int .i64 c]] w fun e w' => e = .returned (.string (bs [])) ∧ Below w.heap.size w w' := by
  have hname : ∀ w, Calls Tryz.prog 44 #[.int .i64 op] w fun e w' => e = .returned (.string ⟨#[]⟩) ∧ Below w.heap.size w w' := name_out op h
  have hkind : ∀ w, Calls Tryz.prog 45 #[.int .i64 op] w fun e w' => e = .returned (.string ⟨#[]⟩) ∧ Below w.heap.size w w' := kind_out op h
  have hb0 : Below w.heap.size w (w.alloc (Obj.cells #[.int .i64 op, .int .i64 a, .int .i64 b, .int .i64 c] 46)).drew := ((Below.refl _ _).alloc (Nat.le_refl _) _).drew
  have hlt0 : w.heap.size < (w.alloc (Obj.cells #[.int .i64 op, .int .i64 a, .int .i64 b, .int .i64 c] 46)).drew.heap.size := by simp
  go_enter Tryz.func19, Tryz.ntmps19
  go_wp2_with (fail)
  go_region_held3 (fun w' => w'.cell? ⟨w.heap.size, 0, none⟩ = some (.int .i64 op) ∧ Below w.heap.size w w' ∧ w.heap.size < w'.heap.size)
    (first | go_keep | (go_split_ands; obtain ⟨q1, q2, q3⟩ := keepB (by assumption) (by assumption) hbel; refine ⟨?_, q1, q2⟩; (rw [q3]; assumption)))
    ((first
      | (go_at_call 44; refine (hname _).mono ?_; rintro e w2 ⟨rfl, hbel⟩)
      | (go_at_call 45; refine (hkind _).mono ?_; rintro e w2 ⟨rfl, hbel⟩)))
  all_goals
    go_split_ands
    go_wp2
    go_ret
    exact ⟨rfl, by assumption⟩

end Go.Proofs.YtfngechoipngmaaGreatDoor

namespace Go.Proofs.YtfngechoipngmaaGreatDoor
open Go.RowKit
set_option maxRecDepth 100000

structure GuL where
  f : Int
  t : Int
  g : Int
  r : Int
structure CodeL where
  name : ByteArray
  kind : Int
  len : Int
  regs : Int
  ins : List InsL
  pool : List ValL
  keys : List KeyL
  guards : List GuL

def insC (x : InsL) : List Value := [.int .i64 x.op, .int .i64 x.a, .int .i64 x.b, .int .i64 x.c]
def valC (x : ValL) : List Value := [.int .i64 x.k, .int .i64 x.n, .string x.s]
def keyC (x : KeyL) : List Value := [.int .i64 x.k, .int .i64 x.n, .string x.s]
def guC (x : GuL) : List Value := [.int .i64 x.f, .int .i64 x.t, .int .i64 x.g, .int .i64 x.r]

/-- a slice of structs of n cells, in a block below B -/
def SlAt (w : World) (B n : Nat) (v : Value) (xs : List (List Value)) : Prop :=
  xs.length ≤ 9223372036854775807 ∧ ∃ (a : Option Addr) (cap : Nat), v = .slice a xs.length cap ∧
    (xs ≠ [] → ∃ bk o, a = some ⟨bk, o, none⟩ ∧ bk < B ∧ ∀ i x, xs[i]? = some x → ∀ j y, x[j]? = some y → w.cell? ⟨bk, o + i * n + j, none⟩ = some y)

theorem SlAt.below {w w' : World} {B n : Nat} {v : Value} {xs : List (List Value)} (h : SlAt w B n v xs) (hb : Below B w w') : SlAt w' B n v xs := by
  obtain ⟨h1, a, cap, h2, h3⟩ := h
  refine ⟨h1, a, cap, h2, fun hne => ?_⟩
  obtain ⟨bk, o, e, hlt, hc⟩ := h3 hne
  refine ⟨bk, o, e, hlt, fun i x hi j y hj => ?_⟩
  rw [hb.cell (p := ⟨bk, o + i * n + j, none⟩) hlt]
  exact hc i x hi j y hj

/-- an element -/
theorem SlAt.at {w : World} {B n : Nat} {a : Option Addr} {len cap : Nat} {xs : List (List Value)} (h : SlAt w B n (.slice a len cap) xs) {k : Nat} {x : List Value} (hk : xs[k]? = some x) :
    len = xs.length ∧ ∃ bk o, a = some ⟨bk, o, none⟩ ∧ bk < B ∧ ∀ j y, x[j]? = some y → w.cell? ⟨bk, o + k * n + j, none⟩ = some y := by
  obtain ⟨h1, a', cap', h2, h3⟩ := h
  cases h2
  obtain ⟨bk, o, e, hlt, hc⟩ := h3 (by intro e; rw [e] at hk; simp at hk)
  exact ⟨rfl, bk, o, e, hlt, fun j y hj => hc k x hk j y hj⟩

theorem SlAt.slice {w : World} {B n : Nat} {v : Value} {xs : List (List Value)} (h : SlAt w B n v xs) : ∃ a cap, v = .slice a xs.length cap := by
  obtain ⟨_, a, cap, h2, _⟩ := h
  exact ⟨a, cap, h2⟩

def okIns (x : InsL) : Prop := inI x.op ∧ inI x.a ∧ inI x.b ∧ inI x.c

/-- an old cell beside a new block -/
theorem cell_old (w : World) (ob : Obj) {b : Nat} (hb : b < w.heap.size) (o : Nat) : (w.alloc ob).cell? ⟨b, o, none⟩ = w.cell? ⟨b, o, none⟩ :=
  ((Below.refl w.heap.size w).alloc (Nat.le_refl _) ob).cell (p := ⟨b, o, none⟩) hb

theorem lt_of_cell {w : World} {b o : Nat} {v : Value} (h : w.cell? ⟨b, o, none⟩ = some v) : b < w.heap.size := World.block_lt_of_cell? w _ h

end Go.Proofs.YtfngechoipngmaaGreatDoor

namespace Go.Proofs.YtfngechoipngmaaGreatDoor
open Go.RowKit
set_option maxRecDepth 100000

theorem dec_of {p : Prop} [Decidable p] {b : Bool} (h : b = true ↔ p) : b = decide p := by
  rw [Bool.eq_iff_iff, decide_eq_true_eq]
  exact h

def P114 (r n : Int) (_li _lp _lk : Nat) : Bool := decide (0 ≤ n ∧ n < r)
def P100 (r n : Int) (_li _lp _lk : Nat) : Bool := decide (0 ≤ n ∧ n < r - 1)
def P113 (r n : Int) (_li _lp _lk : Nat) : Bool := decide (0 ≤ n ∧ n / 2 < r)
def P116 (r n : Int) (_li _lp _lk : Nat) : Bool := decide (0 ≤ n ∧ n / 4 < r ∧ n % 4 ≤ 2)
def P112 (_r n : Int) (_li lp _lk : Nat) : Bool := decide (0 ≤ n ∧ n < (lp : Int))
def P107 (_r n : Int) (_li _lp lk : Nat) : Bool := decide (0 ≤ n ∧ n < (lk : Int))
def P102 (_r n : Int) (_li _lp _lk : Nat) : Bool := decide (0 ≤ n ∧ n ≤ 4096)
def P106 (_r n : Int) (li _lp _lk : Nat) : Bool := decide (0 ≤ n ∧ n < (li : Int))
def P110 (_r n : Int) (_li _lp _lk : Nat) : Bool := decide (0 ≤ n ∧ n ≤ 65536)
def P97 (_r n : Int) (_li _lp _lk : Nat) : Bool := decide (-1 ≤ n ∧ n ≤ 1024)
def P98 (_r n : Int) (_li _lp _lk : Nat) : Bool := decide (0 ≤ n ∧ n ≤ 1)
def P45 (_r n : Int) (_li _lp _lk : Nat) : Bool := decide (n = 0)

set_option maxHeartbeats 2000000 in
theorem partOk_114 (s : ByteArray) (k l r : Int) (ai : Option Addr) (li ci : Nat) (ap : Option Addr) (lp cp : Nat) (ak : Option Addr) (lk ck : Nat) (ag : Option Addr) (lg cg : Nat) (n : Int) (h0 : 0 ≤ r) (h1 : r ≤ 4096) (_hi : li ≤ 65536) (_hp : lp ≤ 65536) (_hk : lk ≤ 65536) (hn : inI n) (w : World) :
    Calls Tryz.prog 70 #[.agg #[.string s, .int .i64 k, .int .i64 l, .int .i64 r, .slice ai li ci, .slice ap lp cp, .slice ak lk ck, .slice ag lg cg], .int .u8 114, .int .i64 n] w fun e w' => e = .returned (.bool (P114 r n li lp lk)) ∧ Below w.heap.size w w' := by
  have hb0 : ∀ ob, Below w.heap.size w (w.alloc ob) := fun ob => (Below.refl _ _).alloc (Nat.le_refl _) ob
  obtain ⟨n0, n1⟩ := hn
  by_cases hz : 0 ≤ n
  · go_enter Tryz.func70, Tryz.ntmps70
    go_wp2
    all_goals
      go_ret
      refine ⟨ret_bool ?_, hb0 _⟩
      unfold P114
      refine dec_of ?_
      first
        | (simp; done)
        | (simp; omega)
        | omega
  · have hz' : n < 0 := by omega
    clear hz
    go_enter Tryz.func70, Tryz.ntmps70
    go_wp2
    all_goals
      go_ret
      refine ⟨ret_bool ?_, hb0 _⟩
      unfold P114
      refine dec_of ?_
      first
        | (simp; done)
        | (simp; omega)
        | omega

set_option maxHeartbeats 2000000 in
theorem partOk_100 (s : ByteArray) (k l r : Int) (ai : Option Addr) (li ci : Nat) (ap : Option Addr) (lp cp : Nat) (ak : Option Addr) (lk ck : Nat) (ag : Option Addr) (lg cg : Nat) (n : Int) (h0 : 0 ≤ r) (h1 : r ≤ 4096) (_hi : li ≤ 65536) (_hp : lp ≤ 65536) (_hk : lk ≤ 65536) (hn : inI n) (w : World) :
    Calls Tryz.prog 70 #[.agg #[.string s, .int .i64 k, .int .i64 l, .int .i64 r, .slice ai li ci, .slice ap lp cp, .slice ak lk ck, .slice ag lg cg], .int .u8 100, .int .i64 n] w fun e w' => e = .returned (.bool (P100 r n li lp lk)) ∧ Below w.heap.size w w' := by
  have hb0 : ∀ ob, Below w.heap.size w (w.alloc ob) := fun ob => (Below.refl _ _).alloc (Nat.le_refl _) ob
  obtain ⟨n0, n1⟩ := hn
  by_cases hz : 0 ≤ n
  · go_enter Tryz.func70, Tryz.ntmps70
    go_wp2
    all_goals
      go_ret
      refine ⟨ret_bool ?_, hb0 _⟩
      unfold P100
      refine dec_of ?_
      first
        | (simp; done)
        | (simp; omega)
        | omega
  · have hz' : n < 0 := by omega
    clear hz
    go_enter Tryz.func70, Tryz.ntmps70
    go_wp2
    all_goals
      go_ret
      refine ⟨ret_bool ?_, hb0 _⟩
      unfold P100
      refine dec_of ?_
      first
        | (simp; done)
        | (simp; omega)
        | omega

set_option maxHeartbeats 2000000 in
theorem partOk_113 (s : ByteArray) (k l r : Int) (ai : Option Addr) (li ci : Nat) (ap : Option Addr) (lp cp : Nat) (ak : Option Addr) (lk ck : Nat) (ag : Option Addr) (lg cg : Nat) (n : Int) (_h0 : 0 ≤ r) (_h1 : r ≤ 4096) (_hi : li ≤ 65536) (_hp : lp ≤ 65536) (_hk : lk ≤ 65536) (hn : inI n) (w : World) :
    Calls Tryz.prog 70 #[.agg #[.string s, .int .i64 k, .int .i64 l, .int .i64 r, .slice ai li ci, .slice ap lp cp, .slice ak lk ck, .slice ag lg cg], .int .u8 113, .int .i64 n] w fun e w' => e = .returned (.bool (P113 r n li lp lk)) ∧ Below w.heap.size w w' := by
  have hb0 : ∀ ob, Below w.heap.size w (w.alloc ob) := fun ob => (Below.refl _ _).alloc (Nat.le_refl _) ob
  obtain ⟨n0, n1⟩ := hn
  by_cases hz : 0 ≤ n
  · go_enter Tryz.func70, Tryz.ntmps70
    go_wp2
    all_goals
      go_ret
      refine ⟨ret_bool ?_, hb0 _⟩
      unfold P113
      refine dec_of ?_
      first
        | (simp; done)
        | (simp; omega)
        | omega
  · have hz' : n < 0 := by omega
    clear hz
    go_enter Tryz.func70, Tryz.ntmps70
    go_wp2
    all_goals
      go_ret
      refine ⟨ret_bool ?_, hb0 _⟩
      unfold P113
      refine dec_of ?_
      first
        | (simp; done)
        | (simp; omega)
        | omega

set_option maxHeartbeats 2000000 in
theorem partOk_116 (s : ByteArray) (k l r : Int) (ai : Option Addr) (li ci : Nat) (ap : Option Addr) (lp cp : Nat) (ak : Option Addr) (lk ck : Nat) (ag : Option Addr) (lg cg : Nat) (n : Int) (_h0 : 0 ≤ r) (_h1 : r ≤ 4096) (_hi : li ≤ 65536) (_hp : lp ≤ 65536) (_hk : lk ≤ 65536) (hn : inI n) (w : World) :
    Calls Tryz.prog 70 #[.agg #[.string s, .int .i64 k, .int .i64 l, .int .i64 r, .slice ai li ci, .slice ap lp cp, .slice ak lk ck, .slice ag lg cg], .int .u8 116, .int .i64 n] w fun e w' => e = .returned (.bool (P116 r n li lp lk)) ∧ Below w.heap.size w w' := by
  have hb0 : ∀ ob, Below w.heap.size w (w.alloc ob) := fun ob => (Below.refl _ _).alloc (Nat.le_refl _) ob
  obtain ⟨n0, n1⟩ := hn
  by_cases hz : 0 ≤ n
  · go_enter Tryz.func70, Tryz.ntmps70
    go_wp2
    all_goals
      go_ret
      refine ⟨ret_bool ?_, hb0 _⟩
      unfold P116
      refine dec_of ?_
      first
        | (simp; done)
        | (simp; omega)
        | omega
  · have hz' : n < 0 := by omega
    clear hz
    go_enter Tryz.func70, Tryz.ntmps70
    go_wp2
    all_goals
      go_ret
      refine ⟨ret_bool ?_, hb0 _⟩
      unfold P116
      refine dec_of ?_
      first
        | (simp; done)
        | (simp; omega)
        | omega

set_option maxHeartbeats 2000000 in
theorem partOk_112 (s : ByteArray) (k l r : Int) (ai : Option Addr) (li ci : Nat) (ap : Option Addr) (lp cp : Nat) (ak : Option Addr) (lk ck : Nat) (ag : Option Addr) (lg cg : Nat) (n : Int) (_h0 : 0 ≤ r) (_h1 : r ≤ 4096) (_hi : li ≤ 65536) (hp : lp ≤ 65536) (_hk : lk ≤ 65536) (hn : inI n) (w : World) :
    Calls Tryz.prog 70 #[.agg #[.string s, .int .i64 k, .int .i64 l, .int .i64 r, .slice ai li ci, .slice ap lp cp, .slice ak lk ck, .slice ag lg cg], .int .u8 112, .int .i64 n] w fun e w' => e = .returned (.bool (P112 r n li lp lk)) ∧ Below w.heap.size w w' := by
  have hb0 : ∀ ob, Below w.heap.size w (w.alloc ob) := fun ob => (Below.refl _ _).alloc (Nat.le_refl _) ob
  obtain ⟨n0, n1⟩ := hn
  by_cases hz : 0 ≤ n
  · go_enter Tryz.func70, Tryz.ntmps70
    go_wp2
    all_goals
      go_ret
      refine ⟨ret_bool ?_, hb0 _⟩
      unfold P112
      refine dec_of ?_
      first
        | (simp; done)
        | (simp; omega)
        | omega
  · have hz' : n < 0 := by omega
    clear hz
    go_enter Tryz.func70, Tryz.ntmps70
    go_wp2
    all_goals
      go_ret
      refine ⟨ret_bool ?_, hb0 _⟩
      unfold P112
      refine dec_of ?_
      first
        | (simp; done)
        | (simp; omega)
        | omega

set_option maxHeartbeats 2000000 in
theorem partOk_107 (s : ByteArray) (k l r : Int) (ai : Option Addr) (li ci : Nat) (ap : Option Addr) (lp cp : Nat) (ak : Option Addr) (lk ck : Nat) (ag : Option Addr) (lg cg : Nat) (n : Int) (_h0 : 0 ≤ r) (_h1 : r ≤ 4096) (_hi : li ≤ 65536) (_hp : lp ≤ 65536) (hk : lk ≤ 65536) (hn : inI n) (w : World) :
    Calls Tryz.prog 70 #[.agg #[.string s, .int .i64 k, .int .i64 l, .int .i64 r, .slice ai li ci, .slice ap lp cp, .slice ak lk ck, .slice ag lg cg], .int .u8 107, .int .i64 n] w fun e w' => e = .returned (.bool (P107 r n li lp lk)) ∧ Below w.heap.size w w' := by
  have hb0 : ∀ ob, Below w.heap.size w (w.alloc ob) := fun ob => (Below.refl _ _).alloc (Nat.le_refl _) ob
  obtain ⟨n0, n1⟩ := hn
  by_cases hz : 0 ≤ n
  · go_enter Tryz.func70, Tryz.ntmps70
    go_wp2
    all_goals
      go_ret
      refine ⟨ret_bool ?_, hb0 _⟩
      unfold P107
      refine dec_of ?_
      first
        | (simp; done)
        | (simp; omega)
        | omega
  · have hz' : n < 0 := by omega
    clear hz
    go_enter Tryz.func70, Tryz.ntmps70
    go_wp2
    all_goals
      go_ret
      refine ⟨ret_bool ?_, hb0 _⟩
      unfold P107
      refine dec_of ?_
      first
        | (simp; done)
        | (simp; omega)
        | omega

set_option maxHeartbeats 2000000 in
theorem partOk_102 (s : ByteArray) (k l r : Int) (ai : Option Addr) (li ci : Nat) (ap : Option Addr) (lp cp : Nat) (ak : Option Addr) (lk ck : Nat) (ag : Option Addr) (lg cg : Nat) (n : Int) (_h0 : 0 ≤ r) (_h1 : r ≤ 4096) (_hi : li ≤ 65536) (_hp : lp ≤ 65536) (_hk : lk ≤ 65536) (hn : inI n) (w : World) :
    Calls Tryz.prog 70 #[.agg #[.string s, .int .i64 k, .int .i64 l, .int .i64 r, .slice ai li ci, .slice ap lp cp, .slice ak lk ck, .slice ag lg cg], .int .u8 102, .int .i64 n] w fun e w' => e = .returned (.bool (P102 r n li lp lk)) ∧ Below w.heap.size w w' := by
  have hb0 : ∀ ob, Below w.heap.size w (w.alloc ob) := fun ob => (Below.refl _ _).alloc (Nat.le_refl _) ob
  obtain ⟨n0, n1⟩ := hn
  by_cases hz : 0 ≤ n
  · go_enter Tryz.func70, Tryz.ntmps70
    go_wp2
    all_goals
      go_ret
      refine ⟨ret_bool ?_, hb0 _⟩
      unfold P102
      refine dec_of ?_
      first
        | (simp; done)
        | (simp; omega)
        | omega
  · have hz' : n < 0 := by omega
    clear hz
    go_enter Tryz.func70, Tryz.ntmps70
    go_wp2
    all_goals
      go_ret
      refine ⟨ret_bool ?_, hb0 _⟩
      unfold P102
      refine dec_of ?_
      first
        | (simp; done)
        | (simp; omega)
        | omega

set_option maxHeartbeats 2000000 in
theorem partOk_106 (s : ByteArray) (k l r : Int) (ai : Option Addr) (li ci : Nat) (ap : Option Addr) (lp cp : Nat) (ak : Option Addr) (lk ck : Nat) (ag : Option Addr) (lg cg : Nat) (n : Int) (_h0 : 0 ≤ r) (_h1 : r ≤ 4096) (hi : li ≤ 65536) (_hp : lp ≤ 65536) (_hk : lk ≤ 65536) (hn : inI n) (w : World) :
    Calls Tryz.prog 70 #[.agg #[.string s, .int .i64 k, .int .i64 l, .int .i64 r, .slice ai li ci, .slice ap lp cp, .slice ak lk ck, .slice ag lg cg], .int .u8 106, .int .i64 n] w fun e w' => e = .returned (.bool (P106 r n li lp lk)) ∧ Below w.heap.size w w' := by
  have hb0 : ∀ ob, Below w.heap.size w (w.alloc ob) := fun ob => (Below.refl _ _).alloc (Nat.le_refl _) ob
  obtain ⟨n0, n1⟩ := hn
  by_cases hz : 0 ≤ n
  · go_enter Tryz.func70, Tryz.ntmps70
    go_wp2
    all_goals
      go_ret
      refine ⟨ret_bool ?_, hb0 _⟩
      unfold P106
      refine dec_of ?_
      first
        | (simp; done)
        | (simp; omega)
        | omega
  · have hz' : n < 0 := by omega
    clear hz
    go_enter Tryz.func70, Tryz.ntmps70
    go_wp2
    all_goals
      go_ret
      refine ⟨ret_bool ?_, hb0 _⟩
      unfold P106
      refine dec_of ?_
      first
        | (simp; done)
        | (simp; omega)
        | omega

set_option maxHeartbeats 2000000 in
theorem partOk_110 (s : ByteArray) (k l r : Int) (ai : Option Addr) (li ci : Nat) (ap : Option Addr) (lp cp : Nat) (ak : Option Addr) (lk ck : Nat) (ag : Option Addr) (lg cg : Nat) (n : Int) (_h0 : 0 ≤ r) (_h1 : r ≤ 4096) (_hi : li ≤ 65536) (_hp : lp ≤ 65536) (_hk : lk ≤ 65536) (hn : inI n) (w : World) :
    Calls Tryz.prog 70 #[.agg #[.string s, .int .i64 k, .int .i64 l, .int .i64 r, .slice ai li ci, .slice ap lp cp, .slice ak lk ck, .slice ag lg cg], .int .u8 110, .int .i64 n] w fun e w' => e = .returned (.bool (P110 r n li lp lk)) ∧ Below w.heap.size w w' := by
  have hb0 : ∀ ob, Below w.heap.size w (w.alloc ob) := fun ob => (Below.refl _ _).alloc (Nat.le_refl _) ob
  obtain ⟨n0, n1⟩ := hn
  by_cases hz : 0 ≤ n
  · go_enter Tryz.func70, Tryz.ntmps70
    go_wp2
    all_goals
      go_ret
      refine ⟨ret_bool ?_, hb0 _⟩
      unfold P110
      refine dec_of ?_
      first
        | (simp; done)
        | (simp; omega)
        | omega
  · have hz' : n < 0 := by omega
    clear hz
    go_enter Tryz.func70, Tryz.ntmps70
    go_wp2
    all_goals
      go_ret
      refine ⟨ret_bool ?_, hb0 _⟩
      unfold P110
      refine dec_of ?_
      first
        | (simp; done)
        | (simp; omega)
        | omega

set_option maxHeartbeats 2000000 in
theorem partOk_97 (s : ByteArray) (k l r : Int) (ai : Option Addr) (li ci : Nat) (ap : Option Addr) (lp cp : Nat) (ak : Option Addr) (lk ck : Nat) (ag : Option Addr) (lg cg : Nat) (n : Int) (_h0 : 0 ≤ r) (_h1 : r ≤ 4096) (_hi : li ≤ 65536) (_hp : lp ≤ 65536) (_hk : lk ≤ 65536) (hn : inI n) (w : World) :
    Calls Tryz.prog 70 #[.agg #[.string s, .int .i64 k, .int .i64 l, .int .i64 r, .slice ai li ci, .slice ap lp cp, .slice ak lk ck, .slice ag lg cg], .int .u8 97, .int .i64 n] w fun e w' => e = .returned (.bool (P97 r n li lp lk)) ∧ Below w.heap.size w w' := by
  have hb0 : ∀ ob, Below w.heap.size w (w.alloc ob) := fun ob => (Below.refl _ _).alloc (Nat.le_refl _) ob
  obtain ⟨n0, n1⟩ := hn
  by_cases hz : 0 ≤ n
  · go_enter Tryz.func70, Tryz.ntmps70
    go_wp2
    all_goals
      go_ret
      refine ⟨ret_bool ?_, hb0 _⟩
      unfold P97
      refine dec_of ?_
      first
        | (simp; done)
        | (simp; omega)
        | omega
  · have hz' : n < 0 := by omega
    clear hz
    go_enter Tryz.func70, Tryz.ntmps70
    go_wp2
    all_goals
      go_ret
      refine ⟨ret_bool ?_, hb0 _⟩
      unfold P97
      refine dec_of ?_
      first
        | (simp; done)
        | (simp; omega)
        | omega

set_option maxHeartbeats 2000000 in
theorem partOk_98 (s : ByteArray) (k l r : Int) (ai : Option Addr) (li ci : Nat) (ap : Option Addr) (lp cp : Nat) (ak : Option Addr) (lk ck : Nat) (ag : Option Addr) (lg cg : Nat) (n : Int) (_h0 : 0 ≤ r) (_h1 : r ≤ 4096) (_hi : li ≤ 65536) (_hp : lp ≤ 65536) (_hk : lk ≤ 65536) (hn : inI n) (w : World) :
    Calls Tryz.prog 70 #[.agg #[.string s, .int .i64 k, .int .i64 l, .int .i64 r, .slice ai li ci, .slice ap lp cp, .slice ak lk ck, .slice ag lg cg], .int .u8 98, .int .i64 n] w fun e w' => e = .returned (.bool (P98 r n li lp lk)) ∧ Below w.heap.size w w' := by
  have hb0 : ∀ ob, Below w.heap.size w (w.alloc ob) := fun ob => (Below.refl _ _).alloc (Nat.le_refl _) ob
  obtain ⟨n0, n1⟩ := hn
  by_cases hz : 0 ≤ n
  · go_enter Tryz.func70, Tryz.ntmps70
    go_wp2
    all_goals
      go_ret
      refine ⟨ret_bool ?_, hb0 _⟩
      unfold P98
      refine dec_of ?_
      first
        | (simp; done)
        | (simp; omega)
        | omega
  · have hz' : n < 0 := by omega
    clear hz
    go_enter Tryz.func70, Tryz.ntmps70
    go_wp2
    all_goals
      go_ret
      refine ⟨ret_bool ?_, hb0 _⟩
      unfold P98
      refine dec_of ?_
      first
        | (simp; done)
        | (simp; omega)
        | omega

set_option maxHeartbeats 2000000 in
theorem partOk_45 (s : ByteArray) (k l r : Int) (ai : Option Addr) (li ci : Nat) (ap : Option Addr) (lp cp : Nat) (ak : Option Addr) (lk ck : Nat) (ag : Option Addr) (lg cg : Nat) (n : Int) (_h0 : 0 ≤ r) (_h1 : r ≤ 4096) (_hi : li ≤ 65536) (_hp : lp ≤ 65536) (_hk : lk ≤ 65536) (hn : inI n) (w : World) :
    Calls Tryz.prog 70 #[.agg #[.string s, .int .i64 k, .int .i64 l, .int .i64 r, .slice ai li ci, .slice ap lp cp, .slice ak lk ck, .slice ag lg cg], .int .u8 45, .int .i64 n] w fun e w' => e = .returned (.bool (P45 r n li lp lk)) ∧ Below w.heap.size w w' := by
  have hb0 : ∀ ob, Below w.heap.size w (w.alloc ob) := fun ob => (Below.refl _ _).alloc (Nat.le_refl _) ob
  obtain ⟨n0, n1⟩ := hn
  by_cases hz : 0 ≤ n
  · go_enter Tryz.func70, Tryz.ntmps70
    go_wp2
    all_goals
      go_ret
      refine ⟨ret_bool ?_, hb0 _⟩
      unfold P45
      refine dec_of ?_
      first
        | (simp; done)
        | (simp; omega)
        | omega
  · have hz' : n < 0 := by omega
    clear hz
    go_enter Tryz.func70, Tryz.ntmps70
    go_wp2
    all_goals
      go_ret
      refine ⟨ret_bool ?_, hb0 _⟩
      unfold P45
      refine dec_of ?_
      first
        | (simp; done)
        | (simp; omega)
        | omega

set_option maxHeartbeats 2000000 in
theorem partIn_111 (s : ByteArray) (k l r : Int) (ai : Option Addr) (li ci : Nat) (bk o : Nat) (lp cp : Nat) (ak : Option Addr) (lk ck : Nat) (ag : Option Addr) (lg cg : Nat) (m : Nat) (kk : Int) (_h0 : 0 ≤ r) (_h1 : r ≤ 4096) (_hi : li ≤ 65536) (hp : lp ≤ 65536) (_hk : lk ≤ 65536) (hm : m < lp) (w : World) (hc : w.cell? ⟨bk, o + m * 3, none⟩ = some (.int .i64 kk)) :
    Calls Tryz.prog 70 #[.agg #[.string s, .int .i64 k, .int .i64 l, .int .i64 r, .slice ai li ci, .slice (some ⟨bk, o, none⟩) lp cp, .slice ak lk ck, .slice ag lg cg], .int .u8 111, .int .i64 m] w fun e w' => e = .returned (.bool (decide (kk = 5))) ∧ Below w.heap.size w w' := by
  have hb0 : ∀ ob, Below w.heap.size w (w.alloc ob) := fun ob => (Below.refl _ _).alloc (Nat.le_refl _) ob
  have hlt := lt_of_cell hc
  have cA := fun ob => cell_old w ob hlt
  have hm0 : (0 : Int) ≤ (m : Int) := Int.natCast_nonneg _
  have hm1 : (m : Int) < (lp : Int) := by omega
  have hm2 : (m : Int) ≤ (lp : Int) - 1 := by omega
  go_enter Tryz.func70, Tryz.ntmps70
  go_wp2
  all_goals
    go_ret
    refine ⟨ret_bool ?_, hb0 _⟩
    first
      | (rw [Bool.eq_iff_iff]; simp; done)
      | (simp; done)

set_option maxHeartbeats 2000000 in
theorem partNo_111 (s : ByteArray) (k l r : Int) (ai : Option Addr) (li ci : Nat) (ap : Option Addr) (lp cp : Nat) (ak : Option Addr) (lk ck : Nat) (ag : Option Addr) (lg cg : Nat) (n : Int) (_h0 : 0 ≤ r) (_h1 : r ≤ 4096) (_hi : li ≤ 65536) (hp : lp ≤ 65536) (_hk : lk ≤ 65536) (hn : inI n) (w : World) (hx : ¬ (0 ≤ n ∧ n < (lp : Int))) :
    Calls Tryz.prog 70 #[.agg #[.string s, .int .i64 k, .int .i64 l, .int .i64 r, .slice ai li ci, .slice ap lp cp, .slice ak lk ck, .slice ag lg cg], .int .u8 111, .int .i64 n] w fun e w' => e = .returned (.bool false) ∧ Below w.heap.size w w' := by
  have hb0 : ∀ ob, Below w.heap.size w (w.alloc ob) := fun ob => (Below.refl _ _).alloc (Nat.le_refl _) ob
  obtain ⟨n0, n1⟩ := hn
  by_cases hz : 0 ≤ n
  · have hz2 : (lp : Int) ≤ n := by omega
    have hz3 : decide (n < (lp : Int)) = false := by simp; omega
    have hz4 : decide (n ≤ (lp : Int) - 1) = false := by simp; omega
    clear hx
    go_enter Tryz.func70, Tryz.ntmps70
    go_wp2
    all_goals
      go_ret
      refine ⟨ret_bool ?_, hb0 _⟩
      first
        | (simp; done)
        | (simp; omega)
        | omega
  · have hz' : n < 0 := by omega
    clear hz hx
    go_enter Tryz.func70, Tryz.ntmps70
    go_wp2
    all_goals
      go_ret
      refine ⟨ret_bool ?_, hb0 _⟩
      first
        | (simp; done)
        | (simp; omega)
        | omega

set_option maxHeartbeats 2000000 in
theorem partIn_103 (s : ByteArray) (k l r : Int) (ai : Option Addr) (li ci : Nat) (ap : Option Addr) (lp cp : Nat) (bk o : Nat) (lk ck : Nat) (ag : Option Addr) (lg cg : Nat) (m : Nat) (kk : Int) (_h0 : 0 ≤ r) (_h1 : r ≤ 4096) (_hi : li ≤ 65536) (_hp : lp ≤ 65536) (hk : lk ≤ 65536) (hm : m < lk) (w : World) (hc : w.cell? ⟨bk, o + m * 3, none⟩ = some (.int .i64 kk)) :
    Calls Tryz.prog 70 #[.agg #[.string s, .int .i64 k, .int .i64 l, .int .i64 r, .slice ai li ci, .slice ap lp cp, .slice (some ⟨bk, o, none⟩) lk ck, .slice ag lg cg], .int .u8 103, .int .i64 m] w fun e w' => e = .returned (.bool (decide (kk = 1))) ∧ Below w.heap.size w w' := by
  have hb0 : ∀ ob, Below w.heap.size w (w.alloc ob) := fun ob => (Below.refl _ _).alloc (Nat.le_refl _) ob
  have hlt := lt_of_cell hc
  have cA := fun ob => cell_old w ob hlt
  have hm0 : (0 : Int) ≤ (m : Int) := Int.natCast_nonneg _
  have hm1 : (m : Int) < (lk : Int) := by omega
  have hm2 : (m : Int) ≤ (lk : Int) - 1 := by omega
  go_enter Tryz.func70, Tryz.ntmps70
  go_wp2
  all_goals
    go_ret
    refine ⟨ret_bool ?_, hb0 _⟩
    first
      | (rw [Bool.eq_iff_iff]; simp; done)
      | (simp; done)

set_option maxHeartbeats 2000000 in
theorem partNo_103 (s : ByteArray) (k l r : Int) (ai : Option Addr) (li ci : Nat) (ap : Option Addr) (lp cp : Nat) (ak : Option Addr) (lk ck : Nat) (ag : Option Addr) (lg cg : Nat) (n : Int) (_h0 : 0 ≤ r) (_h1 : r ≤ 4096) (_hi : li ≤ 65536) (_hp : lp ≤ 65536) (hk : lk ≤ 65536) (hn : inI n) (w : World) (hx : ¬ (0 ≤ n ∧ n < (lk : Int))) :
    Calls Tryz.prog 70 #[.agg #[.string s, .int .i64 k, .int .i64 l, .int .i64 r, .slice ai li ci, .slice ap lp cp, .slice ak lk ck, .slice ag lg cg], .int .u8 103, .int .i64 n] w fun e w' => e = .returned (.bool false) ∧ Below w.heap.size w w' := by
  have hb0 : ∀ ob, Below w.heap.size w (w.alloc ob) := fun ob => (Below.refl _ _).alloc (Nat.le_refl _) ob
  obtain ⟨n0, n1⟩ := hn
  by_cases hz : 0 ≤ n
  · have hz2 : (lk : Int) ≤ n := by omega
    have hz3 : decide (n < (lk : Int)) = false := by simp; omega
    have hz4 : decide (n ≤ (lk : Int) - 1) = false := by simp; omega
    clear hx
    go_enter Tryz.func70, Tryz.ntmps70
    go_wp2
    all_goals
      go_ret
      refine ⟨ret_bool ?_, hb0 _⟩
      first
        | (simp; done)
        | (simp; omega)
        | omega
  · have hz' : n < 0 := by omega
    clear hz hx
    go_enter Tryz.func70, Tryz.ntmps70
    go_wp2
    all_goals
      go_ret
      refine ⟨ret_bool ?_, hb0 _⟩
      first
        | (simp; done)
        | (simp; omega)
        | omega

end Go.Proofs.YtfngechoipngmaaGreatDoor
