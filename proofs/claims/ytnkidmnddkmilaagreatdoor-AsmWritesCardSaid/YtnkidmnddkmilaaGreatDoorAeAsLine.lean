/-
  Instructions as text: the reference.
-/
import Derived.Test.YtnkidmnddkmilaaGreatDoorAeAsOps
import Derived.Test.YtnkidmnddkmilaaGreatDoorAeAsConst
namespace Go.Proofs.YtnkidmnddkmilaaGreatDoor
open Go.RowKit
set_option maxRecDepth 100000

structure InsL where
  op : Int
  a : Int
  b : Int
  c : Int

/-- an operand in its line -/
def segL (g n : Int) : List UInt8 := if g = 45 then [] else 32 :: partL g n
/-- the three kinds -/
def kd (op : Int) (i : Nat) : UInt8 := (kindL op).getD i 0
/-- an instruction's line -/
def lineL (x : InsL) : List UInt8 :=
  if x.op < 0 ∨ 55 ≤ x.op then [] else nameL x.op ++ segL (kd x.op 0).toNat x.a ++ segL (kd x.op 1).toNat x.b ++ segL (kd x.op 2).toNat x.c

def okSign (g : UInt8) : Prop := (g.toNat : Int) = 45 ∨ isSign g.toNat

theorem row_good {op : Int} (h0 : 0 ≤ op) (h1 : op < 55) : kindL op = [kd op 0, kd op 1, kd op 2] ∧ (∀ i, okSign (kd op i) ∨ 3 ≤ i) ∧ nameL op ≠ [] ∧ (nameL op).length ≤ 12 := by
  have hg := rows_good
  rw [List.all_eq_true] at hg
  have hk : op.toNat < rowsN.length := by rw [rows_len]; omega
  have h := hg (rowsN.getD op.toNat ([], [])) (by rw [List.getD_eq_getElem?_getD, List.getElem?_eq_getElem hk]; exact List.getElem_mem hk)
  unfold goodRow at h
  simp only [Bool.and_eq_true, decide_eq_true_eq, beq_iff_eq, bne_iff_ne] at h
  obtain ⟨⟨⟨h2, h3⟩, h4⟩, h5⟩ := h
  have hn : ¬ op < 0 := by omega
  have ek : kindL op = (kindN op.toNat).map UInt8.ofNat := by unfold kindL; rw [if_neg hn]
  have en : nameL op = (nameN op.toNat).map UInt8.ofNat := by unfold nameL; rw [if_neg hn]
  have h2' : (kindN op.toNat).length = 3 := h2
  have h3' : (nameN op.toNat).length ≠ 0 := h3
  have h4' : (nameN op.toNat).length ≤ 12 := h4
  have h5' : ∀ g ∈ kindN op.toNat, g = 45 ∨ g = 114 ∨ g = 100 ∨ g = 113 ∨ g = 116 ∨ g = 112 ∨ g = 111 ∨ g = 107 ∨ g = 103 ∨ g = 102 ∨ g = 106 ∨ g = 110 ∨ g = 97 ∨ g = 98 := by
    intro g hg
    have := (List.all_eq_true.1 h5) g hg
    simpa using this
  generalize kindN op.toNat = l at h2' h5' ek
  match l, h2' with
  | [x, y, z], _ =>
    have e0 : kd op 0 = UInt8.ofNat x := by unfold kd; rw [ek]; rfl
    have e1 : kd op 1 = UInt8.ofNat y := by unfold kd; rw [ek]; rfl
    have e2 : kd op 2 = UInt8.ofNat z := by unfold kd; rw [ek]; rfl
    have hs : ∀ g : Nat, (g = 45 ∨ g = 114 ∨ g = 100 ∨ g = 113 ∨ g = 116 ∨ g = 112 ∨ g = 111 ∨ g = 107 ∨ g = 103 ∨ g = 102 ∨ g = 106 ∨ g = 110 ∨ g = 97 ∨ g = 98) → okSign (UInt8.ofNat g) := by
      intro g hg
      unfold okSign isSign
      rcases hg with rfl | rfl | rfl | rfl | rfl | rfl | rfl | rfl | rfl | rfl | rfl | rfl | rfl | rfl <;> decide
    refine ⟨by rw [ek, e0, e1, e2]; rfl, fun i => ?_, ?_, ?_⟩
    · match i with
      | 0 => exact Or.inl (by rw [e0]; exact hs x (h5' x (by simp)))
      | 1 => exact Or.inl (by rw [e1]; exact hs y (h5' y (by simp)))
      | 2 => exact Or.inl (by rw [e2]; exact hs z (h5' z (by simp)))
      | i + 3 => exact Or.inr (by omega)
    · rw [en]
      intro e
      exact h3' (by simpa using congrArg List.length e)
    · rw [en, List.length_map]
      exact h4'

theorem seg_len (g n : Int) (hn : inI n) : (bs (segL g n)).size ≤ 25 := by
  have h := part_len g n hn
  rw [bs_size]
  unfold segL
  split
  · simp
  · rw [List.length_cons]; omega

theorem rseg_ret (g : UInt8) (hg : okSign g) (n : Int) (hn : inI n) (w : World) : Calls Tryz.prog 57 #[.int .u8 g.toNat, .int .i64 n] w fun e w' => e = .returned (.string (bs (segL g.toNat n))) ∧ (bs (segL g.toNat n)).size ≤ 25 ∧ Below w.heap.size w w' := by
  have hs := seg_len g.toNat n hn
  rcases hg with h | h
  · unfold segL at *
    rw [h] at hs ⊢
    rw [if_pos rfl] at hs ⊢
    exact (rpart_none n w).mono fun e w' he => ⟨he.1, hs, he.2⟩
  · have h45 : ¬ (g.toNat : Int) = 45 := by
      intro e
      rw [e] at h
      unfold isSign at h
      omega
    unfold segL at *
    rw [if_neg h45] at hs ⊢
    exact (rpart_ret _ n h hn w).mono fun e w' he => ⟨he.1, hs, he.2⟩

set_option maxHeartbeats 8000000 in
theorem rins_ret (op a b c : Int) (h0 : 0 ≤ op) (h1 : op < 55) (ha : inI a) (hb : inI b) (hc : inI c) (w : World) :
    Calls Tryz.prog 24 #[.agg #[.int .i64 op, .int .i64 a, .int .i64 b, .int .i64 c]] w fun e w' => e = .returned (.string (bs (lineL ⟨op, a, b, c⟩))) ∧ Below w.heap.size w w' := by
  obtain ⟨hk, hg, _, hnl⟩ := row_good h0 h1
  have HL : Hid (lineL ⟨op, a, b, c⟩ = nameL op ++ segL (kd op 0).toNat a ++ segL (kd op 1).toNat b ++ segL (kd op 2).toNat c) := Lib.hid (by unfold lineL; rw [if_neg (show ¬ (op < 0 ∨ 55 ≤ op) by omega)])
  have g0 : okSign (kd op 0) := (hg 0).resolve_right (by omega)
  have g1 : okSign (kd op 1) := (hg 1).resolve_right (by omega)
  have g2 : okSign (kd op 2) := (hg 2).resolve_right (by omega)
  have hkind : ∀ w, Calls Tryz.prog 56 #[.int .i64 op] w fun e w' => e = .returned (.string ⟨#[kd op 0, kd op 1, kd op 2]⟩) ∧ Below w.heap.size w w' := fun w => (rkind_ret op w).mono fun e w' he => ⟨by rw [he.1, hk]; rfl, he.2⟩
  generalize kd op 0 = k0 at *
  generalize kd op 1 = k1 at *
  generalize kd op 2 = k2 at *
  have sn : (bs (nameL op)).size ≤ 12 := by rw [bs_size]; exact hnl
  have s0 := seg_len k0.toNat a ha
  have s1 := seg_len k1.toNat b hb
  have s2 := seg_len k2.toNat c hc
  have l0 : ¬ (9223372036854775807 < (bs (nameL op)).size + (bs (segL k0.toNat a)).size) := by omega
  have l1 : ¬ (9223372036854775807 < (bs (nameL op)).size + (bs (segL k0.toNat a)).size + (bs (segL k1.toNat b)).size) := by omega
  have l2 : ¬ (9223372036854775807 < (bs (nameL op)).size + (bs (segL k0.toNat a)).size + (bs (segL k1.toNat b)).size + (bs (segL k2.toNat c)).size) := by omega
  have hb0 : Below w.heap.size w (w.alloc (Obj.cells #[.int .i64 op, .int .i64 a, .int .i64 b, .int .i64 c] 42)) := (Below.refl _ _).alloc (Nat.le_refl _) _
  clear hk hg
  go_enter Tryz.func24, Tryz.ntmps24
  go_wp2_with (go_at_call 56; refine (hkind _).mono ?_; rintro e w1 ⟨rfl, hb1⟩)
  have ce : ∀ o, w1.cell? ⟨w.heap.size, o, none⟩ = (w.alloc (Obj.cells #[.int .i64 op, .int .i64 a, .int .i64 b, .int .i64 c] 42)).cell? ⟨w.heap.size, o, none⟩ := fun o => hb1.cell (p := ⟨w.heap.size, o, none⟩) (by simp)
  have c0 : w1.drew.cell? ⟨w.heap.size, 0, none⟩ = some (.int .i64 op) := (ce 0).trans (by rw [Lib.cell_of_heap (heap_alloc_new w _)]; rfl)
  have c1 : w1.drew.cell? ⟨w.heap.size, 1, none⟩ = some (.int .i64 a) := (ce 1).trans (by rw [Lib.cell_of_heap (heap_alloc_new w _)]; rfl)
  have c2 : w1.drew.cell? ⟨w.heap.size, 2, none⟩ = some (.int .i64 b) := (ce 2).trans (by rw [Lib.cell_of_heap (heap_alloc_new w _)]; rfl)
  have c3 : w1.drew.cell? ⟨w.heap.size, 3, none⟩ = some (.int .i64 c) := (ce 3).trans (by rw [Lib.cell_of_heap (heap_alloc_new w _)]; rfl)
  clear ce hkind
  have hb2 : Below w.heap.size w w1.drew := (hb0.trans (hb1.mono hb0.size)).drew
  have hlt : w.heap.size < w1.heap.size := by have := hb1.size; simp at this; omega
  have hlt2 : w.heap.size < w1.drew.heap.size := hlt
  clear hb1 hb0 hnl sn
  have e0 : ({ data := #[k0, k1, k2] } : ByteArray)[0]'(by show 0 < 3; omega) = k0 := rfl
  have e1 : ({ data := #[k0, k1, k2] } : ByteArray)[1]'(by show 1 < 3; omega) = k1 := rfl
  have e2 : ({ data := #[k0, k1, k2] } : ByteArray)[2]'(by show 2 < 3; omega) = k2 := rfl
  go_region_held3 (fun w' => w'.cell? ⟨w.heap.size, 0, none⟩ = some (.int .i64 op) ∧ w'.cell? ⟨w.heap.size, 1, none⟩ = some (.int .i64 a) ∧ w'.cell? ⟨w.heap.size, 2, none⟩ = some (.int .i64 b) ∧ w'.cell? ⟨w.heap.size, 3, none⟩ = some (.int .i64 c) ∧ Below w.heap.size w w' ∧ w.heap.size < w'.heap.size)
    (first | go_keep | (go_split_ands; obtain ⟨q1, q2, q3⟩ := keepB (by assumption) (by assumption) hbel; refine ⟨?_, ?_, ?_, ?_, q1, q2⟩ <;> (rw [q3]; assumption)))
    ((first
      | (go_at_call 23; refine (rname_ret op _).mono ?_; rintro e w2 ⟨rfl, hbel⟩)
      | (go_at_call 57; refine (rseg_ret _ ?h1 _ ?h2 _).mono ?_; (case h1 => assumption); (case h2 => assumption); rintro e w2 ⟨rfl, hsz, hbel⟩)))
  all_goals
    go_wp2
    go_ret
    go_split_ands
    refine ⟨ret_str ?_, by assumption⟩
    rw [HL.out]
    simp only [bs_append]

end Go.Proofs.YtnkidmnddkmilaaGreatDoor
