/-
  IterateOthers: the iterator over the values of a record (cell.all).
-/
import Derived.RangeFuncNested
import Derived.RangeFuncBound
import Derived.RangeFuncCalls
import Derived.RangeFuncLeaves
import Derived.Shelf.Abstract
import Derived.Shelf.RegionOpen
import Derived.OwnWalkIn
import Derived.TacticsInMore
import Derived.LoopNIn
import Derived.LoopIn
import Derived.Test.YtfiainenbpldgaaGreatDoorAeOtCopy
import Derived.Test.YtfiainenbpldgaaGreatDoorAeMay
namespace Go.Proofs.YtfiainenbpldgaaGreatDoor
open Go.RowKit Go.Shelf
set_option maxRecDepth 100000
set_option linter.unusedVariables false
set_option linter.unusedSimpArgs false
attribute [local go_sem] Oper.semAt_some

/-- a value that a cell may hold -/
structure OkV (x : VL) : Prop where
  k : (0 ≤ x.k ∧ x.k ≤ 6) ∨ x.k = 8
  n : inI x.n
  m : AE.mayP x.k x.n x.s.size = true

abbrev OkL := { x : VL // OkV x }

theorem may_calls (x : OkL) (w : World) : Calls Tryz.prog 146 #[aV x.1] w fun e w' => e = .returned (.bool true) ∧ Below w.heap.size w w' :=
  cmay_ret x.1.k x.1.n x.1.s x.2.k x.2.n.2 x.2.m w

theorem below_grownBy {w w' : World} (h : Below w.heap.size w w') : w.grownBy w' none := ⟨h.os, h.tape, h.output, h.size, fun k hk _ => h.block k hk⟩

theorem lie_cells {w : World} {b o : Nat} {xs : List VL} (h : Lie w b o xs) {k : Nat} {x : VL} (hk : xs[k]? = some x) :
    w.cell? ⟨b, o + k * 3, none⟩ = some (.int .i64 x.k) ∧ w.cell? ⟨b, o + k * 3 + 1, none⟩ = some (.int .i64 x.n) ∧ w.cell? ⟨b, o + k * 3 + 2, none⟩ = some (.string x.s) :=
  ⟨h k x hk 0 _ rfl, h k x hk 1 _ rfl, h k x hk 2 _ rfl⟩

theorem take_snoc {X : Type} {xs : List X} {k : Nat} (h : k < xs.length) : xs.take (k + 1) = xs.take k ++ [xs[k]] := by
  rw [List.take_succ_eq_append_getElem h]

/-- the iterator's closure, over a record without slots -/
theorem all1_in (F : Fence) (n : Nat) (h184 : F.fn 184) (hro : F.round = none) (hn : 1 ≤ n) (l Bc n₀ b o c : Nat) (sh fl ag : Int) (xs : List OkL) (hl : xs.length ≤ 100000) (hb : b < n₀) (hB : Bc < n₀) (J Jx : List OkL → World → Prop)
    (hJ : ∀ pre A B, J pre A → Below A.heap.size A B → J pre B)
    (hY : ∀ pre x W, J pre W → pre.length < xs.length → YieldAt F (n - 1) Tryz.prog l #[.bool true, aV x.1] W fun e W' =>
      (e = .returned (.bool true) ∧ J (pre ++ [x]) W' ∧ Below n₀ W W') ∨ (e = .returned (.bool false) ∧ Jx (pre ++ [x]) W'))
    (W : World) (hn₀ : n₀ ≤ W.heap.size) (hbox : W.heap[Bc]? = some (.cells #[.int .i64 7, .int .i64 sh, .int .i64 fl, .int .i64 ag, .slice none 0 0, .slice (some ⟨b, o, none⟩) xs.length c] 66 (0, 0)))
    (hc : Lie W b o (xs.map (·.1))) (h0 : J [] W) :
    CallsIn F n Tryz.prog 184 #[.func (.yield l) #[] #[], .pointer (some ⟨Bc, 0, none⟩)] W fun e W' => (∃ v, e = .returned v) ∧
      ((∃ ys, ys = xs ∧ J ys W') ∨ (∃ pre, pre <+: xs ∧ Jx pre W')) := by
  have c0 : W.cell? ⟨Bc, 0, none⟩ = some (.int .i64 7) := (Lib.cell_of_heap hbox 0).trans rfl
  have c4 : W.cell? ⟨Bc, 4, none⟩ = some (.slice none 0 0) := (Lib.cell_of_heap hbox 4).trans rfl
  have c5 : W.cell? ⟨Bc, 5, none⟩ = some (.slice (some ⟨b, o, none⟩) xs.length c) := (Lib.cell_of_heap hbox 5).trans rfl
  refine callsIn_of_wp Tryz.func184 rfl h184 ?_ hro
  simp only [Tryz.ntmps184, List.size_toArray, List.length_cons, List.length_nil, Nat.reduceAdd, Nat.reduceSub, Array.replicate_succ, Array.replicate_zero, List.push_toArray, List.append_toArray, List.nil_append, List.cons_append]
  gi_wp2
  gi_loopw [11] (fun i wr => i = .int .i64 0 ∧ W = wr) (fun _ _ => 0)
  case atStart => exact ⟨rfl, rfl⟩
  case round =>
    obtain ⟨rfl, rfl⟩ := hrel
    gi_wp2
    gi_loopw [23] (fun i wr => ∃ k : Nat, k ≤ xs.length ∧ i = .int .i64 k ∧ J (xs.take k) wr ∧ Below n₀ W wr) (fun i _ => xs.length - (intOf i).toNat)
    case atStart => exact ⟨0, Nat.zero_le _, rfl, h0, Below.refl _ _⟩
    case round =>
      obtain ⟨k, hk, rfl, hJs, hbl⟩ := hrel
      by_cases hlt : k < xs.length
      · have hx : (xs.map (·.1))[k]? = some xs[k].1 := by rw [List.getElem?_map, List.getElem?_eq_getElem hlt]; rfl
        obtain ⟨e0, e1, e2⟩ := lie_cells (hc.mono hbl hb) hx
        have d0 : wr.cell? ⟨Bc, 0, none⟩ = some (.int .i64 7) := (hbl.cell (p := ⟨Bc, 0, none⟩) hB).trans c0
        have hsz := hbl.size
        have cA : ∀ ob, (wr.alloc ob).cell? ⟨Bc, 0, none⟩ = some (.int .i64 7) := fun ob => ((new_below wr ob).cell (p := ⟨Bc, 0, none⟩) (Nat.lt_of_lt_of_le hB (Nat.le_trans hn₀ hsz))).trans d0
        obtain ⟨fn, tmps, assign, body, hy, hR⟩ := hY (xs.take k) xs[k] (wr.alloc (.cells #[.int .i64 xs[k].1.k, .int .i64 xs[k].1.n, .string xs[k].1.s] 23)) (hJ _ _ _ hJs (new_below _ _)) (by rw [List.length_take]; omega)
        unfold aV at hy
        have hsn := take_snoc hlt
        have hpre : xs.take k ++ [xs[k]] <+: xs := by rw [← hsn]; exact List.take_prefix _ _
        gi_wp2
        refine hR.mono ?_
        rintro e W3 (⟨rfl, hJ3, hk3⟩ | ⟨rfl, hJx3⟩)
        · gi_wp2
          go_roundw
          case rel => exact ⟨k + 1, by omega, by go_num, by rw [hsn]; exact hJ3, hbl.trans (((new_below wr _).mono (Nat.le_trans hn₀ hsz)).trans hk3)⟩
          case measure => simp [intOf]; omega
        · gi_wp2
          refine bodyPost_ret (results_none rfl _ _ _) rfl ?_
          exact ⟨⟨_, rfl⟩, .inr ⟨_, hpre, hJx3⟩⟩
      · obtain rfl : k = xs.length := by omega
        gi_wp2
        go_end0
        exact ⟨⟨_, rfl⟩, .inl ⟨xs, rfl, by simpa using hJs⟩⟩

end Go.Proofs.YtfiainenbpldgaaGreatDoor
