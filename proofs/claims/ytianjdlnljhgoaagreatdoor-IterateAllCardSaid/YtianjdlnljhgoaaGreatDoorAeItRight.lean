/-
  Which plans are right: what the test's yes says.
-/
import Derived.Test.YtianjdlnljhgoaaGreatDoorRows
import Derived.WalkKit
import Derived.RowKit
import Derived.Below
import Derived.LoopTactic
import Derived.IntWalk
import Derived.Lib.Hide
import Derived.Lib.Builder
import Derived.Deep.RegionHeld3
namespace Go.Proofs.YtianjdlnljhgoaaGreatDoor
open Go.RowKit
set_option maxRecDepth 100000

def inI (n : Int) : Prop := -9223372036854775808 ≤ n ∧ n ≤ 9223372036854775807

/-- a scripted completion -/
structure ToldL where
  kind : Int
  done : Bool
  vk : Int
  n : Int
  s : ByteArray

def toldC (t : ToldL) : List Value := [.int .i64 t.kind, .bool t.done, .int .i64 t.vk, .int .i64 t.n, .string t.s]

/-- its value is a number -/
def PlainT (t : ToldL) : Prop := t.vk = 3 ∧ t.s = ⟨#[]⟩ ∧ -9007199254740992 ≤ t.n ∧ t.n ≤ 9007199254740992

/-- it returns a bool; where it is true, p holds -/
structure RetB (p : Prop) (e : Ending) : Prop where
  ex : ∃ b : Bool, e = .returned (.bool b) ∧ (b = true → p)
theorem RetB.no {p : Prop} : RetB p (.returned (.bool false)) := ⟨false, rfl, fun h => by cases h⟩
theorem RetB.yes {p : Prop} (h : p) : RetB p (.returned (.bool true)) := ⟨true, rfl, fun _ => h⟩

theorem empty_or (s : ByteArray) : s = ⟨#[]⟩ ∨ s.toList.isEmpty = false := by
  cases h : s.toList with
  | nil =>
    left
    rw [ByteArray.toList_eq] at h
    apply ByteArray.ext
    apply Array.ext'
    exact h
  | cons a r => right; rfl

theorem new_below (w : World) (ob : Obj) : Below w.heap.size w (w.alloc ob) := (Below.refl _ _).alloc (Nat.le_refl _) ob

set_option maxHeartbeats 1000000 in
theorem plain_ret (k : Int) (d : Bool) (vk n : Int) (s : ByteArray) (w : World) :
    Calls Tryz.prog 19 #[.agg #[.int .i64 k, .bool d, .int .i64 vk, .int .i64 n, .string s]] w fun e w' => RetB (PlainT ⟨k, d, vk, n, s⟩) e ∧ Below w.heap.size w w' := by
  have hb := new_below w (.cells #[.int .i64 k, .bool d, .int .i64 vk, .int .i64 n, .string s] 25)
  by_cases h1 : vk = 3
  · subst h1
    rcases empty_or s with rfl | h2
    · by_cases h3 : -9007199254740992 ≤ n
      · by_cases h4 : n ≤ 9007199254740992
        · go_enter Tryz.func19, Tryz.ntmps19
          go_wp2
          go_ret
          exact ⟨.yes ⟨rfl, rfl, h3, h4⟩, hb⟩
        · go_enter Tryz.func19, Tryz.ntmps19
          go_wp2
          go_ret
          exact ⟨.no, hb⟩
      · go_enter Tryz.func19, Tryz.ntmps19
        go_wp2
        go_ret
        exact ⟨.no, hb⟩
    · go_enter Tryz.func19, Tryz.ntmps19
      go_wp2
      go_ret
      exact ⟨.no, hb⟩
  · go_enter Tryz.func19, Tryz.ntmps19
    go_wp2
    go_ret
    exact ⟨.no, hb⟩

/-- a slice of structs of n cells, in a block below B -/
def SlAt (w : World) (B n : Nat) (v : Value) (xs : List (List Value)) : Prop :=
  ∃ (a : Option Addr) (cap : Nat), v = .slice a xs.length cap ∧
    (xs ≠ [] → ∃ bk o, a = some ⟨bk, o, none⟩ ∧ bk < B ∧ ∀ i x, xs[i]? = some x → ∀ j y, x[j]? = some y → w.cell? ⟨bk, o + i * n + j, none⟩ = some y)

theorem SlAt.below {w w' : World} {B n : Nat} {v : Value} {xs : List (List Value)} (h : SlAt w B n v xs) (hb : Below B w w') : SlAt w' B n v xs := by
  obtain ⟨a, cap, h2, h3⟩ := h
  refine ⟨a, cap, h2, fun hne => ?_⟩
  obtain ⟨bk, o, e, hlt, hc⟩ := h3 hne
  refine ⟨bk, o, e, hlt, fun i x hi j y hj => ?_⟩
  rw [hb.cell (p := ⟨bk, o + i * n + j, none⟩) hlt]
  exact hc i x hi j y hj

/-- what the test's yes says -/
structure RightP (m n r : Int) (it bye : ToldL) (xs : List ToldL) : Prop where
  m0 : 0 ≤ m
  m1 : m ≤ 2
  n0 : 0 ≤ n
  n1 : n ≤ 2
  r0 : 0 ≤ r
  r1 : r ≤ 3
  few : xs.length ≤ 30
  it : PlainT it
  bye : PlainT bye
  all : ∀ x ∈ xs, PlainT x

def planC (m n r : Int) (it bye : ToldL) (v : Value) : Array Value := #[.int .i64 m, .int .i64 n, .int .i64 r, .int .i64 it.kind, .bool it.done, .int .i64 it.vk, .int .i64 it.n, .string it.s, .int .i64 bye.kind, .bool bye.done, .int .i64 bye.vk, .int .i64 bye.n, .string bye.s, v]

theorem box_cells {W w1 : World} {cs : Array Value} {t : TypeId} (hb : Below (W.alloc (.cells cs t)).heap.size (W.alloc (.cells cs t)) w1) : (∀ o, w1.cell? ⟨W.heap.size, o, none⟩ = cs[o]?) ∧ Below W.heap.size W w1 ∧ W.heap.size < w1.heap.size := by
  refine ⟨fun o => ?_, (new_below W _).trans (hb.mono (by simp)), ?_⟩
  · rw [hb.cell (p := ⟨W.heap.size, o, none⟩) (by simp), Lib.cell_of_heap (heap_alloc_new W _)]
  · have := hb.size
    simp at this
    omega

/-- the box behind calls -/
structure BoxR (w : World) (cs : Array Value) (W : World) : Prop where
  bel : Below w.heap.size w W
  lt : w.heap.size < W.heap.size
  cell : ∀ o, W.cell? ⟨w.heap.size, o, none⟩ = cs[o]?
theorem BoxR.new (w : World) (cs : Array Value) (t : TypeId) : BoxR w cs (w.alloc (.cells cs t)) := ⟨new_below _ _, by simp, fun o => by rw [Lib.cell_of_heap (heap_alloc_new w _)]⟩
theorem BoxR.step {w W W' : World} {cs : Array Value} (h : BoxR w cs W) (hb : Below W.heap.size W W') : BoxR w cs W' :=
  ⟨h.bel.trans (hb.mono h.bel.size), Nat.lt_of_lt_of_le h.lt hb.size, fun o => by rw [hb.cell (p := ⟨w.heap.size, o, none⟩) h.lt]; exact h.cell o⟩

theorem BoxR.tail {w W : World} {a0 a1 a2 a3 a4 a5 a6 a7 a8 a9 a10 a11 a12 a13 : Value} (h : BoxR w #[a0, a1, a2, a3, a4, a5, a6, a7, a8, a9, a10, a11, a12, a13] W) :
    W.cell? ⟨w.heap.size, 8, none⟩ = some a8 ∧ W.cell? ⟨w.heap.size, 9, none⟩ = some a9 ∧ W.cell? ⟨w.heap.size, 10, none⟩ = some a10 ∧ W.cell? ⟨w.heap.size, 11, none⟩ = some a11 ∧ W.cell? ⟨w.heap.size, 12, none⟩ = some a12 ∧ W.cell? ⟨w.heap.size, 13, none⟩ = some a13 :=
  ⟨h.cell 8, h.cell 9, h.cell 10, h.cell 11, h.cell 12, h.cell 13⟩

set_option maxHeartbeats 1000000 in
theorem right_ret (m n r : Int) (it bye : ToldL) (xs : List ToldL) (v : Value) (B : Nat) (w : World) (hB : B ≤ w.heap.size) (hs : SlAt w B 5 v (xs.map toldC)) :
    Calls Tryz.prog 5 #[.agg (planC m n r it bye v)] w fun e w' => RetB (RightP m n r it bye xs) e ∧ Below w.heap.size w w' := by
  obtain ⟨a, cap, rfl, hx⟩ := hs
  rw [List.length_map]
  have HX := Lib.hid hx
  clear hx
  obtain ⟨k1, d1, v1, n1, s1⟩ := it
  obtain ⟨k2, d2, v2, n2, s2⟩ := bye
  unfold planC
  dsimp only
  have hbx := Lib.hid (BoxR.new w #[.int .i64 m, .int .i64 n, .int .i64 r, .int .i64 k1, .bool d1, .int .i64 v1, .int .i64 n1, .string s1, .int .i64 k2, .bool d2, .int .i64 v2, .int .i64 n2, .string s2, .slice a xs.length cap] 28)
  have hb0 := Lib.hid hbx.out.bel
  by_cases c1 : m < 0
  · go_enter Tryz.func5, Tryz.ntmps5
    go_wp2
    go_ret
    exact ⟨.no, hb0.out⟩
  by_cases c2 : 2 < m
  · go_enter Tryz.func5, Tryz.ntmps5
    go_wp2
    go_ret
    exact ⟨.no, hb0.out⟩
  by_cases c3 : n < 0
  · go_enter Tryz.func5, Tryz.ntmps5
    go_wp2
    go_ret
    exact ⟨.no, hb0.out⟩
  by_cases c4 : 2 < n
  · go_enter Tryz.func5, Tryz.ntmps5
    go_wp2
    go_ret
    exact ⟨.no, hb0.out⟩
  by_cases c5 : r < 0
  · go_enter Tryz.func5, Tryz.ntmps5
    go_wp2
    go_ret
    exact ⟨.no, hb0.out⟩
  by_cases c6 : 3 < r
  · go_enter Tryz.func5, Tryz.ntmps5
    go_wp2
    go_ret
    exact ⟨.no, hb0.out⟩
  by_cases c7 : (30 : Int) < (xs.length : Int)
  · go_enter Tryz.func5, Tryz.ntmps5
    go_wp2
    go_ret
    exact ⟨.no, hb0.out⟩
  go_enter Tryz.func5, Tryz.ntmps5
  go_wp2_with (first
    | (go_at_call 19; with_reducible refine (plain_ret k1 d1 v1 n1 s1 _).mono ?_; rintro e w1 ⟨hr, hb1⟩; obtain ⟨b1, rfl, hp1⟩ := hr.ex; clear hr; replace hbx := Lib.hid (hbx.out.step hb1); clear hb0; have hb0 := Lib.hid hbx.out.bel; clear hb1; obtain ⟨q8, q9, q10, q11, q12, q13⟩ := hbx.out.tail; cases b1)
    | (go_at_call 19; with_reducible refine (plain_ret k2 d2 v2 n2 s2 _).mono ?_; rintro e w2 ⟨hr, hb2⟩; obtain ⟨b2, rfl, hp2⟩ := hr.ex; clear hr; replace hbx := Lib.hid (hbx.out.step hb2); clear hb0; have hb0 := Lib.hid hbx.out.bel; clear hb2 q8 q9 q10 q11 q12 q13; cases b2)
    | fail)
  all_goals first
    | (go_ret; exact ⟨.no, hb0.out⟩)
    | skip
  have hp1' := Lib.hid (hp1 (by first | rfl | trivial))
  have hp2' := Lib.hid (hp2 (by first | rfl | trivial))
  clear hp1 hp2
  obtain ⟨_, _, _, _, _, q13⟩ := hbx.out.tail
  obtain ⟨w9, hw9⟩ : ∃ w9 : World, w9 = w2 := ⟨_, rfl⟩
  subst hw9
  go_loopw [3] (fun i W => ∃ k : Nat, k ≤ xs.length ∧ i = .int .i64 k ∧ Hid (BoxR w #[.int .i64 m, .int .i64 n, .int .i64 r, .int .i64 k1, .bool d1, .int .i64 v1, .int .i64 n1, .string s1, .int .i64 k2, .bool d2, .int .i64 v2, .int .i64 n2, .string s2, .slice a xs.length cap] W) ∧ Hid (∀ j (h : j < xs.length), j < k → PlainT xs[j])) (fun i _ => xs.length - (intOf i).toNat)
  case atStart => exact ⟨0, Nat.zero_le _, rfl, hbx, Lib.hid fun j _ h => absurd h (Nat.not_lt_zero _)⟩
  case round =>
    obtain ⟨k, hk, rfl, hbr, hpl⟩ := hrel
    clear hbx hb0 q13
    obtain ⟨_, _, _, _, _, q13⟩ := hbr.out.tail
    have hb0 := Lib.hid hbr.out.bel
    by_cases hlt : k < xs.length
    · obtain ⟨bk, o, ea, hbk, hcell⟩ := HX.out (by intro h; rw [List.map_eq_nil_iff] at h; subst h; exact absurd hlt (Nat.not_lt_zero _))
      subst ea
      obtain ⟨⟨kx, dx, vx, nx, sx⟩, ex⟩ : ∃ x, x = xs[k] := ⟨_, rfl⟩
      have hc : ∀ j y, (toldC ⟨kx, dx, vx, nx, sx⟩)[j]? = some y → wr.cell? ⟨bk, o + k * 5 + j, none⟩ = some y := fun j y hj => by
        rw [hbr.out.bel.cell (p := ⟨bk, o + k * 5 + j, none⟩) (Nat.lt_of_lt_of_le hbk hB)]
        exact hcell k _ (by rw [List.getElem?_map, List.getElem?_eq_getElem hlt, ← ex]; rfl) j y hj
      have e0 : wr.cell? ⟨bk, o + k * 5, none⟩ = some (.int .i64 kx) := hc 0 _ rfl
      have e1 : wr.cell? ⟨bk, o + k * 5 + 1, none⟩ = some (.bool dx) := hc 1 _ rfl
      have e2 : wr.cell? ⟨bk, o + k * 5 + 2, none⟩ = some (.int .i64 vx) := hc 2 _ rfl
      have e3 : wr.cell? ⟨bk, o + k * 5 + 3, none⟩ = some (.int .i64 nx) := hc 3 _ rfl
      have e4 : wr.cell? ⟨bk, o + k * 5 + 4, none⟩ = some (.string sx) := hc 4 _ rfl
      clear hc hcell
      have hk0 : (0 : Int) ≤ (k : Int) := Int.natCast_nonneg _
      have hk1 : decide ((k : Int) < 0) = false := by simp
      have hk2 : decide (xs.length ≤ k) = false := by simp; omega
      go_wp2_with (first
        | (go_at_call 19; with_reducible refine (plain_ret kx dx vx nx sx _).mono ?_; rintro e w3 ⟨hr, hb3⟩; obtain ⟨b3, rfl, hp3⟩ := hr.ex; clear hr; replace hbr := Lib.hid (hbr.out.step hb3); clear hb0 hb3 q13 e0 e1 e2 e3 e4; have hb0 := Lib.hid hbr.out.bel; cases b3)
        | fail)
      · go_ret
        exact ⟨.no, hb0.out⟩
      · go_roundw
        case rel =>
          refine ⟨k + 1, by omega, by go_num, hbr, Lib.hid fun j h hj => ?_⟩
          rcases Nat.lt_or_ge j k with h1 | h1
          · exact hpl.out j h h1
          · obtain rfl : j = k := by omega
            rw [← ex]
            exact hp3 (by first | rfl | trivial)
        case measure => simp [intOf]; omega
    · go_wp2
      go_ret
      refine ⟨.yes ⟨by omega, by omega, by omega, by omega, by omega, by omega, by omega, hp1'.out, hp2'.out, fun x hx => ?_⟩, hb0.out⟩
      obtain ⟨j, hj, rfl⟩ := List.getElem_of_mem hx
      exact hpl.out j hj (by omega)

end Go.Proofs.YtianjdlnljhgoaaGreatDoor
