/-
  IterateOthers: values of the engine as rows; copies of a row of values.
-/
import Derived.Test.YtfiainenbpldgaaGreatDoorRows
import Derived.WalkKit
import Derived.WalkSpells
import Derived.WalkSmall
import Derived.RowKit
import Derived.Below
import Derived.LoopTactic
import Derived.IntWalk
import Derived.Lib.Hide
import Derived.Lib.Walk
import Derived.Lib.Builder
import Derived.Lib.Slices
import Derived.Lib.SliceRun
import Derived.Deep.AppendLies
import Derived.Deep.RegionHeld3
namespace Go.Proofs.YtfiainenbpldgaaGreatDoor
open Go.RowKit
set_option maxRecDepth 100000
set_option linter.unusedVariables false
set_option linter.unusedSimpArgs false

def inI (n : Int) : Prop := -9223372036854775808 ≤ n ∧ n ≤ 9223372036854775807

/-- a value of the engine -/
structure VL where
  k : Int
  n : Int
  s : ByteArray

def cV (x : VL) : List Value := [.int .i64 x.k, .int .i64 x.n, .string x.s]
def aV (x : VL) : Value := .agg #[.int .i64 x.k, .int .i64 x.n, .string x.s]

/-- the values xs lie from o on in block b -/
def Lie (w : World) (b o : Nat) (xs : List VL) : Prop := ∀ i x, xs[i]? = some x → ∀ j y, (cV x)[j]? = some y → w.cell? ⟨b, o + i * 3 + j, none⟩ = some y

theorem Lie.mono {w w' : World} {b o B : Nat} {xs : List VL} (h : Lie w b o xs) (hb : Below B w w') (hlt : b < B) : Lie w' b o xs := fun i x hi j y hj => by
  rw [hb.cell (p := ⟨b, o + i * 3 + j, none⟩) hlt]
  exact h i x hi j y hj

theorem flat_cV : ∀ (xs : List VL) (j : Nat) (u : Value), (xs.flatMap cV)[j]? = some u → ∃ i x k, xs[i]? = some x ∧ (cV x)[k]? = some u ∧ j = i * 3 + k := by
  intro xs
  induction xs with
  | nil => intro j u h; simp at h
  | cons a r ih =>
    intro j u h
    rw [List.flatMap_cons] at h
    by_cases hj : j < 3
    · rw [List.getElem?_append_left (by show j < 3; exact hj)] at h
      exact ⟨0, a, j, rfl, h, by omega⟩
    · rw [List.getElem?_append_right (by show 3 ≤ j; omega)] at h
      obtain ⟨i, x, k, h1, h2, h3⟩ := ih _ _ h
      have e : (cV a).length = 3 := rfl
      rw [e] at h3
      exact ⟨i + 1, x, k, by simpa using h1, h2, by omega⟩

theorem flat_at : ∀ (xs : List VL) (i : Nat) (x : VL) (k : Nat) (u : Value), xs[i]? = some x → (cV x)[k]? = some u → (xs.flatMap cV)[i * 3 + k]? = some u := by
  intro xs
  induction xs with
  | nil => intro i x k u h; simp at h
  | cons a r ih =>
    intro i x k u h h2
    rw [List.flatMap_cons]
    have e : (cV a).length = 3 := rfl
    cases i with
    | zero =>
      simp at h
      subst h
      have hk : k < 3 := (List.getElem?_eq_some_iff.1 h2).1
      rw [Nat.zero_mul, Nat.zero_add, List.getElem?_append_left (by rw [e]; exact hk)]
      exact h2
    | succ i =>
      rw [List.getElem?_append_right (by rw [e]; omega), e]
      have e2 : (i + 1) * 3 + k - 3 = i * 3 + k := by omega
      rw [e2]
      exact ih i x k u (by simpa using h) h2

theorem flat_len (xs : List VL) : (xs.flatMap cV).length = xs.length * 3 := by
  induction xs with
  | nil => rfl
  | cons a r ih => rw [List.flatMap_cons, List.length_append, ih, List.length_cons]; show 3 + _ = _; omega

theorem flat_one (xs : List VL) : ∀ u ∈ xs.flatMap cV, u.oneCell' = true := by
  intro u hu
  obtain ⟨x, _, h⟩ := List.mem_flatMap.1 hu
  unfold cV at h
  simp at h
  rcases h with rfl | rfl | rfl <;> rfl

/-- an owned row of values, as cells -/
theorem own_lie {w : World} {base n g cap : Nat} {e : TypeId} {xs : List VL} (h : w.ownsRow base e 3 (.slice (some ⟨g, 0, none⟩) n cap) n (xs.flatMap cV)) : Lie w g 0 xs := fun i x hi j y hj => by
  have := h.cells (g := g) rfl (i * 3 + j) y (flat_at xs i x j y hi hj)
  have e1 : (⟨g, 0, none⟩ : Addr).add (i * 3 + j) = ⟨g, 0 + i * 3 + j, none⟩ := by unfold Addr.add; split <;> simp_all
  rw [e1] at this
  exact this

/-- a row of values in a block that may be written -/
structure Own (w : World) (g : Nat) (xs : List VL) : Prop where
  lie : Lie w g 0 xs
  fz : ∀ j, w.frozen? ⟨g, j, none⟩ = false
  lt : g < w.heap.size

theorem Own.below {w w' : World} {g : Nat} {xs : List VL} (h : Own w g xs) (hb : Below w.heap.size w w') : Own w' g xs :=
  ⟨h.lie.mono hb h.lt, fun j => by rw [hb.frozen (p := ⟨g, j, none⟩) h.lt]; exact h.fz j, Nat.lt_of_lt_of_le h.lt hb.size⟩

theorem set_size (W : World) (a : Addr) (v : Value) : (W.setCell a v).heap.size = W.heap.size := by simp [World.setCell]
theorem set_other {w : World} {b k i : Nat} (v : Value) (h : k ≠ b) : (w.setCell ⟨b, i, none⟩ v).heap[k]? = w.heap[k]? := Below.heap_setCell _ _ _ _ h

theorem Lie.other {w w' : World} {g o : Nat} {xs : List VL} (h : Lie w g o xs) (he : w'.heap[g]? = w.heap[g]?) : Lie w' g o xs := fun i x hi j y hj => by
  rw [World.cell?_of_block (a := ⟨g, o + i * 3 + j, none⟩) he]
  exact h i x hi j y hj

theorem Own.set {w : World} {g b : Nat} {xs : List VL} (h : Own w g xs) (hne : g ≠ b) (i : Nat) (v : Value) : Own (w.setCell ⟨b, i, none⟩ v) g xs :=
  ⟨h.lie.other (set_other v hne), fun j => by rw [World.frozen?_setCell]; exact h.fz j, by rw [set_size]; exact h.lt⟩

theorem own_own {w : World} {base n g cap : Nat} {e : TypeId} {xs : List VL} (h : w.ownsRow base e 3 (.slice (some ⟨g, 0, none⟩) n cap) n (xs.flatMap cV)) (hn : 0 < n) : Own w g xs := by
  refine ⟨own_lie h, fun j => ?_, (h.lt g rfl).2⟩
  rcases h.2 with ⟨_, h0⟩ | ⟨g', cap', cur, hv, hb, hg, _⟩
  · omega
  · cases hv
    exact Lib.frozen_of_heap hg j

theorem valInfo : (Tryz.prog.info? 23).map (fun i => (i.zero, i.size, i.bytes)) = some (some (.agg #[.int .i64 0, .int .i64 0, .string ⟨#[]⟩]), 3, 32) := by kernel_rfl

set_option maxHeartbeats 1000000 in
/-- slices.Clone of nil -/
theorem clone_nil (w : World) : Calls Tryz.prog 106 #[.slice none 0 0] w fun e w' => e = .returned (.slice none 0 0) ∧ w' = w := by
  have q59 : ∀ (w : World) (a : Option Addr) (n c n' c' : Nat), (binOp .eql 59 (.slice a n c) (.slice none n' c')).run Tryz.prog w = .ok (.bool a.isNone) w := fun w a n c n' c' => Lib.run_eql_slice_nil w _ _ a n c n' c' Tryz.underlying59
  go_enter Tryz.func106, Tryz.ntmps106
  go_wp2
  go_ret
  exact ⟨rfl, rfl⟩

/-- a copy of a row of values -/
structure ClR (xs : List VL) (w : World) (e : Ending) (w' : World) : Prop where
  ex : ∃ g cap, e = .returned (.slice (some ⟨g, 0, none⟩) xs.length cap) ∧ w.heap.size ≤ g ∧ Own w' g xs
  bel : Below w.heap.size w w'

set_option maxHeartbeats 2000000 in
theorem clone_ret (b o c : Nat) (xs : List VL) (hx : 0 < xs.length) (hl : xs.length ≤ 100000) (w : World) (hb : b < w.heap.size) (hc : Lie w b o xs) :
    Calls Tryz.prog 106 #[.slice (some ⟨b, o, none⟩) xs.length c] w fun e w' => ClR xs w e w' := by
  have q59 : ∀ (w : World) (a : Option Addr) (n c n' c' : Nat), (binOp .eql 59 (.slice a n c) (.slice none n' c')).run Tryz.prog w = .ok (.bool a.isNone) w := fun w a n c n' c' => Lib.run_eql_slice_nil w _ _ a n c n' c' Tryz.underlying59
  obtain ⟨i0, hi, hz0, hz1, hz2⟩ := info_parts valInfo
  have A := Lib.hid hc
  clear hc
  go_enter Tryz.func106, Tryz.ntmps106
  go_wp2_with (at_builtin; refine wpList_append_lies _ rfl _ _ 59 rfl w.heap.size 23 i0 (.agg #[.int .i64 0, .int .i64 0, .string ⟨#[]⟩]) 3 32 Tryz.underlying59 hi hz0 hz1 hz2 rfl (by decide) _ _ _ rfl (World.ownsRow_made w #[] 0 (Nat.le_refl _) (Nat.zero_le _) rfl) ⟨b, o, none⟩ xs.length c (xs.flatMap cV) rfl (flat_len xs) ?qc2 (flat_one xs) hx ?qc4 ?qc5 ?qc6 _ rfl ?_)
  case qc2 =>
    intro j u hj
    obtain ⟨i, x, k, h1, h2, rfl⟩ := flat_cV xs j u hj
    rw [Addr.add_lit]
    refine Lib.cell?_alloc_some _ ?_
    rw [← Nat.add_assoc]
    exact A.out i x h1 k u h2
  case qc4 => unfold maxLen; omega
  case qc5 => omega
  case qc6 => simp
  intro g cap w1 hown hgrow hat hlt
  have hb1 : Below w.heap.size w w1 := ((Below.refl _ w).alloc (Nat.le_refl _) _).grown hgrow (by simp) (by intro k hk; simp [Value.ownBlock] at hk; omega)
  go_wp2
  go_ret
  refine ⟨⟨g, cap, by simp, ?_, own_own (by simpa using hown) hx⟩, hb1⟩
  rcases hat with h | h
  · simp [Value.ownBlock] at h; omega
  · first | omega | (simp at h; omega)

end Go.Proofs.YtfiainenbpldgaaGreatDoor
