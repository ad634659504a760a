/-
  The tables of the evaluator for this seat; the two package variables that the law's runs read.
-/
import Derived.Test.YthfaglmbicgfjaaGreatDoorRows
import Derived.Test.YthfaglmbicgfjaaGreatDoorAeTxStr
namespace Go.Proofs.YthfaglmbicgfjaaGreatDoor
open Go.AE
set_option maxRecDepth 100000

abbrev lo64 : Int := -9223372036854775808
abbrev hi64 : Int := 9223372036854775807
abbrev most : Nat := 9223372036854775807

theorem env_noNum : noNum Tryz.prog.funcs.toList = true := by kernel_rfl
theorem env_eqs : eqsOk Tryz.prog [(7, [1, 1, 0, 1]), (8, [1, 1, 0, 1]), (27, [1, 1, 1, 1, 1, 1, 1]), (28, [1, 1, 1, 1, 1, 1, 1]), (31, [1, 1, 2]), (32, [1, 1, 2]), (33, [1, 1, 1, 1, 2]), (34, [1, 1, 1, 1, 2]), (67, [1, 1, 1]), (68, [1, 1, 1]), (99, [1, 1, 2]), (111, [1, 1, 1, 2, 1, 1]), (112, [1, 1, 1, 2, 1, 1]), (145, [1, 1, 2, 1, 1, 1, 2, 1, 1, 2, 1, 1, 2]), (146, [1, 1, 2, 1, 1, 1, 2, 1, 1, 2, 1, 1, 2]), (164, [1, 1, 1, 2, 2]), (165, [1, 1, 1, 2, 2]), (167, [1, 1, 1, 1, 2, 1, 1, 2, 1, 1, 2]), (168, [1, 1, 1, 1, 2, 1, 1, 2, 1, 1, 2]), (262, [1, 1, 1, 2, 1]), (263, [1, 1, 1, 2, 1]), (396, [1, 1]), (397, [1, 1]), (455, [2, 1, 1])] = true := by kernel_rfl
theorem env_mixed : Tryz.prog.follows .mixedOrders = true := by kernel_rfl
theorem env_types : Nat.blt 0 Tryz.prog.types.size = true := by kernel_rfl

/-- with two variables that are read, with facts, and with what is known of single operations -/
noncomputable def env : Env := envOf Tryz.prog [(7, [1, 1, 0, 1]), (8, [1, 1, 0, 1]), (27, [1, 1, 1, 1, 1, 1, 1]), (28, [1, 1, 1, 1, 1, 1, 1]), (31, [1, 1, 2]), (32, [1, 1, 2]), (33, [1, 1, 1, 1, 2]), (34, [1, 1, 1, 1, 2]), (67, [1, 1, 1]), (68, [1, 1, 1]), (99, [1, 1, 2]), (111, [1, 1, 1, 2, 1, 1]), (112, [1, 1, 1, 2, 1, 1]), (145, [1, 1, 2, 1, 1, 1, 2, 1, 1, 2, 1, 1, 2]), (146, [1, 1, 2, 1, 1, 1, 2, 1, 1, 2, 1, 1, 2]), (164, [1, 1, 1, 2, 2]), (165, [1, 1, 1, 2, 2]), (167, [1, 1, 1, 1, 2, 1, 1, 2, 1, 1, 2]), (168, [1, 1, 1, 1, 2, 1, 1, 2, 1, 1, 2]), (262, [1, 1, 1, 2, 1]), (263, [1, 1, 1, 2, 1]), (396, [1, 1]), (397, [1, 1]), (455, [2, 1, 1])] 2 []
noncomputable def envG (fs : List (SX × Int × Int)) (os : List Orc) : Env := envO env fs os
theorem env_ok (Y : Sy) : EnvOk Y env := envOk_of env_noNum env_eqs env_mixed env_types (fun _ _ _ h => by cases h)
theorem envG_ok {Y : Sy} {fs : List (SX × Int × Int)} {os : List Orc} (h1 : ∀ e l h, (e, l, h) ∈ fs → l ≤ e.val Y ∧ e.val Y ≤ h) (h2 : ∀ q, q ∈ os → OrcOk Y q) : EnvOk Y (envG fs os) := envO_ok (env_ok Y) h1 h2

/-- array.hole: a value of kind 8 -/
noncomputable def gHole : Nat × AObj := (0, .held (ofListV [.i64 8, .i64 0, .str []]) 3 true)
/-- internal/bytealg.MaxLen: some number -/
noncomputable def gMax : Nat × AObj := (1, .held (ofListV [.sint .i64 (.var 9) lo64 hi64]) 1 false)
noncomputable def gTx : List (Nat × AObj) := [gHole, gMax]

/-- what the law finds in the variables -/
structure Vars (W : World) (m : Int) : Prop where
  hole : ∃ t fr, W.heap[0]? = some (.cells #[.int .i64 8, .int .i64 0, .string ByteArray.empty] t fr)
  max : W.cell? ⟨1, 0, none⟩ = some (.int .i64 m)
  lo : lo64 ≤ m
  hi : m ≤ hi64

theorem laidW_of {Y : Sy} {fs : List (SX × Int × Int)} {os : List Orc} {W : World} {m : Int} (h : Vars W m) (hY : Y.ints 9 = m) : LaidW Y (envG fs os) gTx W := by
  obtain ⟨t, fr, h0⟩ := h.hole
  have hm := h.max
  unfold World.cell? at hm
  split at hm
  · rename_i arr t1 fr1 hb
    have h1 : 1 < W.heap.size := by
      rcases Nat.lt_or_ge 1 W.heap.size with h' | h'
      · exact h'
      · rw [Array.getElem?_eq_none h'] at hb; cases hb
    have ha : arr[0]? = some (.int .i64 m) := hm
    have hz : 0 < arr.size := by
      rcases Nat.lt_or_ge 0 arr.size with h' | h'
      · exact h'
      · rw [Array.getElem?_eq_none h'] at ha; cases ha
    refine ⟨h1, fun b o hbo => ?_⟩
    rcases List.mem_cons.1 hbo with h2 | h2
    · cases h2
      refine ⟨by show 0 < 2; omega, _, h0, _, t, fr, rfl, by simp, fun _ => by simp, fun i v hv => ?_⟩
      rw [get_ofListV] at hv
      match i, hv with
      | 0, hv => cases hv; exact ⟨by omega, rfl, _, rfl, rfl⟩
      | 1, hv => cases hv; exact ⟨by omega, rfl, _, rfl, rfl⟩
      | 2, hv => cases hv; exact ⟨by omega, rfl, _, rfl, rfl⟩
    · have h3 := List.mem_singleton.1 h2
      unfold gMax at h3
      obtain ⟨rfl, rfl⟩ := Prod.mk.inj h3
      refine ⟨by show 1 < 2; omega, _, hb, _, t1, fr1, rfl, by show 0 + 1 ≤ arr.size; omega, fun hf => (by cases hf), fun i v hv => ?_⟩
      rw [get_ofListV] at hv
      match i, hv with
      | 0, hv =>
        cases hv
        refine ⟨by omega, rfl, .int .i64 m, ?_, ha⟩
        exact isI_sym (e := .var 9) hY h.lo h.hi _
  · cases hm

end Go.Proofs.YthfaglmbicgfjaaGreatDoor
