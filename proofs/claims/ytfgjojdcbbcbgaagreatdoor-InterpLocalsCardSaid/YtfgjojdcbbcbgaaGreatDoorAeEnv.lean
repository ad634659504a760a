/-
  The tables of the evaluator for this seat; the package variable that the law's runs read.
-/
import Derived.Test.YtfgjojdcbbcbgaaGreatDoorRows
import Derived.Test.YtfgjojdcbbcbgaaGreatDoorAePrim
import Derived.Test.YtfgjojdcbbcbgaaGreatDoorAeCls
namespace Go.Proofs.YtfgjojdcbbcbgaaGreatDoor
open Go.AE
set_option maxRecDepth 100000

abbrev lo64 : Int := -9223372036854775808
abbrev hi64 : Int := 9223372036854775807

theorem env_noNum : noNum Tryz.prog.funcs.toList = true := by kernel_rfl
theorem env_eqs : eqsOk Tryz.prog [(7, [1, 1, 0, 1]), (8, [1, 1, 0, 1]), (37, [1, 1, 1, 1, 1, 1, 1]), (38, [1, 1, 1, 1, 1, 1, 1]), (44, [1, 1, 2]), (45, [1, 1, 2]), (46, [1, 1, 1, 1, 2]), (47, [1, 1, 1, 1, 2]), (58, [1, 1, 1]), (59, [1, 1, 1]), (93, [1, 1, 2]), (94, [1, 1, 1, 2, 1, 1]), (95, [1, 1, 1, 2, 1, 1]), (175, [1, 1, 2, 1, 1, 1, 2]), (176, [1, 1, 2, 1, 1, 1, 2]), (201, [1, 1, 2, 1, 1, 1, 2, 1, 1, 2, 1, 1, 2]), (202, [1, 1, 2, 1, 1, 1, 2, 1, 1, 2, 1, 1, 2]), (225, [1, 1, 1, 2, 2]), (226, [1, 1, 1, 2, 2]), (328, [1, 1, 1, 2, 1]), (329, [1, 1, 1, 2, 1]), (332, [1, 1, 1, 1, 2, 1, 1, 2, 1, 1, 2]), (333, [1, 1, 1, 1, 2, 1, 1, 2, 1, 1, 2]), (491, [1, 1]), (492, [1, 1])] = true := by kernel_rfl
theorem env_mixed : Tryz.prog.follows .mixedOrders = true := by kernel_rfl
theorem env_types : Nat.blt 0 Tryz.prog.types.size = true := by kernel_rfl

/-- with one variable that is read -/
noncomputable def env : Env := envOf Tryz.prog [(7, [1, 1, 0, 1]), (8, [1, 1, 0, 1]), (37, [1, 1, 1, 1, 1, 1, 1]), (38, [1, 1, 1, 1, 1, 1, 1]), (44, [1, 1, 2]), (45, [1, 1, 2]), (46, [1, 1, 1, 1, 2]), (47, [1, 1, 1, 1, 2]), (58, [1, 1, 1]), (59, [1, 1, 1]), (93, [1, 1, 2]), (94, [1, 1, 1, 2, 1, 1]), (95, [1, 1, 1, 2, 1, 1]), (175, [1, 1, 2, 1, 1, 1, 2]), (176, [1, 1, 2, 1, 1, 1, 2]), (201, [1, 1, 2, 1, 1, 1, 2, 1, 1, 2, 1, 1, 2]), (202, [1, 1, 2, 1, 1, 1, 2, 1, 1, 2, 1, 1, 2]), (225, [1, 1, 1, 2, 2]), (226, [1, 1, 1, 2, 2]), (328, [1, 1, 1, 2, 1]), (329, [1, 1, 1, 2, 1]), (332, [1, 1, 1, 1, 2, 1, 1, 2, 1, 1, 2]), (333, [1, 1, 1, 1, 2, 1, 1, 2, 1, 1, 2]), (491, [1, 1]), (492, [1, 1])] 1 []
theorem env_ok (Y : Sy) : EnvOk Y env := envOk_of env_noNum env_eqs env_mixed env_types (fun _ _ _ h => by cases h)

/-- internal/bytealg.MaxLen: some number -/
noncomputable def gMax : Nat × AObj := (0, .held (ofListV [.sint .i64 (.var 9) lo64 hi64]) 1 false)

/-- what the law finds in the variable -/
structure Vars (W : World) (m : Int) : Prop where
  max : W.cell? ⟨0, 0, none⟩ = some (.int .i64 m)
  lo : lo64 ≤ m
  hi : m ≤ hi64

theorem laidW_of {Y : Sy} {W : World} {m : Int} (h : Vars W m) (hY : Y.ints 9 = m) : LaidW Y env [gMax] W := by
  have hm := h.max
  unfold World.cell? at hm
  split at hm
  · rename_i arr t1 fr1 hb
    have h1 : 0 < W.heap.size := by
      rcases Nat.lt_or_ge 0 W.heap.size with h' | h'
      · exact h'
      · rw [Array.getElem?_eq_none h'] at hb; cases hb
    have ha : arr[0]? = some (.int .i64 m) := hm
    have hz : 0 < arr.size := by
      rcases Nat.lt_or_ge 0 arr.size with h' | h'
      · exact h'
      · rw [Array.getElem?_eq_none h'] at ha; cases ha
    refine ⟨h1, fun b o hbo => ?_⟩
    have h3 := List.mem_singleton.1 hbo
    unfold gMax at h3
    obtain ⟨rfl, rfl⟩ := Prod.mk.inj h3
    refine ⟨by show 0 < 1; omega, _, hb, _, t1, fr1, rfl, by show 0 + 1 ≤ arr.size; omega, fun hf => (by cases hf), fun i v hv => ?_⟩
    rw [get_ofListV] at hv
    match i, hv with
    | 0, hv =>
      cases hv
      refine ⟨by omega, rfl, .int .i64 m, ?_, ha⟩
      subst hY
      exact if_pos ⟨h.lo, h.hi⟩
  · cases hm

end Go.Proofs.YtfgjojdcbbcbgaaGreatDoor
