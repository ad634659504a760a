/-
  IterateOthers: iterate.Keys.
-/
import Derived.Test.YtfiainenbpldgaaGreatDoorAeOtHide
import Derived.Test.YtfiainenbpldgaaGreatDoorAeOtItoa
namespace Go.Proofs.YtfiainenbpldgaaGreatDoor
open Go.RowKit
set_option maxRecDepth 100000
set_option linter.unusedVariables false
set_option linter.unusedSimpArgs false

/-- bytes as a string -/
def bs (l : List UInt8) : ByteArray := ⟨l.toArray⟩
theorem bs_size (l : List UInt8) : (bs l).size = l.length := by simp [bs, ByteArray.size]

def txt (i : Nat) : VL := ⟨5, 0, bs (Lib.itoa (i : Int))⟩
def txts (k : Nat) : List VL := (List.range k).map txt
theorem txts_succ (k : Nat) : txts (k + 1) = txts k ++ [txt k] := by simp [txts, List.range_succ]
theorem txts_len (k : Nat) : (txts k).length = k := by simp [txts]

/-- a new record's values -/
def xsOf (v : VL) (k : Nat) : List VL := [v, ⟨8, 0, ⟨#[]⟩⟩, ⟨3, 0, ⟨#[]⟩⟩, ⟨3, 0, ⟨#[]⟩⟩] ++ txts k
theorem xsOf_len (v : VL) (k : Nat) : (xsOf v k).length = 4 + k := by simp [xsOf, txts_len]; omega
theorem xsOf_succ (v : VL) (k : Nat) : xsOf v (k + 1) = xsOf v k ++ [txt k] := by unfold xsOf; rw [txts_succ, List.append_assoc]

theorem okTxt (i : Nat) (hi : i ≤ 1000) : OkV (txt i) := by
  have hz : (bs (Lib.itoa (i : Int))).size ≤ 21 := by rw [bs_size]; exact Lib.itoa_length_le _ (by omega) (by omega)
  refine ⟨.inl ⟨by show (0 : Int) ≤ 5; decide, by show (5 : Int) ≤ 6; decide⟩, ⟨by show -9223372036854775808 ≤ (0 : Int); decide, by show (0 : Int) ≤ 9223372036854775807; decide⟩, ?_⟩
  show AE.mayP 5 0 (bs (Lib.itoa (i : Int))).size = true
  unfold AE.mayP
  simp
  omega

theorem okHole : OkV ⟨8, 0, ⟨#[]⟩⟩ := by
  refine ⟨.inr rfl, ⟨by show -9223372036854775808 ≤ (0 : Int); decide, by show (0 : Int) ≤ 9223372036854775807; decide⟩, ?_⟩
  have e : (⟨#[]⟩ : ByteArray).size = 0 := rfl
  show AE.mayP 8 0 (⟨#[]⟩ : ByteArray).size = true
  rw [e]
  decide

theorem good_xs (v : VL) (hv : OkV v) (k : Nat) (hk : k ≤ 300) : Good (xsOf v k) := by
  refine ⟨fun x hx => ?_, by rw [xsOf_len]; omega, ⟨0, by decide, by decide, rfl⟩, ⟨0, by decide, by decide, rfl⟩⟩
  unfold xsOf at hx
  rcases List.mem_append.1 hx with hx | hx
  · simp at hx
    rcases hx with rfl | rfl | rfl
    · exact hv
    · exact okHole
    · exact okNum 0 (by decide) (by decide)
  · unfold txts at hx
    obtain ⟨i, hi, rfl⟩ := List.mem_map.1 hx
    exact okTxt i (by have := List.mem_range.1 hi; omega)

/-- the table that Itoa reads -/
def Tab (w : World) : Prop := Lib.TabIs Tryz.prog w "internal/strconv.uint64pow10" .u64 Lib.pow10Tab

theorem Tab.below {n : Nat} {w w' : World} (h : Tab w) (hb : Below n w w') (hn : 0 < n) : Tab w' := by
  have hn0 : Tryz.prog.globalNamed "internal/strconv.uint64pow10" = some 0 := by kernel_rfl
  unfold Tab Lib.TabIs World.var? at *
  rw [hn0] at *
  simp only [Option.bind_some] at *
  rw [hb.block 0 hn]
  exact h

theorem itoa_ret (i : Nat) (hi : i ≤ 1000) (w : World) (hG : Tab w) : Calls Tryz.prog 22 #[.int .i64 (i : Int)] w fun e w' => e = .returned (.string (bs (Lib.itoa (i : Int)))) ∧ Below w.heap.size w w' := by
  refine (strconv_Itoa (i : Int) (by omega) (by omega) w hG).mono fun e w' he => ?_
  obtain ⟨rfl, k, os, rfl⟩ := he
  exact ⟨rfl, Lib.below_grow _ w (Nat.le_refl _) k os⟩

set_option maxHeartbeats 1000000 in
theorem text_ret (s : ByteArray) (w : World) : Calls Tryz.prog 21 #[.string s] w fun e w' => e = .returned (.agg #[.int .i64 5, .int .i64 0, .string s]) ∧ Below w.heap.size w w' := by
  have hb0 := Lib.hid (new_below w (.cells #[.int .i64 5, .int .i64 0, .string s] 23))
  go_enter Tryz.func21, Tryz.ntmps21
  go_wp2
  refine bodyPost_ret (v := .agg #[.int .i64 5, .int .i64 0, .string s]) ?_ rfl ⟨rfl, ?_⟩
  · rw [results_cell_one rfl]
    go_simp
  · exact hb0.out

end Go.Proofs.YtfiainenbpldgaaGreatDoor
