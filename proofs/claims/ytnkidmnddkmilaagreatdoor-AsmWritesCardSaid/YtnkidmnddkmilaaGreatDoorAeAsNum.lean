/-
  The reference's decimal forms are strconv's.
-/
import Derived.Test.YtnkidmnddkmilaaGreatDoorAeAsBase
import Derived.Laws.BytesString
import Derived.Laws.BytesArg
namespace Go.Proofs.YtnkidmnddkmilaaGreatDoor
open Go.RowKit
set_option maxRecDepth 100000

theorem dec_more {u : Nat} (h : 10 ≤ u) : Lib.decDigits u = Lib.decDigits (u / 10) ++ [UInt8.ofNat (48 + u % 10)] := by
  rw [Lib.decDigits, dif_neg (by omega)]
theorem dec_last {u : Nat} (h : u < 10) : Lib.decDigits u = [UInt8.ofNat (48 + u)] := by
  rw [Lib.decDigits, dif_pos h]

theorem nd_le (u : Nat) (hu : u < 18446744073709551616) : Lib.nDigits u ≤ 20 := Lib.nDigits_le20 u hu

/-- a slice of one byte as a string -/
theorem conv_one (W : World) (x : Int) : (convert 47 9 (.slice (some ⟨W.heap.size, 0, none⟩) 1 1)).run Tryz.prog (W.alloc (Obj.cells #[.int .u8 x] 5)) = .ok (.string ⟨#[UInt8.ofNat x.toNat]⟩) (W.alloc (Obj.cells #[.int .u8 x] 5)) := by
  rw [run_convert_bytes_arg (W.alloc (Obj.cells #[.int .u8 x] 5)) 47 5 Tryz.underlying47 Tryz.underlying5 W.heap.size 0 1 1 [x] rfl ?_ 9 Tryz.underlying9]
  · congr 2
  · intro i hi
    obtain rfl : i = 0 := by omega
    rw [Lib.cell_of_heap (heap_alloc_new W _)]
    rfl

set_option maxHeartbeats 1000000 in
theorem plain_ret (u : Nat) (hu : u < 18446744073709551616) (w : World) : Calls Tryz.prog 99 #[.int .u64 u] w fun e w' => e = .returned (.string (bs (Lib.decDigits u))) ∧ Below w.heap.size w w' := by
  go_enter Tryz.func99, Tryz.ntmps99
  go_wp2
  go_loopw [0, 3] (fun a s W => ∃ (m : Nat) (l : List UInt8), m < 18446744073709551616 ∧ a = .int .u64 m ∧ s = .string (bs l) ∧ l.length + Lib.nDigits m ≤ 100 ∧ Hid (Lib.decDigits u = Lib.decDigits m ++ l) ∧ Below w.heap.size w W) (fun a _ _ => (intOf a).toNat)
  case atStart => exact ⟨u, [], hu, rfl, rfl, by have := nd_le u hu; simp; omega, Lib.hid (by simp), Below.refl _ _⟩
  case round =>
    obtain ⟨m, l, hm, rfl, rfl, hl, hd, hb⟩ := hrel
    have hl' := bs_size l
    have hl2 : (bs l).size ≤ 100 := by omega
    clear hl'
    by_cases h : 10 ≤ m
    · go_wp2
      rw [conv_one]
      simp only [Result.andThen]
      rw [Oper.upon_value]
      go_wp2
      go_roundw
      case rel => exact ⟨m / 10, UInt8.ofNat (48 + m % 10) :: l, by omega, by go_num, congrArg Value.string (by rw [UInt8.ofNat_add]; exact bs_append [_] l), by rw [Lib.nDigits, dif_neg (by omega)] at hl; simp; omega, Lib.hid (by rw [hd.out, dec_more h]; simp), (hb.alloc hb.size _)⟩
      case measure => simp [intOf]; omega
    · go_wp2
      rw [conv_one]
      simp only [Result.andThen]
      rw [Oper.upon_value]
      go_wp2
      go_ret
      refine ⟨ret_str ?_, hb.alloc hb.size _⟩
      rw [hd.out, dec_last (by omega), UInt8.ofNat_add]
      exact bs_append [_] l

theorem dec_size (u : Nat) (hu : u < 18446744073709551616) : (bs (Lib.decDigits u)).size ≤ 20 := by
  rw [bs_size, Lib.decDigits_length]
  exact nd_le u hu

theorem plain_int (x : Int) (u : Nat) (hx : x = u) (hu : u < 18446744073709551616) (w : World) : Calls Tryz.prog 99 #[.int .u64 x] w fun e w' => e = .returned (.string (bs (Lib.decDigits u))) ∧ Below w.heap.size w w' := by
  subst hx
  exact plain_ret u hu w

set_option maxHeartbeats 1000000 in
theorem digits_ret (n : Int) (hn : inI n) (w : World) : Calls Tryz.prog 82 #[.int .i64 n] w fun e w' => e = .returned (.string (bs (Lib.itoa n))) ∧ (bs (Lib.itoa n)).size ≤ 21 ∧ Below w.heap.size w w' := by
  have hs := itoa_size n hn
  obtain ⟨h0, h1⟩ := hn
  by_cases h : n < 0
  · have hd := dec_size n.natAbs (by omega)
    go_enter Tryz.func82, Tryz.ntmps82
    go_wp2_with ((with_reducible refine (plain_int _ n.natAbs (by omega) (by omega) _).mono ?_); rintro e w1 ⟨rfl, hbel⟩)
    go_ret
    refine ⟨ret_str ?_, hs, hbel⟩
    rw [Lib.itoa, if_pos h]
    exact bs_append [45] _
  · go_enter Tryz.func82, Tryz.ntmps82
    go_wp2_with ((with_reducible refine (plain_int _ n.toNat (by omega) (by omega) _).mono ?_); rintro e w1 ⟨rfl, hbel⟩)
    go_ret
    refine ⟨ret_str ?_, hs, hbel⟩
    rw [Lib.itoa, if_neg (by omega)]

end Go.Proofs.YtnkidmnddkmilaaGreatDoor
