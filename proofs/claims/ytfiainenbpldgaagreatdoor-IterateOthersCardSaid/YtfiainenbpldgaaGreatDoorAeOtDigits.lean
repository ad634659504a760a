/-
  IterateOthers: the law's own digits.
-/
import Derived.Test.YtfiainenbpldgaaGreatDoorAeOtEvents
import Derived.BigQuiet
namespace Go.Proofs.YtfiainenbpldgaaGreatDoor
open Go.RowKit
set_option maxRecDepth 100000
set_option linter.unusedVariables false
set_option linter.unusedSimpArgs false

theorem itoa_ten (i : Nat) (h : ¬ i < 10) : Lib.itoa (i : Int) = Lib.itoa ((i / 10 : Nat) : Int) ++ [UInt8.ofNat (48 + i % 10)] := by
  unfold Lib.itoa
  rw [if_neg (by omega), if_neg (by omega)]
  simp only [Int.toNat_natCast]
  rw [Lib.decDigits, dif_neg h]

def tenS : ByteArray := ⟨#[48, 49, 50, 51, 52, 53, 54, 55, 56, 57]⟩

theorem ten_cut : ∀ d : Fin 10, tenS.extract d.1 (d.1 + 1) = bs [UInt8.ofNat (48 + d.1)] := by decide +kernel

theorem bs_app (a b : List UInt8) : bs a ++ bs b = bs (a ++ b) := by
  apply ByteArray.ext
  simp [bs]

set_option maxHeartbeats 1000000 in
theorem digits_small (i : Nat) (hi : i < 10) (w : World) : Calls Tryz.prog 11 #[.int .i64 (i : Int)] w fun e w' => e = .returned (.string (bs (Lib.itoa (i : Int)))) ∧ Below w.heap.size w w' := by
  have hw := Go.IntWalk.i64_in ((i : Int) + 1) ⟨by omega, by omega⟩
  have HE : Hid (tenS.extract i (i + 1) = bs (Lib.itoa (i : Int))) := Lib.hid (by
    have e := ten_cut ⟨i, hi⟩
    have e2 : Lib.itoa (i : Int) = [UInt8.ofNat (48 + i)] := by
      unfold Lib.itoa
      rw [if_neg (by omega), Int.toNat_natCast, Lib.decDigits_one hi]
    rw [e2]
    exact e)
  go_enter Tryz.func11, Tryz.ntmps11
  go_wp2_with fail
  go_ret
  refine ⟨?_, Below.refl _ _⟩
  exact congrArg (fun x => Ending.returned (Value.string x)) HE.out

set_option maxHeartbeats 1000000 in
theorem digits_ret (i : Nat) (hi : i < 1000) : ∀ (w : World), Calls Tryz.prog 11 #[.int .i64 (i : Int)] w fun e w' => e = .returned (.string (bs (Lib.itoa (i : Int)))) ∧ Below w.heap.size w w' := by
  induction i using Nat.strongRecOn with
  | _ i ih =>
  intro w
  by_cases h10 : i < 10
  · exact digits_small i h10 w
  · obtain ⟨q, hq⟩ : ∃ q : Nat, q = i / 10 := ⟨_, rfl⟩
    obtain ⟨d, hd⟩ : ∃ d : Nat, d = i % 10 := ⟨_, rfl⟩
    have HC := Lib.hid (ih q (by omega) (by omega))
    have HE : Hid (bs (Lib.itoa (q : Int)) ++ tenS.extract d (d + 1) = bs (Lib.itoa (i : Int))) := Lib.hid (by
      have e := ten_cut ⟨d, by omega⟩
      have e2 := itoa_ten i h10
      rw [e2, ← bs_app, ← hq, ← hd]
      congr 1)
    clear ih
    have hL : Hid ((bs (Lib.itoa (q : Int))).size ≤ 21) := Lib.hid (by rw [bs_size]; exact Lib.itoa_length_le _ (by omega) (by omega))
    generalize bs (Lib.itoa (q : Int)) = A at *
    have hl1 := hL.out
    have fq : (i : Int) / 10 = (q : Int) := by omega
    have fd : (i : Int) % 10 = (d : Int) := by omega
    have fq2 : (i : Int).tdiv 10 = (q : Int) := by rw [Int.tdiv_eq_ediv_of_nonneg (by omega)]; exact fq
    have fd2 : (i : Int).tmod 10 = (d : Int) := by rw [Int.tmod_eq_emod_of_nonneg (by omega)]; exact fd
    have hwq := Go.IntWalk.i64_in (q : Int) ⟨by omega, by omega⟩
    have hd10 : d < 10 := by omega
    have hw := Go.IntWalk.i64_in ((d : Int) + 1) ⟨by omega, by omega⟩
    have t0 : ¬ ((i : Int) < 10) := by omega
    clear hq hd
    go_enter Tryz.func11, Tryz.ntmps11
    go_wp2_with fail
    go_region_with (first
      | (go_at_call 11; refine (HC.out _).mono ?_; rintro e w2 ⟨rfl, hb2⟩; have HB2 := Lib.hid ((Below.refl w.heap.size w).drew.trans hb2); clear hb2))
    all_goals
      go_wp2_with fail
      go_ret
      refine ⟨?_, HB2.out⟩
      exact congrArg (fun x => Ending.returned (Value.string x)) HE.out

end Go.Proofs.YtfiainenbpldgaaGreatDoor
