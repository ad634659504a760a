/-
  IterateAll: what is known of the rounds, told of any slice of steps.
-/
import Derived.Test.YtianjdlnljhgoaaGreatDoorAeItN0
import Derived.Test.YtianjdlnljhgoaaGreatDoorAeItN1
import Derived.Test.YtianjdlnljhgoaaGreatDoorAeItN2
import Derived.Test.YtianjdlnljhgoaaGreatDoorAeItN3
import Derived.Test.YtianjdlnljhgoaaGreatDoorAeItN4
import Derived.Test.YtianjdlnljhgoaaGreatDoorAeItN5
import Derived.Test.YtianjdlnljhgoaaGreatDoorAeItN6
import Derived.Test.YtianjdlnljhgoaaGreatDoorAeItN7
import Derived.Test.YtianjdlnljhgoaaGreatDoorAeItN8
import Derived.Test.YtianjdlnljhgoaaGreatDoorAeItN9
import Derived.Test.YtianjdlnljhgoaaGreatDoorAeItN10
import Derived.Test.YtianjdlnljhgoaaGreatDoorAeItN11
import Derived.Test.YtianjdlnljhgoaaGreatDoorAeItSet
namespace Go.Proofs.YtianjdlnljhgoaaGreatDoor
open Go.AE
set_option maxRecDepth 100000
section
variable {Y : Sy} {U' : AV} {R' : AObj}

theorem conc_host {E : Env} {ρ : Rho} {h : H} {w : World} {U : AV} {x y : List AV} {gs : Nat} (hg : h.get 603 = some (rowObj (x ++ U :: y) gs)) (hr : Rel Y E ρ h w) : ∃ cv, conc Y ρ U = some cv := by
  obtain ⟨L, ob, _, _, ho⟩ := hr.obj 603 _ hg (by rw [rowObj_eq]; rfl)
  rw [rowObj_eq] at ho
  obtain ⟨arr, elem, _, _, _, h3⟩ := ho
  obtain ⟨_, _, cv, h4, _⟩ := h3 x.length U (by rw [get_ofListV]; simp)
  exact ⟨cv, h4⟩

theorem next_resl {U : AV} {q q' : Sum} {x y : List AV} {gs : Nat} (hq : SumOk Y env q) (h2 : Same2 Y U U') (hs : Reslice U U' q q') (ha : q'.args = q.args) (hg : q'.before.get 603 = some (rowObj (x ++ U' :: y) gs)) : SumOk Y env q' :=
  hq.resl h2 hs (fun ρ cargs h => by rw [← ha]; exact h) (fun ρ w cargs hr _ => conc_host hg hr)

def hx (r : Nat) : List AV := [.i64 0, .i64 0, .i64 (.ofNat r), .i64 0, .opq (.isIn (.var 1) [1]), .i64 3, .sint .i64 (.var 2) (-9007199254740992) 9007199254740992, .str [], .sint .i64 (.var 4) (-9223372036854775808) 9223372036854775807, .opq (.isIn (.var 5) [1]), .i64 3, .sint .i64 (.var 6) (-9007199254740992) 9007199254740992, .str []]

theorem nx0_0 (h2 : Same2 Y (us 1) U') (hm : MoreHeld (rw 1) R') : SumOk Y env (nxt0 0 U' R') := next_resl (x := hx 0) (y := [.i64 20, .i64 0]) (gs := 0) next0_0 h2 (resl_N0 hm (by kernel_rfl)) rfl (by kernel_rfl)
theorem nx0_1 (h2 : Same2 Y (us 2) U') (hm : MoreHeld (rw 2) R') : SumOk Y env (nxt0 1 U' R') := next_resl (x := hx 0) (y := [.i64 20, .i64 1]) (gs := 0) next0_1 h2 (resl_N1 hm (by kernel_rfl)) rfl (by kernel_rfl)
theorem nx0_2 (h2 : Same2 Y (us 3) U') (hm : MoreHeld (rw 3) R') : SumOk Y env (nxt0 2 U' R') := next_resl (x := hx 0) (y := [.i64 20, .i64 2]) (gs := 0) next0_2 h2 (resl_N2 _ _ _ _ _ _ _ _ _ _ _ _ _ _ _ _ _ _ _ _ _ _ _ _ _ _ _ _ _ _ _ _ _ _ _ _ _ _ _ _ _ _ _ _ _ _ _ _ _ _ _ _ _ _ _ _ _ _ _ _ _ _ _ _ _ _ _ _ _ _ _ _ _ _ _ hm (by kernel_rfl)) rfl (by kernel_rfl)
theorem nx0_3 (h2 : Same2 Y (us 4) U') (hm : MoreHeld (rw 4) R') : SumOk Y env (nxt0 3 U' R') := next_resl (x := hx 0) (y := [.i64 20, .i64 3]) (gs := 0) next0_3 h2 (resl_N2 _ _ _ _ _ _ _ _ _ _ _ _ _ _ _ _ _ _ _ _ _ _ _ _ _ _ _ _ _ _ _ _ _ _ _ _ _ _ _ _ _ _ _ _ _ _ _ _ _ _ _ _ _ _ _ _ _ _ _ _ _ _ _ _ _ _ _ _ _ _ _ _ _ _ _ hm (by kernel_rfl)) rfl (by kernel_rfl)
theorem nx0_4 (h2 : Same2 Y (us 5) U') (hm : MoreHeld (rw 5) R') : SumOk Y env (nxt0 4 U' R') := next_resl (x := hx 0) (y := [.i64 20, .i64 4]) (gs := 0) next0_4 h2 (resl_N2 _ _ _ _ _ _ _ _ _ _ _ _ _ _ _ _ _ _ _ _ _ _ _ _ _ _ _ _ _ _ _ _ _ _ _ _ _ _ _ _ _ _ _ _ _ _ _ _ _ _ _ _ _ _ _ _ _ _ _ _ _ _ _ _ _ _ _ _ _ _ _ _ _ _ _ hm (by kernel_rfl)) rfl (by kernel_rfl)
theorem nx0_5 (h2 : Same2 Y (us 6) U') (hm : MoreHeld (rw 6) R') : SumOk Y env (nxt0 5 U' R') := next_resl (x := hx 0) (y := [.i64 20, .i64 5]) (gs := 0) next0_5 h2 (resl_N2 _ _ _ _ _ _ _ _ _ _ _ _ _ _ _ _ _ _ _ _ _ _ _ _ _ _ _ _ _ _ _ _ _ _ _ _ _ _ _ _ _ _ _ _ _ _ _ _ _ _ _ _ _ _ _ _ _ _ _ _ _ _ _ _ _ _ _ _ _ _ _ _ _ _ _ hm (by kernel_rfl)) rfl (by kernel_rfl)
theorem nx0_6 (h2 : Same2 Y (us 7) U') (hm : MoreHeld (rw 7) R') : SumOk Y env (nxt0 6 U' R') := next_resl (x := hx 0) (y := [.i64 20, .i64 6]) (gs := 0) next0_6 h2 (resl_N2 _ _ _ _ _ _ _ _ _ _ _ _ _ _ _ _ _ _ _ _ _ _ _ _ _ _ _ _ _ _ _ _ _ _ _ _ _ _ _ _ _ _ _ _ _ _ _ _ _ _ _ _ _ _ _ _ _ _ _ _ _ _ _ _ _ _ _ _ _ _ _ _ _ _ _ hm (by kernel_rfl)) rfl (by kernel_rfl)
theorem nx0_7 (h2 : Same2 Y (us 8) U') (hm : MoreHeld (rw 8) R') : SumOk Y env (nxt0 7 U' R') := next_resl (x := hx 0) (y := [.i64 20, .i64 7]) (gs := 0) next0_7 h2 (resl_N2 _ _ _ _ _ _ _ _ _ _ _ _ _ _ _ _ _ _ _ _ _ _ _ _ _ _ _ _ _ _ _ _ _ _ _ _ _ _ _ _ _ _ _ _ _ _ _ _ _ _ _ _ _ _ _ _ _ _ _ _ _ _ _ _ _ _ _ _ _ _ _ _ _ _ _ hm (by kernel_rfl)) rfl (by kernel_rfl)
theorem nx0_8 (h2 : Same2 Y (us 9) U') (hm : MoreHeld (rw 9) R') : SumOk Y env (nxt0 8 U' R') := next_resl (x := hx 0) (y := [.i64 20, .i64 8]) (gs := 0) next0_8 h2 (resl_N2 _ _ _ _ _ _ _ _ _ _ _ _ _ _ _ _ _ _ _ _ _ _ _ _ _ _ _ _ _ _ _ _ _ _ _ _ _ _ _ _ _ _ _ _ _ _ _ _ _ _ _ _ _ _ _ _ _ _ _ _ _ _ _ _ _ _ _ _ _ _ _ _ _ _ _ hm (by kernel_rfl)) rfl (by kernel_rfl)
theorem nx0_9 (h2 : Same2 Y (us 10) U') (hm : MoreHeld (rw 10) R') : SumOk Y env (nxt0 9 U' R') := next_resl (x := hx 0) (y := [.i64 20, .i64 9]) (gs := 0) next0_9 h2 (resl_N2 _ _ _ _ _ _ _ _ _ _ _ _ _ _ _ _ _ _ _ _ _ _ _ _ _ _ _ _ _ _ _ _ _ _ _ _ _ _ _ _ _ _ _ _ _ _ _ _ _ _ _ _ _ _ _ _ _ _ _ _ _ _ _ _ _ _ _ _ _ _ _ _ _ _ _ hm (by kernel_rfl)) rfl (by kernel_rfl)
theorem nx0_10 (h2 : Same2 Y (us 11) U') (hm : MoreHeld (rw 11) R') : SumOk Y env (nxt0 10 U' R') := next_resl (x := hx 0) (y := [.i64 20, .i64 10]) (gs := 0) next0_10 h2 (resl_N2 _ _ _ _ _ _ _ _ _ _ _ _ _ _ _ _ _ _ _ _ _ _ _ _ _ _ _ _ _ _ _ _ _ _ _ _ _ _ _ _ _ _ _ _ _ _ _ _ _ _ _ _ _ _ _ _ _ _ _ _ _ _ _ _ _ _ _ _ _ _ _ _ _ _ _ hm (by kernel_rfl)) rfl (by kernel_rfl)
theorem nx0_11 (h2 : Same2 Y (us 12) U') (hm : MoreHeld (rw 12) R') : SumOk Y env (nxt0 11 U' R') := next_resl (x := hx 0) (y := [.i64 20, .i64 11]) (gs := 0) next0_11 h2 (resl_N2 _ _ _ _ _ _ _ _ _ _ _ _ _ _ _ _ _ _ _ _ _ _ _ _ _ _ _ _ _ _ _ _ _ _ _ _ _ _ _ _ _ _ _ _ _ _ _ _ _ _ _ _ _ _ _ _ _ _ _ _ _ _ _ _ _ _ _ _ _ _ _ _ _ _ _ hm (by kernel_rfl)) rfl (by kernel_rfl)
theorem nx0_12 (h2 : Same2 Y (us 13) U') (hm : MoreHeld (rw 13) R') : SumOk Y env (nxt0 12 U' R') := next_resl (x := hx 0) (y := [.i64 20, .i64 12]) (gs := 0) next0_12 h2 (resl_N2 _ _ _ _ _ _ _ _ _ _ _ _ _ _ _ _ _ _ _ _ _ _ _ _ _ _ _ _ _ _ _ _ _ _ _ _ _ _ _ _ _ _ _ _ _ _ _ _ _ _ _ _ _ _ _ _ _ _ _ _ _ _ _ _ _ _ _ _ _ _ _ _ _ _ _ hm (by kernel_rfl)) rfl (by kernel_rfl)
theorem nx0_13 (h2 : Same2 Y (us 14) U') (hm : MoreHeld (rw 14) R') : SumOk Y env (nxt0 13 U' R') := next_resl (x := hx 0) (y := [.i64 20, .i64 13]) (gs := 0) next0_13 h2 (resl_N2 _ _ _ _ _ _ _ _ _ _ _ _ _ _ _ _ _ _ _ _ _ _ _ _ _ _ _ _ _ _ _ _ _ _ _ _ _ _ _ _ _ _ _ _ _ _ _ _ _ _ _ _ _ _ _ _ _ _ _ _ _ _ _ _ _ _ _ _ _ _ _ _ _ _ _ hm (by kernel_rfl)) rfl (by kernel_rfl)
theorem nx0_14 (h2 : Same2 Y (us 15) U') (hm : MoreHeld (rw 15) R') : SumOk Y env (nxt0 14 U' R') := next_resl (x := hx 0) (y := [.i64 20, .i64 14]) (gs := 0) next0_14 h2 (resl_N2 _ _ _ _ _ _ _ _ _ _ _ _ _ _ _ _ _ _ _ _ _ _ _ _ _ _ _ _ _ _ _ _ _ _ _ _ _ _ _ _ _ _ _ _ _ _ _ _ _ _ _ _ _ _ _ _ _ _ _ _ _ _ _ _ _ _ _ _ _ _ _ _ _ _ _ hm (by kernel_rfl)) rfl (by kernel_rfl)
theorem nx0_15 (h2 : Same2 Y (us 16) U') (hm : MoreHeld (rw 16) R') : SumOk Y env (nxt0 15 U' R') := next_resl (x := hx 0) (y := [.i64 20, .i64 15]) (gs := 0) next0_15 h2 (resl_N2 _ _ _ _ _ _ _ _ _ _ _ _ _ _ _ _ _ _ _ _ _ _ _ _ _ _ _ _ _ _ _ _ _ _ _ _ _ _ _ _ _ _ _ _ _ _ _ _ _ _ _ _ _ _ _ _ _ _ _ _ _ _ _ _ _ _ _ _ _ _ _ _ _ _ _ hm (by kernel_rfl)) rfl (by kernel_rfl)
theorem nx0_16 (h2 : Same2 Y (us 17) U') (hm : MoreHeld (rw 17) R') : SumOk Y env (nxt0 16 U' R') := next_resl (x := hx 0) (y := [.i64 20, .i64 16]) (gs := 0) next0_16 h2 (resl_N2 _ _ _ _ _ _ _ _ _ _ _ _ _ _ _ _ _ _ _ _ _ _ _ _ _ _ _ _ _ _ _ _ _ _ _ _ _ _ _ _ _ _ _ _ _ _ _ _ _ _ _ _ _ _ _ _ _ _ _ _ _ _ _ _ _ _ _ _ _ _ _ _ _ _ _ hm (by kernel_rfl)) rfl (by kernel_rfl)
theorem nx0_17 (h2 : Same2 Y (us 18) U') (hm : MoreHeld (rw 18) R') : SumOk Y env (nxt0 17 U' R') := next_resl (x := hx 0) (y := [.i64 20, .i64 17]) (gs := 0) next0_17 h2 (resl_N2 _ _ _ _ _ _ _ _ _ _ _ _ _ _ _ _ _ _ _ _ _ _ _ _ _ _ _ _ _ _ _ _ _ _ _ _ _ _ _ _ _ _ _ _ _ _ _ _ _ _ _ _ _ _ _ _ _ _ _ _ _ _ _ _ _ _ _ _ _ _ _ _ _ _ _ hm (by kernel_rfl)) rfl (by kernel_rfl)
theorem nx0_18 (h2 : Same2 Y (us 19) U') (hm : MoreHeld (rw 19) R') : SumOk Y env (nxt0 18 U' R') := next_resl (x := hx 0) (y := [.i64 20, .i64 18]) (gs := 0) next0_18 h2 (resl_N2 _ _ _ _ _ _ _ _ _ _ _ _ _ _ _ _ _ _ _ _ _ _ _ _ _ _ _ _ _ _ _ _ _ _ _ _ _ _ _ _ _ _ _ _ _ _ _ _ _ _ _ _ _ _ _ _ _ _ _ _ _ _ _ _ _ _ _ _ _ _ _ _ _ _ _ hm (by kernel_rfl)) rfl (by kernel_rfl)
theorem nx0_19 (h2 : Same2 Y (us 20) U') (hm : MoreHeld (rw 20) R') : SumOk Y env (nxt0 19 U' R') := next_resl (x := hx 0) (y := [.i64 20, .i64 19]) (gs := 0) next0_19 h2 (resl_N2 _ _ _ _ _ _ _ _ _ _ _ _ _ _ _ _ _ _ _ _ _ _ _ _ _ _ _ _ _ _ _ _ _ _ _ _ _ _ _ _ _ _ _ _ _ _ _ _ _ _ _ _ _ _ _ _ _ _ _ _ _ _ _ _ _ _ _ _ _ _ _ _ _ _ _ hm (by kernel_rfl)) rfl (by kernel_rfl)
theorem nx0_20 (h2 : Same2 Y (us 21) U') (hm : MoreHeld (rw 21) R') : SumOk Y env (nxt0 20 U' R') := next_resl (x := hx 0) (y := [.i64 20, .i64 20]) (gs := 0) next0_20 h2 (resl_N2 _ _ _ _ _ _ _ _ _ _ _ _ _ _ _ _ _ _ _ _ _ _ _ _ _ _ _ _ _ _ _ _ _ _ _ _ _ _ _ _ _ _ _ _ _ _ _ _ _ _ _ _ _ _ _ _ _ _ _ _ _ _ _ _ _ _ _ _ _ _ _ _ _ _ _ hm (by kernel_rfl)) rfl (by kernel_rfl)
theorem nx0_21 (h2 : Same2 Y (us 22) U') (hm : MoreHeld (rw 22) R') : SumOk Y env (nxt0 21 U' R') := next_resl (x := hx 0) (y := [.i64 20, .i64 21]) (gs := 0) next0_21 h2 (resl_N2 _ _ _ _ _ _ _ _ _ _ _ _ _ _ _ _ _ _ _ _ _ _ _ _ _ _ _ _ _ _ _ _ _ _ _ _ _ _ _ _ _ _ _ _ _ _ _ _ _ _ _ _ _ _ _ _ _ _ _ _ _ _ _ _ _ _ _ _ _ _ _ _ _ _ _ hm (by kernel_rfl)) rfl (by kernel_rfl)
theorem nx0_22 (h2 : Same2 Y (us 23) U') (hm : MoreHeld (rw 23) R') : SumOk Y env (nxt0 22 U' R') := next_resl (x := hx 0) (y := [.i64 20, .i64 22]) (gs := 0) next0_22 h2 (resl_N2 _ _ _ _ _ _ _ _ _ _ _ _ _ _ _ _ _ _ _ _ _ _ _ _ _ _ _ _ _ _ _ _ _ _ _ _ _ _ _ _ _ _ _ _ _ _ _ _ _ _ _ _ _ _ _ _ _ _ _ _ _ _ _ _ _ _ _ _ _ _ _ _ _ _ _ hm (by kernel_rfl)) rfl (by kernel_rfl)
theorem nx0_23 (h2 : Same2 Y (us 24) U') (hm : MoreHeld (rw 24) R') : SumOk Y env (nxt0 23 U' R') := next_resl (x := hx 0) (y := [.i64 20, .i64 23]) (gs := 0) next0_23 h2 (resl_N2 _ _ _ _ _ _ _ _ _ _ _ _ _ _ _ _ _ _ _ _ _ _ _ _ _ _ _ _ _ _ _ _ _ _ _ _ _ _ _ _ _ _ _ _ _ _ _ _ _ _ _ _ _ _ _ _ _ _ _ _ _ _ _ _ _ _ _ _ _ _ _ _ _ _ _ hm (by kernel_rfl)) rfl (by kernel_rfl)
theorem nx0_24 (h2 : Same2 Y (us 25) U') (hm : MoreHeld (rw 25) R') : SumOk Y env (nxt0 24 U' R') := next_resl (x := hx 0) (y := [.i64 20, .i64 24]) (gs := 0) next0_24 h2 (resl_N2 _ _ _ _ _ _ _ _ _ _ _ _ _ _ _ _ _ _ _ _ _ _ _ _ _ _ _ _ _ _ _ _ _ _ _ _ _ _ _ _ _ _ _ _ _ _ _ _ _ _ _ _ _ _ _ _ _ _ _ _ _ _ _ _ _ _ _ _ _ _ _ _ _ _ _ hm (by kernel_rfl)) rfl (by kernel_rfl)
theorem nx0_25 (h2 : Same2 Y (us 26) U') (hm : MoreHeld (rw 26) R') : SumOk Y env (nxt0 25 U' R') := next_resl (x := hx 0) (y := [.i64 20, .i64 25]) (gs := 0) next0_25 h2 (resl_N2 _ _ _ _ _ _ _ _ _ _ _ _ _ _ _ _ _ _ _ _ _ _ _ _ _ _ _ _ _ _ _ _ _ _ _ _ _ _ _ _ _ _ _ _ _ _ _ _ _ _ _ _ _ _ _ _ _ _ _ _ _ _ _ _ _ _ _ _ _ _ _ _ _ _ _ hm (by kernel_rfl)) rfl (by kernel_rfl)
theorem nx0_26 (h2 : Same2 Y (us 27) U') (hm : MoreHeld (rw 27) R') : SumOk Y env (nxt0 26 U' R') := next_resl (x := hx 0) (y := [.i64 20, .i64 26]) (gs := 0) next0_26 h2 (resl_N2 _ _ _ _ _ _ _ _ _ _ _ _ _ _ _ _ _ _ _ _ _ _ _ _ _ _ _ _ _ _ _ _ _ _ _ _ _ _ _ _ _ _ _ _ _ _ _ _ _ _ _ _ _ _ _ _ _ _ _ _ _ _ _ _ _ _ _ _ _ _ _ _ _ _ _ hm (by kernel_rfl)) rfl (by kernel_rfl)
theorem nx0_27 (h2 : Same2 Y (us 28) U') (hm : MoreHeld (rw 28) R') : SumOk Y env (nxt0 27 U' R') := next_resl (x := hx 0) (y := [.i64 20, .i64 27]) (gs := 0) next0_27 h2 (resl_N2 _ _ _ _ _ _ _ _ _ _ _ _ _ _ _ _ _ _ _ _ _ _ _ _ _ _ _ _ _ _ _ _ _ _ _ _ _ _ _ _ _ _ _ _ _ _ _ _ _ _ _ _ _ _ _ _ _ _ _ _ _ _ _ _ _ _ _ _ _ _ _ _ _ _ _ hm (by kernel_rfl)) rfl (by kernel_rfl)
theorem nx0_28 (h2 : Same2 Y (us 29) U') (hm : MoreHeld (rw 29) R') : SumOk Y env (nxt0 28 U' R') := next_resl (x := hx 0) (y := [.i64 20, .i64 28]) (gs := 0) next0_28 h2 (resl_N2 _ _ _ _ _ _ _ _ _ _ _ _ _ _ _ _ _ _ _ _ _ _ _ _ _ _ _ _ _ _ _ _ _ _ _ _ _ _ _ _ _ _ _ _ _ _ _ _ _ _ _ _ _ _ _ _ _ _ _ _ _ _ _ _ _ _ _ _ _ _ _ _ _ _ _ hm (by kernel_rfl)) rfl (by kernel_rfl)
theorem nx0_29 (h2 : Same2 Y (us 30) U') (hm : MoreHeld (rw 30) R') : SumOk Y env (nxt0 29 U' R') := next_resl (x := hx 0) (y := [.i64 20, .i64 29]) (gs := 0) next0_29 h2 (resl_N2 _ _ _ _ _ _ _ _ _ _ _ _ _ _ _ _ _ _ _ _ _ _ _ _ _ _ _ _ _ _ _ _ _ _ _ _ _ _ _ _ _ _ _ _ _ _ _ _ _ _ _ _ _ _ _ _ _ _ _ _ _ _ _ _ _ _ _ _ _ _ _ _ _ _ _ hm (by kernel_rfl)) rfl (by kernel_rfl)
theorem nx1_0 (h2 : Same2 Y (us 1) U') (hm : MoreHeld (rw 1) R') : SumOk Y env (nxt1 0 U' R') := next_resl (x := hx 1) (y := [.i64 20, .i64 0]) (gs := 0) next1_0 h2 (resl_N3 hm (by kernel_rfl)) rfl (by kernel_rfl)
theorem nx1_1 (h2 : Same2 Y (us 2) U') (hm : MoreHeld (rw 2) R') : SumOk Y env (nxt1 1 U' R') := next_resl (x := hx 1) (y := [.i64 20, .i64 1]) (gs := 0) next1_1 h2 (resl_N4 hm (by kernel_rfl)) rfl (by kernel_rfl)
theorem nx1_2 (h2 : Same2 Y (us 3) U') (hm : MoreHeld (rw 3) R') : SumOk Y env (nxt1 2 U' R') := next_resl (x := hx 1) (y := [.i64 20, .i64 2]) (gs := 0) next1_2 h2 (resl_N5 _ _ _ _ _ _ _ _ _ _ _ _ _ _ _ _ _ _ _ _ _ _ _ _ _ _ _ _ _ _ _ _ _ _ _ _ _ _ _ _ _ _ _ _ _ _ _ _ _ _ _ _ _ _ _ _ _ _ _ _ _ _ _ _ _ _ _ _ _ _ _ hm (by kernel_rfl)) rfl (by kernel_rfl)
theorem nx1_3 (h2 : Same2 Y (us 4) U') (hm : MoreHeld (rw 4) R') : SumOk Y env (nxt1 3 U' R') := next_resl (x := hx 1) (y := [.i64 20, .i64 3]) (gs := 0) next1_3 h2 (resl_N5 _ _ _ _ _ _ _ _ _ _ _ _ _ _ _ _ _ _ _ _ _ _ _ _ _ _ _ _ _ _ _ _ _ _ _ _ _ _ _ _ _ _ _ _ _ _ _ _ _ _ _ _ _ _ _ _ _ _ _ _ _ _ _ _ _ _ _ _ _ _ _ hm (by kernel_rfl)) rfl (by kernel_rfl)
theorem nx1_4 (h2 : Same2 Y (us 5) U') (hm : MoreHeld (rw 5) R') : SumOk Y env (nxt1 4 U' R') := next_resl (x := hx 1) (y := [.i64 20, .i64 4]) (gs := 0) next1_4 h2 (resl_N5 _ _ _ _ _ _ _ _ _ _ _ _ _ _ _ _ _ _ _ _ _ _ _ _ _ _ _ _ _ _ _ _ _ _ _ _ _ _ _ _ _ _ _ _ _ _ _ _ _ _ _ _ _ _ _ _ _ _ _ _ _ _ _ _ _ _ _ _ _ _ _ hm (by kernel_rfl)) rfl (by kernel_rfl)
theorem nx1_5 (h2 : Same2 Y (us 6) U') (hm : MoreHeld (rw 6) R') : SumOk Y env (nxt1 5 U' R') := next_resl (x := hx 1) (y := [.i64 20, .i64 5]) (gs := 0) next1_5 h2 (resl_N5 _ _ _ _ _ _ _ _ _ _ _ _ _ _ _ _ _ _ _ _ _ _ _ _ _ _ _ _ _ _ _ _ _ _ _ _ _ _ _ _ _ _ _ _ _ _ _ _ _ _ _ _ _ _ _ _ _ _ _ _ _ _ _ _ _ _ _ _ _ _ _ hm (by kernel_rfl)) rfl (by kernel_rfl)
theorem nx1_6 (h2 : Same2 Y (us 7) U') (hm : MoreHeld (rw 7) R') : SumOk Y env (nxt1 6 U' R') := next_resl (x := hx 1) (y := [.i64 20, .i64 6]) (gs := 0) next1_6 h2 (resl_N5 _ _ _ _ _ _ _ _ _ _ _ _ _ _ _ _ _ _ _ _ _ _ _ _ _ _ _ _ _ _ _ _ _ _ _ _ _ _ _ _ _ _ _ _ _ _ _ _ _ _ _ _ _ _ _ _ _ _ _ _ _ _ _ _ _ _ _ _ _ _ _ hm (by kernel_rfl)) rfl (by kernel_rfl)
theorem nx1_7 (h2 : Same2 Y (us 8) U') (hm : MoreHeld (rw 8) R') : SumOk Y env (nxt1 7 U' R') := next_resl (x := hx 1) (y := [.i64 20, .i64 7]) (gs := 0) next1_7 h2 (resl_N5 _ _ _ _ _ _ _ _ _ _ _ _ _ _ _ _ _ _ _ _ _ _ _ _ _ _ _ _ _ _ _ _ _ _ _ _ _ _ _ _ _ _ _ _ _ _ _ _ _ _ _ _ _ _ _ _ _ _ _ _ _ _ _ _ _ _ _ _ _ _ _ hm (by kernel_rfl)) rfl (by kernel_rfl)
theorem nx1_8 (h2 : Same2 Y (us 9) U') (hm : MoreHeld (rw 9) R') : SumOk Y env (nxt1 8 U' R') := next_resl (x := hx 1) (y := [.i64 20, .i64 8]) (gs := 0) next1_8 h2 (resl_N5 _ _ _ _ _ _ _ _ _ _ _ _ _ _ _ _ _ _ _ _ _ _ _ _ _ _ _ _ _ _ _ _ _ _ _ _ _ _ _ _ _ _ _ _ _ _ _ _ _ _ _ _ _ _ _ _ _ _ _ _ _ _ _ _ _ _ _ _ _ _ _ hm (by kernel_rfl)) rfl (by kernel_rfl)
theorem nx1_9 (h2 : Same2 Y (us 10) U') (hm : MoreHeld (rw 10) R') : SumOk Y env (nxt1 9 U' R') := next_resl (x := hx 1) (y := [.i64 20, .i64 9]) (gs := 0) next1_9 h2 (resl_N5 _ _ _ _ _ _ _ _ _ _ _ _ _ _ _ _ _ _ _ _ _ _ _ _ _ _ _ _ _ _ _ _ _ _ _ _ _ _ _ _ _ _ _ _ _ _ _ _ _ _ _ _ _ _ _ _ _ _ _ _ _ _ _ _ _ _ _ _ _ _ _ hm (by kernel_rfl)) rfl (by kernel_rfl)
theorem nx1_10 (h2 : Same2 Y (us 11) U') (hm : MoreHeld (rw 11) R') : SumOk Y env (nxt1 10 U' R') := next_resl (x := hx 1) (y := [.i64 20, .i64 10]) (gs := 0) next1_10 h2 (resl_N5 _ _ _ _ _ _ _ _ _ _ _ _ _ _ _ _ _ _ _ _ _ _ _ _ _ _ _ _ _ _ _ _ _ _ _ _ _ _ _ _ _ _ _ _ _ _ _ _ _ _ _ _ _ _ _ _ _ _ _ _ _ _ _ _ _ _ _ _ _ _ _ hm (by kernel_rfl)) rfl (by kernel_rfl)
theorem nx1_11 (h2 : Same2 Y (us 12) U') (hm : MoreHeld (rw 12) R') : SumOk Y env (nxt1 11 U' R') := next_resl (x := hx 1) (y := [.i64 20, .i64 11]) (gs := 0) next1_11 h2 (resl_N5 _ _ _ _ _ _ _ _ _ _ _ _ _ _ _ _ _ _ _ _ _ _ _ _ _ _ _ _ _ _ _ _ _ _ _ _ _ _ _ _ _ _ _ _ _ _ _ _ _ _ _ _ _ _ _ _ _ _ _ _ _ _ _ _ _ _ _ _ _ _ _ hm (by kernel_rfl)) rfl (by kernel_rfl)
theorem nx1_12 (h2 : Same2 Y (us 13) U') (hm : MoreHeld (rw 13) R') : SumOk Y env (nxt1 12 U' R') := next_resl (x := hx 1) (y := [.i64 20, .i64 12]) (gs := 0) next1_12 h2 (resl_N5 _ _ _ _ _ _ _ _ _ _ _ _ _ _ _ _ _ _ _ _ _ _ _ _ _ _ _ _ _ _ _ _ _ _ _ _ _ _ _ _ _ _ _ _ _ _ _ _ _ _ _ _ _ _ _ _ _ _ _ _ _ _ _ _ _ _ _ _ _ _ _ hm (by kernel_rfl)) rfl (by kernel_rfl)
theorem nx1_13 (h2 : Same2 Y (us 14) U') (hm : MoreHeld (rw 14) R') : SumOk Y env (nxt1 13 U' R') := next_resl (x := hx 1) (y := [.i64 20, .i64 13]) (gs := 0) next1_13 h2 (resl_N5 _ _ _ _ _ _ _ _ _ _ _ _ _ _ _ _ _ _ _ _ _ _ _ _ _ _ _ _ _ _ _ _ _ _ _ _ _ _ _ _ _ _ _ _ _ _ _ _ _ _ _ _ _ _ _ _ _ _ _ _ _ _ _ _ _ _ _ _ _ _ _ hm (by kernel_rfl)) rfl (by kernel_rfl)
theorem nx1_14 (h2 : Same2 Y (us 15) U') (hm : MoreHeld (rw 15) R') : SumOk Y env (nxt1 14 U' R') := next_resl (x := hx 1) (y := [.i64 20, .i64 14]) (gs := 0) next1_14 h2 (resl_N5 _ _ _ _ _ _ _ _ _ _ _ _ _ _ _ _ _ _ _ _ _ _ _ _ _ _ _ _ _ _ _ _ _ _ _ _ _ _ _ _ _ _ _ _ _ _ _ _ _ _ _ _ _ _ _ _ _ _ _ _ _ _ _ _ _ _ _ _ _ _ _ hm (by kernel_rfl)) rfl (by kernel_rfl)
theorem nx1_15 (h2 : Same2 Y (us 16) U') (hm : MoreHeld (rw 16) R') : SumOk Y env (nxt1 15 U' R') := next_resl (x := hx 1) (y := [.i64 20, .i64 15]) (gs := 0) next1_15 h2 (resl_N5 _ _ _ _ _ _ _ _ _ _ _ _ _ _ _ _ _ _ _ _ _ _ _ _ _ _ _ _ _ _ _ _ _ _ _ _ _ _ _ _ _ _ _ _ _ _ _ _ _ _ _ _ _ _ _ _ _ _ _ _ _ _ _ _ _ _ _ _ _ _ _ hm (by kernel_rfl)) rfl (by kernel_rfl)
theorem nx1_16 (h2 : Same2 Y (us 17) U') (hm : MoreHeld (rw 17) R') : SumOk Y env (nxt1 16 U' R') := next_resl (x := hx 1) (y := [.i64 20, .i64 16]) (gs := 0) next1_16 h2 (resl_N5 _ _ _ _ _ _ _ _ _ _ _ _ _ _ _ _ _ _ _ _ _ _ _ _ _ _ _ _ _ _ _ _ _ _ _ _ _ _ _ _ _ _ _ _ _ _ _ _ _ _ _ _ _ _ _ _ _ _ _ _ _ _ _ _ _ _ _ _ _ _ _ hm (by kernel_rfl)) rfl (by kernel_rfl)
theorem nx1_17 (h2 : Same2 Y (us 18) U') (hm : MoreHeld (rw 18) R') : SumOk Y env (nxt1 17 U' R') := next_resl (x := hx 1) (y := [.i64 20, .i64 17]) (gs := 0) next1_17 h2 (resl_N5 _ _ _ _ _ _ _ _ _ _ _ _ _ _ _ _ _ _ _ _ _ _ _ _ _ _ _ _ _ _ _ _ _ _ _ _ _ _ _ _ _ _ _ _ _ _ _ _ _ _ _ _ _ _ _ _ _ _ _ _ _ _ _ _ _ _ _ _ _ _ _ hm (by kernel_rfl)) rfl (by kernel_rfl)
theorem nx1_18 (h2 : Same2 Y (us 19) U') (hm : MoreHeld (rw 19) R') : SumOk Y env (nxt1 18 U' R') := next_resl (x := hx 1) (y := [.i64 20, .i64 18]) (gs := 0) next1_18 h2 (resl_N5 _ _ _ _ _ _ _ _ _ _ _ _ _ _ _ _ _ _ _ _ _ _ _ _ _ _ _ _ _ _ _ _ _ _ _ _ _ _ _ _ _ _ _ _ _ _ _ _ _ _ _ _ _ _ _ _ _ _ _ _ _ _ _ _ _ _ _ _ _ _ _ hm (by kernel_rfl)) rfl (by kernel_rfl)
theorem nx1_19 (h2 : Same2 Y (us 20) U') (hm : MoreHeld (rw 20) R') : SumOk Y env (nxt1 19 U' R') := next_resl (x := hx 1) (y := [.i64 20, .i64 19]) (gs := 0) next1_19 h2 (resl_N5 _ _ _ _ _ _ _ _ _ _ _ _ _ _ _ _ _ _ _ _ _ _ _ _ _ _ _ _ _ _ _ _ _ _ _ _ _ _ _ _ _ _ _ _ _ _ _ _ _ _ _ _ _ _ _ _ _ _ _ _ _ _ _ _ _ _ _ _ _ _ _ hm (by kernel_rfl)) rfl (by kernel_rfl)
theorem nx1_20 (h2 : Same2 Y (us 21) U') (hm : MoreHeld (rw 21) R') : SumOk Y env (nxt1 20 U' R') := next_resl (x := hx 1) (y := [.i64 20, .i64 20]) (gs := 0) next1_20 h2 (resl_N5 _ _ _ _ _ _ _ _ _ _ _ _ _ _ _ _ _ _ _ _ _ _ _ _ _ _ _ _ _ _ _ _ _ _ _ _ _ _ _ _ _ _ _ _ _ _ _ _ _ _ _ _ _ _ _ _ _ _ _ _ _ _ _ _ _ _ _ _ _ _ _ hm (by kernel_rfl)) rfl (by kernel_rfl)
theorem nx1_21 (h2 : Same2 Y (us 22) U') (hm : MoreHeld (rw 22) R') : SumOk Y env (nxt1 21 U' R') := next_resl (x := hx 1) (y := [.i64 20, .i64 21]) (gs := 0) next1_21 h2 (resl_N5 _ _ _ _ _ _ _ _ _ _ _ _ _ _ _ _ _ _ _ _ _ _ _ _ _ _ _ _ _ _ _ _ _ _ _ _ _ _ _ _ _ _ _ _ _ _ _ _ _ _ _ _ _ _ _ _ _ _ _ _ _ _ _ _ _ _ _ _ _ _ _ hm (by kernel_rfl)) rfl (by kernel_rfl)
theorem nx1_22 (h2 : Same2 Y (us 23) U') (hm : MoreHeld (rw 23) R') : SumOk Y env (nxt1 22 U' R') := next_resl (x := hx 1) (y := [.i64 20, .i64 22]) (gs := 0) next1_22 h2 (resl_N5 _ _ _ _ _ _ _ _ _ _ _ _ _ _ _ _ _ _ _ _ _ _ _ _ _ _ _ _ _ _ _ _ _ _ _ _ _ _ _ _ _ _ _ _ _ _ _ _ _ _ _ _ _ _ _ _ _ _ _ _ _ _ _ _ _ _ _ _ _ _ _ hm (by kernel_rfl)) rfl (by kernel_rfl)
theorem nx1_23 (h2 : Same2 Y (us 24) U') (hm : MoreHeld (rw 24) R') : SumOk Y env (nxt1 23 U' R') := next_resl (x := hx 1) (y := [.i64 20, .i64 23]) (gs := 0) next1_23 h2 (resl_N5 _ _ _ _ _ _ _ _ _ _ _ _ _ _ _ _ _ _ _ _ _ _ _ _ _ _ _ _ _ _ _ _ _ _ _ _ _ _ _ _ _ _ _ _ _ _ _ _ _ _ _ _ _ _ _ _ _ _ _ _ _ _ _ _ _ _ _ _ _ _ _ hm (by kernel_rfl)) rfl (by kernel_rfl)
theorem nx1_24 (h2 : Same2 Y (us 25) U') (hm : MoreHeld (rw 25) R') : SumOk Y env (nxt1 24 U' R') := next_resl (x := hx 1) (y := [.i64 20, .i64 24]) (gs := 0) next1_24 h2 (resl_N5 _ _ _ _ _ _ _ _ _ _ _ _ _ _ _ _ _ _ _ _ _ _ _ _ _ _ _ _ _ _ _ _ _ _ _ _ _ _ _ _ _ _ _ _ _ _ _ _ _ _ _ _ _ _ _ _ _ _ _ _ _ _ _ _ _ _ _ _ _ _ _ hm (by kernel_rfl)) rfl (by kernel_rfl)
theorem nx1_25 (h2 : Same2 Y (us 26) U') (hm : MoreHeld (rw 26) R') : SumOk Y env (nxt1 25 U' R') := next_resl (x := hx 1) (y := [.i64 20, .i64 25]) (gs := 0) next1_25 h2 (resl_N5 _ _ _ _ _ _ _ _ _ _ _ _ _ _ _ _ _ _ _ _ _ _ _ _ _ _ _ _ _ _ _ _ _ _ _ _ _ _ _ _ _ _ _ _ _ _ _ _ _ _ _ _ _ _ _ _ _ _ _ _ _ _ _ _ _ _ _ _ _ _ _ hm (by kernel_rfl)) rfl (by kernel_rfl)
theorem nx1_26 (h2 : Same2 Y (us 27) U') (hm : MoreHeld (rw 27) R') : SumOk Y env (nxt1 26 U' R') := next_resl (x := hx 1) (y := [.i64 20, .i64 26]) (gs := 0) next1_26 h2 (resl_N5 _ _ _ _ _ _ _ _ _ _ _ _ _ _ _ _ _ _ _ _ _ _ _ _ _ _ _ _ _ _ _ _ _ _ _ _ _ _ _ _ _ _ _ _ _ _ _ _ _ _ _ _ _ _ _ _ _ _ _ _ _ _ _ _ _ _ _ _ _ _ _ hm (by kernel_rfl)) rfl (by kernel_rfl)
theorem nx1_27 (h2 : Same2 Y (us 28) U') (hm : MoreHeld (rw 28) R') : SumOk Y env (nxt1 27 U' R') := next_resl (x := hx 1) (y := [.i64 20, .i64 27]) (gs := 0) next1_27 h2 (resl_N5 _ _ _ _ _ _ _ _ _ _ _ _ _ _ _ _ _ _ _ _ _ _ _ _ _ _ _ _ _ _ _ _ _ _ _ _ _ _ _ _ _ _ _ _ _ _ _ _ _ _ _ _ _ _ _ _ _ _ _ _ _ _ _ _ _ _ _ _ _ _ _ hm (by kernel_rfl)) rfl (by kernel_rfl)
theorem nx1_28 (h2 : Same2 Y (us 29) U') (hm : MoreHeld (rw 29) R') : SumOk Y env (nxt1 28 U' R') := next_resl (x := hx 1) (y := [.i64 20, .i64 28]) (gs := 0) next1_28 h2 (resl_N5 _ _ _ _ _ _ _ _ _ _ _ _ _ _ _ _ _ _ _ _ _ _ _ _ _ _ _ _ _ _ _ _ _ _ _ _ _ _ _ _ _ _ _ _ _ _ _ _ _ _ _ _ _ _ _ _ _ _ _ _ _ _ _ _ _ _ _ _ _ _ _ hm (by kernel_rfl)) rfl (by kernel_rfl)
theorem nx1_29 (h2 : Same2 Y (us 30) U') (hm : MoreHeld (rw 30) R') : SumOk Y env (nxt1 29 U' R') := next_resl (x := hx 1) (y := [.i64 20, .i64 29]) (gs := 0) next1_29 h2 (resl_N5 _ _ _ _ _ _ _ _ _ _ _ _ _ _ _ _ _ _ _ _ _ _ _ _ _ _ _ _ _ _ _ _ _ _ _ _ _ _ _ _ _ _ _ _ _ _ _ _ _ _ _ _ _ _ _ _ _ _ _ _ _ _ _ _ _ _ _ _ _ _ _ hm (by kernel_rfl)) rfl (by kernel_rfl)
theorem nx2_0 (h2 : Same2 Y (us 1) U') (hm : MoreHeld (rw 1) R') : SumOk Y env (nxt2 0 U' R') := next_resl (x := hx 2) (y := [.i64 20, .i64 0]) (gs := 0) next2_0 h2 (resl_N6 _ _ _ _ _ _ _ _ _ _ _ _ _ _ _ _ _ _ _ _ _ _ _ _ _ _ _ _ _ _ _ _ _ _ _ _ _ _ _ _ _ _ _ _ hm (by kernel_rfl)) rfl (by kernel_rfl)
theorem nx2_1 (h2 : Same2 Y (us 2) U') (hm : MoreHeld (rw 2) R') : SumOk Y env (nxt2 1 U' R') := next_resl (x := hx 2) (y := [.i64 20, .i64 1]) (gs := 0) next2_1 h2 (resl_N7 _ _ _ _ _ _ _ _ _ _ _ _ _ _ _ _ _ _ _ _ _ _ _ _ _ _ _ _ _ _ _ _ _ _ _ _ _ _ _ _ _ _ _ _ _ _ _ _ _ _ _ _ _ _ _ _ _ _ _ _ _ _ _ _ _ _ hm (by kernel_rfl)) rfl (by kernel_rfl)
theorem nx2_2 (h2 : Same2 Y (us 3) U') (hm : MoreHeld (rw 3) R') : SumOk Y env (nxt2 2 U' R') := next_resl (x := hx 2) (y := [.i64 20, .i64 2]) (gs := 0) next2_2 h2 (resl_N8 _ _ _ _ _ _ _ _ _ _ _ _ _ _ _ _ _ _ _ _ _ _ _ _ _ _ _ _ _ _ _ _ _ _ _ _ _ _ _ _ _ _ _ _ _ _ _ _ _ _ _ _ _ _ _ _ _ _ _ _ _ _ _ _ _ _ _ _ _ _ _ _ _ _ _ hm (by kernel_rfl)) rfl (by kernel_rfl)
theorem nx2_3 (h2 : Same2 Y (us 4) U') (hm : MoreHeld (rw 4) R') : SumOk Y env (nxt2 3 U' R') := next_resl (x := hx 2) (y := [.i64 20, .i64 3]) (gs := 0) next2_3 h2 (resl_N8 _ _ _ _ _ _ _ _ _ _ _ _ _ _ _ _ _ _ _ _ _ _ _ _ _ _ _ _ _ _ _ _ _ _ _ _ _ _ _ _ _ _ _ _ _ _ _ _ _ _ _ _ _ _ _ _ _ _ _ _ _ _ _ _ _ _ _ _ _ _ _ _ _ _ _ hm (by kernel_rfl)) rfl (by kernel_rfl)
theorem nx2_4 (h2 : Same2 Y (us 5) U') (hm : MoreHeld (rw 5) R') : SumOk Y env (nxt2 4 U' R') := next_resl (x := hx 2) (y := [.i64 20, .i64 4]) (gs := 0) next2_4 h2 (resl_N8 _ _ _ _ _ _ _ _ _ _ _ _ _ _ _ _ _ _ _ _ _ _ _ _ _ _ _ _ _ _ _ _ _ _ _ _ _ _ _ _ _ _ _ _ _ _ _ _ _ _ _ _ _ _ _ _ _ _ _ _ _ _ _ _ _ _ _ _ _ _ _ _ _ _ _ hm (by kernel_rfl)) rfl (by kernel_rfl)
theorem nx2_5 (h2 : Same2 Y (us 6) U') (hm : MoreHeld (rw 6) R') : SumOk Y env (nxt2 5 U' R') := next_resl (x := hx 2) (y := [.i64 20, .i64 5]) (gs := 0) next2_5 h2 (resl_N8 _ _ _ _ _ _ _ _ _ _ _ _ _ _ _ _ _ _ _ _ _ _ _ _ _ _ _ _ _ _ _ _ _ _ _ _ _ _ _ _ _ _ _ _ _ _ _ _ _ _ _ _ _ _ _ _ _ _ _ _ _ _ _ _ _ _ _ _ _ _ _ _ _ _ _ hm (by kernel_rfl)) rfl (by kernel_rfl)
theorem nx2_6 (h2 : Same2 Y (us 7) U') (hm : MoreHeld (rw 7) R') : SumOk Y env (nxt2 6 U' R') := next_resl (x := hx 2) (y := [.i64 20, .i64 6]) (gs := 0) next2_6 h2 (resl_N8 _ _ _ _ _ _ _ _ _ _ _ _ _ _ _ _ _ _ _ _ _ _ _ _ _ _ _ _ _ _ _ _ _ _ _ _ _ _ _ _ _ _ _ _ _ _ _ _ _ _ _ _ _ _ _ _ _ _ _ _ _ _ _ _ _ _ _ _ _ _ _ _ _ _ _ hm (by kernel_rfl)) rfl (by kernel_rfl)
theorem nx2_7 (h2 : Same2 Y (us 8) U') (hm : MoreHeld (rw 8) R') : SumOk Y env (nxt2 7 U' R') := next_resl (x := hx 2) (y := [.i64 20, .i64 7]) (gs := 0) next2_7 h2 (resl_N8 _ _ _ _ _ _ _ _ _ _ _ _ _ _ _ _ _ _ _ _ _ _ _ _ _ _ _ _ _ _ _ _ _ _ _ _ _ _ _ _ _ _ _ _ _ _ _ _ _ _ _ _ _ _ _ _ _ _ _ _ _ _ _ _ _ _ _ _ _ _ _ _ _ _ _ hm (by kernel_rfl)) rfl (by kernel_rfl)
theorem nx2_8 (h2 : Same2 Y (us 9) U') (hm : MoreHeld (rw 9) R') : SumOk Y env (nxt2 8 U' R') := next_resl (x := hx 2) (y := [.i64 20, .i64 8]) (gs := 0) next2_8 h2 (resl_N8 _ _ _ _ _ _ _ _ _ _ _ _ _ _ _ _ _ _ _ _ _ _ _ _ _ _ _ _ _ _ _ _ _ _ _ _ _ _ _ _ _ _ _ _ _ _ _ _ _ _ _ _ _ _ _ _ _ _ _ _ _ _ _ _ _ _ _ _ _ _ _ _ _ _ _ hm (by kernel_rfl)) rfl (by kernel_rfl)
theorem nx2_9 (h2 : Same2 Y (us 10) U') (hm : MoreHeld (rw 10) R') : SumOk Y env (nxt2 9 U' R') := next_resl (x := hx 2) (y := [.i64 20, .i64 9]) (gs := 0) next2_9 h2 (resl_N8 _ _ _ _ _ _ _ _ _ _ _ _ _ _ _ _ _ _ _ _ _ _ _ _ _ _ _ _ _ _ _ _ _ _ _ _ _ _ _ _ _ _ _ _ _ _ _ _ _ _ _ _ _ _ _ _ _ _ _ _ _ _ _ _ _ _ _ _ _ _ _ _ _ _ _ hm (by kernel_rfl)) rfl (by kernel_rfl)
theorem nx2_10 (h2 : Same2 Y (us 11) U') (hm : MoreHeld (rw 11) R') : SumOk Y env (nxt2 10 U' R') := next_resl (x := hx 2) (y := [.i64 20, .i64 10]) (gs := 0) next2_10 h2 (resl_N8 _ _ _ _ _ _ _ _ _ _ _ _ _ _ _ _ _ _ _ _ _ _ _ _ _ _ _ _ _ _ _ _ _ _ _ _ _ _ _ _ _ _ _ _ _ _ _ _ _ _ _ _ _ _ _ _ _ _ _ _ _ _ _ _ _ _ _ _ _ _ _ _ _ _ _ hm (by kernel_rfl)) rfl (by kernel_rfl)
theorem nx2_11 (h2 : Same2 Y (us 12) U') (hm : MoreHeld (rw 12) R') : SumOk Y env (nxt2 11 U' R') := next_resl (x := hx 2) (y := [.i64 20, .i64 11]) (gs := 0) next2_11 h2 (resl_N8 _ _ _ _ _ _ _ _ _ _ _ _ _ _ _ _ _ _ _ _ _ _ _ _ _ _ _ _ _ _ _ _ _ _ _ _ _ _ _ _ _ _ _ _ _ _ _ _ _ _ _ _ _ _ _ _ _ _ _ _ _ _ _ _ _ _ _ _ _ _ _ _ _ _ _ hm (by kernel_rfl)) rfl (by kernel_rfl)
theorem nx2_12 (h2 : Same2 Y (us 13) U') (hm : MoreHeld (rw 13) R') : SumOk Y env (nxt2 12 U' R') := next_resl (x := hx 2) (y := [.i64 20, .i64 12]) (gs := 0) next2_12 h2 (resl_N8 _ _ _ _ _ _ _ _ _ _ _ _ _ _ _ _ _ _ _ _ _ _ _ _ _ _ _ _ _ _ _ _ _ _ _ _ _ _ _ _ _ _ _ _ _ _ _ _ _ _ _ _ _ _ _ _ _ _ _ _ _ _ _ _ _ _ _ _ _ _ _ _ _ _ _ hm (by kernel_rfl)) rfl (by kernel_rfl)
theorem nx2_13 (h2 : Same2 Y (us 14) U') (hm : MoreHeld (rw 14) R') : SumOk Y env (nxt2 13 U' R') := next_resl (x := hx 2) (y := [.i64 20, .i64 13]) (gs := 0) next2_13 h2 (resl_N8 _ _ _ _ _ _ _ _ _ _ _ _ _ _ _ _ _ _ _ _ _ _ _ _ _ _ _ _ _ _ _ _ _ _ _ _ _ _ _ _ _ _ _ _ _ _ _ _ _ _ _ _ _ _ _ _ _ _ _ _ _ _ _ _ _ _ _ _ _ _ _ _ _ _ _ hm (by kernel_rfl)) rfl (by kernel_rfl)
theorem nx2_14 (h2 : Same2 Y (us 15) U') (hm : MoreHeld (rw 15) R') : SumOk Y env (nxt2 14 U' R') := next_resl (x := hx 2) (y := [.i64 20, .i64 14]) (gs := 0) next2_14 h2 (resl_N8 _ _ _ _ _ _ _ _ _ _ _ _ _ _ _ _ _ _ _ _ _ _ _ _ _ _ _ _ _ _ _ _ _ _ _ _ _ _ _ _ _ _ _ _ _ _ _ _ _ _ _ _ _ _ _ _ _ _ _ _ _ _ _ _ _ _ _ _ _ _ _ _ _ _ _ hm (by kernel_rfl)) rfl (by kernel_rfl)
theorem nx2_15 (h2 : Same2 Y (us 16) U') (hm : MoreHeld (rw 16) R') : SumOk Y env (nxt2 15 U' R') := next_resl (x := hx 2) (y := [.i64 20, .i64 15]) (gs := 0) next2_15 h2 (resl_N8 _ _ _ _ _ _ _ _ _ _ _ _ _ _ _ _ _ _ _ _ _ _ _ _ _ _ _ _ _ _ _ _ _ _ _ _ _ _ _ _ _ _ _ _ _ _ _ _ _ _ _ _ _ _ _ _ _ _ _ _ _ _ _ _ _ _ _ _ _ _ _ _ _ _ _ hm (by kernel_rfl)) rfl (by kernel_rfl)
theorem nx2_16 (h2 : Same2 Y (us 17) U') (hm : MoreHeld (rw 17) R') : SumOk Y env (nxt2 16 U' R') := next_resl (x := hx 2) (y := [.i64 20, .i64 16]) (gs := 0) next2_16 h2 (resl_N8 _ _ _ _ _ _ _ _ _ _ _ _ _ _ _ _ _ _ _ _ _ _ _ _ _ _ _ _ _ _ _ _ _ _ _ _ _ _ _ _ _ _ _ _ _ _ _ _ _ _ _ _ _ _ _ _ _ _ _ _ _ _ _ _ _ _ _ _ _ _ _ _ _ _ _ hm (by kernel_rfl)) rfl (by kernel_rfl)
theorem nx2_17 (h2 : Same2 Y (us 18) U') (hm : MoreHeld (rw 18) R') : SumOk Y env (nxt2 17 U' R') := next_resl (x := hx 2) (y := [.i64 20, .i64 17]) (gs := 0) next2_17 h2 (resl_N8 _ _ _ _ _ _ _ _ _ _ _ _ _ _ _ _ _ _ _ _ _ _ _ _ _ _ _ _ _ _ _ _ _ _ _ _ _ _ _ _ _ _ _ _ _ _ _ _ _ _ _ _ _ _ _ _ _ _ _ _ _ _ _ _ _ _ _ _ _ _ _ _ _ _ _ hm (by kernel_rfl)) rfl (by kernel_rfl)
theorem nx2_18 (h2 : Same2 Y (us 19) U') (hm : MoreHeld (rw 19) R') : SumOk Y env (nxt2 18 U' R') := next_resl (x := hx 2) (y := [.i64 20, .i64 18]) (gs := 0) next2_18 h2 (resl_N8 _ _ _ _ _ _ _ _ _ _ _ _ _ _ _ _ _ _ _ _ _ _ _ _ _ _ _ _ _ _ _ _ _ _ _ _ _ _ _ _ _ _ _ _ _ _ _ _ _ _ _ _ _ _ _ _ _ _ _ _ _ _ _ _ _ _ _ _ _ _ _ _ _ _ _ hm (by kernel_rfl)) rfl (by kernel_rfl)
theorem nx2_19 (h2 : Same2 Y (us 20) U') (hm : MoreHeld (rw 20) R') : SumOk Y env (nxt2 19 U' R') := next_resl (x := hx 2) (y := [.i64 20, .i64 19]) (gs := 0) next2_19 h2 (resl_N8 _ _ _ _ _ _ _ _ _ _ _ _ _ _ _ _ _ _ _ _ _ _ _ _ _ _ _ _ _ _ _ _ _ _ _ _ _ _ _ _ _ _ _ _ _ _ _ _ _ _ _ _ _ _ _ _ _ _ _ _ _ _ _ _ _ _ _ _ _ _ _ _ _ _ _ hm (by kernel_rfl)) rfl (by kernel_rfl)
theorem nx2_20 (h2 : Same2 Y (us 21) U') (hm : MoreHeld (rw 21) R') : SumOk Y env (nxt2 20 U' R') := next_resl (x := hx 2) (y := [.i64 20, .i64 20]) (gs := 0) next2_20 h2 (resl_N8 _ _ _ _ _ _ _ _ _ _ _ _ _ _ _ _ _ _ _ _ _ _ _ _ _ _ _ _ _ _ _ _ _ _ _ _ _ _ _ _ _ _ _ _ _ _ _ _ _ _ _ _ _ _ _ _ _ _ _ _ _ _ _ _ _ _ _ _ _ _ _ _ _ _ _ hm (by kernel_rfl)) rfl (by kernel_rfl)
theorem nx2_21 (h2 : Same2 Y (us 22) U') (hm : MoreHeld (rw 22) R') : SumOk Y env (nxt2 21 U' R') := next_resl (x := hx 2) (y := [.i64 20, .i64 21]) (gs := 0) next2_21 h2 (resl_N8 _ _ _ _ _ _ _ _ _ _ _ _ _ _ _ _ _ _ _ _ _ _ _ _ _ _ _ _ _ _ _ _ _ _ _ _ _ _ _ _ _ _ _ _ _ _ _ _ _ _ _ _ _ _ _ _ _ _ _ _ _ _ _ _ _ _ _ _ _ _ _ _ _ _ _ hm (by kernel_rfl)) rfl (by kernel_rfl)
theorem nx2_22 (h2 : Same2 Y (us 23) U') (hm : MoreHeld (rw 23) R') : SumOk Y env (nxt2 22 U' R') := next_resl (x := hx 2) (y := [.i64 20, .i64 22]) (gs := 0) next2_22 h2 (resl_N8 _ _ _ _ _ _ _ _ _ _ _ _ _ _ _ _ _ _ _ _ _ _ _ _ _ _ _ _ _ _ _ _ _ _ _ _ _ _ _ _ _ _ _ _ _ _ _ _ _ _ _ _ _ _ _ _ _ _ _ _ _ _ _ _ _ _ _ _ _ _ _ _ _ _ _ hm (by kernel_rfl)) rfl (by kernel_rfl)
theorem nx2_23 (h2 : Same2 Y (us 24) U') (hm : MoreHeld (rw 24) R') : SumOk Y env (nxt2 23 U' R') := next_resl (x := hx 2) (y := [.i64 20, .i64 23]) (gs := 0) next2_23 h2 (resl_N8 _ _ _ _ _ _ _ _ _ _ _ _ _ _ _ _ _ _ _ _ _ _ _ _ _ _ _ _ _ _ _ _ _ _ _ _ _ _ _ _ _ _ _ _ _ _ _ _ _ _ _ _ _ _ _ _ _ _ _ _ _ _ _ _ _ _ _ _ _ _ _ _ _ _ _ hm (by kernel_rfl)) rfl (by kernel_rfl)
theorem nx2_24 (h2 : Same2 Y (us 25) U') (hm : MoreHeld (rw 25) R') : SumOk Y env (nxt2 24 U' R') := next_resl (x := hx 2) (y := [.i64 20, .i64 24]) (gs := 0) next2_24 h2 (resl_N8 _ _ _ _ _ _ _ _ _ _ _ _ _ _ _ _ _ _ _ _ _ _ _ _ _ _ _ _ _ _ _ _ _ _ _ _ _ _ _ _ _ _ _ _ _ _ _ _ _ _ _ _ _ _ _ _ _ _ _ _ _ _ _ _ _ _ _ _ _ _ _ _ _ _ _ hm (by kernel_rfl)) rfl (by kernel_rfl)
theorem nx2_25 (h2 : Same2 Y (us 26) U') (hm : MoreHeld (rw 26) R') : SumOk Y env (nxt2 25 U' R') := next_resl (x := hx 2) (y := [.i64 20, .i64 25]) (gs := 0) next2_25 h2 (resl_N8 _ _ _ _ _ _ _ _ _ _ _ _ _ _ _ _ _ _ _ _ _ _ _ _ _ _ _ _ _ _ _ _ _ _ _ _ _ _ _ _ _ _ _ _ _ _ _ _ _ _ _ _ _ _ _ _ _ _ _ _ _ _ _ _ _ _ _ _ _ _ _ _ _ _ _ hm (by kernel_rfl)) rfl (by kernel_rfl)
theorem nx2_26 (h2 : Same2 Y (us 27) U') (hm : MoreHeld (rw 27) R') : SumOk Y env (nxt2 26 U' R') := next_resl (x := hx 2) (y := [.i64 20, .i64 26]) (gs := 0) next2_26 h2 (resl_N8 _ _ _ _ _ _ _ _ _ _ _ _ _ _ _ _ _ _ _ _ _ _ _ _ _ _ _ _ _ _ _ _ _ _ _ _ _ _ _ _ _ _ _ _ _ _ _ _ _ _ _ _ _ _ _ _ _ _ _ _ _ _ _ _ _ _ _ _ _ _ _ _ _ _ _ hm (by kernel_rfl)) rfl (by kernel_rfl)
theorem nx2_27 (h2 : Same2 Y (us 28) U') (hm : MoreHeld (rw 28) R') : SumOk Y env (nxt2 27 U' R') := next_resl (x := hx 2) (y := [.i64 20, .i64 27]) (gs := 0) next2_27 h2 (resl_N8 _ _ _ _ _ _ _ _ _ _ _ _ _ _ _ _ _ _ _ _ _ _ _ _ _ _ _ _ _ _ _ _ _ _ _ _ _ _ _ _ _ _ _ _ _ _ _ _ _ _ _ _ _ _ _ _ _ _ _ _ _ _ _ _ _ _ _ _ _ _ _ _ _ _ _ hm (by kernel_rfl)) rfl (by kernel_rfl)
theorem nx2_28 (h2 : Same2 Y (us 29) U') (hm : MoreHeld (rw 29) R') : SumOk Y env (nxt2 28 U' R') := next_resl (x := hx 2) (y := [.i64 20, .i64 28]) (gs := 0) next2_28 h2 (resl_N8 _ _ _ _ _ _ _ _ _ _ _ _ _ _ _ _ _ _ _ _ _ _ _ _ _ _ _ _ _ _ _ _ _ _ _ _ _ _ _ _ _ _ _ _ _ _ _ _ _ _ _ _ _ _ _ _ _ _ _ _ _ _ _ _ _ _ _ _ _ _ _ _ _ _ _ hm (by kernel_rfl)) rfl (by kernel_rfl)
theorem nx2_29 (h2 : Same2 Y (us 30) U') (hm : MoreHeld (rw 30) R') : SumOk Y env (nxt2 29 U' R') := next_resl (x := hx 2) (y := [.i64 20, .i64 29]) (gs := 0) next2_29 h2 (resl_N8 _ _ _ _ _ _ _ _ _ _ _ _ _ _ _ _ _ _ _ _ _ _ _ _ _ _ _ _ _ _ _ _ _ _ _ _ _ _ _ _ _ _ _ _ _ _ _ _ _ _ _ _ _ _ _ _ _ _ _ _ _ _ _ _ _ _ _ _ _ _ _ _ _ _ _ hm (by kernel_rfl)) rfl (by kernel_rfl)
theorem nx3_0 (h2 : Same2 Y (us 1) U') (hm : MoreHeld (rw 1) R') : SumOk Y env (nxt3 0 U' R') := next_resl (x := hx 3) (y := [.i64 20, .i64 0]) (gs := 0) next3_0 h2 (resl_N6 _ _ _ _ _ _ _ _ _ _ _ _ _ _ _ _ _ _ _ _ _ _ _ _ _ _ _ _ _ _ _ _ _ _ _ _ _ _ _ _ _ _ _ _ hm (by kernel_rfl)) rfl (by kernel_rfl)
theorem nx3_1 (h2 : Same2 Y (us 2) U') (hm : MoreHeld (rw 2) R') : SumOk Y env (nxt3 1 U' R') := next_resl (x := hx 3) (y := [.i64 20, .i64 1]) (gs := 0) next3_1 h2 (resl_N7 _ _ _ _ _ _ _ _ _ _ _ _ _ _ _ _ _ _ _ _ _ _ _ _ _ _ _ _ _ _ _ _ _ _ _ _ _ _ _ _ _ _ _ _ _ _ _ _ _ _ _ _ _ _ _ _ _ _ _ _ _ _ _ _ _ _ hm (by kernel_rfl)) rfl (by kernel_rfl)
theorem nx3_2 (h2 : Same2 Y (us 3) U') (hm : MoreHeld (rw 3) R') : SumOk Y env (nxt3 2 U' R') := next_resl (x := hx 3) (y := [.i64 20, .i64 2]) (gs := 0) next3_2 h2 (resl_N8 _ _ _ _ _ _ _ _ _ _ _ _ _ _ _ _ _ _ _ _ _ _ _ _ _ _ _ _ _ _ _ _ _ _ _ _ _ _ _ _ _ _ _ _ _ _ _ _ _ _ _ _ _ _ _ _ _ _ _ _ _ _ _ _ _ _ _ _ _ _ _ _ _ _ _ hm (by kernel_rfl)) rfl (by kernel_rfl)
theorem nx3_3 (h2 : Same2 Y (us 4) U') (hm : MoreHeld (rw 4) R') : SumOk Y env (nxt3 3 U' R') := next_resl (x := hx 3) (y := [.i64 20, .i64 3]) (gs := 0) next3_3 h2 (resl_N8 _ _ _ _ _ _ _ _ _ _ _ _ _ _ _ _ _ _ _ _ _ _ _ _ _ _ _ _ _ _ _ _ _ _ _ _ _ _ _ _ _ _ _ _ _ _ _ _ _ _ _ _ _ _ _ _ _ _ _ _ _ _ _ _ _ _ _ _ _ _ _ _ _ _ _ hm (by kernel_rfl)) rfl (by kernel_rfl)
theorem nx3_4 (h2 : Same2 Y (us 5) U') (hm : MoreHeld (rw 5) R') : SumOk Y env (nxt3 4 U' R') := next_resl (x := hx 3) (y := [.i64 20, .i64 4]) (gs := 0) next3_4 h2 (resl_N8 _ _ _ _ _ _ _ _ _ _ _ _ _ _ _ _ _ _ _ _ _ _ _ _ _ _ _ _ _ _ _ _ _ _ _ _ _ _ _ _ _ _ _ _ _ _ _ _ _ _ _ _ _ _ _ _ _ _ _ _ _ _ _ _ _ _ _ _ _ _ _ _ _ _ _ hm (by kernel_rfl)) rfl (by kernel_rfl)
theorem nx3_5 (h2 : Same2 Y (us 6) U') (hm : MoreHeld (rw 6) R') : SumOk Y env (nxt3 5 U' R') := next_resl (x := hx 3) (y := [.i64 20, .i64 5]) (gs := 0) next3_5 h2 (resl_N8 _ _ _ _ _ _ _ _ _ _ _ _ _ _ _ _ _ _ _ _ _ _ _ _ _ _ _ _ _ _ _ _ _ _ _ _ _ _ _ _ _ _ _ _ _ _ _ _ _ _ _ _ _ _ _ _ _ _ _ _ _ _ _ _ _ _ _ _ _ _ _ _ _ _ _ hm (by kernel_rfl)) rfl (by kernel_rfl)
theorem nx3_6 (h2 : Same2 Y (us 7) U') (hm : MoreHeld (rw 7) R') : SumOk Y env (nxt3 6 U' R') := next_resl (x := hx 3) (y := [.i64 20, .i64 6]) (gs := 0) next3_6 h2 (resl_N8 _ _ _ _ _ _ _ _ _ _ _ _ _ _ _ _ _ _ _ _ _ _ _ _ _ _ _ _ _ _ _ _ _ _ _ _ _ _ _ _ _ _ _ _ _ _ _ _ _ _ _ _ _ _ _ _ _ _ _ _ _ _ _ _ _ _ _ _ _ _ _ _ _ _ _ hm (by kernel_rfl)) rfl (by kernel_rfl)
theorem nx3_7 (h2 : Same2 Y (us 8) U') (hm : MoreHeld (rw 8) R') : SumOk Y env (nxt3 7 U' R') := next_resl (x := hx 3) (y := [.i64 20, .i64 7]) (gs := 0) next3_7 h2 (resl_N8 _ _ _ _ _ _ _ _ _ _ _ _ _ _ _ _ _ _ _ _ _ _ _ _ _ _ _ _ _ _ _ _ _ _ _ _ _ _ _ _ _ _ _ _ _ _ _ _ _ _ _ _ _ _ _ _ _ _ _ _ _ _ _ _ _ _ _ _ _ _ _ _ _ _ _ hm (by kernel_rfl)) rfl (by kernel_rfl)
theorem nx3_8 (h2 : Same2 Y (us 9) U') (hm : MoreHeld (rw 9) R') : SumOk Y env (nxt3 8 U' R') := next_resl (x := hx 3) (y := [.i64 20, .i64 8]) (gs := 0) next3_8 h2 (resl_N8 _ _ _ _ _ _ _ _ _ _ _ _ _ _ _ _ _ _ _ _ _ _ _ _ _ _ _ _ _ _ _ _ _ _ _ _ _ _ _ _ _ _ _ _ _ _ _ _ _ _ _ _ _ _ _ _ _ _ _ _ _ _ _ _ _ _ _ _ _ _ _ _ _ _ _ hm (by kernel_rfl)) rfl (by kernel_rfl)
theorem nx3_9 (h2 : Same2 Y (us 10) U') (hm : MoreHeld (rw 10) R') : SumOk Y env (nxt3 9 U' R') := next_resl (x := hx 3) (y := [.i64 20, .i64 9]) (gs := 0) next3_9 h2 (resl_N8 _ _ _ _ _ _ _ _ _ _ _ _ _ _ _ _ _ _ _ _ _ _ _ _ _ _ _ _ _ _ _ _ _ _ _ _ _ _ _ _ _ _ _ _ _ _ _ _ _ _ _ _ _ _ _ _ _ _ _ _ _ _ _ _ _ _ _ _ _ _ _ _ _ _ _ hm (by kernel_rfl)) rfl (by kernel_rfl)
theorem nx3_10 (h2 : Same2 Y (us 11) U') (hm : MoreHeld (rw 11) R') : SumOk Y env (nxt3 10 U' R') := next_resl (x := hx 3) (y := [.i64 20, .i64 10]) (gs := 0) next3_10 h2 (resl_N8 _ _ _ _ _ _ _ _ _ _ _ _ _ _ _ _ _ _ _ _ _ _ _ _ _ _ _ _ _ _ _ _ _ _ _ _ _ _ _ _ _ _ _ _ _ _ _ _ _ _ _ _ _ _ _ _ _ _ _ _ _ _ _ _ _ _ _ _ _ _ _ _ _ _ _ hm (by kernel_rfl)) rfl (by kernel_rfl)
theorem nx3_11 (h2 : Same2 Y (us 12) U') (hm : MoreHeld (rw 12) R') : SumOk Y env (nxt3 11 U' R') := next_resl (x := hx 3) (y := [.i64 20, .i64 11]) (gs := 0) next3_11 h2 (resl_N8 _ _ _ _ _ _ _ _ _ _ _ _ _ _ _ _ _ _ _ _ _ _ _ _ _ _ _ _ _ _ _ _ _ _ _ _ _ _ _ _ _ _ _ _ _ _ _ _ _ _ _ _ _ _ _ _ _ _ _ _ _ _ _ _ _ _ _ _ _ _ _ _ _ _ _ hm (by kernel_rfl)) rfl (by kernel_rfl)
theorem nx3_12 (h2 : Same2 Y (us 13) U') (hm : MoreHeld (rw 13) R') : SumOk Y env (nxt3 12 U' R') := next_resl (x := hx 3) (y := [.i64 20, .i64 12]) (gs := 0) next3_12 h2 (resl_N8 _ _ _ _ _ _ _ _ _ _ _ _ _ _ _ _ _ _ _ _ _ _ _ _ _ _ _ _ _ _ _ _ _ _ _ _ _ _ _ _ _ _ _ _ _ _ _ _ _ _ _ _ _ _ _ _ _ _ _ _ _ _ _ _ _ _ _ _ _ _ _ _ _ _ _ hm (by kernel_rfl)) rfl (by kernel_rfl)
theorem nx3_13 (h2 : Same2 Y (us 14) U') (hm : MoreHeld (rw 14) R') : SumOk Y env (nxt3 13 U' R') := next_resl (x := hx 3) (y := [.i64 20, .i64 13]) (gs := 0) next3_13 h2 (resl_N8 _ _ _ _ _ _ _ _ _ _ _ _ _ _ _ _ _ _ _ _ _ _ _ _ _ _ _ _ _ _ _ _ _ _ _ _ _ _ _ _ _ _ _ _ _ _ _ _ _ _ _ _ _ _ _ _ _ _ _ _ _ _ _ _ _ _ _ _ _ _ _ _ _ _ _ hm (by kernel_rfl)) rfl (by kernel_rfl)
theorem nx3_14 (h2 : Same2 Y (us 15) U') (hm : MoreHeld (rw 15) R') : SumOk Y env (nxt3 14 U' R') := next_resl (x := hx 3) (y := [.i64 20, .i64 14]) (gs := 0) next3_14 h2 (resl_N8 _ _ _ _ _ _ _ _ _ _ _ _ _ _ _ _ _ _ _ _ _ _ _ _ _ _ _ _ _ _ _ _ _ _ _ _ _ _ _ _ _ _ _ _ _ _ _ _ _ _ _ _ _ _ _ _ _ _ _ _ _ _ _ _ _ _ _ _ _ _ _ _ _ _ _ hm (by kernel_rfl)) rfl (by kernel_rfl)
theorem nx3_15 (h2 : Same2 Y (us 16) U') (hm : MoreHeld (rw 16) R') : SumOk Y env (nxt3 15 U' R') := next_resl (x := hx 3) (y := [.i64 20, .i64 15]) (gs := 0) next3_15 h2 (resl_N8 _ _ _ _ _ _ _ _ _ _ _ _ _ _ _ _ _ _ _ _ _ _ _ _ _ _ _ _ _ _ _ _ _ _ _ _ _ _ _ _ _ _ _ _ _ _ _ _ _ _ _ _ _ _ _ _ _ _ _ _ _ _ _ _ _ _ _ _ _ _ _ _ _ _ _ hm (by kernel_rfl)) rfl (by kernel_rfl)
theorem nx3_16 (h2 : Same2 Y (us 17) U') (hm : MoreHeld (rw 17) R') : SumOk Y env (nxt3 16 U' R') := next_resl (x := hx 3) (y := [.i64 20, .i64 16]) (gs := 0) next3_16 h2 (resl_N8 _ _ _ _ _ _ _ _ _ _ _ _ _ _ _ _ _ _ _ _ _ _ _ _ _ _ _ _ _ _ _ _ _ _ _ _ _ _ _ _ _ _ _ _ _ _ _ _ _ _ _ _ _ _ _ _ _ _ _ _ _ _ _ _ _ _ _ _ _ _ _ _ _ _ _ hm (by kernel_rfl)) rfl (by kernel_rfl)
theorem nx3_17 (h2 : Same2 Y (us 18) U') (hm : MoreHeld (rw 18) R') : SumOk Y env (nxt3 17 U' R') := next_resl (x := hx 3) (y := [.i64 20, .i64 17]) (gs := 0) next3_17 h2 (resl_N8 _ _ _ _ _ _ _ _ _ _ _ _ _ _ _ _ _ _ _ _ _ _ _ _ _ _ _ _ _ _ _ _ _ _ _ _ _ _ _ _ _ _ _ _ _ _ _ _ _ _ _ _ _ _ _ _ _ _ _ _ _ _ _ _ _ _ _ _ _ _ _ _ _ _ _ hm (by kernel_rfl)) rfl (by kernel_rfl)
theorem nx3_18 (h2 : Same2 Y (us 19) U') (hm : MoreHeld (rw 19) R') : SumOk Y env (nxt3 18 U' R') := next_resl (x := hx 3) (y := [.i64 20, .i64 18]) (gs := 0) next3_18 h2 (resl_N8 _ _ _ _ _ _ _ _ _ _ _ _ _ _ _ _ _ _ _ _ _ _ _ _ _ _ _ _ _ _ _ _ _ _ _ _ _ _ _ _ _ _ _ _ _ _ _ _ _ _ _ _ _ _ _ _ _ _ _ _ _ _ _ _ _ _ _ _ _ _ _ _ _ _ _ hm (by kernel_rfl)) rfl (by kernel_rfl)
theorem nx3_19 (h2 : Same2 Y (us 20) U') (hm : MoreHeld (rw 20) R') : SumOk Y env (nxt3 19 U' R') := next_resl (x := hx 3) (y := [.i64 20, .i64 19]) (gs := 0) next3_19 h2 (resl_N8 _ _ _ _ _ _ _ _ _ _ _ _ _ _ _ _ _ _ _ _ _ _ _ _ _ _ _ _ _ _ _ _ _ _ _ _ _ _ _ _ _ _ _ _ _ _ _ _ _ _ _ _ _ _ _ _ _ _ _ _ _ _ _ _ _ _ _ _ _ _ _ _ _ _ _ hm (by kernel_rfl)) rfl (by kernel_rfl)
theorem nx3_20 (h2 : Same2 Y (us 21) U') (hm : MoreHeld (rw 21) R') : SumOk Y env (nxt3 20 U' R') := next_resl (x := hx 3) (y := [.i64 20, .i64 20]) (gs := 0) next3_20 h2 (resl_N8 _ _ _ _ _ _ _ _ _ _ _ _ _ _ _ _ _ _ _ _ _ _ _ _ _ _ _ _ _ _ _ _ _ _ _ _ _ _ _ _ _ _ _ _ _ _ _ _ _ _ _ _ _ _ _ _ _ _ _ _ _ _ _ _ _ _ _ _ _ _ _ _ _ _ _ hm (by kernel_rfl)) rfl (by kernel_rfl)
theorem nx3_21 (h2 : Same2 Y (us 22) U') (hm : MoreHeld (rw 22) R') : SumOk Y env (nxt3 21 U' R') := next_resl (x := hx 3) (y := [.i64 20, .i64 21]) (gs := 0) next3_21 h2 (resl_N8 _ _ _ _ _ _ _ _ _ _ _ _ _ _ _ _ _ _ _ _ _ _ _ _ _ _ _ _ _ _ _ _ _ _ _ _ _ _ _ _ _ _ _ _ _ _ _ _ _ _ _ _ _ _ _ _ _ _ _ _ _ _ _ _ _ _ _ _ _ _ _ _ _ _ _ hm (by kernel_rfl)) rfl (by kernel_rfl)
theorem nx3_22 (h2 : Same2 Y (us 23) U') (hm : MoreHeld (rw 23) R') : SumOk Y env (nxt3 22 U' R') := next_resl (x := hx 3) (y := [.i64 20, .i64 22]) (gs := 0) next3_22 h2 (resl_N8 _ _ _ _ _ _ _ _ _ _ _ _ _ _ _ _ _ _ _ _ _ _ _ _ _ _ _ _ _ _ _ _ _ _ _ _ _ _ _ _ _ _ _ _ _ _ _ _ _ _ _ _ _ _ _ _ _ _ _ _ _ _ _ _ _ _ _ _ _ _ _ _ _ _ _ hm (by kernel_rfl)) rfl (by kernel_rfl)
theorem nx3_23 (h2 : Same2 Y (us 24) U') (hm : MoreHeld (rw 24) R') : SumOk Y env (nxt3 23 U' R') := next_resl (x := hx 3) (y := [.i64 20, .i64 23]) (gs := 0) next3_23 h2 (resl_N8 _ _ _ _ _ _ _ _ _ _ _ _ _ _ _ _ _ _ _ _ _ _ _ _ _ _ _ _ _ _ _ _ _ _ _ _ _ _ _ _ _ _ _ _ _ _ _ _ _ _ _ _ _ _ _ _ _ _ _ _ _ _ _ _ _ _ _ _ _ _ _ _ _ _ _ hm (by kernel_rfl)) rfl (by kernel_rfl)
theorem nx3_24 (h2 : Same2 Y (us 25) U') (hm : MoreHeld (rw 25) R') : SumOk Y env (nxt3 24 U' R') := next_resl (x := hx 3) (y := [.i64 20, .i64 24]) (gs := 0) next3_24 h2 (resl_N8 _ _ _ _ _ _ _ _ _ _ _ _ _ _ _ _ _ _ _ _ _ _ _ _ _ _ _ _ _ _ _ _ _ _ _ _ _ _ _ _ _ _ _ _ _ _ _ _ _ _ _ _ _ _ _ _ _ _ _ _ _ _ _ _ _ _ _ _ _ _ _ _ _ _ _ hm (by kernel_rfl)) rfl (by kernel_rfl)
theorem nx3_25 (h2 : Same2 Y (us 26) U') (hm : MoreHeld (rw 26) R') : SumOk Y env (nxt3 25 U' R') := next_resl (x := hx 3) (y := [.i64 20, .i64 25]) (gs := 0) next3_25 h2 (resl_N8 _ _ _ _ _ _ _ _ _ _ _ _ _ _ _ _ _ _ _ _ _ _ _ _ _ _ _ _ _ _ _ _ _ _ _ _ _ _ _ _ _ _ _ _ _ _ _ _ _ _ _ _ _ _ _ _ _ _ _ _ _ _ _ _ _ _ _ _ _ _ _ _ _ _ _ hm (by kernel_rfl)) rfl (by kernel_rfl)
theorem nx3_26 (h2 : Same2 Y (us 27) U') (hm : MoreHeld (rw 27) R') : SumOk Y env (nxt3 26 U' R') := next_resl (x := hx 3) (y := [.i64 20, .i64 26]) (gs := 0) next3_26 h2 (resl_N8 _ _ _ _ _ _ _ _ _ _ _ _ _ _ _ _ _ _ _ _ _ _ _ _ _ _ _ _ _ _ _ _ _ _ _ _ _ _ _ _ _ _ _ _ _ _ _ _ _ _ _ _ _ _ _ _ _ _ _ _ _ _ _ _ _ _ _ _ _ _ _ _ _ _ _ hm (by kernel_rfl)) rfl (by kernel_rfl)
theorem nx3_27 (h2 : Same2 Y (us 28) U') (hm : MoreHeld (rw 28) R') : SumOk Y env (nxt3 27 U' R') := next_resl (x := hx 3) (y := [.i64 20, .i64 27]) (gs := 0) next3_27 h2 (resl_N8 _ _ _ _ _ _ _ _ _ _ _ _ _ _ _ _ _ _ _ _ _ _ _ _ _ _ _ _ _ _ _ _ _ _ _ _ _ _ _ _ _ _ _ _ _ _ _ _ _ _ _ _ _ _ _ _ _ _ _ _ _ _ _ _ _ _ _ _ _ _ _ _ _ _ _ hm (by kernel_rfl)) rfl (by kernel_rfl)
theorem nx3_28 (h2 : Same2 Y (us 29) U') (hm : MoreHeld (rw 29) R') : SumOk Y env (nxt3 28 U' R') := next_resl (x := hx 3) (y := [.i64 20, .i64 28]) (gs := 0) next3_28 h2 (resl_N8 _ _ _ _ _ _ _ _ _ _ _ _ _ _ _ _ _ _ _ _ _ _ _ _ _ _ _ _ _ _ _ _ _ _ _ _ _ _ _ _ _ _ _ _ _ _ _ _ _ _ _ _ _ _ _ _ _ _ _ _ _ _ _ _ _ _ _ _ _ _ _ _ _ _ _ hm (by kernel_rfl)) rfl (by kernel_rfl)
theorem nx3_29 (h2 : Same2 Y (us 30) U') (hm : MoreHeld (rw 30) R') : SumOk Y env (nxt3 29 U' R') := next_resl (x := hx 3) (y := [.i64 20, .i64 29]) (gs := 0) next3_29 h2 (resl_N8 _ _ _ _ _ _ _ _ _ _ _ _ _ _ _ _ _ _ _ _ _ _ _ _ _ _ _ _ _ _ _ _ _ _ _ _ _ _ _ _ _ _ _ _ _ _ _ _ _ _ _ _ _ _ _ _ _ _ _ _ _ _ _ _ _ _ _ _ _ _ _ _ _ _ _ hm (by kernel_rfl)) rfl (by kernel_rfl)
theorem nxtAll0 (i : Nat) (hi : i < 30) (h2 : Same2 Y (us (i + 1)) U') (hm : MoreHeld (rw (i + 1)) R') : SumOk Y env (nxt0 i U' R') := by
  have h : i = 0 ∨ i = 1 ∨ i = 2 ∨ i = 3 ∨ i = 4 ∨ i = 5 ∨ i = 6 ∨ i = 7 ∨ i = 8 ∨ i = 9 ∨ i = 10 ∨ i = 11 ∨ i = 12 ∨ i = 13 ∨ i = 14 ∨ i = 15 ∨ i = 16 ∨ i = 17 ∨ i = 18 ∨ i = 19 ∨ i = 20 ∨ i = 21 ∨ i = 22 ∨ i = 23 ∨ i = 24 ∨ i = 25 ∨ i = 26 ∨ i = 27 ∨ i = 28 ∨ i = 29 := by omega
  rcases h with rfl | rfl | rfl | rfl | rfl | rfl | rfl | rfl | rfl | rfl | rfl | rfl | rfl | rfl | rfl | rfl | rfl | rfl | rfl | rfl | rfl | rfl | rfl | rfl | rfl | rfl | rfl | rfl | rfl | rfl
  · exact nx0_0 h2 hm
  · exact nx0_1 h2 hm
  · exact nx0_2 h2 hm
  · exact nx0_3 h2 hm
  · exact nx0_4 h2 hm
  · exact nx0_5 h2 hm
  · exact nx0_6 h2 hm
  · exact nx0_7 h2 hm
  · exact nx0_8 h2 hm
  · exact nx0_9 h2 hm
  · exact nx0_10 h2 hm
  · exact nx0_11 h2 hm
  · exact nx0_12 h2 hm
  · exact nx0_13 h2 hm
  · exact nx0_14 h2 hm
  · exact nx0_15 h2 hm
  · exact nx0_16 h2 hm
  · exact nx0_17 h2 hm
  · exact nx0_18 h2 hm
  · exact nx0_19 h2 hm
  · exact nx0_20 h2 hm
  · exact nx0_21 h2 hm
  · exact nx0_22 h2 hm
  · exact nx0_23 h2 hm
  · exact nx0_24 h2 hm
  · exact nx0_25 h2 hm
  · exact nx0_26 h2 hm
  · exact nx0_27 h2 hm
  · exact nx0_28 h2 hm
  · exact nx0_29 h2 hm
theorem tckAll0 (i : Nat) (hi : i < 31) : SumOk Y env (tck0 i) := by
  have h : i = 0 ∨ i = 1 ∨ i = 2 ∨ i = 3 ∨ i = 4 ∨ i = 5 ∨ i = 6 ∨ i = 7 ∨ i = 8 ∨ i = 9 ∨ i = 10 ∨ i = 11 ∨ i = 12 ∨ i = 13 ∨ i = 14 ∨ i = 15 ∨ i = 16 ∨ i = 17 ∨ i = 18 ∨ i = 19 ∨ i = 20 ∨ i = 21 ∨ i = 22 ∨ i = 23 ∨ i = 24 ∨ i = 25 ∨ i = 26 ∨ i = 27 ∨ i = 28 ∨ i = 29 ∨ i = 30 := by omega
  rcases h with rfl | rfl | rfl | rfl | rfl | rfl | rfl | rfl | rfl | rfl | rfl | rfl | rfl | rfl | rfl | rfl | rfl | rfl | rfl | rfl | rfl | rfl | rfl | rfl | rfl | rfl | rfl | rfl | rfl | rfl | rfl
  · exact tick0_0
  · exact tick0_1
  · exact tick0_2
  · exact tick0_3
  · exact tick0_4
  · exact tick0_5
  · exact tick0_6
  · exact tick0_7
  · exact tick0_8
  · exact tick0_9
  · exact tick0_10
  · exact tick0_11
  · exact tick0_12
  · exact tick0_13
  · exact tick0_14
  · exact tick0_15
  · exact tick0_16
  · exact tick0_17
  · exact tick0_18
  · exact tick0_19
  · exact tick0_20
  · exact tick0_21
  · exact tick0_22
  · exact tick0_23
  · exact tick0_24
  · exact tick0_25
  · exact tick0_26
  · exact tick0_27
  · exact tick0_28
  · exact tick0_29
  · exact tick0_30
theorem nxtAll1 (i : Nat) (hi : i < 30) (h2 : Same2 Y (us (i + 1)) U') (hm : MoreHeld (rw (i + 1)) R') : SumOk Y env (nxt1 i U' R') := by
  have h : i = 0 ∨ i = 1 ∨ i = 2 ∨ i = 3 ∨ i = 4 ∨ i = 5 ∨ i = 6 ∨ i = 7 ∨ i = 8 ∨ i = 9 ∨ i = 10 ∨ i = 11 ∨ i = 12 ∨ i = 13 ∨ i = 14 ∨ i = 15 ∨ i = 16 ∨ i = 17 ∨ i = 18 ∨ i = 19 ∨ i = 20 ∨ i = 21 ∨ i = 22 ∨ i = 23 ∨ i = 24 ∨ i = 25 ∨ i = 26 ∨ i = 27 ∨ i = 28 ∨ i = 29 := by omega
  rcases h with rfl | rfl | rfl | rfl | rfl | rfl | rfl | rfl | rfl | rfl | rfl | rfl | rfl | rfl | rfl | rfl | rfl | rfl | rfl | rfl | rfl | rfl | rfl | rfl | rfl | rfl | rfl | rfl | rfl | rfl
  · exact nx1_0 h2 hm
  · exact nx1_1 h2 hm
  · exact nx1_2 h2 hm
  · exact nx1_3 h2 hm
  · exact nx1_4 h2 hm
  · exact nx1_5 h2 hm
  · exact nx1_6 h2 hm
  · exact nx1_7 h2 hm
  · exact nx1_8 h2 hm
  · exact nx1_9 h2 hm
  · exact nx1_10 h2 hm
  · exact nx1_11 h2 hm
  · exact nx1_12 h2 hm
  · exact nx1_13 h2 hm
  · exact nx1_14 h2 hm
  · exact nx1_15 h2 hm
  · exact nx1_16 h2 hm
  · exact nx1_17 h2 hm
  · exact nx1_18 h2 hm
  · exact nx1_19 h2 hm
  · exact nx1_20 h2 hm
  · exact nx1_21 h2 hm
  · exact nx1_22 h2 hm
  · exact nx1_23 h2 hm
  · exact nx1_24 h2 hm
  · exact nx1_25 h2 hm
  · exact nx1_26 h2 hm
  · exact nx1_27 h2 hm
  · exact nx1_28 h2 hm
  · exact nx1_29 h2 hm
theorem tckAll1 (i : Nat) (hi : i < 31) : SumOk Y env (tck1 i) := by
  have h : i = 0 ∨ i = 1 ∨ i = 2 ∨ i = 3 ∨ i = 4 ∨ i = 5 ∨ i = 6 ∨ i = 7 ∨ i = 8 ∨ i = 9 ∨ i = 10 ∨ i = 11 ∨ i = 12 ∨ i = 13 ∨ i = 14 ∨ i = 15 ∨ i = 16 ∨ i = 17 ∨ i = 18 ∨ i = 19 ∨ i = 20 ∨ i = 21 ∨ i = 22 ∨ i = 23 ∨ i = 24 ∨ i = 25 ∨ i = 26 ∨ i = 27 ∨ i = 28 ∨ i = 29 ∨ i = 30 := by omega
  rcases h with rfl | rfl | rfl | rfl | rfl | rfl | rfl | rfl | rfl | rfl | rfl | rfl | rfl | rfl | rfl | rfl | rfl | rfl | rfl | rfl | rfl | rfl | rfl | rfl | rfl | rfl | rfl | rfl | rfl | rfl | rfl
  · exact tick1_0
  · exact tick1_1
  · exact tick1_2
  · exact tick1_3
  · exact tick1_4
  · exact tick1_5
  · exact tick1_6
  · exact tick1_7
  · exact tick1_8
  · exact tick1_9
  · exact tick1_10
  · exact tick1_11
  · exact tick1_12
  · exact tick1_13
  · exact tick1_14
  · exact tick1_15
  · exact tick1_16
  · exact tick1_17
  · exact tick1_18
  · exact tick1_19
  · exact tick1_20
  · exact tick1_21
  · exact tick1_22
  · exact tick1_23
  · exact tick1_24
  · exact tick1_25
  · exact tick1_26
  · exact tick1_27
  · exact tick1_28
  · exact tick1_29
  · exact tick1_30
theorem nxtAll2 (i : Nat) (hi : i < 30) (h2 : Same2 Y (us (i + 1)) U') (hm : MoreHeld (rw (i + 1)) R') : SumOk Y env (nxt2 i U' R') := by
  have h : i = 0 ∨ i = 1 ∨ i = 2 ∨ i = 3 ∨ i = 4 ∨ i = 5 ∨ i = 6 ∨ i = 7 ∨ i = 8 ∨ i = 9 ∨ i = 10 ∨ i = 11 ∨ i = 12 ∨ i = 13 ∨ i = 14 ∨ i = 15 ∨ i = 16 ∨ i = 17 ∨ i = 18 ∨ i = 19 ∨ i = 20 ∨ i = 21 ∨ i = 22 ∨ i = 23 ∨ i = 24 ∨ i = 25 ∨ i = 26 ∨ i = 27 ∨ i = 28 ∨ i = 29 := by omega
  rcases h with rfl | rfl | rfl | rfl | rfl | rfl | rfl | rfl | rfl | rfl | rfl | rfl | rfl | rfl | rfl | rfl | rfl | rfl | rfl | rfl | rfl | rfl | rfl | rfl | rfl | rfl | rfl | rfl | rfl | rfl
  · exact nx2_0 h2 hm
  · exact nx2_1 h2 hm
  · exact nx2_2 h2 hm
  · exact nx2_3 h2 hm
  · exact nx2_4 h2 hm
  · exact nx2_5 h2 hm
  · exact nx2_6 h2 hm
  · exact nx2_7 h2 hm
  · exact nx2_8 h2 hm
  · exact nx2_9 h2 hm
  · exact nx2_10 h2 hm
  · exact nx2_11 h2 hm
  · exact nx2_12 h2 hm
  · exact nx2_13 h2 hm
  · exact nx2_14 h2 hm
  · exact nx2_15 h2 hm
  · exact nx2_16 h2 hm
  · exact nx2_17 h2 hm
  · exact nx2_18 h2 hm
  · exact nx2_19 h2 hm
  · exact nx2_20 h2 hm
  · exact nx2_21 h2 hm
  · exact nx2_22 h2 hm
  · exact nx2_23 h2 hm
  · exact nx2_24 h2 hm
  · exact nx2_25 h2 hm
  · exact nx2_26 h2 hm
  · exact nx2_27 h2 hm
  · exact nx2_28 h2 hm
  · exact nx2_29 h2 hm
theorem tckAll2 (i : Nat) (hi : i < 31) : SumOk Y env (tck2 i) := by
  have h : i = 0 ∨ i = 1 ∨ i = 2 ∨ i = 3 ∨ i = 4 ∨ i = 5 ∨ i = 6 ∨ i = 7 ∨ i = 8 ∨ i = 9 ∨ i = 10 ∨ i = 11 ∨ i = 12 ∨ i = 13 ∨ i = 14 ∨ i = 15 ∨ i = 16 ∨ i = 17 ∨ i = 18 ∨ i = 19 ∨ i = 20 ∨ i = 21 ∨ i = 22 ∨ i = 23 ∨ i = 24 ∨ i = 25 ∨ i = 26 ∨ i = 27 ∨ i = 28 ∨ i = 29 ∨ i = 30 := by omega
  rcases h with rfl | rfl | rfl | rfl | rfl | rfl | rfl | rfl | rfl | rfl | rfl | rfl | rfl | rfl | rfl | rfl | rfl | rfl | rfl | rfl | rfl | rfl | rfl | rfl | rfl | rfl | rfl | rfl | rfl | rfl | rfl
  · exact tick2_0
  · exact tick2_1
  · exact tick2_2
  · exact tick2_3
  · exact tick2_4
  · exact tick2_5
  · exact tick2_6
  · exact tick2_7
  · exact tick2_8
  · exact tick2_9
  · exact tick2_10
  · exact tick2_11
  · exact tick2_12
  · exact tick2_13
  · exact tick2_14
  · exact tick2_15
  · exact tick2_16
  · exact tick2_17
  · exact tick2_18
  · exact tick2_19
  · exact tick2_20
  · exact tick2_21
  · exact tick2_22
  · exact tick2_23
  · exact tick2_24
  · exact tick2_25
  · exact tick2_26
  · exact tick2_27
  · exact tick2_28
  · exact tick2_29
  · exact tick2_30
theorem nxtAll3 (i : Nat) (hi : i < 30) (h2 : Same2 Y (us (i + 1)) U') (hm : MoreHeld (rw (i + 1)) R') : SumOk Y env (nxt3 i U' R') := by
  have h : i = 0 ∨ i = 1 ∨ i = 2 ∨ i = 3 ∨ i = 4 ∨ i = 5 ∨ i = 6 ∨ i = 7 ∨ i = 8 ∨ i = 9 ∨ i = 10 ∨ i = 11 ∨ i = 12 ∨ i = 13 ∨ i = 14 ∨ i = 15 ∨ i = 16 ∨ i = 17 ∨ i = 18 ∨ i = 19 ∨ i = 20 ∨ i = 21 ∨ i = 22 ∨ i = 23 ∨ i = 24 ∨ i = 25 ∨ i = 26 ∨ i = 27 ∨ i = 28 ∨ i = 29 := by omega
  rcases h with rfl | rfl | rfl | rfl | rfl | rfl | rfl | rfl | rfl | rfl | rfl | rfl | rfl | rfl | rfl | rfl | rfl | rfl | rfl | rfl | rfl | rfl | rfl | rfl | rfl | rfl | rfl | rfl | rfl | rfl
  · exact nx3_0 h2 hm
  · exact nx3_1 h2 hm
  · exact nx3_2 h2 hm
  · exact nx3_3 h2 hm
  · exact nx3_4 h2 hm
  · exact nx3_5 h2 hm
  · exact nx3_6 h2 hm
  · exact nx3_7 h2 hm
  · exact nx3_8 h2 hm
  · exact nx3_9 h2 hm
  · exact nx3_10 h2 hm
  · exact nx3_11 h2 hm
  · exact nx3_12 h2 hm
  · exact nx3_13 h2 hm
  · exact nx3_14 h2 hm
  · exact nx3_15 h2 hm
  · exact nx3_16 h2 hm
  · exact nx3_17 h2 hm
  · exact nx3_18 h2 hm
  · exact nx3_19 h2 hm
  · exact nx3_20 h2 hm
  · exact nx3_21 h2 hm
  · exact nx3_22 h2 hm
  · exact nx3_23 h2 hm
  · exact nx3_24 h2 hm
  · exact nx3_25 h2 hm
  · exact nx3_26 h2 hm
  · exact nx3_27 h2 hm
  · exact nx3_28 h2 hm
  · exact nx3_29 h2 hm
theorem tckAll3 (i : Nat) (hi : i < 31) : SumOk Y env (tck3 i) := by
  have h : i = 0 ∨ i = 1 ∨ i = 2 ∨ i = 3 ∨ i = 4 ∨ i = 5 ∨ i = 6 ∨ i = 7 ∨ i = 8 ∨ i = 9 ∨ i = 10 ∨ i = 11 ∨ i = 12 ∨ i = 13 ∨ i = 14 ∨ i = 15 ∨ i = 16 ∨ i = 17 ∨ i = 18 ∨ i = 19 ∨ i = 20 ∨ i = 21 ∨ i = 22 ∨ i = 23 ∨ i = 24 ∨ i = 25 ∨ i = 26 ∨ i = 27 ∨ i = 28 ∨ i = 29 ∨ i = 30 := by omega
  rcases h with rfl | rfl | rfl | rfl | rfl | rfl | rfl | rfl | rfl | rfl | rfl | rfl | rfl | rfl | rfl | rfl | rfl | rfl | rfl | rfl | rfl | rfl | rfl | rfl | rfl | rfl | rfl | rfl | rfl | rfl | rfl
  · exact tick3_0
  · exact tick3_1
  · exact tick3_2
  · exact tick3_3
  · exact tick3_4
  · exact tick3_5
  · exact tick3_6
  · exact tick3_7
  · exact tick3_8
  · exact tick3_9
  · exact tick3_10
  · exact tick3_11
  · exact tick3_12
  · exact tick3_13
  · exact tick3_14
  · exact tick3_15
  · exact tick3_16
  · exact tick3_17
  · exact tick3_18
  · exact tick3_19
  · exact tick3_20
  · exact tick3_21
  · exact tick3_22
  · exact tick3_23
  · exact tick3_24
  · exact tick3_25
  · exact tick3_26
  · exact tick3_27
  · exact tick3_28
  · exact tick3_29
  · exact tick3_30

end
end Go.Proofs.YtianjdlnljhgoaaGreatDoor
