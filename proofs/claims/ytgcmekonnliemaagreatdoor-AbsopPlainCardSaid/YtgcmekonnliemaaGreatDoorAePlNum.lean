/-
  What package num and its callees answer, as far as it is wanted: that there is an answer, and of what kind.
  Numbers as the evaluator sees them, and what is wanted of an operator's answer.
-/
import Derived.WalkKit
import Derived.WalkSpells
import Derived.WalkSmall
import Derived.LoopTactic
import Derived.Test.YtgcmekonnliemaaGreatDoorAeEnv
import Derived.Test.YtgcmekonnliemaaGreatDoorAePlStr
namespace Go.Proofs.YtgcmekonnliemaaGreatDoor
open Go.RowKit
set_option maxRecDepth 100000

/-- the value of a digit's byte -/
def digF (c : Int) : Int := if 48 ≤ c ∧ c ≤ 57 then c - 48 else if 97 ≤ c ∧ c ≤ 102 then c - 87 else if 65 ≤ c ∧ c ≤ 70 then c - 55 else 99

theorem digF_in (c : Int) : 0 ≤ digF c ∧ digF c ≤ 99 := by
  unfold digF
  repeat' split
  all_goals omega

theorem digit_ret (c : Int) (h0 : 0 ≤ c) (h1 : c ≤ 255) (w : World) : Calls Tryz.prog 194 #[.int .u8 c] w fun e w' => e = .returned (.int .i64 (digF c)) ∧ w' = w := by
  go_enter Tryz.func194, Tryz.ntmps194
  go_wp2
  all_goals
    go_ret
    refine ⟨?_, rfl⟩
    refine congrArg (fun z => Ending.returned (.int .i64 z)) ?_
    unfold digF
    repeat' split
    all_goals omega

def byteAt (s : ByteArray) (k : Nat) : Int := ((s[k]?.getD 0).toNat : Int)

/-- the number that the first bytes give, if they do -/
def cntF (s : ByteArray) (b : Int) : Nat → Option Int
  | 0 => some 0
  | k + 1 => match cntF s b k with
    | none => none
    | some n => if b ≤ digF (byteAt s k) then none else if 9007199254740992 < n * b + digF (byteAt s k) then none else some (n * b + digF (byteAt s k))

theorem cntF_none {s : ByteArray} {b : Int} {k : Nat} (h : cntF s b k = none) : ∀ {m : Nat}, k ≤ m → cntF s b m = none := by
  intro m hm
  induction m with
  | zero =>
    obtain rfl : k = 0 := by omega
    exact h
  | succ m ih =>
    rcases Nat.lt_or_ge m k with h' | h'
    · obtain rfl : k = m + 1 := by omega
      exact h
    · rw [cntF, ih h']

theorem cntF_in {s : ByteArray} {b : Int} (hb : 0 ≤ b) : ∀ {k : Nat} {n : Int}, cntF s b k = some n → 0 ≤ n ∧ n ≤ 9007199254740992
  | 0, n, h => by cases h; omega
  | k + 1, n, h => by
    rw [cntF] at h
    split at h
    · cases h
    · rename_i m hm
      have hi := cntF_in hb hm
      have hd := digF_in (byteAt s k)
      split at h
      · cases h
      · split at h
        · cases h
        · cases h
          have := Int.mul_nonneg hi.1 hb
          omega

def cntR (s : ByteArray) (b : Int) : Value := match cntF s b s.size with
  | none => .tuple #[.int .i64 0, .bool false]
  | some n => .tuple #[.int .i64 n, .bool (!s.toList.isEmpty)]

theorem byteAt_eq {s : ByteArray} {k : Nat} (h : k < s.size) : byteAt s k = (s[k].toNat : Int) := by
  unfold byteAt
  rw [getElem?_pos s k h]
  rfl

theorem cnt_bad {s : ByteArray} {b m : Int} {k : Nat} (hm : cntF s b k = some m) (h : k < s.size) (hd : b ≤ digF (s[k].toNat : Int)) : cntR s b = .tuple #[.int .i64 0, .bool false] := by
  have : cntF s b (k + 1) = none := by
    rw [cntF, hm]
    simp only [byteAt_eq h, hd, if_true]
  unfold cntR
  rw [cntF_none this h]

theorem cnt_big {s : ByteArray} {b m : Int} {k : Nat} (hm : cntF s b k = some m) (h : k < s.size) (hd : ¬ b ≤ digF (s[k].toNat : Int)) (hg : 9007199254740992 < m * b + digF (s[k].toNat : Int)) : cntR s b = .tuple #[.int .i64 0, .bool false] := by
  have : cntF s b (k + 1) = none := by
    rw [cntF, hm]
    simp only [byteAt_eq h, hd, hg, if_true, if_false]
  unfold cntR
  rw [cntF_none this h]

theorem cnt_next {s : ByteArray} {b m : Int} {k : Nat} (hm : cntF s b k = some m) (h : k < s.size) (hd : ¬ b ≤ digF (s[k].toNat : Int)) (hg : ¬ 9007199254740992 < m * b + digF (s[k].toNat : Int)) : cntF s b (k + 1) = some (m * b + digF (s[k].toNat : Int)) := by
  rw [cntF, hm]
  simp only [byteAt_eq h, hd, hg, if_false]

theorem cnt_end {s : ByteArray} {b m : Int} {k : Nat} (hm : cntF s b k = some m) (hk : k ≤ s.size) (h : ¬ k < s.size) : cntR s b = .tuple #[.int .i64 m, .bool (!s.toList.isEmpty)] := by
  obtain rfl : k = s.size := by omega
  unfold cntR
  rw [hm]

theorem byte_255 (b : UInt8) : (b.toNat : Int) ≤ 255 := by have := b.toNat_lt; omega

set_option maxHeartbeats 1000000 in
theorem count_10 (s : ByteArray) (hs : s.size ≤ 9223372036854775807) (w : World) : Calls Tryz.prog 158 #[.string s, .int .i64 10] w fun e w' => e = .returned (cntR s 10) ∧ w' = w := by
  go_enter Tryz.func158, Tryz.ntmps158
  go_wp2
  go_loop [6, 11] (fun n i => ∃ (k : Nat) (m : Int), k ≤ s.size ∧ i = .int .i64 k ∧ n = .int .i64 m ∧ cntF s 10 k = some m) (fun _ i => s.size - (intOf i).toNat)
  case atStart => exact ⟨0, 0, Nat.zero_le _, rfl, rfl, rfl⟩
  case round =>
    obtain ⟨k, m, hk, rfl, rfl, hm⟩ := hrel
    have hm0 := cntF_in (by omega) hm
    go_wp2_with (go_at_call 194; refine (digit_ret _ (Int.natCast_nonneg _) (byte_255 _) _).mono ?_; rintro e w' ⟨rfl, rfl⟩)
    · have hd := digF_in (s[k].toNat : Int)
      go_ret2
      exact ⟨congrArg Ending.returned (cnt_bad hm (by assumption) (by assumption)).symm, rfl⟩
    · have hd := digF_in (s[k].toNat : Int)
      rename_i _ h2 h3
      rw [Go.IntWalk.wrap64_in _ (by omega)] at h3
      go_ret2
      exact ⟨congrArg Ending.returned (cnt_big hm (by assumption) (by omega) h3).symm, rfl⟩
    · go_round
      have hd := digF_in (s[k].toNat : Int)
      rename_i _ h2 h3
      rw [Go.IntWalk.wrap64_in _ (by omega)] at h3
      case rel => exact ⟨k + 1, m * 10 + digF (s[k].toNat : Int), by omega, by go_num, by rw [Go.IntWalk.wrap64_in _ (by omega)], cnt_next hm (by assumption) (by omega) (by omega)⟩
      case measure => first | omega | (simp [intOf]; omega)
    · go_ret2
      exact ⟨congrArg Ending.returned (cnt_end hm hk (by assumption)).symm, rfl⟩

set_option maxHeartbeats 1000000 in
theorem count_16 (s : ByteArray) (hs : s.size ≤ 9223372036854775807) (w : World) : Calls Tryz.prog 158 #[.string s, .int .i64 16] w fun e w' => e = .returned (cntR s 16) ∧ w' = w := by
  go_enter Tryz.func158, Tryz.ntmps158
  go_wp2
  go_loop [6, 11] (fun n i => ∃ (k : Nat) (m : Int), k ≤ s.size ∧ i = .int .i64 k ∧ n = .int .i64 m ∧ cntF s 16 k = some m) (fun _ i => s.size - (intOf i).toNat)
  case atStart => exact ⟨0, 0, Nat.zero_le _, rfl, rfl, rfl⟩
  case round =>
    obtain ⟨k, m, hk, rfl, rfl, hm⟩ := hrel
    have hm0 := cntF_in (by omega) hm
    go_wp2_with (go_at_call 194; refine (digit_ret _ (Int.natCast_nonneg _) (byte_255 _) _).mono ?_; rintro e w' ⟨rfl, rfl⟩)
    · have hd := digF_in (s[k].toNat : Int)
      go_ret2
      exact ⟨congrArg Ending.returned (cnt_bad hm (by assumption) (by assumption)).symm, rfl⟩
    · have hd := digF_in (s[k].toNat : Int)
      rename_i _ h2 h3
      rw [Go.IntWalk.wrap64_in _ (by omega)] at h3
      go_ret2
      exact ⟨congrArg Ending.returned (cnt_big hm (by assumption) (by omega) h3).symm, rfl⟩
    · go_round
      have hd := digF_in (s[k].toNat : Int)
      rename_i _ h2 h3
      rw [Go.IntWalk.wrap64_in _ (by omega)] at h3
      case rel => exact ⟨k + 1, m * 16 + digF (s[k].toNat : Int), by omega, by go_num, by rw [Go.IntWalk.wrap64_in _ (by omega)], cnt_next hm (by assumption) (by omega) (by omega)⟩
      case measure => first | omega | (simp [intOf]; omega)
    · go_ret2
      exact ⟨congrArg Ending.returned (cnt_end hm hk (by assumption)).symm, rfl⟩

end Go.Proofs.YtgcmekonnliemaaGreatDoor

namespace Go.Proofs.YtgcmekonnliemaaGreatDoor
open Go.AE
set_option maxRecDepth 100000

abbrev nanV : Value := vC 4 0 ByteArray.empty
abbrev numV (n : Int) : Value := vC 3 n ByteArray.empty
noncomputable def nanA : AV := .agg [.i64 4, .i64 0, .str []]
noncomputable def numA (i : Nat) : AV := .agg [.i64 3, .sint .i64 (.var i) (-9007199254740992) 9007199254740992, .str []]

/-- a truth value, a number or none -/
def Res (f : FuncId) (args : List Value) : Prop := ∃ k n : Int, 2 ≤ k ∧ k ≤ 4 ∧ -9007199254740992 ≤ n ∧ n ≤ 9007199254740992 ∧ AE.Returns Tryz.prog f args (vC k n ByteArray.empty)

section
variable {Y : Sy}

theorem nanA_ok (ρ : Rho) : conc Y ρ nanA = some nanV := rfl
theorem resN_ok {e : SX} {l h n : Int} (hn : e.val Y = n) (h1 : l ≤ n) (h2 : n ≤ h) (ρ : Rho) : conc Y ρ (.agg [.i64 3, .sint .i64 e l h, .str []]) = some (numV n) :=
  conc_val (isI_64 3) (isI_sym hn h1 h2) (isS_str rfl) rfl ρ
theorem numA_ok {i : Nat} {n : Int} (hn : Y.ints i = n) (h1 : -9007199254740992 ≤ n) (h2 : n ≤ 9007199254740992) (ρ : Rho) : conc Y ρ (numA i) = some (numV n) := resN_ok (e := .var i) hn h1 h2 ρ

theorem concs1 {x : AV} {cx : Value} (hx : ∀ ρ, conc Y ρ x = some cx) : concs Y (fun _ => none) [x] = some [cx] := concs_cons.2 ⟨_, _, hx _, rfl, rfl⟩
theorem concs2 {x y : AV} {cx cy : Value} (hx : ∀ ρ, conc Y ρ x = some cx) (hy : ∀ ρ, conc Y ρ y = some cy) : concs Y (fun _ => none) [x, y] = some [cx, cy] := concs_cons.2 ⟨_, _, hx _, concs1 hy, rfl⟩
theorem concs3 {x y z : AV} {cx cy cz : Value} (hx : ∀ ρ, conc Y ρ x = some cx) (hy : ∀ ρ, conc Y ρ y = some cy) (hz : ∀ ρ, conc Y ρ z = some cz) : concs Y (fun _ => none) [x, y, z] = some [cx, cy, cz] := concs_cons.2 ⟨_, _, hx _, concs2 hy hz, rfl⟩

end

def absF (n : Int) : Int := if n < 0 then -n else n
theorem absF_in {n : Int} (h1 : -9007199254740992 ≤ n) (h2 : n ≤ 9007199254740992) : 0 ≤ absF n ∧ absF n ≤ 9007199254740992 := by unfold absF; split <;> omega
theorem absF_pos {a : Int} (h : a ≠ 0) : 1 ≤ absF a := by unfold absF; split <;> omega

theorem quo_in (A : Int) (h : 1 ≤ A) : 0 ≤ (9007199254740992 : Int).tdiv A ∧ (9007199254740992 : Int).tdiv A ≤ 9007199254740992 := by
  have h1 := tdiv_abs (b := A) (a := 9007199254740992) (m := 9007199254740992) (by omega) (by omega)
  have h2 : 0 ≤ (9007199254740992 : Int).tdiv A := Int.tdiv_nonneg (by omega) (by omega)
  exact ⟨h2, h1.2⟩

theorem mul_abs {a b : Int} (hg : ¬ (9007199254740992 : Int).tdiv (absF a) < absF b) (h : 1 ≤ absF a) : -9007199254740992 ≤ a * b ∧ a * b ≤ 9007199254740992 := by
  have h1 : absF a * absF b ≤ 9007199254740992 := by
    have h2 : absF a * absF b ≤ absF a * ((9007199254740992 : Int).tdiv (absF a)) := Int.mul_le_mul_of_nonneg_left (by omega) (by omega)
    have h3 : absF a * ((9007199254740992 : Int).tdiv (absF a)) ≤ 9007199254740992 := Int.mul_tdiv_self_le (by omega)
    omega
  unfold absF at h1
  split at h1 <;> split at h1
  · rw [Int.neg_mul_neg] at h1
    have : 0 ≤ a * b := by
      rw [← Int.neg_mul_neg]
      exact Int.mul_nonneg (by omega) (by omega)
    omega
  · rw [Int.neg_mul] at h1
    have : 0 ≤ -a * b := Int.mul_nonneg (by omega) (by omega)
    rw [Int.neg_mul] at this
    omega
  · rw [Int.mul_neg] at h1
    have : 0 ≤ a * -b := Int.mul_nonneg (by omega) (by omega)
    rw [Int.mul_neg] at this
    omega
  · have : 0 ≤ a * b := Int.mul_nonneg (by omega) (by omega)
    omega

theorem abs_ret (n : Int) (h1 : -9007199254740992 ≤ n) (h2 : n ≤ 9007199254740992) : AE.Returns Tryz.prog 139 [.int .i64 n] (.int .i64 (absF n)) := fun w => by
  show Calls Tryz.prog 139 #[.int .i64 n] w _
  go_enter Tryz.func139, Tryz.ntmps139
  go_wp2
  all_goals
    go_ret
    exact ⟨congrArg (fun z => Ending.returned (.int .i64 z)) (by unfold absF; split <;> omega), RowKit.Below.refl _ _⟩

theorem hasAbs (fs : List (SX × Int × Int)) (os : List Orc) : hasBody (envQ fs os) 139 = true := by kernel_rfl

def lowV (n : Int) : Int := IntKind.wrap .i32 (IntKind.wrap .u32 (IntKind.wrap .u64 n))
def wrap64U (n : Int) : Int := IntKind.wrap .u32 n

theorem rem_32 (n : Int) : 0 ≤ (wrap64U n).tmod 32 ∧ (wrap64U n).tmod 32 ≤ 31 := by
  have h : (0 : Int) ≤ wrap64U n := (wrap_in .u32 n).1
  rw [Int.tmod_eq_emod_of_nonneg h]
  omega

theorem fdiv_32 {x : Int} {n : Nat} (h1 : -2147483648 ≤ x) (h2 : x ≤ 2147483647) : -2147483648 ≤ x.fdiv (2 ^ n) ∧ x.fdiv (2 ^ n) ≤ 2147483647 := by
  have hp : (1 : Int) ≤ 2 ^ n := by
    have : (0 : Int) < 2 ^ n := Int.pow_pos (by omega)
    omega
  rw [Int.fdiv_eq_ediv_of_nonneg _ (by omega)]
  constructor
  · rw [Int.le_ediv_iff_mul_le (by omega)]
    have := Int.mul_le_mul_of_nonneg_left hp (show (0 : Int) ≤ 2147483648 by omega)
    omega
  · refine Int.le_of_lt_add_one ?_
    rw [Int.ediv_lt_iff_lt_mul (by omega)]
    have := Int.mul_le_mul_of_nonneg_left hp (show (0 : Int) ≤ 2147483647 + 1 by omega)
    omega

end Go.Proofs.YtgcmekonnliemaaGreatDoor
