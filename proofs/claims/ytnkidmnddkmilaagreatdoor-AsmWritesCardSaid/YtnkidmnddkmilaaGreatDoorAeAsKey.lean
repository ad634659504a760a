/-
  Which texts are indices: the program's key.Index, the reference's.
-/
import Derived.Test.YtnkidmnddkmilaaGreatDoorAeAsConst
namespace Go.Proofs.YtnkidmnddkmilaaGreatDoor
open Go.RowKit
set_option maxRecDepth 100000

def byteAt (s : ByteArray) (k : Nat) : Int := ((s[k]?.getD 0).toNat : Int)
theorem byteAt_eq {s : ByteArray} {k : Nat} (h : k < s.size) : byteAt s k = (s[k].toNat : Int) := by
  unfold byteAt
  rw [getElem?_pos s k h]
  rfl

/-- the number that the first bytes say, if they do -/
def numF (s : ByteArray) : Nat → Option Int
  | 0 => some 0
  | k + 1 => match numF s k with
    | none => none
    | some n => if 48 ≤ byteAt s k ∧ byteAt s k ≤ 57 then some (10 * n + (byteAt s k - 48)) else none

theorem numF_none {s : ByteArray} {k : Nat} (h : numF s k = none) : ∀ {m : Nat}, k ≤ m → numF s m = none := by
  intro m hm
  induction m with
  | zero =>
    obtain rfl : k = 0 := by omega
    exact h
  | succ m ih =>
    rcases Nat.lt_or_ge m k with h' | h'
    · obtain rfl : k = m + 1 := by omega
      exact h
    · rw [numF, ih h']

theorem numF_in {s : ByteArray} : ∀ {k : Nat} {n : Int}, numF s k = some n → 0 ≤ n ∧ n < ((10 ^ k : Nat) : Int)
  | 0, n, h => by cases h; decide
  | k + 1, n, h => by
    rw [numF] at h
    split at h
    · cases h
    · rename_i m hm
      have hi := numF_in hm
      split at h
      · cases h
        rw [Nat.pow_succ]
        omega
      · cases h

theorem numF_small {s : ByteArray} {k : Nat} {n : Int} (h : numF s k = some n) (hk : k ≤ 10) : 0 ≤ n ∧ n < 10000000000 := by
  have h1 := numF_in h
  have h2 : ((10 ^ k : Nat) : Int) ≤ ((10 ^ 10 : Nat) : Int) := Int.ofNat_le.2 (Nat.pow_le_pow_right (by omega) hk)
  have h3 : (10 ^ 10 : Nat) = 10000000000 := by decide
  rw [h3] at h2
  omega

theorem num_bad {s : ByteArray} {k : Nat} (h : k < s.size) (hd : ¬ (48 ≤ (s[k].toNat : Int) ∧ (s[k].toNat : Int) ≤ 57)) : numF s s.size = none := by
  have : numF s (k + 1) = none := by
    rw [numF]
    split
    · rfl
    · rw [byteAt_eq h, if_neg hd]
  exact numF_none this h

theorem num_next {s : ByteArray} {k : Nat} {m : Int} (hm : numF s k = some m) (h : k < s.size) (hd : 48 ≤ (s[k].toNat : Int) ∧ (s[k].toNat : Int) ≤ 57) : numF s (k + 1) = some (10 * m + ((s[k].toNat : Int) - 48)) := by
  rw [numF, hm]
  simp only [byteAt_eq h]
  rw [if_pos hd]

/-- the index that a text says -/
def idxF (s : ByteArray) : Option Int :=
  if s.size = 0 ∨ 10 < s.size ∨ (byteAt s 0 = 48 ∧ 1 < s.size) then none
  else match numF s s.size with
    | none => none
    | some n => if 4294967294 < n then none else some n

def idxV (s : ByteArray) : Value := match idxF s with | none => .tuple #[.int .i64 0, .bool false] | some n => .tuple #[.int .i64 n, .bool true]

theorem idx_early {s : ByteArray} (h : s.size = 0 ∨ 10 < s.size ∨ (byteAt s 0 = 48 ∧ 1 < s.size)) : idxV s = .tuple #[.int .i64 0, .bool false] := by
  unfold idxV idxF
  rw [if_pos h]
theorem idx_bad {s : ByteArray} (h : numF s s.size = none) : idxV s = .tuple #[.int .i64 0, .bool false] := by
  have e : idxF s = none := by
    unfold idxF
    rw [h]
    simp only [ite_self]
  unfold idxV
  rw [e]
theorem idx_big {s : ByteArray} {n : Int} (h : numF s s.size = some n) (hn : 4294967294 < n) : idxV s = .tuple #[.int .i64 0, .bool false] := by
  have e : idxF s = none := by
    unfold idxF
    rw [h]
    simp only [if_pos hn, ite_self]
  unfold idxV
  rw [e]
theorem idx_ok {s : ByteArray} {n : Int} (h0 : ¬ (s.size = 0 ∨ 10 < s.size ∨ (byteAt s 0 = 48 ∧ 1 < s.size))) (h : numF s s.size = some n) (hn : ¬ 4294967294 < n) : idxV s = .tuple #[.int .i64 n, .bool true] := by
  unfold idxV idxF
  rw [if_neg h0, h]
  simp only [if_neg hn]

theorem byte_hi' (c : UInt8) : (c.toNat : Int) ≤ 255 := byte_hi c

/-- a digit's value -/
def worF (c : Int) : Int := if 48 ≤ c ∧ c ≤ 57 then c - 48 else -1

theorem worth_ret (c : Int) (h0 : 0 ≤ c) (h1 : c ≤ 255) (w : World) : Calls Tryz.prog 113 #[.int .u8 c, .int .i64 10] w fun e w' => e = .returned (.int .i64 (worF c)) ∧ w = w' := by
  go_enter Tryz.func113, Tryz.ntmps113
  go_wp2
  all_goals
    go_ret
    refine ⟨ret_int ?_, rfl⟩
    unfold worF
    split
    all_goals omega

def cntV (s : ByteArray) : Value := match numF s s.size with | none => .tuple #[.int .i64 0, .bool false] | some n => .tuple #[.int .i64 n, .bool (!s.toList.isEmpty)]

set_option maxHeartbeats 1000000 in
theorem count_ret (s : ByteArray) (hs : s.size ≤ 10) (w : World) : Calls Tryz.prog 98 #[.string s, .int .i64 10] w fun e w' => e = .returned (cntV s) ∧ w = w' := by
  go_enter Tryz.func98, Tryz.ntmps98
  go_wp2
  go_loop [6, 7] (fun n i => ∃ (k : Nat) (m : Int), k ≤ s.size ∧ i = .int .i64 k ∧ n = .int .i64 m ∧ numF s k = some m) (fun _ i => s.size - (intOf i).toNat)
  case atStart => exact ⟨0, 0, Nat.zero_le _, rfl, rfl, rfl⟩
  case round =>
    obtain ⟨k, m, hk, rfl, rfl, hm⟩ := hrel
    obtain ⟨hm0, hm1⟩ := numF_small hm (by omega)
    have HM := Lib.hid hm
    clear hm
    by_cases hlt : k < s.size
    · have hc := byte_hi s[k]
      have hc0 : (0 : Int) ≤ (s[k].toNat : Int) := Int.natCast_nonneg _
      by_cases hd : 48 ≤ (s[k].toNat : Int) ∧ (s[k].toNat : Int) ≤ 57
      · have hw : ∀ w, Calls Tryz.prog 113 #[.int .u8 (s[k].toNat : Int), .int .i64 10] w fun e w' => e = .returned (.int .i64 ((s[k].toNat : Int) - 48)) ∧ w = w' := fun w => (worth_ret _ hc0 hc w).mono fun e w' he => ⟨by rw [he.1, worF, if_pos hd], he.2⟩
        have HN := Lib.hid (num_next HM.out hlt hd)
        obtain ⟨hd0, hd1⟩ := hd
        go_wp2_with (go_at_call 113; refine (hw _).mono ?_; rintro e w' ⟨rfl, rfl⟩)
        go_round
        case rel => exact ⟨k + 1, 10 * m + ((s[k].toNat : Int) - 48), by omega, by go_num, congrArg (Value.int .i64) (by omega), HN.out⟩
        case measure => simp [intOf]; omega
      · have hw : ∀ w, Calls Tryz.prog 113 #[.int .u8 (s[k].toNat : Int), .int .i64 10] w fun e w' => e = .returned (.int .i64 (-1)) ∧ w = w' := fun w => (worth_ret _ hc0 hc w).mono fun e w' he => ⟨by rw [he.1, worF, if_neg hd], he.2⟩
        have HN := Lib.hid (num_bad hlt hd)
        clear hd
        go_wp2_with (go_at_call 113; refine (hw _).mono ?_; rintro e w' ⟨rfl, rfl⟩)
        go_ret2
        exact ⟨congrArg Ending.returned (by unfold cntV; rw [HN.out]; rfl), rfl⟩
    · have hk' : k = s.size := by omega
      have HN : Hid (numF s s.size = some m) := Lib.hid (by rw [← hk']; exact HM.out)
      clear hk'
      go_wp2
      go_ret2
      exact ⟨congrArg Ending.returned (by unfold cntV; rw [HN.out]; rfl), rfl⟩

set_option maxHeartbeats 2000000 in
theorem index_ret (s : ByteArray) (hs : s.size ≤ 1499) (w : World) : Calls Tryz.prog 66 #[.string s] w fun e w' => e = .returned (idxV s) ∧ w = w' := by
  by_cases h0 : s.size = 0
  · have HB := Lib.hid (idx_early (s := s) (Or.inl h0))
    have he : s = ByteArray.empty := by
      apply ByteArray.ext
      apply Array.eq_empty_of_size_eq_zero
      exact h0
    have hi : idxV ByteArray.empty = .tuple #[.int .i64 0, .bool false] := by rw [← he]; exact HB.out
    subst he
    have HI := Lib.hid hi
    clear HB h0 hi
    go_enter Tryz.func66, Tryz.ntmps66
    go_wp2
    go_ret2
    exact ⟨congrArg Ending.returned HI.out.symm, rfl⟩
  have hne : s.toList.isEmpty = false := by
    rw [ByteArray.toList_eq]
    cases h : s.data.toList with
    | nil => exact absurd (by rw [← Array.length_toList, h]; rfl : s.data.size = 0) h0
    | cons => rfl
  by_cases h10 : 10 < s.size
  · have HB := Lib.hid (idx_early (s := s) (Or.inr (Or.inl h10)))
    have h10' : (10 : Int) < (s.size : Int) := by omega
    go_enter Tryz.func66, Tryz.ntmps66
    go_wp2
    go_ret2
    exact ⟨congrArg Ending.returned HB.out.symm, rfl⟩
  have h10' : (s.size : Int) ≤ 10 := by omega
  have h10d : decide (10 < s.size) = false := by simp; omega
  have hpos : 0 < s.size := by omega
  have eb := byteAt_eq hpos
  have hc := byte_hi s[0]
  by_cases h48 : (s[0].toNat : Int) = 48
  · have f48 : ((s[0].toNat : Int) == 48) = true := by simpa using h48
    by_cases h1 : 1 < s.size
    · have HB := Lib.hid (idx_early (s := s) (Or.inr (Or.inr ⟨eb.trans h48, h1⟩)))
      have h1' : (1 : Int) < (s.size : Int) := by omega
      clear eb h48
      go_enter Tryz.func66, Tryz.ntmps66
      go_wp2
      go_ret2
      exact ⟨congrArg Ending.returned HB.out.symm, rfl⟩
    · have H0 : Hid (¬ (s.size = 0 ∨ 10 < s.size ∨ (byteAt s 0 = 48 ∧ 1 < s.size))) := Lib.hid (by omega)
      have h1' : decide (1 < s.size) = false := by simp; omega
      clear eb h48
      go_enter Tryz.func66, Tryz.ntmps66
      go_wp2
      go_loop [4, 25] (fun n i => ∃ (k : Nat) (m : Int), k ≤ s.size ∧ i = .int .i64 k ∧ n = .int .i64 m ∧ numF s k = some m) (fun _ i => s.size - (intOf i).toNat)
      case atStart => exact ⟨0, 0, Nat.zero_le _, rfl, rfl, rfl⟩
      case round =>
        obtain ⟨k, m, hk, rfl, rfl, hm⟩ := hrel
        obtain ⟨hm0, hm1⟩ := numF_small hm (by omega)
        have HM := Lib.hid hm
        clear hm
        by_cases hlt : k < s.size
        · have hc := byte_hi s[k]
          have hc0 : (0 : Int) ≤ (s[k].toNat : Int) := Int.natCast_nonneg _
          by_cases hd : 48 ≤ (s[k].toNat : Int) ∧ (s[k].toNat : Int) ≤ 57
          · have HN := Lib.hid (num_next HM.out hlt hd)
            obtain ⟨hd0, hd1⟩ := hd
            have hd2 : decide ((s[k].toNat : Int) < 48) = false := by simp; omega
            have hd3 : decide (57 < (s[k].toNat : Int)) = false := by simp; omega
            go_wp2
            go_round
            case rel => exact ⟨k + 1, 10 * m + ((s[k].toNat : Int) - 48), by omega, by go_num, congrArg (Value.int .i64) (by omega), HN.out⟩
            case measure => simp [intOf]; omega
          · have HN := Lib.hid (idx_bad (num_bad hlt hd))
            have hd' : (s[k].toNat : Int) < 48 ∨ 57 < (s[k].toNat : Int) := by omega
            clear hd
            rcases hd' with hd | hd
            · go_wp2
              go_ret2
              exact ⟨congrArg Ending.returned HN.out.symm, rfl⟩
            · have hd2 : decide ((s[k].toNat : Int) < 48) = false := by simp; omega
              go_wp2
              go_ret2
              exact ⟨congrArg Ending.returned HN.out.symm, rfl⟩
        · have hk' : k = s.size := by omega
          have HN : Hid (numF s s.size = some m) := Lib.hid (by rw [← hk']; exact HM.out)
          clear hk'
          by_cases hb : 4294967294 < m
          · have HB := Lib.hid (idx_big HN.out hb)
            go_wp2
            go_ret2
            exact ⟨congrArg Ending.returned HB.out.symm, rfl⟩
          · have HB := Lib.hid (idx_ok H0.out HN.out hb)
            have hb' : m ≤ 4294967294 := by omega
            clear hb
            go_wp2
            go_ret2
            exact ⟨congrArg Ending.returned HB.out.symm, rfl⟩
  · have f48 : ((s[0].toNat : Int) == 48) = false := by simpa using h48
    have H0 : Hid (¬ (s.size = 0 ∨ 10 < s.size ∨ (byteAt s 0 = 48 ∧ 1 < s.size))) := Lib.hid (by rw [eb]; omega)
    clear eb h48
    · go_enter Tryz.func66, Tryz.ntmps66
      go_wp2
      go_loop [4, 25] (fun n i => ∃ (k : Nat) (m : Int), k ≤ s.size ∧ i = .int .i64 k ∧ n = .int .i64 m ∧ numF s k = some m) (fun _ i => s.size - (intOf i).toNat)
      case atStart => exact ⟨0, 0, Nat.zero_le _, rfl, rfl, rfl⟩
      case round =>
        obtain ⟨k, m, hk, rfl, rfl, hm⟩ := hrel
        obtain ⟨hm0, hm1⟩ := numF_small hm (by omega)
        have HM := Lib.hid hm
        clear hm
        by_cases hlt : k < s.size
        · have hc := byte_hi s[k]
          have hc0 : (0 : Int) ≤ (s[k].toNat : Int) := Int.natCast_nonneg _
          by_cases hd : 48 ≤ (s[k].toNat : Int) ∧ (s[k].toNat : Int) ≤ 57
          · have HN := Lib.hid (num_next HM.out hlt hd)
            obtain ⟨hd0, hd1⟩ := hd
            have hd2 : decide ((s[k].toNat : Int) < 48) = false := by simp; omega
            have hd3 : decide (57 < (s[k].toNat : Int)) = false := by simp; omega
            go_wp2
            go_round
            case rel => exact ⟨k + 1, 10 * m + ((s[k].toNat : Int) - 48), by omega, by go_num, congrArg (Value.int .i64) (by omega), HN.out⟩
            case measure => simp [intOf]; omega
          · have HN := Lib.hid (idx_bad (num_bad hlt hd))
            have hd' : (s[k].toNat : Int) < 48 ∨ 57 < (s[k].toNat : Int) := by omega
            clear hd
            rcases hd' with hd | hd
            · go_wp2
              go_ret2
              exact ⟨congrArg Ending.returned HN.out.symm, rfl⟩
            · have hd2 : decide ((s[k].toNat : Int) < 48) = false := by simp; omega
              go_wp2
              go_ret2
              exact ⟨congrArg Ending.returned HN.out.symm, rfl⟩
        · have hk' : k = s.size := by omega
          have HN : Hid (numF s s.size = some m) := Lib.hid (by rw [← hk']; exact HM.out)
          clear hk'
          by_cases hb : 4294967294 < m
          · have HB := Lib.hid (idx_big HN.out hb)
            go_wp2
            go_ret2
            exact ⟨congrArg Ending.returned HB.out.symm, rfl⟩
          · have HB := Lib.hid (idx_ok H0.out HN.out hb)
            have hb' : m ≤ 4294967294 := by omega
            clear hb
            go_wp2
            go_ret2
            exact ⟨congrArg Ending.returned HB.out.symm, rfl⟩

set_option maxHeartbeats 2000000 in
theorem rindex_ret (s : ByteArray) (hs : s.size ≤ 1499) (w : World) : Calls Tryz.prog 79 #[.string s] w fun e w' => e = .returned (idxV s) ∧ w = w' := by
  by_cases h0 : s.size = 0
  · have HB := Lib.hid (idx_early (s := s) (Or.inl h0))
    have he : s = ByteArray.empty := by
      apply ByteArray.ext
      apply Array.eq_empty_of_size_eq_zero
      exact h0
    have hi : idxV ByteArray.empty = .tuple #[.int .i64 0, .bool false] := by rw [← he]; exact HB.out
    subst he
    have HI := Lib.hid hi
    clear HB h0 hi
    go_enter Tryz.func79, Tryz.ntmps79
    go_wp2
    go_ret2
    exact ⟨congrArg Ending.returned HI.out.symm, rfl⟩
  have hne : s.toList.isEmpty = false := by
    rw [ByteArray.toList_eq]
    cases h : s.data.toList with
    | nil => exact absurd (by rw [← Array.length_toList, h]; rfl : s.data.size = 0) h0
    | cons => rfl
  by_cases h10 : 10 < s.size
  · have HB := Lib.hid (idx_early (s := s) (Or.inr (Or.inl h10)))
    have h10' : (10 : Int) < (s.size : Int) := by omega
    go_enter Tryz.func79, Tryz.ntmps79
    go_wp2
    go_ret2
    exact ⟨congrArg Ending.returned HB.out.symm, rfl⟩
  have h10' : (s.size : Int) ≤ 10 := by omega
  have h10d : decide (10 < s.size) = false := by simp; omega
  have hpos : 0 < s.size := by omega
  have eb := byteAt_eq hpos
  have hc := byte_hi s[0]
  by_cases h48 : (s[0].toNat : Int) = 48
  · have f48 : ((s[0].toNat : Int) == 48) = true := by simpa using h48
    by_cases h1 : 1 < s.size
    · have HB := Lib.hid (idx_early (s := s) (Or.inr (Or.inr ⟨eb.trans h48, h1⟩)))
      have h1' : (1 : Int) < (s.size : Int) := by omega
      clear eb h48
      go_enter Tryz.func79, Tryz.ntmps79
      go_wp2
      go_ret2
      exact ⟨congrArg Ending.returned HB.out.symm, rfl⟩
    · have H0 : Hid (¬ (s.size = 0 ∨ 10 < s.size ∨ (byteAt s 0 = 48 ∧ 1 < s.size))) := Lib.hid (by omega)
      have h1' : decide (1 < s.size) = false := by simp; omega
      clear eb h48
      go_enter Tryz.func79, Tryz.ntmps79
      have hcount := count_ret s (by omega)
      cases hn : numF s s.size with
      | none =>
        have HB := Lib.hid (idx_bad hn)
        have hc : ∀ w, Calls Tryz.prog 98 #[.string s, .int .i64 10] w fun e w' => e = .returned (.tuple #[.int .i64 0, .bool false]) ∧ w = w' := fun w => (hcount w).mono fun e w' he => ⟨by rw [he.1, cntV, hn], he.2⟩
        clear hn hcount
        go_wp2_with (go_at_call 98; refine (hc _).mono ?_; rintro e w' ⟨rfl, rfl⟩)
        go_ret2
        exact ⟨congrArg Ending.returned HB.out.symm, rfl⟩
      | some m =>
        obtain ⟨hm0, hm1⟩ := numF_small hn (by omega)
        have hc : ∀ w, Calls Tryz.prog 98 #[.string s, .int .i64 10] w fun e w' => e = .returned (.tuple #[.int .i64 m, .bool true]) ∧ w = w' := fun w => (hcount w).mono fun e w' he => ⟨by rw [he.1, cntV, hn, hne]; rfl, he.2⟩
        have HN := Lib.hid hn
        clear hn hcount
        by_cases hb : 4294967294 < m
        · have HB := Lib.hid (idx_big HN.out hb)
          go_wp2_with (go_at_call 98; refine (hc _).mono ?_; rintro e w' ⟨rfl, rfl⟩)
          go_ret2
          exact ⟨congrArg Ending.returned HB.out.symm, rfl⟩
        · have HB := Lib.hid (idx_ok H0.out HN.out hb)
          have hb' : m ≤ 4294967294 := by omega
          clear hb
          go_wp2_with (go_at_call 98; refine (hc _).mono ?_; rintro e w' ⟨rfl, rfl⟩)
          go_ret2
          exact ⟨congrArg Ending.returned HB.out.symm, rfl⟩
  · have f48 : ((s[0].toNat : Int) == 48) = false := by simpa using h48
    have H0 : Hid (¬ (s.size = 0 ∨ 10 < s.size ∨ (byteAt s 0 = 48 ∧ 1 < s.size))) := Lib.hid (by rw [eb]; omega)
    clear eb h48
    · go_enter Tryz.func79, Tryz.ntmps79
      have hcount := count_ret s (by omega)
      cases hn : numF s s.size with
      | none =>
        have HB := Lib.hid (idx_bad hn)
        have hc : ∀ w, Calls Tryz.prog 98 #[.string s, .int .i64 10] w fun e w' => e = .returned (.tuple #[.int .i64 0, .bool false]) ∧ w = w' := fun w => (hcount w).mono fun e w' he => ⟨by rw [he.1, cntV, hn], he.2⟩
        clear hn hcount
        go_wp2_with (go_at_call 98; refine (hc _).mono ?_; rintro e w' ⟨rfl, rfl⟩)
        go_ret2
        exact ⟨congrArg Ending.returned HB.out.symm, rfl⟩
      | some m =>
        obtain ⟨hm0, hm1⟩ := numF_small hn (by omega)
        have hc : ∀ w, Calls Tryz.prog 98 #[.string s, .int .i64 10] w fun e w' => e = .returned (.tuple #[.int .i64 m, .bool true]) ∧ w = w' := fun w => (hcount w).mono fun e w' he => ⟨by rw [he.1, cntV, hn, hne]; rfl, he.2⟩
        have HN := Lib.hid hn
        clear hn hcount
        by_cases hb : 4294967294 < m
        · have HB := Lib.hid (idx_big HN.out hb)
          go_wp2_with (go_at_call 98; refine (hc _).mono ?_; rintro e w' ⟨rfl, rfl⟩)
          go_ret2
          exact ⟨congrArg Ending.returned HB.out.symm, rfl⟩
        · have HB := Lib.hid (idx_ok H0.out HN.out hb)
          have hb' : m ≤ 4294967294 := by omega
          clear hb
          go_wp2_with (go_at_call 98; refine (hc _).mono ?_; rintro e w' ⟨rfl, rfl⟩)
          go_ret2
          exact ⟨congrArg Ending.returned HB.out.symm, rfl⟩

end Go.Proofs.YtnkidmnddkmilaaGreatDoor
