/-
  IterateOthers: the record, round by round.
-/
import Derived.Test.YtfiainenbpldgaaGreatDoorAeOtMade
namespace Go.Proofs.YtfiainenbpldgaaGreatDoor
open Go.RowKit
set_option maxRecDepth 100000
set_option linter.unusedVariables false
set_option linter.unusedSimpArgs false

/-- the record's values behind m rounds -/
def stM (v : VL) (k m : Nat) : List VL := if m ≤ k then (xsOf v k).set 3 ⟨3, (m : Int), ⟨#[]⟩⟩ else ((xsOf v k).set 3 ⟨3, (k : Int), ⟨#[]⟩⟩).set 2 ⟨3, 1, ⟨#[]⟩⟩

theorem stM_zero (v : VL) (k : Nat) : stM v k 0 = xsOf v k := by
  unfold stM xsOf
  rw [if_pos (Nat.zero_le _)]
  rfl
theorem xsOf_one (v : VL) (k : Nat) : (xsOf v k)[1]? = some ⟨8, 0, ⟨#[]⟩⟩ := rfl
theorem xsOf_two (v : VL) (k : Nat) : (xsOf v k)[2]? = some ⟨3, 0, ⟨#[]⟩⟩ := rfl
theorem xsOf_txt (v : VL) (k m : Nat) (h : m < k) : (xsOf v k)[4 + m]? = some (txt m) := by
  unfold xsOf
  rw [List.getElem?_append_right (by show 4 ≤ 4 + m; omega)]
  have e : 4 + m - [v, ⟨8, 0, ⟨#[]⟩⟩, ⟨3, 0, ⟨#[]⟩⟩, ⟨3, 0, ⟨#[]⟩⟩].length = m := by show 4 + m - 4 = m; omega
  rw [e]
  unfold txts
  rw [List.getElem?_map, List.getElem?_range h]
  rfl

section
variable (v : VL) (k m : Nat)

theorem stM_len : (stM v k m).length = 4 + k := by
  unfold stM
  split <;> simp only [List.length_set, xsOf_len]
theorem stM_one : (stM v k m)[1]? = some ⟨8, 0, ⟨#[]⟩⟩ := by
  unfold stM
  split
  · rw [List.getElem?_set_ne (by decide), xsOf_one]
  · rw [List.getElem?_set_ne (by decide), List.getElem?_set_ne (by decide), xsOf_one]
theorem stM_two (h : m ≤ k) : (stM v k m)[2]? = some ⟨3, 0, ⟨#[]⟩⟩ := by
  unfold stM
  rw [if_pos h, List.getElem?_set_ne (by decide), xsOf_two]
theorem stM_two' (h : ¬ m ≤ k) : (stM v k m)[2]? = some ⟨3, 1, ⟨#[]⟩⟩ := by
  unfold stM
  rw [if_neg h, List.getElem?_set_self (by rw [List.length_set, xsOf_len]; omega)]
theorem stM_three (h : m ≤ k) : (stM v k m)[3]? = some ⟨3, (m : Int), ⟨#[]⟩⟩ := by
  unfold stM
  rw [if_pos h, List.getElem?_set_self (by rw [xsOf_len]; omega)]
theorem stM_txt (h : m < k) : (stM v k m)[4 + m]? = some (txt m) := by
  unfold stM
  rw [if_pos (Nat.le_of_lt h), List.getElem?_set_ne (by omega), xsOf_txt v k m h]
theorem stM_step (h : m < k) : (stM v k m).set 3 ⟨3, (m : Int) + 1, ⟨#[]⟩⟩ = stM v k (m + 1) := by
  unfold stM
  rw [if_pos (Nat.le_of_lt h), if_pos (show m + 1 ≤ k from h), List.set_set]
  rfl
theorem stM_end : (stM v k k).set 2 ⟨3, 1, ⟨#[]⟩⟩ = stM v k (k + 1) := by
  unfold stM
  rw [if_pos (Nat.le_refl _), if_neg (by omega)]
theorem stM_stay (h : k < m) : stM v k m = stM v k (m + 1) := by
  unfold stM
  rw [if_neg (by omega), if_neg (by omega)]
end

/-- what round m hands back -/
def outM (k m : Nat) : VL := if m < k then txt m else hole

theorem next_round (L : Lc) (v : VL) (k m : Nat) (hk : k ≤ 300) (w : World) (h : St L (stM v k m) w) : Calls Tryz.prog 9 #[.pointer (some ⟨L.wb, L.wo, none⟩), recA] w fun e w' => NxR L (stM v k (m + 1)) (outM k m) w e w' := by
  unfold outM
  by_cases h1 : m < k
  · rw [if_pos h1, ← stM_step v k m h1]
    refine next_key L _ _ _ ⟨_, stM_one v k m, rfl⟩ (stM_two v k m (by omega)) w h fun g cap V hV ho hg => ?_
    exact nextKey_some L _ g cap m _ (by omega) (stM_three v k m (by omega)) (stM_txt v k m h1) w V h hV ho hg
  · rw [if_neg h1]
    by_cases h2 : m = k
    · subst h2
      rw [← stM_end v m]
      refine next_key L _ _ _ ⟨_, stM_one v m m, rfl⟩ (stM_two v m m (by omega)) w h fun g cap V hV ho hg => ?_
      exact nextKey_none L _ g cap m (by omega) (stM_three v m m (by omega)) (by rw [stM_len]; omega) w V h hV ho
    · rw [← stM_stay v k m (by omega)]
      exact next_end L _ (stM_two' v k m (by omega)) w h

/-- behind the close -/
structure CdR (L : Lc) (w : World) (e : Ending) (w' : World) : Prop where
  ret : e = .returned endZ
  ex : ∃ ys, ys[2]? = some ⟨3, 1, ⟨#[]⟩⟩ ∧ St L ys w'
  keep : Keep L.yb w w'

theorem close_round (L : Lc) (v : VL) (k m : Nat) (w : World) (h : St L (stM v k m) w) : Calls Tryz.prog 12 #[.pointer (some ⟨L.wb, L.wo, none⟩), recA, .bool false] w fun e w' => CdR L w e w' := by
  by_cases h1 : m ≤ k
  · refine (close_key L _ ⟨_, stM_one v k m, rfl⟩ (stM_two v k m h1) w h).mono fun e w' he => ?_
    exact ⟨he.ret, ⟨_, List.getElem?_set_self (by rw [stM_len]; omega), he.st⟩, he.keep⟩
  · refine (close_end L _ (stM_two' v k m h1) w h).mono fun e w' he => ?_
    exact ⟨he.1, ⟨_, stM_two' v k m h1, h.below he.2⟩, Keep.of he.2⟩

end Go.Proofs.YtfiainenbpldgaaGreatDoor
