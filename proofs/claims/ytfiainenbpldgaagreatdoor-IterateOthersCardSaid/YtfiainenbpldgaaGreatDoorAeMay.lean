/-
  Which values are valid: what the two tests answer, class by class.
-/
import Derived.Test.YtfiainenbpldgaaGreatDoorAeEnv
namespace Go.Proofs.YtfiainenbpldgaaGreatDoor
open Go.AE

abbrev lo64 : Int := -9223372036854775808
abbrev hi64 : Int := 9223372036854775807
abbrev most : Nat := 9223372036854775807

/-- one class of values, by the kernel -/
theorem ret_of {f : FuncId} {k n : Int} {s : ByteArray} (a b c d : Int) (l h : Nat) (r : Bool) (h1 : a ≤ k ∧ k ≤ b) (h2 : c ≤ n ∧ n ≤ d) (h3 : l ≤ s.size ∧ s.size ≤ h)
    (run : evKn env [] 300 100 (.fn f) [vA 0 1 0 a b c d l h] ⟨.nil, 0, [], []⟩ (fun v _ => sameV v (.bool r)) = true) : AE.Returns env.P f [vC k n s] (.bool r) := by
  have hg := gives_of_run (Y := ⟨fun i => if i = 0 then k else n, fun _ => s, fun _ => (none, 0, 0), fun _ => undef⟩) (env_ok _) KnownOk.nil rfl run
  refine Gives.returns hg (concs_cons.2 ⟨_, _, conc_vA (i := 0) (j := 1) (s := 0) h1.1 h1.2 h2.1 h2.2 h3.1 h3.2, rfl, rfl⟩) rfl

theorem may_ret (k n : Int) (s : ByteArray) (hk : lo64 ≤ k ∧ k ≤ hi64) (hn : lo64 ≤ n ∧ n ≤ hi64) (hs : s.size ≤ most) : AE.Returns env.P 5 [vC k n s] (.bool (mayP k n s.size)) := by
  have hs0 : 0 ≤ s.size := Nat.zero_le _
  by_cases c1 : k < 0
  · rw [show mayP k n s.size = false by simp [mayP, c1]]
    exact ret_of lo64 (-1) lo64 hi64 0 most false ⟨hk.1, by omega⟩ hn ⟨hs0, hs⟩ (by kernel_rfl)
  by_cases c2 : 9 < k
  · rw [show mayP k n s.size = false by simp [mayP, c2]]
    exact ret_of 10 hi64 lo64 hi64 0 most false ⟨by omega, hk.2⟩ hn ⟨hs0, hs⟩ (by kernel_rfl)
  have c12 : ¬ (k < 0 ∨ 9 < k) := by omega
  by_cases c3 : k = 5
  · subst c3
    by_cases c4 : n = 0
    · subst c4
      by_cases c5 : s.size ≤ 65536
      · rw [show mayP 5 0 s.size = true by simp [mayP, c5]]
        exact ret_of 5 5 0 0 0 65536 true ⟨by omega, by omega⟩ ⟨by omega, by omega⟩ ⟨hs0, c5⟩ (by kernel_rfl)
      · rw [show mayP 5 0 s.size = false by simp [mayP, c5]]
        exact ret_of 5 5 0 0 65537 most false ⟨by omega, by omega⟩ ⟨by omega, by omega⟩ ⟨by omega, hs⟩ (by kernel_rfl)
    · rw [show mayP 5 n s.size = false by simp [mayP, c4]]
      by_cases c5 : n < 0
      · exact ret_of 5 5 lo64 (-1) 0 most false ⟨by omega, by omega⟩ ⟨hn.1, by omega⟩ ⟨hs0, hs⟩ (by kernel_rfl)
      · exact ret_of 5 5 1 hi64 0 most false ⟨by omega, by omega⟩ ⟨by omega, hn.2⟩ ⟨hs0, hs⟩ (by kernel_rfl)
  by_cases c4 : s.size = 0
  · have hz : 0 ≤ s.size ∧ s.size ≤ 0 := by omega
    by_cases d2 : k = 2
    · subst d2
      by_cases e : n = 0
      · subst e
        rw [show mayP 2 0 s.size = true by simp [mayP, c4]]
        exact ret_of 2 2 0 0 0 0 true ⟨by omega, by omega⟩ ⟨by omega, by omega⟩ hz (by kernel_rfl)
      by_cases e1 : n = 1
      · subst e1
        rw [show mayP 2 1 s.size = true by simp [mayP, c4]]
        exact ret_of 2 2 1 1 0 0 true ⟨by omega, by omega⟩ ⟨by omega, by omega⟩ hz (by kernel_rfl)
      rw [show mayP 2 n s.size = false by simp [mayP, c4, e, e1]]
      by_cases e2 : n < 0
      · exact ret_of 2 2 lo64 (-1) 0 0 false ⟨by omega, by omega⟩ ⟨hn.1, by omega⟩ hz (by kernel_rfl)
      · exact ret_of 2 2 2 hi64 0 0 false ⟨by omega, by omega⟩ ⟨by omega, hn.2⟩ hz (by kernel_rfl)
    by_cases d3 : k = 3
    · subst d3
      by_cases e : n < -9007199254740992
      · rw [show mayP 3 n s.size = false by simp [mayP, c4]; omega]
        exact ret_of 3 3 lo64 (-9007199254740993) 0 0 false ⟨by omega, by omega⟩ ⟨hn.1, by omega⟩ hz (by kernel_rfl)
      by_cases e1 : 9007199254740992 < n
      · rw [show mayP 3 n s.size = false by simp [mayP, c4]; omega]
        exact ret_of 3 3 9007199254740993 hi64 0 0 false ⟨by omega, by omega⟩ ⟨by omega, hn.2⟩ hz (by kernel_rfl)
      rw [show mayP 3 n s.size = true by simp [mayP, c4]; omega]
      exact ret_of 3 3 (-9007199254740992) 9007199254740992 0 0 true ⟨by omega, by omega⟩ ⟨by omega, by omega⟩ hz (by kernel_rfl)
    by_cases d6 : k = 6 ∨ k = 7 ∨ k = 9
    · have hm : mayP k n s.size = decide (1 ≤ n) := by simp only [mayP, c12, if_false, c3, c4, d2, d3, ne_eq, not_true_eq_false, d6, if_true]
      by_cases e : 1 ≤ n
      · rw [hm, decide_eq_true e]
        rcases d6 with rfl | rfl | rfl
        · exact ret_of 6 6 1 hi64 0 0 true ⟨by omega, by omega⟩ ⟨e, hn.2⟩ hz (by kernel_rfl)
        · exact ret_of 7 7 1 hi64 0 0 true ⟨by omega, by omega⟩ ⟨e, hn.2⟩ hz (by kernel_rfl)
        · exact ret_of 9 9 1 hi64 0 0 true ⟨by omega, by omega⟩ ⟨e, hn.2⟩ hz (by kernel_rfl)
      · rw [hm, decide_eq_false e]
        rcases d6 with rfl | rfl | rfl
        · exact ret_of 6 6 lo64 0 0 0 false ⟨by omega, by omega⟩ ⟨hn.1, by omega⟩ hz (by kernel_rfl)
        · exact ret_of 7 7 lo64 0 0 0 false ⟨by omega, by omega⟩ ⟨hn.1, by omega⟩ hz (by kernel_rfl)
        · exact ret_of 9 9 lo64 0 0 0 false ⟨by omega, by omega⟩ ⟨hn.1, by omega⟩ hz (by kernel_rfl)
    have hm : mayP k n s.size = decide (n = 0) := by simp only [mayP, c12, if_false, c3, c4, d2, d3, ne_eq, not_true_eq_false, d6]
    have hk4 : (0 ≤ k ∧ k ≤ 1) ∨ (4 ≤ k ∧ k ≤ 4) ∨ (8 ≤ k ∧ k ≤ 8) := by omega
    by_cases e : n = 0
    · rw [hm, decide_eq_true e]
      rcases hk4 with h | h | h
      · exact ret_of 0 1 0 0 0 0 true h ⟨by omega, by omega⟩ hz (by kernel_rfl)
      · exact ret_of 4 4 0 0 0 0 true h ⟨by omega, by omega⟩ hz (by kernel_rfl)
      · exact ret_of 8 8 0 0 0 0 true h ⟨by omega, by omega⟩ hz (by kernel_rfl)
    · rw [hm, decide_eq_false e]
      by_cases e1 : n < 0
      · rcases hk4 with h | h | h
        · exact ret_of 0 1 lo64 (-1) 0 0 false h ⟨hn.1, by omega⟩ hz (by kernel_rfl)
        · exact ret_of 4 4 lo64 (-1) 0 0 false h ⟨hn.1, by omega⟩ hz (by kernel_rfl)
        · exact ret_of 8 8 lo64 (-1) 0 0 false h ⟨hn.1, by omega⟩ hz (by kernel_rfl)
      · rcases hk4 with h | h | h
        · exact ret_of 0 1 1 hi64 0 0 false h ⟨by omega, hn.2⟩ hz (by kernel_rfl)
        · exact ret_of 4 4 1 hi64 0 0 false h ⟨by omega, hn.2⟩ hz (by kernel_rfl)
        · exact ret_of 8 8 1 hi64 0 0 false h ⟨by omega, hn.2⟩ hz (by kernel_rfl)
  · have hm : mayP k n s.size = false := by simp only [mayP, c12, if_false, c3, c4, ne_eq, not_false_eq_true, if_true]
    rw [hm]
    have hz : 1 ≤ s.size ∧ s.size ≤ most := by omega
    by_cases e : k < 5
    · exact ret_of 0 4 lo64 hi64 1 most false ⟨by omega, by omega⟩ hn hz (by kernel_rfl)
    · exact ret_of 6 9 lo64 hi64 1 most false ⟨by omega, by omega⟩ hn hz (by kernel_rfl)

/-- the program's own test: of plain values alone -/
theorem cmay_ret (k n : Int) (s : ByteArray) (hk : (0 ≤ k ∧ k ≤ 6) ∨ k = 8) (hn : n ≤ hi64) (hm : mayP k n s.size = true) : AE.Returns env.P 146 [vC k n s] (.bool true) := by
  have hk' : k = 0 ∨ k = 1 ∨ k = 2 ∨ k = 3 ∨ k = 4 ∨ k = 5 ∨ k = 6 ∨ k = 8 := by omega
  generalize hq : s.size = len at hm
  rcases hk' with rfl | rfl | rfl | rfl | rfl | rfl | rfl | rfl
  · simp [mayP] at hm
    exact ret_of 0 0 0 0 0 0 true ⟨by omega, by omega⟩ ⟨by omega, by omega⟩ ⟨by omega, by omega⟩ (by kernel_rfl)
  · simp [mayP] at hm
    exact ret_of 1 1 0 0 0 0 true ⟨by omega, by omega⟩ ⟨by omega, by omega⟩ ⟨by omega, by omega⟩ (by kernel_rfl)
  · simp [mayP] at hm
    rcases hm.2 with h | h
    · exact ret_of 2 2 0 0 0 0 true ⟨by omega, by omega⟩ ⟨by omega, by omega⟩ ⟨by omega, by omega⟩ (by kernel_rfl)
    · exact ret_of 2 2 1 1 0 0 true ⟨by omega, by omega⟩ ⟨by omega, by omega⟩ ⟨by omega, by omega⟩ (by kernel_rfl)
  · simp [mayP] at hm
    exact ret_of 3 3 (-9007199254740992) 9007199254740992 0 0 true ⟨by omega, by omega⟩ ⟨by omega, by omega⟩ ⟨by omega, by omega⟩ (by kernel_rfl)
  · simp [mayP] at hm
    exact ret_of 4 4 0 0 0 0 true ⟨by omega, by omega⟩ ⟨by omega, by omega⟩ ⟨by omega, by omega⟩ (by kernel_rfl)
  · simp [mayP] at hm
    exact ret_of 5 5 0 0 0 65536 true ⟨by omega, by omega⟩ ⟨by omega, by omega⟩ ⟨by omega, by omega⟩ (by kernel_rfl)
  · simp [mayP] at hm
    exact ret_of 6 6 1 hi64 0 0 true ⟨by omega, by omega⟩ ⟨by omega, hn⟩ ⟨by omega, by omega⟩ (by kernel_rfl)
  · simp [mayP] at hm
    exact ret_of 8 8 0 0 0 0 true ⟨by omega, by omega⟩ ⟨by omega, by omega⟩ ⟨by omega, by omega⟩ (by kernel_rfl)

/-- a value fits its kind -/
def fits (k n : Int) (s : ByteArray) : Prop := (lo64 ≤ k ∧ k ≤ hi64) ∧ (lo64 ≤ n ∧ n ≤ hi64) ∧ s.size ≤ most

theorem mayP_kind {k n : Int} {len : Nat} (h : mayP k n len = true) : 0 ≤ k ∧ k ≤ 9 := by
  unfold mayP at h
  split at h
  · cases h
  · omega

end Go.Proofs.YtfiainenbpldgaaGreatDoor
