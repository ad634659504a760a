/-
  What the operators answer on two numbers, and on one: a number, no number, or a truth value; class by class, by the kernel.
-/
import Derived.Test.YtgcmekonnliemaaGreatDoorAePlNum
namespace Go.Proofs.YtgcmekonnliemaaGreatDoor
open Go.AE
set_option maxRecDepth 100000

theorem dec_of {p : Prop} [Decidable p] {b : Bool} (h : p ↔ b = true) : decide p = b := by
  cases b
  · exact decide_eq_false (fun hp => by have := h.1 hp; cases this)
  · exact decide_eq_true (h.2 rfl)

theorem wrap64_is {n : Int} (h1 : -9223372036854775808 ≤ n) (h2 : n ≤ 9223372036854775807) : IntKind.wrap .i64 n = n := wrap64_in n h1 h2

section
variable {a b : Int}
theorem run1 : evKn (envQ [] []) [] 300 100 (.fn 36) [.str [43], nanA, nanA] h0 (fun v _ => sameV v (nanA)) = true := by kernel_rfl
theorem add_nn : Res 36 [.string (bytesV [43]), nanV, nanV] := by
  exact ⟨4, 0, by omega, by omega, by omega, by omega, run_ret (Y := syL [0, 0, 0] []) facts_nil (fun _ h => orcs_nil h) KnownOk.nil (concs3 (isS_str rfl) nanA_ok nanA_ok) (nanA_ok _) run1⟩
theorem run2 : evKn (envQ [] []) [] 300 100 (.fn 36) [.str [43], nanA, numA 1] h0 (fun v _ => sameV v (nanA)) = true := by kernel_rfl
theorem add_nm (hb : -9007199254740992 ≤ b ∧ b ≤ 9007199254740992) : Res 36 [.string (bytesV [43]), nanV, (numV b)] := by
  exact ⟨4, 0, by omega, by omega, by omega, by omega, run_ret (Y := syL [0, b, 0] []) facts_nil (fun _ h => orcs_nil h) KnownOk.nil (concs3 (isS_str rfl) nanA_ok (numA_ok (i := 1) (n := b) rfl hb.1 hb.2)) (nanA_ok _) run2⟩
theorem run3 : evKn (envQ [] []) [] 300 100 (.fn 36) [.str [43], numA 0, nanA] h0 (fun v _ => sameV v (nanA)) = true := by kernel_rfl
theorem add_mn (ha : -9007199254740992 ≤ a ∧ a ≤ 9007199254740992) : Res 36 [.string (bytesV [43]), (numV a), nanV] := by
  exact ⟨4, 0, by omega, by omega, by omega, by omega, run_ret (Y := syL [a, 0, 0] []) facts_nil (fun _ h => orcs_nil h) KnownOk.nil (concs3 (isS_str rfl) (numA_ok (i := 0) (n := a) rfl ha.1 ha.2) nanA_ok) (nanA_ok _) run3⟩
theorem run4 : evKn (envQ [(.bin .add .i64 (.var 0) (.var 1), -18014398509481984, -9007199254740993)] []) [] 300 100 (.fn 36) [.str [43], numA 0, numA 1] h0 (fun v _ => sameV v (nanA)) = true := by kernel_rfl
theorem run5 : evKn (envQ [(.bin .add .i64 (.var 0) (.var 1), -9007199254740992, 9007199254740992)] []) [] 300 100 (.fn 36) [.str [43], numA 0, numA 1] h0 (fun v _ => sameV v (.agg [.i64 3, .sint .i64 (.bin .add .i64 (.var 0) (.var 1)) (-9007199254740992) 9007199254740992, .str []])) = true := by kernel_rfl
theorem run6 : evKn (envQ [(.bin .add .i64 (.var 0) (.var 1), 9007199254740993, 18014398509481984)] []) [] 300 100 (.fn 36) [.str [43], numA 0, numA 1] h0 (fun v _ => sameV v (nanA)) = true := by kernel_rfl
theorem add_mm (ha : -9007199254740992 ≤ a ∧ a ≤ 9007199254740992) (hb : -9007199254740992 ≤ b ∧ b ≤ 9007199254740992) : Res 36 [.string (bytesV [43]), (numV a), (numV b)] := by
  have hw : (.bin .add .i64 (.var 0) (.var 1) : SX).val (syL [a, b, 0] []) = a + b := wrap64_is (n := a + b) (by omega) (by omega)
  by_cases c1 : a + b < -9007199254740992
  · exact ⟨4, 0, by omega, by omega, by omega, by omega, run_ret (Y := syL [a, b, 0] []) (facts_cons (by rw [hw]; omega) (by rw [hw]; omega) facts_nil) (fun _ h => orcs_nil h) KnownOk.nil (concs3 (isS_str rfl) (numA_ok (i := 0) (n := a) rfl ha.1 ha.2) (numA_ok (i := 1) (n := b) rfl hb.1 hb.2)) (nanA_ok _) run4⟩
  by_cases c2 : 9007199254740992 < a + b
  · exact ⟨4, 0, by omega, by omega, by omega, by omega, run_ret (Y := syL [a, b, 0] []) (facts_cons (by rw [hw]; omega) (by rw [hw]; omega) facts_nil) (fun _ h => orcs_nil h) KnownOk.nil (concs3 (isS_str rfl) (numA_ok (i := 0) (n := a) rfl ha.1 ha.2) (numA_ok (i := 1) (n := b) rfl hb.1 hb.2)) (nanA_ok _) run6⟩
  exact ⟨3, a + b, by omega, by omega, by omega, by omega, run_ret (Y := syL [a, b, 0] []) (facts_cons (by rw [hw]; omega) (by rw [hw]; omega) facts_nil) (fun _ h => orcs_nil h) KnownOk.nil (concs3 (isS_str rfl) (numA_ok (i := 0) (n := a) rfl ha.1 ha.2) (numA_ok (i := 1) (n := b) rfl hb.1 hb.2)) (resN_ok hw (by omega) (by omega) _) run5⟩
theorem run7 : evKn (envQ [] []) [] 300 100 (.fn 36) [.str [45], nanA, nanA] h0 (fun v _ => sameV v (nanA)) = true := by kernel_rfl
theorem sub_nn : Res 36 [.string (bytesV [45]), nanV, nanV] := by
  exact ⟨4, 0, by omega, by omega, by omega, by omega, run_ret (Y := syL [0, 0, 0] []) facts_nil (fun _ h => orcs_nil h) KnownOk.nil (concs3 (isS_str rfl) nanA_ok nanA_ok) (nanA_ok _) run7⟩
theorem run8 : evKn (envQ [] []) [] 300 100 (.fn 36) [.str [45], nanA, numA 1] h0 (fun v _ => sameV v (nanA)) = true := by kernel_rfl
theorem sub_nm (hb : -9007199254740992 ≤ b ∧ b ≤ 9007199254740992) : Res 36 [.string (bytesV [45]), nanV, (numV b)] := by
  exact ⟨4, 0, by omega, by omega, by omega, by omega, run_ret (Y := syL [0, b, 0] []) facts_nil (fun _ h => orcs_nil h) KnownOk.nil (concs3 (isS_str rfl) nanA_ok (numA_ok (i := 1) (n := b) rfl hb.1 hb.2)) (nanA_ok _) run8⟩
theorem run9 : evKn (envQ [] []) [] 300 100 (.fn 36) [.str [45], numA 0, nanA] h0 (fun v _ => sameV v (nanA)) = true := by kernel_rfl
theorem sub_mn (ha : -9007199254740992 ≤ a ∧ a ≤ 9007199254740992) : Res 36 [.string (bytesV [45]), (numV a), nanV] := by
  exact ⟨4, 0, by omega, by omega, by omega, by omega, run_ret (Y := syL [a, 0, 0] []) facts_nil (fun _ h => orcs_nil h) KnownOk.nil (concs3 (isS_str rfl) (numA_ok (i := 0) (n := a) rfl ha.1 ha.2) nanA_ok) (nanA_ok _) run9⟩
theorem run10 : evKn (envQ [(.bin .sub .i64 (.var 0) (.var 1), -18014398509481984, -9007199254740993)] []) [] 300 100 (.fn 36) [.str [45], numA 0, numA 1] h0 (fun v _ => sameV v (nanA)) = true := by kernel_rfl
theorem run11 : evKn (envQ [(.bin .sub .i64 (.var 0) (.var 1), -9007199254740992, 9007199254740992)] []) [] 300 100 (.fn 36) [.str [45], numA 0, numA 1] h0 (fun v _ => sameV v (.agg [.i64 3, .sint .i64 (.bin .sub .i64 (.var 0) (.var 1)) (-9007199254740992) 9007199254740992, .str []])) = true := by kernel_rfl
theorem run12 : evKn (envQ [(.bin .sub .i64 (.var 0) (.var 1), 9007199254740993, 18014398509481984)] []) [] 300 100 (.fn 36) [.str [45], numA 0, numA 1] h0 (fun v _ => sameV v (nanA)) = true := by kernel_rfl
theorem sub_mm (ha : -9007199254740992 ≤ a ∧ a ≤ 9007199254740992) (hb : -9007199254740992 ≤ b ∧ b ≤ 9007199254740992) : Res 36 [.string (bytesV [45]), (numV a), (numV b)] := by
  have hw : (.bin .sub .i64 (.var 0) (.var 1) : SX).val (syL [a, b, 0] []) = a - b := wrap64_is (n := a - b) (by omega) (by omega)
  by_cases c1 : a - b < -9007199254740992
  · exact ⟨4, 0, by omega, by omega, by omega, by omega, run_ret (Y := syL [a, b, 0] []) (facts_cons (by rw [hw]; omega) (by rw [hw]; omega) facts_nil) (fun _ h => orcs_nil h) KnownOk.nil (concs3 (isS_str rfl) (numA_ok (i := 0) (n := a) rfl ha.1 ha.2) (numA_ok (i := 1) (n := b) rfl hb.1 hb.2)) (nanA_ok _) run10⟩
  by_cases c2 : 9007199254740992 < a - b
  · exact ⟨4, 0, by omega, by omega, by omega, by omega, run_ret (Y := syL [a, b, 0] []) (facts_cons (by rw [hw]; omega) (by rw [hw]; omega) facts_nil) (fun _ h => orcs_nil h) KnownOk.nil (concs3 (isS_str rfl) (numA_ok (i := 0) (n := a) rfl ha.1 ha.2) (numA_ok (i := 1) (n := b) rfl hb.1 hb.2)) (nanA_ok _) run12⟩
  exact ⟨3, a - b, by omega, by omega, by omega, by omega, run_ret (Y := syL [a, b, 0] []) (facts_cons (by rw [hw]; omega) (by rw [hw]; omega) facts_nil) (fun _ h => orcs_nil h) KnownOk.nil (concs3 (isS_str rfl) (numA_ok (i := 0) (n := a) rfl ha.1 ha.2) (numA_ok (i := 1) (n := b) rfl hb.1 hb.2)) (resN_ok hw (by omega) (by omega) _) run11⟩
theorem run13 : evKn (envQ [] []) [] 300 100 (.fn 36) [.str [42], nanA, nanA] h0 (fun v _ => sameV v (nanA)) = true := by kernel_rfl
theorem mul_nn : Res 36 [.string (bytesV [42]), nanV, nanV] := by
  exact ⟨4, 0, by omega, by omega, by omega, by omega, run_ret (Y := syL [0, 0, 0] []) facts_nil (fun _ h => orcs_nil h) KnownOk.nil (concs3 (isS_str rfl) nanA_ok nanA_ok) (nanA_ok _) run13⟩
theorem run14 : evKn (envQ [] []) [] 300 100 (.fn 36) [.str [42], nanA, numA 1] h0 (fun v _ => sameV v (nanA)) = true := by kernel_rfl
theorem mul_nm (hb : -9007199254740992 ≤ b ∧ b ≤ 9007199254740992) : Res 36 [.string (bytesV [42]), nanV, (numV b)] := by
  exact ⟨4, 0, by omega, by omega, by omega, by omega, run_ret (Y := syL [0, b, 0] []) facts_nil (fun _ h => orcs_nil h) KnownOk.nil (concs3 (isS_str rfl) nanA_ok (numA_ok (i := 1) (n := b) rfl hb.1 hb.2)) (nanA_ok _) run14⟩
theorem run15 : evKn (envQ [] []) [] 300 100 (.fn 36) [.str [42], numA 0, nanA] h0 (fun v _ => sameV v (nanA)) = true := by kernel_rfl
theorem mul_mn (ha : -9007199254740992 ≤ a ∧ a ≤ 9007199254740992) : Res 36 [.string (bytesV [42]), (numV a), nanV] := by
  exact ⟨4, 0, by omega, by omega, by omega, by omega, run_ret (Y := syL [a, 0, 0] []) facts_nil (fun _ h => orcs_nil h) KnownOk.nil (concs3 (isS_str rfl) (numA_ok (i := 0) (n := a) rfl ha.1 ha.2) nanA_ok) (nanA_ok _) run15⟩
theorem run16 : evKn (envQ [(.bin .mul .i64 (.con 0) (.var 1), 0, 0)] []) [] 300 100 (.fn 36) [.str [42], .agg [.i64 3, .i64 0, .str []], numA 1] h0 (fun v _ => sameV v (.agg [.i64 3, .i64 0, .str []])) = true := by kernel_rfl
theorem run17 : evKn (envQ [] [.bin .quo (.i64 9007199254740992) (.sint .i64 (.var 2) 1 9007199254740992) (.sint .i64 (.var 4) 0 9007199254740992), .bin .gtr (.sint .i64 (.var 3) 0 9007199254740992) (.sint .i64 (.var 4) 0 9007199254740992) (.bool true)]) [⟨139, [.sint .i64 (.var 0) (-9007199254740992) (-1)], .sint .i64 (.var 2) 1 9007199254740992⟩, ⟨139, [.sint .i64 (.var 1) (-9007199254740992) 9007199254740992], .sint .i64 (.var 3) 0 9007199254740992⟩] 300 100 (.fn 36) [.str [42], .agg [.i64 3, .sint .i64 (.var 0) (-9007199254740992) (-1), .str []], numA 1] h0 (fun v _ => sameV v (nanA)) = true := by kernel_rfl
theorem run18 : evKn (envQ [(.bin .mul .i64 (.var 0) (.var 1), -9007199254740992, 9007199254740992)] [.bin .quo (.i64 9007199254740992) (.sint .i64 (.var 2) 1 9007199254740992) (.sint .i64 (.var 4) 0 9007199254740992), .bin .gtr (.sint .i64 (.var 3) 0 9007199254740992) (.sint .i64 (.var 4) 0 9007199254740992) (.bool false)]) [⟨139, [.sint .i64 (.var 0) (-9007199254740992) (-1)], .sint .i64 (.var 2) 1 9007199254740992⟩, ⟨139, [.sint .i64 (.var 1) (-9007199254740992) 9007199254740992], .sint .i64 (.var 3) 0 9007199254740992⟩] 300 100 (.fn 36) [.str [42], .agg [.i64 3, .sint .i64 (.var 0) (-9007199254740992) (-1), .str []], numA 1] h0 (fun v _ => sameV v (.agg [.i64 3, .sint .i64 (.bin .mul .i64 (.var 0) (.var 1)) (-9007199254740992) 9007199254740992, .str []])) = true := by kernel_rfl
theorem run19 : evKn (envQ [] [.bin .quo (.i64 9007199254740992) (.sint .i64 (.var 2) 1 9007199254740992) (.sint .i64 (.var 4) 0 9007199254740992), .bin .gtr (.sint .i64 (.var 3) 0 9007199254740992) (.sint .i64 (.var 4) 0 9007199254740992) (.bool true)]) [⟨139, [.sint .i64 (.var 0) 1 9007199254740992], .sint .i64 (.var 2) 1 9007199254740992⟩, ⟨139, [.sint .i64 (.var 1) (-9007199254740992) 9007199254740992], .sint .i64 (.var 3) 0 9007199254740992⟩] 300 100 (.fn 36) [.str [42], .agg [.i64 3, .sint .i64 (.var 0) 1 9007199254740992, .str []], numA 1] h0 (fun v _ => sameV v (nanA)) = true := by kernel_rfl
theorem run20 : evKn (envQ [(.bin .mul .i64 (.var 0) (.var 1), -9007199254740992, 9007199254740992)] [.bin .quo (.i64 9007199254740992) (.sint .i64 (.var 2) 1 9007199254740992) (.sint .i64 (.var 4) 0 9007199254740992), .bin .gtr (.sint .i64 (.var 3) 0 9007199254740992) (.sint .i64 (.var 4) 0 9007199254740992) (.bool false)]) [⟨139, [.sint .i64 (.var 0) 1 9007199254740992], .sint .i64 (.var 2) 1 9007199254740992⟩, ⟨139, [.sint .i64 (.var 1) (-9007199254740992) 9007199254740992], .sint .i64 (.var 3) 0 9007199254740992⟩] 300 100 (.fn 36) [.str [42], .agg [.i64 3, .sint .i64 (.var 0) 1 9007199254740992, .str []], numA 1] h0 (fun v _ => sameV v (.agg [.i64 3, .sint .i64 (.bin .mul .i64 (.var 0) (.var 1)) (-9007199254740992) 9007199254740992, .str []])) = true := by kernel_rfl
theorem mul_mm (ha : -9007199254740992 ≤ a ∧ a ≤ 9007199254740992) (hb : -9007199254740992 ≤ b ∧ b ≤ 9007199254740992) : Res 36 [.string (bytesV [42]), (numV a), (numV b)] := by
  rcases Int.lt_trichotomy a 0 with h0 | rfl | h0
  · have hA := absF_in ha.1 ha.2
    have hB := absF_in hb.1 hb.2
    have hA1 := absF_pos (a := a) (by omega)
    have hq := quo_in (absF a) hA1
    by_cases hg : (9007199254740992 : Int).tdiv (absF a) < absF b
    · exact ⟨4, 0, by omega, by omega, by omega, by omega, run_ret (Y := syL [a, b, absF a, absF b, (9007199254740992 : Int).tdiv (absF a)] []) facts_nil (orcs_cons (orc_quo (isI_64 _) (isI_sym (n := absF a) rfl hA1 hA.2) (by omega) (by omega) (by omega) (isI_sym (n := (9007199254740992 : Int).tdiv (absF a)) rfl hq.1 hq.2)) (orcs_cons (orc_gtr (isI_sym (n := absF b) rfl hB.1 hB.2) (isI_sym (n := (9007199254740992 : Int).tdiv (absF a)) rfl hq.1 hq.2) (decide_eq_true hg)) (fun _ h => orcs_nil h))) (KnownOk.cons (q := ⟨139, _, _⟩) (hasAbs _ _) (known_of (abs_ret a (by omega) (by omega)) (concs1 (isI_sym (n := a) rfl ha.1 (by omega))) (isI_sym (n := absF a) rfl hA1 hA.2 _)) (KnownOk.cons (q := ⟨139, _, _⟩) (hasAbs _ _) (known_of (abs_ret b (by omega) (by omega)) (concs1 (isI_sym (n := b) rfl hb.1 hb.2)) (isI_sym (n := absF b) rfl hB.1 hB.2 _)) KnownOk.nil)) (concs3 (isS_str rfl) (resN_ok (e := .var 0) (n := a) rfl ha.1 (by omega)) (numA_ok (i := 1) (n := b) rfl hb.1 hb.2)) (nanA_ok _) run17⟩
    · have hm := mul_abs hg hA1
      have hw : (.bin .mul .i64 (.var 0) (.var 1) : SX).val (syL [a, b, absF a, absF b, (9007199254740992 : Int).tdiv (absF a)] []) = a * b := wrap64_is (n := a * b) (by omega) (by omega)
      exact ⟨3, a * b, by omega, by omega, hm.1, hm.2, run_ret (Y := syL [a, b, absF a, absF b, (9007199254740992 : Int).tdiv (absF a)] []) (facts_cons (by rw [hw]; exact hm.1) (by rw [hw]; exact hm.2) facts_nil) (orcs_cons (orc_quo (isI_64 _) (isI_sym (n := absF a) rfl hA1 hA.2) (by omega) (by omega) (by omega) (isI_sym (n := (9007199254740992 : Int).tdiv (absF a)) rfl hq.1 hq.2)) (orcs_cons (orc_gtr (isI_sym (n := absF b) rfl hB.1 hB.2) (isI_sym (n := (9007199254740992 : Int).tdiv (absF a)) rfl hq.1 hq.2) (decide_eq_false hg)) (fun _ h => orcs_nil h))) (KnownOk.cons (q := ⟨139, _, _⟩) (hasAbs _ _) (known_of (abs_ret a (by omega) (by omega)) (concs1 (isI_sym (n := a) rfl ha.1 (by omega))) (isI_sym (n := absF a) rfl hA1 hA.2 _)) (KnownOk.cons (q := ⟨139, _, _⟩) (hasAbs _ _) (known_of (abs_ret b (by omega) (by omega)) (concs1 (isI_sym (n := b) rfl hb.1 hb.2)) (isI_sym (n := absF b) rfl hB.1 hB.2 _)) KnownOk.nil)) (concs3 (isS_str rfl) (resN_ok (e := .var 0) (n := a) rfl ha.1 (by omega)) (numA_ok (i := 1) (n := b) rfl hb.1 hb.2)) (resN_ok hw hm.1 hm.2 _) run18⟩
  · have hw : (.bin .mul .i64 (.con 0) (.var 1) : SX).val (syL [0, b, 0] []) = 0 := by show IntKind.wrap .i64 (0 * b) = 0; rw [Int.zero_mul]; rfl
    exact ⟨3, 0, by omega, by omega, by omega, by omega, run_ret (Y := syL [0, b, 0] []) (facts_cons (by rw [hw]; omega) (by rw [hw]; omega) facts_nil) (fun _ h => orcs_nil h) KnownOk.nil (concs3 (isS_str rfl) (fun _ => rfl) (numA_ok (i := 1) (n := b) rfl hb.1 hb.2)) rfl run16⟩
  · have hA := absF_in ha.1 ha.2
    have hB := absF_in hb.1 hb.2
    have hA1 := absF_pos (a := a) (by omega)
    have hq := quo_in (absF a) hA1
    by_cases hg : (9007199254740992 : Int).tdiv (absF a) < absF b
    · exact ⟨4, 0, by omega, by omega, by omega, by omega, run_ret (Y := syL [a, b, absF a, absF b, (9007199254740992 : Int).tdiv (absF a)] []) facts_nil (orcs_cons (orc_quo (isI_64 _) (isI_sym (n := absF a) rfl hA1 hA.2) (by omega) (by omega) (by omega) (isI_sym (n := (9007199254740992 : Int).tdiv (absF a)) rfl hq.1 hq.2)) (orcs_cons (orc_gtr (isI_sym (n := absF b) rfl hB.1 hB.2) (isI_sym (n := (9007199254740992 : Int).tdiv (absF a)) rfl hq.1 hq.2) (decide_eq_true hg)) (fun _ h => orcs_nil h))) (KnownOk.cons (q := ⟨139, _, _⟩) (hasAbs _ _) (known_of (abs_ret a (by omega) (by omega)) (concs1 (isI_sym (n := a) rfl (by omega) ha.2)) (isI_sym (n := absF a) rfl hA1 hA.2 _)) (KnownOk.cons (q := ⟨139, _, _⟩) (hasAbs _ _) (known_of (abs_ret b (by omega) (by omega)) (concs1 (isI_sym (n := b) rfl hb.1 hb.2)) (isI_sym (n := absF b) rfl hB.1 hB.2 _)) KnownOk.nil)) (concs3 (isS_str rfl) (resN_ok (e := .var 0) (n := a) rfl (by omega) ha.2) (numA_ok (i := 1) (n := b) rfl hb.1 hb.2)) (nanA_ok _) run19⟩
    · have hm := mul_abs hg hA1
      have hw : (.bin .mul .i64 (.var 0) (.var 1) : SX).val (syL [a, b, absF a, absF b, (9007199254740992 : Int).tdiv (absF a)] []) = a * b := wrap64_is (n := a * b) (by omega) (by omega)
      exact ⟨3, a * b, by omega, by omega, hm.1, hm.2, run_ret (Y := syL [a, b, absF a, absF b, (9007199254740992 : Int).tdiv (absF a)] []) (facts_cons (by rw [hw]; exact hm.1) (by rw [hw]; exact hm.2) facts_nil) (orcs_cons (orc_quo (isI_64 _) (isI_sym (n := absF a) rfl hA1 hA.2) (by omega) (by omega) (by omega) (isI_sym (n := (9007199254740992 : Int).tdiv (absF a)) rfl hq.1 hq.2)) (orcs_cons (orc_gtr (isI_sym (n := absF b) rfl hB.1 hB.2) (isI_sym (n := (9007199254740992 : Int).tdiv (absF a)) rfl hq.1 hq.2) (decide_eq_false hg)) (fun _ h => orcs_nil h))) (KnownOk.cons (q := ⟨139, _, _⟩) (hasAbs _ _) (known_of (abs_ret a (by omega) (by omega)) (concs1 (isI_sym (n := a) rfl (by omega) ha.2)) (isI_sym (n := absF a) rfl hA1 hA.2 _)) (KnownOk.cons (q := ⟨139, _, _⟩) (hasAbs _ _) (known_of (abs_ret b (by omega) (by omega)) (concs1 (isI_sym (n := b) rfl hb.1 hb.2)) (isI_sym (n := absF b) rfl hB.1 hB.2 _)) KnownOk.nil)) (concs3 (isS_str rfl) (resN_ok (e := .var 0) (n := a) rfl (by omega) ha.2) (numA_ok (i := 1) (n := b) rfl hb.1 hb.2)) (resN_ok hw hm.1 hm.2 _) run20⟩
theorem run21 : evKn (envQ [] []) [] 300 100 (.fn 36) [.str [47], nanA, nanA] h0 (fun v _ => sameV v (nanA)) = true := by kernel_rfl
theorem div_nn : Res 36 [.string (bytesV [47]), nanV, nanV] := by
  exact ⟨4, 0, by omega, by omega, by omega, by omega, run_ret (Y := syL [0, 0, 0] []) facts_nil (fun _ h => orcs_nil h) KnownOk.nil (concs3 (isS_str rfl) nanA_ok nanA_ok) (nanA_ok _) run21⟩
theorem run22 : evKn (envQ [] []) [] 300 100 (.fn 36) [.str [47], nanA, numA 1] h0 (fun v _ => sameV v (nanA)) = true := by kernel_rfl
theorem div_nm (hb : -9007199254740992 ≤ b ∧ b ≤ 9007199254740992) : Res 36 [.string (bytesV [47]), nanV, (numV b)] := by
  exact ⟨4, 0, by omega, by omega, by omega, by omega, run_ret (Y := syL [0, b, 0] []) facts_nil (fun _ h => orcs_nil h) KnownOk.nil (concs3 (isS_str rfl) nanA_ok (numA_ok (i := 1) (n := b) rfl hb.1 hb.2)) (nanA_ok _) run22⟩
theorem run23 : evKn (envQ [] []) [] 300 100 (.fn 36) [.str [47], numA 0, nanA] h0 (fun v _ => sameV v (nanA)) = true := by kernel_rfl
theorem div_mn (ha : -9007199254740992 ≤ a ∧ a ≤ 9007199254740992) : Res 36 [.string (bytesV [47]), (numV a), nanV] := by
  exact ⟨4, 0, by omega, by omega, by omega, by omega, run_ret (Y := syL [a, 0, 0] []) facts_nil (fun _ h => orcs_nil h) KnownOk.nil (concs3 (isS_str rfl) (numA_ok (i := 0) (n := a) rfl ha.1 ha.2) nanA_ok) (nanA_ok _) run23⟩
theorem run24 : evKn (envQ [] []) [] 300 100 (.fn 36) [.str [47], numA 0, .agg [.i64 3, .i64 0, .str []]] h0 (fun v _ => sameV v (nanA)) = true := by kernel_rfl
theorem run25 : evKn (envQ [] [.bin .quo (.sint .i64 (.var 0) (-9007199254740992) 9007199254740992) (.sint .i64 (.var 1) (-9007199254740992) (-1)) (.sint .i64 (.var 2) (-9007199254740992) 9007199254740992)]) [] 300 100 (.fn 36) [.str [47], numA 0, .agg [.i64 3, .sint .i64 (.var 1) (-9007199254740992) (-1), .str []]] h0 (fun v _ => sameV v (.agg [.i64 3, .sint .i64 (.var 2) (-9007199254740992) 9007199254740992, .str []])) = true := by kernel_rfl
theorem run26 : evKn (envQ [] [.bin .quo (.sint .i64 (.var 0) (-9007199254740992) 9007199254740992) (.sint .i64 (.var 1) 1 9007199254740992) (.sint .i64 (.var 2) (-9007199254740992) 9007199254740992)]) [] 300 100 (.fn 36) [.str [47], numA 0, .agg [.i64 3, .sint .i64 (.var 1) 1 9007199254740992, .str []]] h0 (fun v _ => sameV v (.agg [.i64 3, .sint .i64 (.var 2) (-9007199254740992) 9007199254740992, .str []])) = true := by kernel_rfl
theorem div_mm (ha : -9007199254740992 ≤ a ∧ a ≤ 9007199254740992) (hb : -9007199254740992 ≤ b ∧ b ≤ 9007199254740992) : Res 36 [.string (bytesV [47]), (numV a), (numV b)] := by
  have hz := tdiv_abs (a := a) (b := b) ha.1 ha.2
  rcases Int.lt_trichotomy b 0 with hb0 | rfl | hb0
  · exact ⟨3, a.tdiv b, by omega, by omega, hz.1, hz.2, run_ret (Y := syL [a, b, (a.tdiv b)] []) facts_nil (orcs_cons (orc_quo (isI_sym (n := a) rfl ha.1 ha.2) (isI_sym (n := b) rfl hb.1 (by omega)) (by omega) ha.1 ha.2 (isI_sym rfl hz.1 hz.2)) (fun _ h => orcs_nil h)) KnownOk.nil (concs3 (isS_str rfl) (numA_ok (i := 0) (n := a) rfl ha.1 ha.2) (resN_ok (e := .var 1) (n := b) rfl hb.1 (by omega))) (resN_ok (e := .var 2) rfl hz.1 hz.2 _) run25⟩
  · exact ⟨4, 0, by omega, by omega, by omega, by omega, run_ret (Y := syL [a, 0, 0] []) facts_nil (fun _ h => orcs_nil h) KnownOk.nil (concs3 (isS_str rfl) (numA_ok (i := 0) (n := a) rfl ha.1 ha.2) (fun _ => rfl)) (nanA_ok _) run24⟩
  · exact ⟨3, a.tdiv b, by omega, by omega, hz.1, hz.2, run_ret (Y := syL [a, b, (a.tdiv b)] []) facts_nil (orcs_cons (orc_quo (isI_sym (n := a) rfl ha.1 ha.2) (isI_sym (n := b) rfl (by omega) hb.2) (by omega) ha.1 ha.2 (isI_sym rfl hz.1 hz.2)) (fun _ h => orcs_nil h)) KnownOk.nil (concs3 (isS_str rfl) (numA_ok (i := 0) (n := a) rfl ha.1 ha.2) (resN_ok (e := .var 1) (n := b) rfl (by omega) hb.2)) (resN_ok (e := .var 2) rfl hz.1 hz.2 _) run26⟩
theorem run27 : evKn (envQ [] []) [] 300 100 (.fn 36) [.str [37], nanA, nanA] h0 (fun v _ => sameV v (nanA)) = true := by kernel_rfl
theorem rem_nn : Res 36 [.string (bytesV [37]), nanV, nanV] := by
  exact ⟨4, 0, by omega, by omega, by omega, by omega, run_ret (Y := syL [0, 0, 0] []) facts_nil (fun _ h => orcs_nil h) KnownOk.nil (concs3 (isS_str rfl) nanA_ok nanA_ok) (nanA_ok _) run27⟩
theorem run28 : evKn (envQ [] []) [] 300 100 (.fn 36) [.str [37], nanA, numA 1] h0 (fun v _ => sameV v (nanA)) = true := by kernel_rfl
theorem rem_nm (hb : -9007199254740992 ≤ b ∧ b ≤ 9007199254740992) : Res 36 [.string (bytesV [37]), nanV, (numV b)] := by
  exact ⟨4, 0, by omega, by omega, by omega, by omega, run_ret (Y := syL [0, b, 0] []) facts_nil (fun _ h => orcs_nil h) KnownOk.nil (concs3 (isS_str rfl) nanA_ok (numA_ok (i := 1) (n := b) rfl hb.1 hb.2)) (nanA_ok _) run28⟩
theorem run29 : evKn (envQ [] []) [] 300 100 (.fn 36) [.str [37], numA 0, nanA] h0 (fun v _ => sameV v (nanA)) = true := by kernel_rfl
theorem rem_mn (ha : -9007199254740992 ≤ a ∧ a ≤ 9007199254740992) : Res 36 [.string (bytesV [37]), (numV a), nanV] := by
  exact ⟨4, 0, by omega, by omega, by omega, by omega, run_ret (Y := syL [a, 0, 0] []) facts_nil (fun _ h => orcs_nil h) KnownOk.nil (concs3 (isS_str rfl) (numA_ok (i := 0) (n := a) rfl ha.1 ha.2) nanA_ok) (nanA_ok _) run29⟩
theorem run30 : evKn (envQ [] []) [] 300 100 (.fn 36) [.str [37], numA 0, .agg [.i64 3, .i64 0, .str []]] h0 (fun v _ => sameV v (nanA)) = true := by kernel_rfl
theorem run31 : evKn (envQ [] [.bin .rem (.sint .i64 (.var 0) (-9007199254740992) 9007199254740992) (.sint .i64 (.var 1) (-9007199254740992) (-1)) (.sint .i64 (.var 2) (-9007199254740992) 9007199254740992)]) [] 300 100 (.fn 36) [.str [37], numA 0, .agg [.i64 3, .sint .i64 (.var 1) (-9007199254740992) (-1), .str []]] h0 (fun v _ => sameV v (.agg [.i64 3, .sint .i64 (.var 2) (-9007199254740992) 9007199254740992, .str []])) = true := by kernel_rfl
theorem run32 : evKn (envQ [] [.bin .rem (.sint .i64 (.var 0) (-9007199254740992) 9007199254740992) (.sint .i64 (.var 1) 1 9007199254740992) (.sint .i64 (.var 2) (-9007199254740992) 9007199254740992)]) [] 300 100 (.fn 36) [.str [37], numA 0, .agg [.i64 3, .sint .i64 (.var 1) 1 9007199254740992, .str []]] h0 (fun v _ => sameV v (.agg [.i64 3, .sint .i64 (.var 2) (-9007199254740992) 9007199254740992, .str []])) = true := by kernel_rfl
theorem rem_mm (ha : -9007199254740992 ≤ a ∧ a ≤ 9007199254740992) (hb : -9007199254740992 ≤ b ∧ b ≤ 9007199254740992) : Res 36 [.string (bytesV [37]), (numV a), (numV b)] := by
  have hz := tmod_abs (a := a) (b := b) ha.1 ha.2
  rcases Int.lt_trichotomy b 0 with hb0 | rfl | hb0
  · exact ⟨3, a.tmod b, by omega, by omega, hz.1, hz.2, run_ret (Y := syL [a, b, (a.tmod b)] []) facts_nil (orcs_cons (orc_rem (isI_sym (n := a) rfl ha.1 ha.2) (isI_sym (n := b) rfl hb.1 (by omega)) (by omega) (isI_sym rfl hz.1 hz.2)) (fun _ h => orcs_nil h)) KnownOk.nil (concs3 (isS_str rfl) (numA_ok (i := 0) (n := a) rfl ha.1 ha.2) (resN_ok (e := .var 1) (n := b) rfl hb.1 (by omega))) (resN_ok (e := .var 2) rfl hz.1 hz.2 _) run31⟩
  · exact ⟨4, 0, by omega, by omega, by omega, by omega, run_ret (Y := syL [a, 0, 0] []) facts_nil (fun _ h => orcs_nil h) KnownOk.nil (concs3 (isS_str rfl) (numA_ok (i := 0) (n := a) rfl ha.1 ha.2) (fun _ => rfl)) (nanA_ok _) run30⟩
  · exact ⟨3, a.tmod b, by omega, by omega, hz.1, hz.2, run_ret (Y := syL [a, b, (a.tmod b)] []) facts_nil (orcs_cons (orc_rem (isI_sym (n := a) rfl ha.1 ha.2) (isI_sym (n := b) rfl (by omega) hb.2) (by omega) (isI_sym rfl hz.1 hz.2)) (fun _ h => orcs_nil h)) KnownOk.nil (concs3 (isS_str rfl) (numA_ok (i := 0) (n := a) rfl ha.1 ha.2) (resN_ok (e := .var 1) (n := b) rfl (by omega) hb.2)) (resN_ok (e := .var 2) rfl hz.1 hz.2 _) run32⟩
theorem run33 : evKn (envQ [] []) [] 300 100 (.fn 36) [.str [60], nanA, nanA] h0 (fun v _ => sameV v (.agg [.i64 2, .i64 0, .str []])) = true := by kernel_rfl
theorem lss_nn : Res 36 [.string (bytesV [60]), nanV, nanV] := by
  exact ⟨2, 0, by omega, by omega, by omega, by omega, run_ret (Y := syL [0, 0, 0] []) facts_nil (fun _ h => orcs_nil h) KnownOk.nil (concs3 (isS_str rfl) nanA_ok nanA_ok) rfl run33⟩
theorem run34 : evKn (envQ [] []) [] 300 100 (.fn 36) [.str [60], nanA, numA 1] h0 (fun v _ => sameV v (.agg [.i64 2, .i64 0, .str []])) = true := by kernel_rfl
theorem lss_nm (hb : -9007199254740992 ≤ b ∧ b ≤ 9007199254740992) : Res 36 [.string (bytesV [60]), nanV, (numV b)] := by
  exact ⟨2, 0, by omega, by omega, by omega, by omega, run_ret (Y := syL [0, b, 0] []) facts_nil (fun _ h => orcs_nil h) KnownOk.nil (concs3 (isS_str rfl) nanA_ok (numA_ok (i := 1) (n := b) rfl hb.1 hb.2)) rfl run34⟩
theorem run35 : evKn (envQ [] []) [] 300 100 (.fn 36) [.str [60], numA 0, nanA] h0 (fun v _ => sameV v (.agg [.i64 2, .i64 0, .str []])) = true := by kernel_rfl
theorem lss_mn (ha : -9007199254740992 ≤ a ∧ a ≤ 9007199254740992) : Res 36 [.string (bytesV [60]), (numV a), nanV] := by
  exact ⟨2, 0, by omega, by omega, by omega, by omega, run_ret (Y := syL [a, 0, 0] []) facts_nil (fun _ h => orcs_nil h) KnownOk.nil (concs3 (isS_str rfl) (numA_ok (i := 0) (n := a) rfl ha.1 ha.2) nanA_ok) rfl run35⟩
theorem run36 : evKn (envQ [] [.bin .lss (.sint .i64 (.var 0) (-9007199254740992) 9007199254740992) (.sint .i64 (.var 1) (-9007199254740992) 9007199254740992) (.bool true), .bin .lss (.sint .i64 (.var 1) (-9007199254740992) 9007199254740992) (.sint .i64 (.var 0) (-9007199254740992) 9007199254740992) (.bool false)]) [] 300 100 (.fn 36) [.str [60], numA 0, numA 1] h0 (fun v _ => sameV v (.agg [.i64 2, .i64 1, .str []])) = true := by kernel_rfl
theorem run37 : evKn (envQ [] [.bin .lss (.sint .i64 (.var 0) (-9007199254740992) 9007199254740992) (.sint .i64 (.var 1) (-9007199254740992) 9007199254740992) (.bool false), .bin .lss (.sint .i64 (.var 1) (-9007199254740992) 9007199254740992) (.sint .i64 (.var 0) (-9007199254740992) 9007199254740992) (.bool false)]) [] 300 100 (.fn 36) [.str [60], numA 0, numA 1] h0 (fun v _ => sameV v (.agg [.i64 2, .i64 0, .str []])) = true := by kernel_rfl
theorem run38 : evKn (envQ [] [.bin .lss (.sint .i64 (.var 0) (-9007199254740992) 9007199254740992) (.sint .i64 (.var 1) (-9007199254740992) 9007199254740992) (.bool false), .bin .lss (.sint .i64 (.var 1) (-9007199254740992) 9007199254740992) (.sint .i64 (.var 0) (-9007199254740992) 9007199254740992) (.bool true)]) [] 300 100 (.fn 36) [.str [60], numA 0, numA 1] h0 (fun v _ => sameV v (.agg [.i64 2, .i64 0, .str []])) = true := by kernel_rfl
theorem lss_mm (ha : -9007199254740992 ≤ a ∧ a ≤ 9007199254740992) (hb : -9007199254740992 ≤ b ∧ b ≤ 9007199254740992) : Res 36 [.string (bytesV [60]), (numV a), (numV b)] := by
  rcases Int.lt_trichotomy a b with hc | hc | hc
  · exact ⟨2, 1, by omega, by omega, by omega, by omega, run_ret (Y := syL [a, b, 0] []) facts_nil (orcs_cons (orc_lss (isI_sym (n := a) rfl ha.1 ha.2) (isI_sym (n := b) rfl hb.1 hb.2) (decide_eq_true (by omega))) (orcs_cons (orc_lss (isI_sym (n := b) rfl hb.1 hb.2) (isI_sym (n := a) rfl ha.1 ha.2) (decide_eq_false (by omega))) (fun _ h => orcs_nil h))) KnownOk.nil (concs3 (isS_str rfl) (numA_ok (i := 0) (n := a) rfl ha.1 ha.2) (numA_ok (i := 1) (n := b) rfl hb.1 hb.2)) rfl run36⟩
  · exact ⟨2, 0, by omega, by omega, by omega, by omega, run_ret (Y := syL [a, b, 0] []) facts_nil (orcs_cons (orc_lss (isI_sym (n := a) rfl ha.1 ha.2) (isI_sym (n := b) rfl hb.1 hb.2) (decide_eq_false (by omega))) (orcs_cons (orc_lss (isI_sym (n := b) rfl hb.1 hb.2) (isI_sym (n := a) rfl ha.1 ha.2) (decide_eq_false (by omega))) (fun _ h => orcs_nil h))) KnownOk.nil (concs3 (isS_str rfl) (numA_ok (i := 0) (n := a) rfl ha.1 ha.2) (numA_ok (i := 1) (n := b) rfl hb.1 hb.2)) rfl run37⟩
  · exact ⟨2, 0, by omega, by omega, by omega, by omega, run_ret (Y := syL [a, b, 0] []) facts_nil (orcs_cons (orc_lss (isI_sym (n := a) rfl ha.1 ha.2) (isI_sym (n := b) rfl hb.1 hb.2) (decide_eq_false (by omega))) (orcs_cons (orc_lss (isI_sym (n := b) rfl hb.1 hb.2) (isI_sym (n := a) rfl ha.1 ha.2) (decide_eq_true (by omega))) (fun _ h => orcs_nil h))) KnownOk.nil (concs3 (isS_str rfl) (numA_ok (i := 0) (n := a) rfl ha.1 ha.2) (numA_ok (i := 1) (n := b) rfl hb.1 hb.2)) rfl run38⟩
theorem run39 : evKn (envQ [] []) [] 300 100 (.fn 36) [.str [62], nanA, nanA] h0 (fun v _ => sameV v (.agg [.i64 2, .i64 0, .str []])) = true := by kernel_rfl
theorem gtr_nn : Res 36 [.string (bytesV [62]), nanV, nanV] := by
  exact ⟨2, 0, by omega, by omega, by omega, by omega, run_ret (Y := syL [0, 0, 0] []) facts_nil (fun _ h => orcs_nil h) KnownOk.nil (concs3 (isS_str rfl) nanA_ok nanA_ok) rfl run39⟩
theorem run40 : evKn (envQ [] []) [] 300 100 (.fn 36) [.str [62], nanA, numA 1] h0 (fun v _ => sameV v (.agg [.i64 2, .i64 0, .str []])) = true := by kernel_rfl
theorem gtr_nm (hb : -9007199254740992 ≤ b ∧ b ≤ 9007199254740992) : Res 36 [.string (bytesV [62]), nanV, (numV b)] := by
  exact ⟨2, 0, by omega, by omega, by omega, by omega, run_ret (Y := syL [0, b, 0] []) facts_nil (fun _ h => orcs_nil h) KnownOk.nil (concs3 (isS_str rfl) nanA_ok (numA_ok (i := 1) (n := b) rfl hb.1 hb.2)) rfl run40⟩
theorem run41 : evKn (envQ [] []) [] 300 100 (.fn 36) [.str [62], numA 0, nanA] h0 (fun v _ => sameV v (.agg [.i64 2, .i64 0, .str []])) = true := by kernel_rfl
theorem gtr_mn (ha : -9007199254740992 ≤ a ∧ a ≤ 9007199254740992) : Res 36 [.string (bytesV [62]), (numV a), nanV] := by
  exact ⟨2, 0, by omega, by omega, by omega, by omega, run_ret (Y := syL [a, 0, 0] []) facts_nil (fun _ h => orcs_nil h) KnownOk.nil (concs3 (isS_str rfl) (numA_ok (i := 0) (n := a) rfl ha.1 ha.2) nanA_ok) rfl run41⟩
theorem run42 : evKn (envQ [] [.bin .lss (.sint .i64 (.var 0) (-9007199254740992) 9007199254740992) (.sint .i64 (.var 1) (-9007199254740992) 9007199254740992) (.bool true), .bin .lss (.sint .i64 (.var 1) (-9007199254740992) 9007199254740992) (.sint .i64 (.var 0) (-9007199254740992) 9007199254740992) (.bool false)]) [] 300 100 (.fn 36) [.str [62], numA 0, numA 1] h0 (fun v _ => sameV v (.agg [.i64 2, .i64 0, .str []])) = true := by kernel_rfl
theorem run43 : evKn (envQ [] [.bin .lss (.sint .i64 (.var 0) (-9007199254740992) 9007199254740992) (.sint .i64 (.var 1) (-9007199254740992) 9007199254740992) (.bool false), .bin .lss (.sint .i64 (.var 1) (-9007199254740992) 9007199254740992) (.sint .i64 (.var 0) (-9007199254740992) 9007199254740992) (.bool false)]) [] 300 100 (.fn 36) [.str [62], numA 0, numA 1] h0 (fun v _ => sameV v (.agg [.i64 2, .i64 0, .str []])) = true := by kernel_rfl
theorem run44 : evKn (envQ [] [.bin .lss (.sint .i64 (.var 0) (-9007199254740992) 9007199254740992) (.sint .i64 (.var 1) (-9007199254740992) 9007199254740992) (.bool false), .bin .lss (.sint .i64 (.var 1) (-9007199254740992) 9007199254740992) (.sint .i64 (.var 0) (-9007199254740992) 9007199254740992) (.bool true)]) [] 300 100 (.fn 36) [.str [62], numA 0, numA 1] h0 (fun v _ => sameV v (.agg [.i64 2, .i64 1, .str []])) = true := by kernel_rfl
theorem gtr_mm (ha : -9007199254740992 ≤ a ∧ a ≤ 9007199254740992) (hb : -9007199254740992 ≤ b ∧ b ≤ 9007199254740992) : Res 36 [.string (bytesV [62]), (numV a), (numV b)] := by
  rcases Int.lt_trichotomy a b with hc | hc | hc
  · exact ⟨2, 0, by omega, by omega, by omega, by omega, run_ret (Y := syL [a, b, 0] []) facts_nil (orcs_cons (orc_lss (isI_sym (n := a) rfl ha.1 ha.2) (isI_sym (n := b) rfl hb.1 hb.2) (decide_eq_true (by omega))) (orcs_cons (orc_lss (isI_sym (n := b) rfl hb.1 hb.2) (isI_sym (n := a) rfl ha.1 ha.2) (decide_eq_false (by omega))) (fun _ h => orcs_nil h))) KnownOk.nil (concs3 (isS_str rfl) (numA_ok (i := 0) (n := a) rfl ha.1 ha.2) (numA_ok (i := 1) (n := b) rfl hb.1 hb.2)) rfl run42⟩
  · exact ⟨2, 0, by omega, by omega, by omega, by omega, run_ret (Y := syL [a, b, 0] []) facts_nil (orcs_cons (orc_lss (isI_sym (n := a) rfl ha.1 ha.2) (isI_sym (n := b) rfl hb.1 hb.2) (decide_eq_false (by omega))) (orcs_cons (orc_lss (isI_sym (n := b) rfl hb.1 hb.2) (isI_sym (n := a) rfl ha.1 ha.2) (decide_eq_false (by omega))) (fun _ h => orcs_nil h))) KnownOk.nil (concs3 (isS_str rfl) (numA_ok (i := 0) (n := a) rfl ha.1 ha.2) (numA_ok (i := 1) (n := b) rfl hb.1 hb.2)) rfl run43⟩
  · exact ⟨2, 1, by omega, by omega, by omega, by omega, run_ret (Y := syL [a, b, 0] []) facts_nil (orcs_cons (orc_lss (isI_sym (n := a) rfl ha.1 ha.2) (isI_sym (n := b) rfl hb.1 hb.2) (decide_eq_false (by omega))) (orcs_cons (orc_lss (isI_sym (n := b) rfl hb.1 hb.2) (isI_sym (n := a) rfl ha.1 ha.2) (decide_eq_true (by omega))) (fun _ h => orcs_nil h))) KnownOk.nil (concs3 (isS_str rfl) (numA_ok (i := 0) (n := a) rfl ha.1 ha.2) (numA_ok (i := 1) (n := b) rfl hb.1 hb.2)) rfl run44⟩
theorem run45 : evKn (envQ [] []) [] 300 100 (.fn 36) [.str [60, 61], nanA, nanA] h0 (fun v _ => sameV v (.agg [.i64 2, .i64 0, .str []])) = true := by kernel_rfl
theorem leq_nn : Res 36 [.string (bytesV [60, 61]), nanV, nanV] := by
  exact ⟨2, 0, by omega, by omega, by omega, by omega, run_ret (Y := syL [0, 0, 0] []) facts_nil (fun _ h => orcs_nil h) KnownOk.nil (concs3 (isS_str rfl) nanA_ok nanA_ok) rfl run45⟩
theorem run46 : evKn (envQ [] []) [] 300 100 (.fn 36) [.str [60, 61], nanA, numA 1] h0 (fun v _ => sameV v (.agg [.i64 2, .i64 0, .str []])) = true := by kernel_rfl
theorem leq_nm (hb : -9007199254740992 ≤ b ∧ b ≤ 9007199254740992) : Res 36 [.string (bytesV [60, 61]), nanV, (numV b)] := by
  exact ⟨2, 0, by omega, by omega, by omega, by omega, run_ret (Y := syL [0, b, 0] []) facts_nil (fun _ h => orcs_nil h) KnownOk.nil (concs3 (isS_str rfl) nanA_ok (numA_ok (i := 1) (n := b) rfl hb.1 hb.2)) rfl run46⟩
theorem run47 : evKn (envQ [] []) [] 300 100 (.fn 36) [.str [60, 61], numA 0, nanA] h0 (fun v _ => sameV v (.agg [.i64 2, .i64 0, .str []])) = true := by kernel_rfl
theorem leq_mn (ha : -9007199254740992 ≤ a ∧ a ≤ 9007199254740992) : Res 36 [.string (bytesV [60, 61]), (numV a), nanV] := by
  exact ⟨2, 0, by omega, by omega, by omega, by omega, run_ret (Y := syL [a, 0, 0] []) facts_nil (fun _ h => orcs_nil h) KnownOk.nil (concs3 (isS_str rfl) (numA_ok (i := 0) (n := a) rfl ha.1 ha.2) nanA_ok) rfl run47⟩
theorem run48 : evKn (envQ [] [.bin .lss (.sint .i64 (.var 0) (-9007199254740992) 9007199254740992) (.sint .i64 (.var 1) (-9007199254740992) 9007199254740992) (.bool true), .bin .lss (.sint .i64 (.var 1) (-9007199254740992) 9007199254740992) (.sint .i64 (.var 0) (-9007199254740992) 9007199254740992) (.bool false)]) [] 300 100 (.fn 36) [.str [60, 61], numA 0, numA 1] h0 (fun v _ => sameV v (.agg [.i64 2, .i64 1, .str []])) = true := by kernel_rfl
theorem run49 : evKn (envQ [] [.bin .lss (.sint .i64 (.var 0) (-9007199254740992) 9007199254740992) (.sint .i64 (.var 1) (-9007199254740992) 9007199254740992) (.bool false), .bin .lss (.sint .i64 (.var 1) (-9007199254740992) 9007199254740992) (.sint .i64 (.var 0) (-9007199254740992) 9007199254740992) (.bool false)]) [] 300 100 (.fn 36) [.str [60, 61], numA 0, numA 1] h0 (fun v _ => sameV v (.agg [.i64 2, .i64 1, .str []])) = true := by kernel_rfl
theorem run50 : evKn (envQ [] [.bin .lss (.sint .i64 (.var 0) (-9007199254740992) 9007199254740992) (.sint .i64 (.var 1) (-9007199254740992) 9007199254740992) (.bool false), .bin .lss (.sint .i64 (.var 1) (-9007199254740992) 9007199254740992) (.sint .i64 (.var 0) (-9007199254740992) 9007199254740992) (.bool true)]) [] 300 100 (.fn 36) [.str [60, 61], numA 0, numA 1] h0 (fun v _ => sameV v (.agg [.i64 2, .i64 0, .str []])) = true := by kernel_rfl
theorem leq_mm (ha : -9007199254740992 ≤ a ∧ a ≤ 9007199254740992) (hb : -9007199254740992 ≤ b ∧ b ≤ 9007199254740992) : Res 36 [.string (bytesV [60, 61]), (numV a), (numV b)] := by
  rcases Int.lt_trichotomy a b with hc | hc | hc
  · exact ⟨2, 1, by omega, by omega, by omega, by omega, run_ret (Y := syL [a, b, 0] []) facts_nil (orcs_cons (orc_lss (isI_sym (n := a) rfl ha.1 ha.2) (isI_sym (n := b) rfl hb.1 hb.2) (decide_eq_true (by omega))) (orcs_cons (orc_lss (isI_sym (n := b) rfl hb.1 hb.2) (isI_sym (n := a) rfl ha.1 ha.2) (decide_eq_false (by omega))) (fun _ h => orcs_nil h))) KnownOk.nil (concs3 (isS_str rfl) (numA_ok (i := 0) (n := a) rfl ha.1 ha.2) (numA_ok (i := 1) (n := b) rfl hb.1 hb.2)) rfl run48⟩
  · exact ⟨2, 1, by omega, by omega, by omega, by omega, run_ret (Y := syL [a, b, 0] []) facts_nil (orcs_cons (orc_lss (isI_sym (n := a) rfl ha.1 ha.2) (isI_sym (n := b) rfl hb.1 hb.2) (decide_eq_false (by omega))) (orcs_cons (orc_lss (isI_sym (n := b) rfl hb.1 hb.2) (isI_sym (n := a) rfl ha.1 ha.2) (decide_eq_false (by omega))) (fun _ h => orcs_nil h))) KnownOk.nil (concs3 (isS_str rfl) (numA_ok (i := 0) (n := a) rfl ha.1 ha.2) (numA_ok (i := 1) (n := b) rfl hb.1 hb.2)) rfl run49⟩
  · exact ⟨2, 0, by omega, by omega, by omega, by omega, run_ret (Y := syL [a, b, 0] []) facts_nil (orcs_cons (orc_lss (isI_sym (n := a) rfl ha.1 ha.2) (isI_sym (n := b) rfl hb.1 hb.2) (decide_eq_false (by omega))) (orcs_cons (orc_lss (isI_sym (n := b) rfl hb.1 hb.2) (isI_sym (n := a) rfl ha.1 ha.2) (decide_eq_true (by omega))) (fun _ h => orcs_nil h))) KnownOk.nil (concs3 (isS_str rfl) (numA_ok (i := 0) (n := a) rfl ha.1 ha.2) (numA_ok (i := 1) (n := b) rfl hb.1 hb.2)) rfl run50⟩
theorem run51 : evKn (envQ [] []) [] 300 100 (.fn 36) [.str [62, 61], nanA, nanA] h0 (fun v _ => sameV v (.agg [.i64 2, .i64 0, .str []])) = true := by kernel_rfl
theorem geq_nn : Res 36 [.string (bytesV [62, 61]), nanV, nanV] := by
  exact ⟨2, 0, by omega, by omega, by omega, by omega, run_ret (Y := syL [0, 0, 0] []) facts_nil (fun _ h => orcs_nil h) KnownOk.nil (concs3 (isS_str rfl) nanA_ok nanA_ok) rfl run51⟩
theorem run52 : evKn (envQ [] []) [] 300 100 (.fn 36) [.str [62, 61], nanA, numA 1] h0 (fun v _ => sameV v (.agg [.i64 2, .i64 0, .str []])) = true := by kernel_rfl
theorem geq_nm (hb : -9007199254740992 ≤ b ∧ b ≤ 9007199254740992) : Res 36 [.string (bytesV [62, 61]), nanV, (numV b)] := by
  exact ⟨2, 0, by omega, by omega, by omega, by omega, run_ret (Y := syL [0, b, 0] []) facts_nil (fun _ h => orcs_nil h) KnownOk.nil (concs3 (isS_str rfl) nanA_ok (numA_ok (i := 1) (n := b) rfl hb.1 hb.2)) rfl run52⟩
theorem run53 : evKn (envQ [] []) [] 300 100 (.fn 36) [.str [62, 61], numA 0, nanA] h0 (fun v _ => sameV v (.agg [.i64 2, .i64 0, .str []])) = true := by kernel_rfl
theorem geq_mn (ha : -9007199254740992 ≤ a ∧ a ≤ 9007199254740992) : Res 36 [.string (bytesV [62, 61]), (numV a), nanV] := by
  exact ⟨2, 0, by omega, by omega, by omega, by omega, run_ret (Y := syL [a, 0, 0] []) facts_nil (fun _ h => orcs_nil h) KnownOk.nil (concs3 (isS_str rfl) (numA_ok (i := 0) (n := a) rfl ha.1 ha.2) nanA_ok) rfl run53⟩
theorem run54 : evKn (envQ [] [.bin .lss (.sint .i64 (.var 0) (-9007199254740992) 9007199254740992) (.sint .i64 (.var 1) (-9007199254740992) 9007199254740992) (.bool true), .bin .lss (.sint .i64 (.var 1) (-9007199254740992) 9007199254740992) (.sint .i64 (.var 0) (-9007199254740992) 9007199254740992) (.bool false)]) [] 300 100 (.fn 36) [.str [62, 61], numA 0, numA 1] h0 (fun v _ => sameV v (.agg [.i64 2, .i64 0, .str []])) = true := by kernel_rfl
theorem run55 : evKn (envQ [] [.bin .lss (.sint .i64 (.var 0) (-9007199254740992) 9007199254740992) (.sint .i64 (.var 1) (-9007199254740992) 9007199254740992) (.bool false), .bin .lss (.sint .i64 (.var 1) (-9007199254740992) 9007199254740992) (.sint .i64 (.var 0) (-9007199254740992) 9007199254740992) (.bool false)]) [] 300 100 (.fn 36) [.str [62, 61], numA 0, numA 1] h0 (fun v _ => sameV v (.agg [.i64 2, .i64 1, .str []])) = true := by kernel_rfl
theorem run56 : evKn (envQ [] [.bin .lss (.sint .i64 (.var 0) (-9007199254740992) 9007199254740992) (.sint .i64 (.var 1) (-9007199254740992) 9007199254740992) (.bool false), .bin .lss (.sint .i64 (.var 1) (-9007199254740992) 9007199254740992) (.sint .i64 (.var 0) (-9007199254740992) 9007199254740992) (.bool true)]) [] 300 100 (.fn 36) [.str [62, 61], numA 0, numA 1] h0 (fun v _ => sameV v (.agg [.i64 2, .i64 1, .str []])) = true := by kernel_rfl
theorem geq_mm (ha : -9007199254740992 ≤ a ∧ a ≤ 9007199254740992) (hb : -9007199254740992 ≤ b ∧ b ≤ 9007199254740992) : Res 36 [.string (bytesV [62, 61]), (numV a), (numV b)] := by
  rcases Int.lt_trichotomy a b with hc | hc | hc
  · exact ⟨2, 0, by omega, by omega, by omega, by omega, run_ret (Y := syL [a, b, 0] []) facts_nil (orcs_cons (orc_lss (isI_sym (n := a) rfl ha.1 ha.2) (isI_sym (n := b) rfl hb.1 hb.2) (decide_eq_true (by omega))) (orcs_cons (orc_lss (isI_sym (n := b) rfl hb.1 hb.2) (isI_sym (n := a) rfl ha.1 ha.2) (decide_eq_false (by omega))) (fun _ h => orcs_nil h))) KnownOk.nil (concs3 (isS_str rfl) (numA_ok (i := 0) (n := a) rfl ha.1 ha.2) (numA_ok (i := 1) (n := b) rfl hb.1 hb.2)) rfl run54⟩
  · exact ⟨2, 1, by omega, by omega, by omega, by omega, run_ret (Y := syL [a, b, 0] []) facts_nil (orcs_cons (orc_lss (isI_sym (n := a) rfl ha.1 ha.2) (isI_sym (n := b) rfl hb.1 hb.2) (decide_eq_false (by omega))) (orcs_cons (orc_lss (isI_sym (n := b) rfl hb.1 hb.2) (isI_sym (n := a) rfl ha.1 ha.2) (decide_eq_false (by omega))) (fun _ h => orcs_nil h))) KnownOk.nil (concs3 (isS_str rfl) (numA_ok (i := 0) (n := a) rfl ha.1 ha.2) (numA_ok (i := 1) (n := b) rfl hb.1 hb.2)) rfl run55⟩
  · exact ⟨2, 1, by omega, by omega, by omega, by omega, run_ret (Y := syL [a, b, 0] []) facts_nil (orcs_cons (orc_lss (isI_sym (n := a) rfl ha.1 ha.2) (isI_sym (n := b) rfl hb.1 hb.2) (decide_eq_false (by omega))) (orcs_cons (orc_lss (isI_sym (n := b) rfl hb.1 hb.2) (isI_sym (n := a) rfl ha.1 ha.2) (decide_eq_true (by omega))) (fun _ h => orcs_nil h))) KnownOk.nil (concs3 (isS_str rfl) (numA_ok (i := 0) (n := a) rfl ha.1 ha.2) (numA_ok (i := 1) (n := b) rfl hb.1 hb.2)) rfl run56⟩
theorem run57 : evKn (envQ [] []) [] 300 100 (.fn 36) [.str [38], nanA, nanA] h0 (fun v _ => sameV v (.agg [.i64 3, .i64 0, .str []])) = true := by kernel_rfl
theorem and_nn : Res 36 [.string (bytesV [38]), nanV, nanV] := by
  exact ⟨3, 0, by omega, by omega, by omega, by omega, run_ret (Y := syL [0, 0, 0] []) facts_nil (fun _ h => orcs_nil h) KnownOk.nil (concs3 (isS_str rfl) nanA_ok nanA_ok) rfl run57⟩
theorem run58 : evKn (envQ [] []) [] 300 100 (.fn 36) [.str [38], nanA, numA 1] h0 (fun v _ => sameV v (.agg [.i64 3, .sint .i64 (.bin .and .i32 (.con 0) (.conv .i32 (.conv .u32 (.conv .u64 (.var 1))))) (-2147483648) 2147483647, .str []])) = true := by kernel_rfl
theorem and_nm (hb : -9007199254740992 ≤ b ∧ b ≤ 9007199254740992) : Res 36 [.string (bytesV [38]), nanV, (numV b)] := by
  have hw := wrap_in .i32 (BitVec.toNat (BitVec.ofInt 32 ((.con 0 : SX).val (syL [0, b, 0] [])) &&& BitVec.ofInt 32 ((.conv .i32 (.conv .u32 (.conv .u64 (.var 1))) : SX).val (syL [0, b, 0] []))))
  have h1 : (-2147483648 : Int) ≤ (.bin .and .i32 (.con 0) (.conv .i32 (.conv .u32 (.conv .u64 (.var 1)))) : SX).val (syL [0, b, 0] []) := hw.1
  have h2 : (.bin .and .i32 (.con 0) (.conv .i32 (.conv .u32 (.conv .u64 (.var 1)))) : SX).val (syL [0, b, 0] []) ≤ (2147483647 : Int) := hw.2
  exact ⟨3, _, by omega, by omega, Int.le_trans (by omega) h1, Int.le_trans h2 (by omega), run_ret (Y := syL [0, b, 0] []) facts_nil (fun _ h => orcs_nil h) KnownOk.nil (concs3 (isS_str rfl) nanA_ok (numA_ok (i := 1) (n := b) rfl hb.1 hb.2)) (resN_ok rfl h1 h2 _) run58⟩
theorem run59 : evKn (envQ [] []) [] 300 100 (.fn 36) [.str [38], numA 0, nanA] h0 (fun v _ => sameV v (.agg [.i64 3, .sint .i64 (.bin .and .i32 (.conv .i32 (.conv .u32 (.conv .u64 (.var 0)))) (.con 0)) (-2147483648) 2147483647, .str []])) = true := by kernel_rfl
theorem and_mn (ha : -9007199254740992 ≤ a ∧ a ≤ 9007199254740992) : Res 36 [.string (bytesV [38]), (numV a), nanV] := by
  have hw := wrap_in .i32 (BitVec.toNat (BitVec.ofInt 32 ((.conv .i32 (.conv .u32 (.conv .u64 (.var 0))) : SX).val (syL [a, 0, 0] [])) &&& BitVec.ofInt 32 ((.con 0 : SX).val (syL [a, 0, 0] []))))
  have h1 : (-2147483648 : Int) ≤ (.bin .and .i32 (.conv .i32 (.conv .u32 (.conv .u64 (.var 0)))) (.con 0) : SX).val (syL [a, 0, 0] []) := hw.1
  have h2 : (.bin .and .i32 (.conv .i32 (.conv .u32 (.conv .u64 (.var 0)))) (.con 0) : SX).val (syL [a, 0, 0] []) ≤ (2147483647 : Int) := hw.2
  exact ⟨3, _, by omega, by omega, Int.le_trans (by omega) h1, Int.le_trans h2 (by omega), run_ret (Y := syL [a, 0, 0] []) facts_nil (fun _ h => orcs_nil h) KnownOk.nil (concs3 (isS_str rfl) (numA_ok (i := 0) (n := a) rfl ha.1 ha.2) nanA_ok) (resN_ok rfl h1 h2 _) run59⟩
theorem run60 : evKn (envQ [] []) [] 300 100 (.fn 36) [.str [38], numA 0, numA 1] h0 (fun v _ => sameV v (.agg [.i64 3, .sint .i64 (.bin .and .i32 (.conv .i32 (.conv .u32 (.conv .u64 (.var 0)))) (.conv .i32 (.conv .u32 (.conv .u64 (.var 1))))) (-2147483648) 2147483647, .str []])) = true := by kernel_rfl
theorem and_mm (ha : -9007199254740992 ≤ a ∧ a ≤ 9007199254740992) (hb : -9007199254740992 ≤ b ∧ b ≤ 9007199254740992) : Res 36 [.string (bytesV [38]), (numV a), (numV b)] := by
  have hw := wrap_in .i32 (BitVec.toNat (BitVec.ofInt 32 ((.conv .i32 (.conv .u32 (.conv .u64 (.var 0))) : SX).val (syL [a, b, 0] [])) &&& BitVec.ofInt 32 ((.conv .i32 (.conv .u32 (.conv .u64 (.var 1))) : SX).val (syL [a, b, 0] []))))
  have h1 : (-2147483648 : Int) ≤ (.bin .and .i32 (.conv .i32 (.conv .u32 (.conv .u64 (.var 0)))) (.conv .i32 (.conv .u32 (.conv .u64 (.var 1)))) : SX).val (syL [a, b, 0] []) := hw.1
  have h2 : (.bin .and .i32 (.conv .i32 (.conv .u32 (.conv .u64 (.var 0)))) (.conv .i32 (.conv .u32 (.conv .u64 (.var 1)))) : SX).val (syL [a, b, 0] []) ≤ (2147483647 : Int) := hw.2
  exact ⟨3, _, by omega, by omega, Int.le_trans (by omega) h1, Int.le_trans h2 (by omega), run_ret (Y := syL [a, b, 0] []) facts_nil (fun _ h => orcs_nil h) KnownOk.nil (concs3 (isS_str rfl) (numA_ok (i := 0) (n := a) rfl ha.1 ha.2) (numA_ok (i := 1) (n := b) rfl hb.1 hb.2)) (resN_ok rfl h1 h2 _) run60⟩
theorem run61 : evKn (envQ [] []) [] 300 100 (.fn 36) [.str [124], nanA, nanA] h0 (fun v _ => sameV v (.agg [.i64 3, .i64 0, .str []])) = true := by kernel_rfl
theorem or_nn : Res 36 [.string (bytesV [124]), nanV, nanV] := by
  exact ⟨3, 0, by omega, by omega, by omega, by omega, run_ret (Y := syL [0, 0, 0] []) facts_nil (fun _ h => orcs_nil h) KnownOk.nil (concs3 (isS_str rfl) nanA_ok nanA_ok) rfl run61⟩
theorem run62 : evKn (envQ [] []) [] 300 100 (.fn 36) [.str [124], nanA, numA 1] h0 (fun v _ => sameV v (.agg [.i64 3, .sint .i64 (.bin .or .i32 (.con 0) (.conv .i32 (.conv .u32 (.conv .u64 (.var 1))))) (-2147483648) 2147483647, .str []])) = true := by kernel_rfl
theorem or_nm (hb : -9007199254740992 ≤ b ∧ b ≤ 9007199254740992) : Res 36 [.string (bytesV [124]), nanV, (numV b)] := by
  have hw := wrap_in .i32 (BitVec.toNat (BitVec.ofInt 32 ((.con 0 : SX).val (syL [0, b, 0] [])) ||| BitVec.ofInt 32 ((.conv .i32 (.conv .u32 (.conv .u64 (.var 1))) : SX).val (syL [0, b, 0] []))))
  have h1 : (-2147483648 : Int) ≤ (.bin .or .i32 (.con 0) (.conv .i32 (.conv .u32 (.conv .u64 (.var 1)))) : SX).val (syL [0, b, 0] []) := hw.1
  have h2 : (.bin .or .i32 (.con 0) (.conv .i32 (.conv .u32 (.conv .u64 (.var 1)))) : SX).val (syL [0, b, 0] []) ≤ (2147483647 : Int) := hw.2
  exact ⟨3, _, by omega, by omega, Int.le_trans (by omega) h1, Int.le_trans h2 (by omega), run_ret (Y := syL [0, b, 0] []) facts_nil (fun _ h => orcs_nil h) KnownOk.nil (concs3 (isS_str rfl) nanA_ok (numA_ok (i := 1) (n := b) rfl hb.1 hb.2)) (resN_ok rfl h1 h2 _) run62⟩
theorem run63 : evKn (envQ [] []) [] 300 100 (.fn 36) [.str [124], numA 0, nanA] h0 (fun v _ => sameV v (.agg [.i64 3, .sint .i64 (.bin .or .i32 (.conv .i32 (.conv .u32 (.conv .u64 (.var 0)))) (.con 0)) (-2147483648) 2147483647, .str []])) = true := by kernel_rfl
theorem or_mn (ha : -9007199254740992 ≤ a ∧ a ≤ 9007199254740992) : Res 36 [.string (bytesV [124]), (numV a), nanV] := by
  have hw := wrap_in .i32 (BitVec.toNat (BitVec.ofInt 32 ((.conv .i32 (.conv .u32 (.conv .u64 (.var 0))) : SX).val (syL [a, 0, 0] [])) ||| BitVec.ofInt 32 ((.con 0 : SX).val (syL [a, 0, 0] []))))
  have h1 : (-2147483648 : Int) ≤ (.bin .or .i32 (.conv .i32 (.conv .u32 (.conv .u64 (.var 0)))) (.con 0) : SX).val (syL [a, 0, 0] []) := hw.1
  have h2 : (.bin .or .i32 (.conv .i32 (.conv .u32 (.conv .u64 (.var 0)))) (.con 0) : SX).val (syL [a, 0, 0] []) ≤ (2147483647 : Int) := hw.2
  exact ⟨3, _, by omega, by omega, Int.le_trans (by omega) h1, Int.le_trans h2 (by omega), run_ret (Y := syL [a, 0, 0] []) facts_nil (fun _ h => orcs_nil h) KnownOk.nil (concs3 (isS_str rfl) (numA_ok (i := 0) (n := a) rfl ha.1 ha.2) nanA_ok) (resN_ok rfl h1 h2 _) run63⟩
theorem run64 : evKn (envQ [] []) [] 300 100 (.fn 36) [.str [124], numA 0, numA 1] h0 (fun v _ => sameV v (.agg [.i64 3, .sint .i64 (.bin .or .i32 (.conv .i32 (.conv .u32 (.conv .u64 (.var 0)))) (.conv .i32 (.conv .u32 (.conv .u64 (.var 1))))) (-2147483648) 2147483647, .str []])) = true := by kernel_rfl
theorem or_mm (ha : -9007199254740992 ≤ a ∧ a ≤ 9007199254740992) (hb : -9007199254740992 ≤ b ∧ b ≤ 9007199254740992) : Res 36 [.string (bytesV [124]), (numV a), (numV b)] := by
  have hw := wrap_in .i32 (BitVec.toNat (BitVec.ofInt 32 ((.conv .i32 (.conv .u32 (.conv .u64 (.var 0))) : SX).val (syL [a, b, 0] [])) ||| BitVec.ofInt 32 ((.conv .i32 (.conv .u32 (.conv .u64 (.var 1))) : SX).val (syL [a, b, 0] []))))
  have h1 : (-2147483648 : Int) ≤ (.bin .or .i32 (.conv .i32 (.conv .u32 (.conv .u64 (.var 0)))) (.conv .i32 (.conv .u32 (.conv .u64 (.var 1)))) : SX).val (syL [a, b, 0] []) := hw.1
  have h2 : (.bin .or .i32 (.conv .i32 (.conv .u32 (.conv .u64 (.var 0)))) (.conv .i32 (.conv .u32 (.conv .u64 (.var 1)))) : SX).val (syL [a, b, 0] []) ≤ (2147483647 : Int) := hw.2
  exact ⟨3, _, by omega, by omega, Int.le_trans (by omega) h1, Int.le_trans h2 (by omega), run_ret (Y := syL [a, b, 0] []) facts_nil (fun _ h => orcs_nil h) KnownOk.nil (concs3 (isS_str rfl) (numA_ok (i := 0) (n := a) rfl ha.1 ha.2) (numA_ok (i := 1) (n := b) rfl hb.1 hb.2)) (resN_ok rfl h1 h2 _) run64⟩
theorem run65 : evKn (envQ [] []) [] 300 100 (.fn 36) [.str [94], nanA, nanA] h0 (fun v _ => sameV v (.agg [.i64 3, .i64 0, .str []])) = true := by kernel_rfl
theorem xor_nn : Res 36 [.string (bytesV [94]), nanV, nanV] := by
  exact ⟨3, 0, by omega, by omega, by omega, by omega, run_ret (Y := syL [0, 0, 0] []) facts_nil (fun _ h => orcs_nil h) KnownOk.nil (concs3 (isS_str rfl) nanA_ok nanA_ok) rfl run65⟩
theorem run66 : evKn (envQ [] []) [] 300 100 (.fn 36) [.str [94], nanA, numA 1] h0 (fun v _ => sameV v (.agg [.i64 3, .sint .i64 (.bin .xor .i32 (.con 0) (.conv .i32 (.conv .u32 (.conv .u64 (.var 1))))) (-2147483648) 2147483647, .str []])) = true := by kernel_rfl
theorem xor_nm (hb : -9007199254740992 ≤ b ∧ b ≤ 9007199254740992) : Res 36 [.string (bytesV [94]), nanV, (numV b)] := by
  have hw := wrap_in .i32 (BitVec.toNat (BitVec.ofInt 32 ((.con 0 : SX).val (syL [0, b, 0] [])) ^^^ BitVec.ofInt 32 ((.conv .i32 (.conv .u32 (.conv .u64 (.var 1))) : SX).val (syL [0, b, 0] []))))
  have h1 : (-2147483648 : Int) ≤ (.bin .xor .i32 (.con 0) (.conv .i32 (.conv .u32 (.conv .u64 (.var 1)))) : SX).val (syL [0, b, 0] []) := hw.1
  have h2 : (.bin .xor .i32 (.con 0) (.conv .i32 (.conv .u32 (.conv .u64 (.var 1)))) : SX).val (syL [0, b, 0] []) ≤ (2147483647 : Int) := hw.2
  exact ⟨3, _, by omega, by omega, Int.le_trans (by omega) h1, Int.le_trans h2 (by omega), run_ret (Y := syL [0, b, 0] []) facts_nil (fun _ h => orcs_nil h) KnownOk.nil (concs3 (isS_str rfl) nanA_ok (numA_ok (i := 1) (n := b) rfl hb.1 hb.2)) (resN_ok rfl h1 h2 _) run66⟩
theorem run67 : evKn (envQ [] []) [] 300 100 (.fn 36) [.str [94], numA 0, nanA] h0 (fun v _ => sameV v (.agg [.i64 3, .sint .i64 (.bin .xor .i32 (.conv .i32 (.conv .u32 (.conv .u64 (.var 0)))) (.con 0)) (-2147483648) 2147483647, .str []])) = true := by kernel_rfl
theorem xor_mn (ha : -9007199254740992 ≤ a ∧ a ≤ 9007199254740992) : Res 36 [.string (bytesV [94]), (numV a), nanV] := by
  have hw := wrap_in .i32 (BitVec.toNat (BitVec.ofInt 32 ((.conv .i32 (.conv .u32 (.conv .u64 (.var 0))) : SX).val (syL [a, 0, 0] [])) ^^^ BitVec.ofInt 32 ((.con 0 : SX).val (syL [a, 0, 0] []))))
  have h1 : (-2147483648 : Int) ≤ (.bin .xor .i32 (.conv .i32 (.conv .u32 (.conv .u64 (.var 0)))) (.con 0) : SX).val (syL [a, 0, 0] []) := hw.1
  have h2 : (.bin .xor .i32 (.conv .i32 (.conv .u32 (.conv .u64 (.var 0)))) (.con 0) : SX).val (syL [a, 0, 0] []) ≤ (2147483647 : Int) := hw.2
  exact ⟨3, _, by omega, by omega, Int.le_trans (by omega) h1, Int.le_trans h2 (by omega), run_ret (Y := syL [a, 0, 0] []) facts_nil (fun _ h => orcs_nil h) KnownOk.nil (concs3 (isS_str rfl) (numA_ok (i := 0) (n := a) rfl ha.1 ha.2) nanA_ok) (resN_ok rfl h1 h2 _) run67⟩
theorem run68 : evKn (envQ [] []) [] 300 100 (.fn 36) [.str [94], numA 0, numA 1] h0 (fun v _ => sameV v (.agg [.i64 3, .sint .i64 (.bin .xor .i32 (.conv .i32 (.conv .u32 (.conv .u64 (.var 0)))) (.conv .i32 (.conv .u32 (.conv .u64 (.var 1))))) (-2147483648) 2147483647, .str []])) = true := by kernel_rfl
theorem xor_mm (ha : -9007199254740992 ≤ a ∧ a ≤ 9007199254740992) (hb : -9007199254740992 ≤ b ∧ b ≤ 9007199254740992) : Res 36 [.string (bytesV [94]), (numV a), (numV b)] := by
  have hw := wrap_in .i32 (BitVec.toNat (BitVec.ofInt 32 ((.conv .i32 (.conv .u32 (.conv .u64 (.var 0))) : SX).val (syL [a, b, 0] [])) ^^^ BitVec.ofInt 32 ((.conv .i32 (.conv .u32 (.conv .u64 (.var 1))) : SX).val (syL [a, b, 0] []))))
  have h1 : (-2147483648 : Int) ≤ (.bin .xor .i32 (.conv .i32 (.conv .u32 (.conv .u64 (.var 0)))) (.conv .i32 (.conv .u32 (.conv .u64 (.var 1)))) : SX).val (syL [a, b, 0] []) := hw.1
  have h2 : (.bin .xor .i32 (.conv .i32 (.conv .u32 (.conv .u64 (.var 0)))) (.conv .i32 (.conv .u32 (.conv .u64 (.var 1)))) : SX).val (syL [a, b, 0] []) ≤ (2147483647 : Int) := hw.2
  exact ⟨3, _, by omega, by omega, Int.le_trans (by omega) h1, Int.le_trans h2 (by omega), run_ret (Y := syL [a, b, 0] []) facts_nil (fun _ h => orcs_nil h) KnownOk.nil (concs3 (isS_str rfl) (numA_ok (i := 0) (n := a) rfl ha.1 ha.2) (numA_ok (i := 1) (n := b) rfl hb.1 hb.2)) (resN_ok rfl h1 h2 _) run68⟩
theorem run69 : evKn (envQ [] []) [] 300 100 (.fn 36) [.str [60, 60], nanA, nanA] h0 (fun v _ => sameV v (.agg [.i64 3, .i64 0, .str []])) = true := by kernel_rfl
theorem shl_nn : Res 36 [.string (bytesV [60, 60]), nanV, nanV] := by
  exact ⟨3, 0, by omega, by omega, by omega, by omega, run_ret (Y := syL [0, 0, 0] []) facts_nil (fun _ h => orcs_nil h) KnownOk.nil (concs3 (isS_str rfl) nanA_ok nanA_ok) rfl run69⟩
theorem run70 : evKn (envQ [] [.bin .shl (.int .u32 0) (.sint .u32 (.bin .rem .u32 (.conv .u32 (.conv .i32 (.conv .u32 (.conv .u64 (.var 1))))) (.con 32)) 0 31) (.sint .u32 (.var 2) 0 4294967295)]) [] 300 100 (.fn 36) [.str [60, 60], nanA, numA 1] h0 (fun v _ => sameV v (.agg [.i64 3, .sint .i64 (.conv .i32 (.var 2)) (-2147483648) 2147483647, .str []])) = true := by kernel_rfl
theorem shl_nm (hb : -9007199254740992 ≤ b ∧ b ≤ 9007199254740992) : Res 36 [.string (bytesV [60, 60]), nanV, (numV b)] := by
  have hr : (0 : Int) ≤ ((wrap64U (lowV b)).tmod 32) ∧ ((wrap64U (lowV b)).tmod 32) ≤ 31 := rem_32 _
  have hz := wrap_in .u32 (0 * 2 ^ min (Int.toNat ((wrap64U (lowV b)).tmod 32)) (IntKind.bits .u32))
  have hq := wrap_in .i32 (IntKind.wrap .u32 (0 * 2 ^ min (Int.toNat ((wrap64U (lowV b)).tmod 32)) (IntKind.bits .u32)))
  exact ⟨3, _, by omega, by omega, Int.le_trans (by decide) hq.1, Int.le_trans hq.2 (by decide), run_ret (Y := syL [0, b, (IntKind.wrap .u32 (0 * 2 ^ min (Int.toNat ((wrap64U (lowV b)).tmod 32)) (IntKind.bits .u32)))] []) facts_nil (orcs_cons (orc_shl (isI_int .u32 0) (isI_sym (n := (wrap64U (lowV b)).tmod 32) rfl hr.1 hr.2) hr.1 (isI_sym (n := (IntKind.wrap .u32 (0 * 2 ^ min (Int.toNat ((wrap64U (lowV b)).tmod 32)) (IntKind.bits .u32)))) rfl hz.1 hz.2)) (fun _ h => orcs_nil h)) KnownOk.nil (concs3 (isS_str rfl) nanA_ok (numA_ok (i := 1) (n := b) rfl hb.1 hb.2)) (resN_ok (e := .conv .i32 (.var 2)) (n := IntKind.wrap .i32 (IntKind.wrap .u32 (0 * 2 ^ min (Int.toNat ((wrap64U (lowV b)).tmod 32)) (IntKind.bits .u32)))) rfl hq.1 hq.2 _) run70⟩
theorem run71 : evKn (envQ [] [.bin .shl (.sint .u32 (.conv .u32 (.conv .i32 (.conv .u32 (.conv .u64 (.var 0))))) 0 4294967295) (.int .u32 0) (.sint .u32 (.var 2) 0 4294967295)]) [] 300 100 (.fn 36) [.str [60, 60], numA 0, nanA] h0 (fun v _ => sameV v (.agg [.i64 3, .sint .i64 (.conv .i32 (.var 2)) (-2147483648) 2147483647, .str []])) = true := by kernel_rfl
theorem shl_mn (ha : -9007199254740992 ≤ a ∧ a ≤ 9007199254740992) : Res 36 [.string (bytesV [60, 60]), (numV a), nanV] := by
  have hl := wrap_in .u32 (lowV a)
  have hz := wrap_in .u32 ((wrap64U (lowV a)) * 2 ^ min (Int.toNat 0) (IntKind.bits .u32))
  have hq := wrap_in .i32 (IntKind.wrap .u32 ((wrap64U (lowV a)) * 2 ^ min (Int.toNat 0) (IntKind.bits .u32)))
  exact ⟨3, _, by omega, by omega, Int.le_trans (by decide) hq.1, Int.le_trans hq.2 (by decide), run_ret (Y := syL [a, 0, (IntKind.wrap .u32 ((wrap64U (lowV a)) * 2 ^ min (Int.toNat 0) (IntKind.bits .u32)))] []) facts_nil (orcs_cons (orc_shl (isI_sym (n := wrap64U (lowV a)) rfl hl.1 hl.2) (isI_int .u32 0) (by omega) (isI_sym (n := (IntKind.wrap .u32 ((wrap64U (lowV a)) * 2 ^ min (Int.toNat 0) (IntKind.bits .u32)))) rfl hz.1 hz.2)) (fun _ h => orcs_nil h)) KnownOk.nil (concs3 (isS_str rfl) (numA_ok (i := 0) (n := a) rfl ha.1 ha.2) nanA_ok) (resN_ok (e := .conv .i32 (.var 2)) (n := IntKind.wrap .i32 (IntKind.wrap .u32 ((wrap64U (lowV a)) * 2 ^ min (Int.toNat 0) (IntKind.bits .u32)))) rfl hq.1 hq.2 _) run71⟩
theorem run72 : evKn (envQ [] [.bin .shl (.sint .u32 (.conv .u32 (.conv .i32 (.conv .u32 (.conv .u64 (.var 0))))) 0 4294967295) (.sint .u32 (.bin .rem .u32 (.conv .u32 (.conv .i32 (.conv .u32 (.conv .u64 (.var 1))))) (.con 32)) 0 31) (.sint .u32 (.var 2) 0 4294967295)]) [] 300 100 (.fn 36) [.str [60, 60], numA 0, numA 1] h0 (fun v _ => sameV v (.agg [.i64 3, .sint .i64 (.conv .i32 (.var 2)) (-2147483648) 2147483647, .str []])) = true := by kernel_rfl
theorem shl_mm (ha : -9007199254740992 ≤ a ∧ a ≤ 9007199254740992) (hb : -9007199254740992 ≤ b ∧ b ≤ 9007199254740992) : Res 36 [.string (bytesV [60, 60]), (numV a), (numV b)] := by
  have hr : (0 : Int) ≤ ((wrap64U (lowV b)).tmod 32) ∧ ((wrap64U (lowV b)).tmod 32) ≤ 31 := rem_32 _
  have hl := wrap_in .u32 (lowV a)
  have hz := wrap_in .u32 ((wrap64U (lowV a)) * 2 ^ min (Int.toNat ((wrap64U (lowV b)).tmod 32)) (IntKind.bits .u32))
  have hq := wrap_in .i32 (IntKind.wrap .u32 ((wrap64U (lowV a)) * 2 ^ min (Int.toNat ((wrap64U (lowV b)).tmod 32)) (IntKind.bits .u32)))
  exact ⟨3, _, by omega, by omega, Int.le_trans (by decide) hq.1, Int.le_trans hq.2 (by decide), run_ret (Y := syL [a, b, (IntKind.wrap .u32 ((wrap64U (lowV a)) * 2 ^ min (Int.toNat ((wrap64U (lowV b)).tmod 32)) (IntKind.bits .u32)))] []) facts_nil (orcs_cons (orc_shl (isI_sym (n := wrap64U (lowV a)) rfl hl.1 hl.2) (isI_sym (n := (wrap64U (lowV b)).tmod 32) rfl hr.1 hr.2) hr.1 (isI_sym (n := (IntKind.wrap .u32 ((wrap64U (lowV a)) * 2 ^ min (Int.toNat ((wrap64U (lowV b)).tmod 32)) (IntKind.bits .u32)))) rfl hz.1 hz.2)) (fun _ h => orcs_nil h)) KnownOk.nil (concs3 (isS_str rfl) (numA_ok (i := 0) (n := a) rfl ha.1 ha.2) (numA_ok (i := 1) (n := b) rfl hb.1 hb.2)) (resN_ok (e := .conv .i32 (.var 2)) (n := IntKind.wrap .i32 (IntKind.wrap .u32 ((wrap64U (lowV a)) * 2 ^ min (Int.toNat ((wrap64U (lowV b)).tmod 32)) (IntKind.bits .u32)))) rfl hq.1 hq.2 _) run72⟩
theorem run73 : evKn (envQ [] []) [] 300 100 (.fn 36) [.str [62, 62], nanA, nanA] h0 (fun v _ => sameV v (.agg [.i64 3, .i64 0, .str []])) = true := by kernel_rfl
theorem shr_nn : Res 36 [.string (bytesV [62, 62]), nanV, nanV] := by
  exact ⟨3, 0, by omega, by omega, by omega, by omega, run_ret (Y := syL [0, 0, 0] []) facts_nil (fun _ h => orcs_nil h) KnownOk.nil (concs3 (isS_str rfl) nanA_ok nanA_ok) rfl run73⟩
theorem run74 : evKn (envQ [] [.bin .shr (.int .i32 0) (.sint .u32 (.bin .rem .u32 (.conv .u32 (.conv .i32 (.conv .u32 (.conv .u64 (.var 1))))) (.con 32)) 0 31) (.sint .i32 (.var 2) (-2147483648) 2147483647)]) [] 300 100 (.fn 36) [.str [62, 62], nanA, numA 1] h0 (fun v _ => sameV v (.agg [.i64 3, .sint .i64 (.var 2) (-2147483648) 2147483647, .str []])) = true := by kernel_rfl
theorem shr_nm (hb : -9007199254740992 ≤ b ∧ b ≤ 9007199254740992) : Res 36 [.string (bytesV [62, 62]), nanV, (numV b)] := by
  have hr : (0 : Int) ≤ ((wrap64U (lowV b)).tmod 32) ∧ ((wrap64U (lowV b)).tmod 32) ≤ 31 := rem_32 _
  have hz := fdiv_32 (x := 0) (n := min (Int.toNat ((wrap64U (lowV b)).tmod 32)) (IntKind.bits .i32)) (by omega) (by omega)
  exact ⟨3, _, by omega, by omega, Int.le_trans (by decide) hz.1, Int.le_trans hz.2 (by decide), run_ret (Y := syL [0, b, ((0 : Int).fdiv (2 ^ min (Int.toNat ((wrap64U (lowV b)).tmod 32)) (IntKind.bits .i32)))] []) facts_nil (orcs_cons (orc_shr (isI_int .i32 0) (isI_sym (n := (wrap64U (lowV b)).tmod 32) rfl hr.1 hr.2) hr.1 (isI_sym (n := ((0 : Int).fdiv (2 ^ min (Int.toNat ((wrap64U (lowV b)).tmod 32)) (IntKind.bits .i32)))) rfl hz.1 hz.2)) (fun _ h => orcs_nil h)) KnownOk.nil (concs3 (isS_str rfl) nanA_ok (numA_ok (i := 1) (n := b) rfl hb.1 hb.2)) (resN_ok (e := .var 2) (n := ((0 : Int).fdiv (2 ^ min (Int.toNat ((wrap64U (lowV b)).tmod 32)) (IntKind.bits .i32)))) rfl hz.1 hz.2 _) run74⟩
theorem run75 : evKn (envQ [] [.bin .shr (.sint .i32 (.conv .i32 (.conv .u32 (.conv .u64 (.var 0)))) (-2147483648) 2147483647) (.int .u32 0) (.sint .i32 (.var 2) (-2147483648) 2147483647)]) [] 300 100 (.fn 36) [.str [62, 62], numA 0, nanA] h0 (fun v _ => sameV v (.agg [.i64 3, .sint .i64 (.var 2) (-2147483648) 2147483647, .str []])) = true := by kernel_rfl
theorem shr_mn (ha : -9007199254740992 ≤ a ∧ a ≤ 9007199254740992) : Res 36 [.string (bytesV [62, 62]), (numV a), nanV] := by
  have hl := wrap_in .i32 (IntKind.wrap .u32 (IntKind.wrap .u64 a))
  have hz := fdiv_32 (x := (lowV a)) (n := min (Int.toNat 0) (IntKind.bits .i32)) hl.1 hl.2
  exact ⟨3, _, by omega, by omega, Int.le_trans (by decide) hz.1, Int.le_trans hz.2 (by decide), run_ret (Y := syL [a, 0, ((lowV a).fdiv (2 ^ min (Int.toNat 0) (IntKind.bits .i32)))] []) facts_nil (orcs_cons (orc_shr (isI_sym (n := lowV a) rfl hl.1 hl.2) (isI_int .u32 0) (by omega) (isI_sym (n := ((lowV a).fdiv (2 ^ min (Int.toNat 0) (IntKind.bits .i32)))) rfl hz.1 hz.2)) (fun _ h => orcs_nil h)) KnownOk.nil (concs3 (isS_str rfl) (numA_ok (i := 0) (n := a) rfl ha.1 ha.2) nanA_ok) (resN_ok (e := .var 2) (n := ((lowV a).fdiv (2 ^ min (Int.toNat 0) (IntKind.bits .i32)))) rfl hz.1 hz.2 _) run75⟩
theorem run76 : evKn (envQ [] [.bin .shr (.sint .i32 (.conv .i32 (.conv .u32 (.conv .u64 (.var 0)))) (-2147483648) 2147483647) (.sint .u32 (.bin .rem .u32 (.conv .u32 (.conv .i32 (.conv .u32 (.conv .u64 (.var 1))))) (.con 32)) 0 31) (.sint .i32 (.var 2) (-2147483648) 2147483647)]) [] 300 100 (.fn 36) [.str [62, 62], numA 0, numA 1] h0 (fun v _ => sameV v (.agg [.i64 3, .sint .i64 (.var 2) (-2147483648) 2147483647, .str []])) = true := by kernel_rfl
theorem shr_mm (ha : -9007199254740992 ≤ a ∧ a ≤ 9007199254740992) (hb : -9007199254740992 ≤ b ∧ b ≤ 9007199254740992) : Res 36 [.string (bytesV [62, 62]), (numV a), (numV b)] := by
  have hr : (0 : Int) ≤ ((wrap64U (lowV b)).tmod 32) ∧ ((wrap64U (lowV b)).tmod 32) ≤ 31 := rem_32 _
  have hl := wrap_in .i32 (IntKind.wrap .u32 (IntKind.wrap .u64 a))
  have hz := fdiv_32 (x := (lowV a)) (n := min (Int.toNat ((wrap64U (lowV b)).tmod 32)) (IntKind.bits .i32)) hl.1 hl.2
  exact ⟨3, _, by omega, by omega, Int.le_trans (by decide) hz.1, Int.le_trans hz.2 (by decide), run_ret (Y := syL [a, b, ((lowV a).fdiv (2 ^ min (Int.toNat ((wrap64U (lowV b)).tmod 32)) (IntKind.bits .i32)))] []) facts_nil (orcs_cons (orc_shr (isI_sym (n := lowV a) rfl hl.1 hl.2) (isI_sym (n := (wrap64U (lowV b)).tmod 32) rfl hr.1 hr.2) hr.1 (isI_sym (n := ((lowV a).fdiv (2 ^ min (Int.toNat ((wrap64U (lowV b)).tmod 32)) (IntKind.bits .i32)))) rfl hz.1 hz.2)) (fun _ h => orcs_nil h)) KnownOk.nil (concs3 (isS_str rfl) (numA_ok (i := 0) (n := a) rfl ha.1 ha.2) (numA_ok (i := 1) (n := b) rfl hb.1 hb.2)) (resN_ok (e := .var 2) (n := ((lowV a).fdiv (2 ^ min (Int.toNat ((wrap64U (lowV b)).tmod 32)) (IntKind.bits .i32)))) rfl hz.1 hz.2 _) run76⟩

end

/-- a number, or none -/
def IsNum (v : Value) : Prop := v = nanV ∨ ∃ n, (-9007199254740992 ≤ n ∧ n ≤ 9007199254740992) ∧ v = numV n

theorem add_any {x y : Value} (hx : IsNum x) (hy : IsNum y) : Res 36 [.string (bytesV [43]), x, y] := by
  rcases hx with rfl | ⟨a, ha, rfl⟩ <;> rcases hy with rfl | ⟨b, hb, rfl⟩
  · exact add_nn
  · exact add_nm hb
  · exact add_mn ha
  · exact add_mm ha hb
theorem sub_any {x y : Value} (hx : IsNum x) (hy : IsNum y) : Res 36 [.string (bytesV [45]), x, y] := by
  rcases hx with rfl | ⟨a, ha, rfl⟩ <;> rcases hy with rfl | ⟨b, hb, rfl⟩
  · exact sub_nn
  · exact sub_nm hb
  · exact sub_mn ha
  · exact sub_mm ha hb
theorem mul_any {x y : Value} (hx : IsNum x) (hy : IsNum y) : Res 36 [.string (bytesV [42]), x, y] := by
  rcases hx with rfl | ⟨a, ha, rfl⟩ <;> rcases hy with rfl | ⟨b, hb, rfl⟩
  · exact mul_nn
  · exact mul_nm hb
  · exact mul_mn ha
  · exact mul_mm ha hb
theorem div_any {x y : Value} (hx : IsNum x) (hy : IsNum y) : Res 36 [.string (bytesV [47]), x, y] := by
  rcases hx with rfl | ⟨a, ha, rfl⟩ <;> rcases hy with rfl | ⟨b, hb, rfl⟩
  · exact div_nn
  · exact div_nm hb
  · exact div_mn ha
  · exact div_mm ha hb
theorem rem_any {x y : Value} (hx : IsNum x) (hy : IsNum y) : Res 36 [.string (bytesV [37]), x, y] := by
  rcases hx with rfl | ⟨a, ha, rfl⟩ <;> rcases hy with rfl | ⟨b, hb, rfl⟩
  · exact rem_nn
  · exact rem_nm hb
  · exact rem_mn ha
  · exact rem_mm ha hb
theorem lss_any {x y : Value} (hx : IsNum x) (hy : IsNum y) : Res 36 [.string (bytesV [60]), x, y] := by
  rcases hx with rfl | ⟨a, ha, rfl⟩ <;> rcases hy with rfl | ⟨b, hb, rfl⟩
  · exact lss_nn
  · exact lss_nm hb
  · exact lss_mn ha
  · exact lss_mm ha hb
theorem gtr_any {x y : Value} (hx : IsNum x) (hy : IsNum y) : Res 36 [.string (bytesV [62]), x, y] := by
  rcases hx with rfl | ⟨a, ha, rfl⟩ <;> rcases hy with rfl | ⟨b, hb, rfl⟩
  · exact gtr_nn
  · exact gtr_nm hb
  · exact gtr_mn ha
  · exact gtr_mm ha hb
theorem leq_any {x y : Value} (hx : IsNum x) (hy : IsNum y) : Res 36 [.string (bytesV [60, 61]), x, y] := by
  rcases hx with rfl | ⟨a, ha, rfl⟩ <;> rcases hy with rfl | ⟨b, hb, rfl⟩
  · exact leq_nn
  · exact leq_nm hb
  · exact leq_mn ha
  · exact leq_mm ha hb
theorem geq_any {x y : Value} (hx : IsNum x) (hy : IsNum y) : Res 36 [.string (bytesV [62, 61]), x, y] := by
  rcases hx with rfl | ⟨a, ha, rfl⟩ <;> rcases hy with rfl | ⟨b, hb, rfl⟩
  · exact geq_nn
  · exact geq_nm hb
  · exact geq_mn ha
  · exact geq_mm ha hb
theorem and_any {x y : Value} (hx : IsNum x) (hy : IsNum y) : Res 36 [.string (bytesV [38]), x, y] := by
  rcases hx with rfl | ⟨a, ha, rfl⟩ <;> rcases hy with rfl | ⟨b, hb, rfl⟩
  · exact and_nn
  · exact and_nm hb
  · exact and_mn ha
  · exact and_mm ha hb
theorem or_any {x y : Value} (hx : IsNum x) (hy : IsNum y) : Res 36 [.string (bytesV [124]), x, y] := by
  rcases hx with rfl | ⟨a, ha, rfl⟩ <;> rcases hy with rfl | ⟨b, hb, rfl⟩
  · exact or_nn
  · exact or_nm hb
  · exact or_mn ha
  · exact or_mm ha hb
theorem xor_any {x y : Value} (hx : IsNum x) (hy : IsNum y) : Res 36 [.string (bytesV [94]), x, y] := by
  rcases hx with rfl | ⟨a, ha, rfl⟩ <;> rcases hy with rfl | ⟨b, hb, rfl⟩
  · exact xor_nn
  · exact xor_nm hb
  · exact xor_mn ha
  · exact xor_mm ha hb
theorem shl_any {x y : Value} (hx : IsNum x) (hy : IsNum y) : Res 36 [.string (bytesV [60, 60]), x, y] := by
  rcases hx with rfl | ⟨a, ha, rfl⟩ <;> rcases hy with rfl | ⟨b, hb, rfl⟩
  · exact shl_nn
  · exact shl_nm hb
  · exact shl_mn ha
  · exact shl_mm ha hb
theorem shr_any {x y : Value} (hx : IsNum x) (hy : IsNum y) : Res 36 [.string (bytesV [62, 62]), x, y] := by
  rcases hx with rfl | ⟨a, ha, rfl⟩ <;> rcases hy with rfl | ⟨b, hb, rfl⟩
  · exact shr_nn
  · exact shr_nm hb
  · exact shr_mn ha
  · exact shr_mm ha hb
theorem run77 : evKn (envQ [] []) [] 300 100 (.fn 51) [.str [45], nanA] h0 (fun v _ => sameV v (nanA)) = true := by kernel_rfl
theorem run78 : evKn (envQ [] []) [] 300 100 (.fn 51) [.str [45], numA 0] h0 (fun v _ => sameV v (.agg [.i64 3, .sint .i64 (.bin .sub .i64 (.con 0) (.var 0)) (-9007199254740992) 9007199254740992, .str []])) = true := by kernel_rfl
theorem sign_neg {x : Value} (hx : IsNum x) : Res 51 [.string (bytesV [45]), x] := by
  rcases hx with rfl | ⟨a, ha, rfl⟩
  · exact ⟨4, 0, by omega, by omega, by omega, by omega, run_ret (Y := syL [] []) facts_nil (fun _ h => orcs_nil h) KnownOk.nil (concs2 (isS_str rfl) nanA_ok) (nanA_ok _) run77⟩
  · have hw : (.bin .sub .i64 (.con 0) (.var 0) : SX).val (syL [a] []) = 0 - a := wrap64_is (n := 0 - a) (by omega) (by omega)
    exact ⟨3, 0 - a, by omega, by omega, by omega, by omega, run_ret (Y := syL [a] []) facts_nil (fun _ h => orcs_nil h) KnownOk.nil (concs2 (isS_str rfl) (numA_ok (i := 0) (n := a) rfl ha.1 ha.2)) (resN_ok hw (by omega) (by omega) _) run78⟩
theorem run79 : evKn (envQ [] []) [] 300 100 (.fn 51) [.str [126], nanA] h0 (fun v _ => sameV v (.agg [.i64 3, .i64 (-1), .str []])) = true := by kernel_rfl
theorem run80 : evKn (envQ [] []) [] 300 100 (.fn 51) [.str [126], numA 0] h0 (fun v _ => sameV v (.agg [.i64 3, .sint .i64 (.bin .xor .i32 (.conv .i32 (.conv .u32 (.conv .u64 (.var 0)))) (.con (-1))) (-2147483648) 2147483647, .str []])) = true := by kernel_rfl
theorem sign_inv {x : Value} (hx : IsNum x) : Res 51 [.string (bytesV [126]), x] := by
  rcases hx with rfl | ⟨a, ha, rfl⟩
  · exact ⟨3, -1, by omega, by omega, by omega, by omega, run_ret (Y := syL [] []) facts_nil (fun _ h => orcs_nil h) KnownOk.nil (concs2 (isS_str rfl) nanA_ok) rfl run79⟩
  · have hw := wrap_in .i32 (BitVec.toNat (BitVec.ofInt 32 ((.conv .i32 (.conv .u32 (.conv .u64 (.var 0))) : SX).val (syL [a] [])) ^^^ BitVec.ofInt 32 (-1)))
    have h1 : (-2147483648 : Int) ≤ (.bin .xor .i32 (.conv .i32 (.conv .u32 (.conv .u64 (.var 0)))) (.con (-1)) : SX).val (syL [a] []) := hw.1
    have h2 : (.bin .xor .i32 (.conv .i32 (.conv .u32 (.conv .u64 (.var 0)))) (.con (-1)) : SX).val (syL [a] []) ≤ (2147483647 : Int) := hw.2
    exact ⟨3, _, by omega, by omega, Int.le_trans (by omega) h1, Int.le_trans h2 (by omega), run_ret (Y := syL [a] []) facts_nil (fun _ h => orcs_nil h) KnownOk.nil (concs2 (isS_str rfl) (numA_ok (i := 0) (n := a) rfl ha.1 ha.2)) (resN_ok rfl h1 h2 _) run80⟩

end Go.Proofs.YtgcmekonnliemaaGreatDoor
