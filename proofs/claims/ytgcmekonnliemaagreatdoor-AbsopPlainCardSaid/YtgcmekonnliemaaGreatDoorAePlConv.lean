/-
  What the conversions and comparisons of plain values answer: that there is an answer, and of what kind; class by class, by the kernel.
-/
import Derived.Test.YtgcmekonnliemaaGreatDoorAePlCalc
import Derived.Test.YtgcmekonnliemaaGreatDoorAePlNum
import Derived.Test.YtgcmekonnliemaaGreatDoorAePlStr
import Derived.Test.YtgcmekonnliemaaGreatDoorAeMay
namespace Go.Proofs.YtgcmekonnliemaaGreatDoor
open Go.AE
set_option maxRecDepth 100000

theorem has156 (fs : List (SX × Int × Int)) (os : List Orc) : hasBody (envQ fs os) 156 = true := by kernel_rfl
theorem has157 (fs : List (SX × Int × Int)) (os : List Orc) : hasBody (envQ fs os) 157 = true := by kernel_rfl
theorem has158 (fs : List (SX × Int × Int)) (os : List Orc) : hasBody (envQ fs os) 158 = true := by kernel_rfl
theorem has109 (fs : List (SX × Int × Int)) (os : List Orc) : hasBody (envQ fs os) 109 = true := by kernel_rfl

theorem empty_of {s : ByteArray} (h : s.size = 0) : s = ByteArray.empty := by
  apply ByteArray.ext
  exact Array.eq_empty_of_size_eq_zero h

section
variable {Y : Sy}

theorem isE : IsS Y (.str []) ByteArray.empty := fun _ => rfl

theorem known156 {fs : List (SX × Int × Int)} {os : List Orc} {s : ByteArray} {r : AV} (h0 : Y.strs 0 = s) (hs : s.size ≤ 300) (hr : IsS Y r (trimW s)) : Gives Y (envQ fs os) 156 [.sstr 0 0 300, .str [9, 10, 13, 32]] r :=
  known_of (trim_ret s (by omega)) (concs2 (isS_sym h0 (Nat.zero_le _) hs rfl) (isS_str rfl)) (hr _)
theorem known157 {fs : List (SX × Int × Int)} {os : List Orc} {t : ByteArray} {x : AV} {p : List Nat} {b : Bool} (hx : IsS Y x t) (hp : okBytes p = true) (hb : preW t (bytesV p) = b) : Gives Y (envQ fs os) 157 [x, .str p] (.bool b) := by
  subst hb
  exact known_of (prefix_ret t (bytesV p)) (concs2 hx (isS_str hp)) rfl
theorem known158 {fs : List (SX × Int × Int)} {os : List Orc} {t : ByteArray} {x : AV} {b n : Int} {ok : Bool} {i : Nat} (hx : IsS Y x t) (h : AE.Returns Tryz.prog 158 [.string t, .int .i64 b] (.tuple #[.int .i64 n, .bool ok])) (hi : Y.ints i = n) (h1 : 0 ≤ n) (h2 : n ≤ 9007199254740992) :
    Gives Y (envQ fs os) 158 [x, .i64 b] (.tuple [.sint .i64 (.var i) 0 9007199254740992, .bool ok]) := by
  refine known_of h (concs2 hx (isI_64 b)) ?_
  have e : concs Y (fun _ => none) [.sint .i64 (.var i) 0 9007199254740992, .bool ok] = some [.int .i64 n, .bool ok] := concs2 (isI_sym hi h1 h2) (fun _ => rfl)
  rw [conc, e]

end

theorem count_any (t : ByteArray) (ht : t.size ≤ 9223372036854775807) (b : Int) (hb : b = 10 ∨ b = 16) : ∃ (n : Int) (ok : Bool), 0 ≤ n ∧ n ≤ 9007199254740992 ∧ AE.Returns Tryz.prog 158 [.string t, .int .i64 b] (.tuple #[.int .i64 n, .bool ok]) := by
  have hr : AE.Returns Tryz.prog 158 [.string t, .int .i64 b] (cntR t b) := by
    rcases hb with rfl | rfl
    · exact fun w => (count_10 t ht w).mono fun e w' h => ⟨h.1, by rw [h.2]; exact RowKit.Below.refl _ _⟩
    · exact fun w => (count_16 t ht w).mono fun e w' h => ⟨h.1, by rw [h.2]; exact RowKit.Below.refl _ _⟩
  have hb0 : 0 ≤ b := by omega
  unfold cntR at hr
  split at hr
  · exact ⟨0, false, by omega, by omega, hr⟩
  · rename_i n hn
    exact ⟨n, _, (cntF_in hb0 hn).1, (cntF_in hb0 hn).2, hr⟩

theorem cun1 : evKn (envQ [] []) [⟨156, [.sstr 0 0 300, .str [9, 10, 13, 32]], .str []⟩] 300 100 (.fn 109) [.sstr 0 0 300] h0 (fun v _ => sameV v (.agg [.i64 3, .i64 0, .str []])) = true := by kernel_rfl
theorem cun2 : evKn (envQ [] [.cut (.sstr 1 2 300) (some (.i64 2)) none (.sstr 2 0 300)]) [⟨156, [.sstr 0 0 300, .str [9, 10, 13, 32]], .sstr 1 2 300⟩, ⟨157, [.sstr 1 2 300, .str [48, 120]], .bool true⟩, ⟨158, [.sstr 2 0 300, .i64 16], .tuple [.sint .i64 (.var 0) 0 9007199254740992, .bool true]⟩] 300 100 (.fn 109) [.sstr 0 0 300] h0 (fun v _ => sameV v (.agg [.i64 3, .sint .i64 (.var 0) 0 9007199254740992, .str []])) = true := by kernel_rfl
theorem cun3 : evKn (envQ [] [.cut (.sstr 1 2 300) (some (.i64 2)) none (.sstr 2 0 300)]) [⟨156, [.sstr 0 0 300, .str [9, 10, 13, 32]], .sstr 1 2 300⟩, ⟨157, [.sstr 1 2 300, .str [48, 120]], .bool true⟩, ⟨158, [.sstr 2 0 300, .i64 16], .tuple [.sint .i64 (.var 0) 0 9007199254740992, .bool false]⟩] 300 100 (.fn 109) [.sstr 0 0 300] h0 (fun v _ => sameV v (nanA)) = true := by kernel_rfl
theorem cun4 : evKn (envQ [] [.cut (.sstr 1 2 300) (some (.i64 2)) none (.sstr 2 0 300)]) [⟨156, [.sstr 0 0 300, .str [9, 10, 13, 32]], .sstr 1 2 300⟩, ⟨157, [.sstr 1 2 300, .str [48, 120]], .bool false⟩, ⟨157, [.sstr 1 2 300, .str [48, 88]], .bool true⟩, ⟨158, [.sstr 2 0 300, .i64 16], .tuple [.sint .i64 (.var 0) 0 9007199254740992, .bool true]⟩] 300 100 (.fn 109) [.sstr 0 0 300] h0 (fun v _ => sameV v (.agg [.i64 3, .sint .i64 (.var 0) 0 9007199254740992, .str []])) = true := by kernel_rfl
theorem cun5 : evKn (envQ [] [.cut (.sstr 1 2 300) (some (.i64 2)) none (.sstr 2 0 300)]) [⟨156, [.sstr 0 0 300, .str [9, 10, 13, 32]], .sstr 1 2 300⟩, ⟨157, [.sstr 1 2 300, .str [48, 120]], .bool false⟩, ⟨157, [.sstr 1 2 300, .str [48, 88]], .bool true⟩, ⟨158, [.sstr 2 0 300, .i64 16], .tuple [.sint .i64 (.var 0) 0 9007199254740992, .bool false]⟩] 300 100 (.fn 109) [.sstr 0 0 300] h0 (fun v _ => sameV v (nanA)) = true := by kernel_rfl
theorem cun6 : evKn (envQ [(.byte 1 0, 45, 45), (.bin .mul .i64 (.con (-1)) (.var 0), -9007199254740992, 0)] [.cut (.sstr 1 1 300) (some (.i64 1)) none (.sstr 2 0 300)]) [⟨156, [.sstr 0 0 300, .str [9, 10, 13, 32]], .sstr 1 1 300⟩, ⟨157, [.sstr 1 1 300, .str [48, 120]], .bool false⟩, ⟨157, [.sstr 1 1 300, .str [48, 88]], .bool false⟩, ⟨158, [.sstr 2 0 300, .i64 10], .tuple [.sint .i64 (.var 0) 0 9007199254740992, .bool true]⟩] 300 100 (.fn 109) [.sstr 0 0 300] h0 (fun v _ => sameV v (.agg [.i64 3, .sint .i64 (.bin .mul .i64 (.con (-1)) (.var 0)) (-9007199254740992) 0, .str []])) = true := by kernel_rfl
theorem cun7 : evKn (envQ [(.byte 1 0, 45, 45), (.bin .mul .i64 (.con (-1)) (.var 0), -9007199254740992, 0)] [.cut (.sstr 1 1 300) (some (.i64 1)) none (.sstr 2 0 300)]) [⟨156, [.sstr 0 0 300, .str [9, 10, 13, 32]], .sstr 1 1 300⟩, ⟨157, [.sstr 1 1 300, .str [48, 120]], .bool false⟩, ⟨157, [.sstr 1 1 300, .str [48, 88]], .bool false⟩, ⟨158, [.sstr 2 0 300, .i64 10], .tuple [.sint .i64 (.var 0) 0 9007199254740992, .bool false]⟩] 300 100 (.fn 109) [.sstr 0 0 300] h0 (fun v _ => sameV v (nanA)) = true := by kernel_rfl
theorem cun8 : evKn (envQ [(.byte 1 0, 43, 43)] [.cut (.sstr 1 1 300) (some (.i64 1)) none (.sstr 2 0 300)]) [⟨156, [.sstr 0 0 300, .str [9, 10, 13, 32]], .sstr 1 1 300⟩, ⟨157, [.sstr 1 1 300, .str [48, 120]], .bool false⟩, ⟨157, [.sstr 1 1 300, .str [48, 88]], .bool false⟩, ⟨158, [.sstr 2 0 300, .i64 10], .tuple [.sint .i64 (.var 0) 0 9007199254740992, .bool true]⟩] 300 100 (.fn 109) [.sstr 0 0 300] h0 (fun v _ => sameV v (.agg [.i64 3, .sint .i64 (.bin .mul .i64 (.con 1) (.var 0)) 0 9007199254740992, .str []])) = true := by kernel_rfl
theorem cun9 : evKn (envQ [(.byte 1 0, 43, 43)] [.cut (.sstr 1 1 300) (some (.i64 1)) none (.sstr 2 0 300)]) [⟨156, [.sstr 0 0 300, .str [9, 10, 13, 32]], .sstr 1 1 300⟩, ⟨157, [.sstr 1 1 300, .str [48, 120]], .bool false⟩, ⟨157, [.sstr 1 1 300, .str [48, 88]], .bool false⟩, ⟨158, [.sstr 2 0 300, .i64 10], .tuple [.sint .i64 (.var 0) 0 9007199254740992, .bool false]⟩] 300 100 (.fn 109) [.sstr 0 0 300] h0 (fun v _ => sameV v (nanA)) = true := by kernel_rfl
theorem cun10 : evKn (envQ [(.byte 1 0, 0, 42)] []) [⟨156, [.sstr 0 0 300, .str [9, 10, 13, 32]], .sstr 1 1 300⟩, ⟨157, [.sstr 1 1 300, .str [48, 120]], .bool false⟩, ⟨157, [.sstr 1 1 300, .str [48, 88]], .bool false⟩, ⟨158, [.sstr 1 1 300, .i64 10], .tuple [.sint .i64 (.var 0) 0 9007199254740992, .bool true]⟩] 300 100 (.fn 109) [.sstr 0 0 300] h0 (fun v _ => sameV v (.agg [.i64 3, .sint .i64 (.bin .mul .i64 (.con 1) (.var 0)) 0 9007199254740992, .str []])) = true := by kernel_rfl
theorem cun11 : evKn (envQ [(.byte 1 0, 0, 42)] []) [⟨156, [.sstr 0 0 300, .str [9, 10, 13, 32]], .sstr 1 1 300⟩, ⟨157, [.sstr 1 1 300, .str [48, 120]], .bool false⟩, ⟨157, [.sstr 1 1 300, .str [48, 88]], .bool false⟩, ⟨158, [.sstr 1 1 300, .i64 10], .tuple [.sint .i64 (.var 0) 0 9007199254740992, .bool false]⟩] 300 100 (.fn 109) [.sstr 0 0 300] h0 (fun v _ => sameV v (nanA)) = true := by kernel_rfl
theorem cun12 : evKn (envQ [(.byte 1 0, 44, 44)] []) [⟨156, [.sstr 0 0 300, .str [9, 10, 13, 32]], .sstr 1 1 300⟩, ⟨157, [.sstr 1 1 300, .str [48, 120]], .bool false⟩, ⟨157, [.sstr 1 1 300, .str [48, 88]], .bool false⟩, ⟨158, [.sstr 1 1 300, .i64 10], .tuple [.sint .i64 (.var 0) 0 9007199254740992, .bool true]⟩] 300 100 (.fn 109) [.sstr 0 0 300] h0 (fun v _ => sameV v (.agg [.i64 3, .sint .i64 (.bin .mul .i64 (.con 1) (.var 0)) 0 9007199254740992, .str []])) = true := by kernel_rfl
theorem cun13 : evKn (envQ [(.byte 1 0, 44, 44)] []) [⟨156, [.sstr 0 0 300, .str [9, 10, 13, 32]], .sstr 1 1 300⟩, ⟨157, [.sstr 1 1 300, .str [48, 120]], .bool false⟩, ⟨157, [.sstr 1 1 300, .str [48, 88]], .bool false⟩, ⟨158, [.sstr 1 1 300, .i64 10], .tuple [.sint .i64 (.var 0) 0 9007199254740992, .bool false]⟩] 300 100 (.fn 109) [.sstr 0 0 300] h0 (fun v _ => sameV v (nanA)) = true := by kernel_rfl
theorem cun14 : evKn (envQ [(.byte 1 0, 46, 255)] []) [⟨156, [.sstr 0 0 300, .str [9, 10, 13, 32]], .sstr 1 1 300⟩, ⟨157, [.sstr 1 1 300, .str [48, 120]], .bool false⟩, ⟨157, [.sstr 1 1 300, .str [48, 88]], .bool false⟩, ⟨158, [.sstr 1 1 300, .i64 10], .tuple [.sint .i64 (.var 0) 0 9007199254740992, .bool true]⟩] 300 100 (.fn 109) [.sstr 0 0 300] h0 (fun v _ => sameV v (.agg [.i64 3, .sint .i64 (.bin .mul .i64 (.con 1) (.var 0)) 0 9007199254740992, .str []])) = true := by kernel_rfl
theorem cun15 : evKn (envQ [(.byte 1 0, 46, 255)] []) [⟨156, [.sstr 0 0 300, .str [9, 10, 13, 32]], .sstr 1 1 300⟩, ⟨157, [.sstr 1 1 300, .str [48, 120]], .bool false⟩, ⟨157, [.sstr 1 1 300, .str [48, 88]], .bool false⟩, ⟨158, [.sstr 1 1 300, .i64 10], .tuple [.sint .i64 (.var 0) 0 9007199254740992, .bool false]⟩] 300 100 (.fn 109) [.sstr 0 0 300] h0 (fun v _ => sameV v (nanA)) = true := by kernel_rfl

theorem extract_size (t : ByteArray) (n : Nat) : (t.extract n t.size).size ≤ t.size := by
  rw [ByteArray.size_extract]
  omega

theorem byte0_in (t : ByteArray) : 0 ≤ (((t[0]?.getD 0).toNat : Nat) : Int) ∧ (((t[0]?.getD 0).toNat : Nat) : Int) ≤ 255 := by
  have := (t[0]?.getD 0).toNat_lt
  omega

set_option maxHeartbeats 2000000 in
/-- a string, read as a number -/
theorem read_any (s : ByteArray) (hs : s.size ≤ 300) : ∃ v, IsNum v ∧ AE.Returns Tryz.prog 109 [.string s] v := by
  have ht := trimW_size s
  have hnum : ∀ n : Int, 0 ≤ n → n ≤ 9007199254740992 → IsNum (numV n) := fun n h1 h2 => .inr ⟨n, ⟨by omega, h2⟩, rfl⟩
  generalize htw : trimW s = t at ht
  by_cases c0 : t.size = 0
  · obtain rfl := empty_of c0
    exact ⟨numV 0, hnum 0 (by omega) (by omega), run_ret (Y := syL [] [s]) facts_nil (fun _ h => orcs_nil h) (KnownOk.cons (has156 _ _) (known156 (s := s) rfl hs (by rw [htw]; exact isS_str rfl)) KnownOk.nil) (concs1 (isS_sym (s := s) rfl (Nat.zero_le _) hs rfl)) rfl cun1⟩
  have hI : ∀ (Y : Sy) (l : Nat), Y.strs 1 = t → l ≤ t.size → IsS Y (.sstr 1 l 300) t := fun Y l h hl => isS_sym h hl (by omega) rfl
  have hC : ∀ (Y : Sy) (n : Nat), Y.strs 2 = t.extract n t.size → IsS Y (.sstr 2 0 300) (t.extract n t.size) := fun Y n h => isS_sym h (Nat.zero_le _) (by have := extract_size t n; omega) rfl
  by_cases cx : preW t (bytesV [48, 120]) = true
  · have h2z : 2 ≤ t.size := preW_size cx
    obtain ⟨n, ok, h1, h2, hr⟩ := count_any (t.extract 2 t.size) (by have := extract_size t 2; omega) 16 (.inr rfl)
    cases ok
    · exact ⟨nanV, .inl rfl, run_ret (Y := syL [n] [s, t, t.extract 2 t.size]) facts_nil (orcs_cons (orc_from (hI (syL [n] [s, t, t.extract 2 t.size]) 2 rfl h2z) h2z (hC (syL [n] [s, t, t.extract 2 t.size]) 2 rfl)) (fun _ h => orcs_nil h)) (KnownOk.cons (has156 _ _) (known156 (s := s) rfl hs (by rw [htw]; exact hI (syL [n] [s, t, t.extract 2 t.size]) 2 rfl h2z)) (KnownOk.cons (has157 _ _) (known157 (hI (syL [n] [s, t, t.extract 2 t.size]) 2 rfl h2z) rfl cx) (KnownOk.cons (has158 _ _) (known158 (i := 0) (hC (syL [n] [s, t, t.extract 2 t.size]) 2 rfl) hr rfl h1 h2) KnownOk.nil))) (concs1 (isS_sym (s := s) rfl (Nat.zero_le _) hs rfl)) (nanA_ok _) cun3⟩
    · exact ⟨numV n, hnum n h1 h2, run_ret (Y := syL [n] [s, t, t.extract 2 t.size]) facts_nil (orcs_cons (orc_from (hI (syL [n] [s, t, t.extract 2 t.size]) 2 rfl h2z) h2z (hC (syL [n] [s, t, t.extract 2 t.size]) 2 rfl)) (fun _ h => orcs_nil h)) (KnownOk.cons (has156 _ _) (known156 (s := s) rfl hs (by rw [htw]; exact hI (syL [n] [s, t, t.extract 2 t.size]) 2 rfl h2z)) (KnownOk.cons (has157 _ _) (known157 (hI (syL [n] [s, t, t.extract 2 t.size]) 2 rfl h2z) rfl cx) (KnownOk.cons (has158 _ _) (known158 (i := 0) (hC (syL [n] [s, t, t.extract 2 t.size]) 2 rfl) hr rfl h1 h2) KnownOk.nil))) (concs1 (isS_sym (s := s) rfl (Nat.zero_le _) hs rfl)) (resN_ok (e := .var 0) (n := n) rfl h1 h2 _) cun2⟩
  by_cases cX : preW t (bytesV [48, 88]) = true
  · have h2z : 2 ≤ t.size := preW_size cX
    obtain ⟨n, ok, h1, h2, hr⟩ := count_any (t.extract 2 t.size) (by have := extract_size t 2; omega) 16 (.inr rfl)
    cases ok
    · exact ⟨nanV, .inl rfl, run_ret (Y := syL [n] [s, t, t.extract 2 t.size]) facts_nil (orcs_cons (orc_from (hI (syL [n] [s, t, t.extract 2 t.size]) 2 rfl h2z) h2z (hC (syL [n] [s, t, t.extract 2 t.size]) 2 rfl)) (fun _ h => orcs_nil h)) (KnownOk.cons (has156 _ _) (known156 (s := s) rfl hs (by rw [htw]; exact hI (syL [n] [s, t, t.extract 2 t.size]) 2 rfl h2z)) (KnownOk.cons (has157 _ _) (known157 (hI (syL [n] [s, t, t.extract 2 t.size]) 2 rfl h2z) rfl (Bool.eq_false_iff.2 cx)) (KnownOk.cons (has157 _ _) (known157 (hI (syL [n] [s, t, t.extract 2 t.size]) 2 rfl h2z) rfl cX) (KnownOk.cons (has158 _ _) (known158 (i := 0) (hC (syL [n] [s, t, t.extract 2 t.size]) 2 rfl) hr rfl h1 h2) KnownOk.nil)))) (concs1 (isS_sym (s := s) rfl (Nat.zero_le _) hs rfl)) (nanA_ok _) cun5⟩
    · exact ⟨numV n, hnum n h1 h2, run_ret (Y := syL [n] [s, t, t.extract 2 t.size]) facts_nil (orcs_cons (orc_from (hI (syL [n] [s, t, t.extract 2 t.size]) 2 rfl h2z) h2z (hC (syL [n] [s, t, t.extract 2 t.size]) 2 rfl)) (fun _ h => orcs_nil h)) (KnownOk.cons (has156 _ _) (known156 (s := s) rfl hs (by rw [htw]; exact hI (syL [n] [s, t, t.extract 2 t.size]) 2 rfl h2z)) (KnownOk.cons (has157 _ _) (known157 (hI (syL [n] [s, t, t.extract 2 t.size]) 2 rfl h2z) rfl (Bool.eq_false_iff.2 cx)) (KnownOk.cons (has157 _ _) (known157 (hI (syL [n] [s, t, t.extract 2 t.size]) 2 rfl h2z) rfl cX) (KnownOk.cons (has158 _ _) (known158 (i := 0) (hC (syL [n] [s, t, t.extract 2 t.size]) 2 rfl) hr rfl h1 h2) KnownOk.nil)))) (concs1 (isS_sym (s := s) rfl (Nat.zero_le _) hs rfl)) (resN_ok (e := .var 0) (n := n) rfl h1 h2 _) cun4⟩
  have h1z : 1 ≤ t.size := by omega
  have hb := byte0_in t
  by_cases cm : (((t[0]?.getD 0).toNat : Nat) : Int) = 45
  · obtain ⟨n, ok, h1, h2, hr⟩ := count_any (t.extract 1 t.size) (by have := extract_size t 1; omega) 10 (.inl rfl)
    have hw : (.bin .mul .i64 (.con (-1)) (.var 0) : SX).val (syL [n] [s, t, t.extract 1 t.size]) = -n := by
      have e : (.bin .mul .i64 (.con (-1)) (.var 0) : SX).val (syL [n] [s, t, t.extract 1 t.size]) = IntKind.wrap .i64 (-1 * n) := rfl
      rw [e, wrap64_is (by omega) (by omega)]
      omega
    cases ok
    · exact ⟨nanV, .inl rfl, run_ret (Y := (syL [n] [s, t, t.extract 1 t.size])) (facts_cons (e := .byte 1 0) (by show _ ≤ (((t[0]?.getD 0).toNat : Nat) : Int); omega) (by show (((t[0]?.getD 0).toNat : Nat) : Int) ≤ _; omega) (facts_cons (by rw [hw]; omega) (by rw [hw]; omega) facts_nil)) (orcs_cons (orc_from (hI (syL [n] [s, t, t.extract 1 t.size]) 1 rfl h1z) h1z (hC (syL [n] [s, t, t.extract 1 t.size]) 1 rfl)) (fun _ h => orcs_nil h)) (KnownOk.cons (has156 _ _) (known156 (s := s) rfl hs (by rw [htw]; exact hI (syL [n] [s, t, t.extract 1 t.size]) 1 rfl h1z)) (KnownOk.cons (has157 _ _) (known157 (hI (syL [n] [s, t, t.extract 1 t.size]) 1 rfl h1z) rfl (Bool.eq_false_iff.2 cx)) (KnownOk.cons (has157 _ _) (known157 (hI (syL [n] [s, t, t.extract 1 t.size]) 1 rfl h1z) rfl (Bool.eq_false_iff.2 cX)) (KnownOk.cons (has158 _ _) (known158 (i := 0) (hC (syL [n] [s, t, t.extract 1 t.size]) 1 rfl) hr rfl h1 h2) KnownOk.nil)))) (concs1 (isS_sym (s := s) rfl (Nat.zero_le _) hs rfl)) (nanA_ok _) cun7⟩
    · exact ⟨numV (-n), .inr ⟨-n, ⟨by omega, by omega⟩, rfl⟩, run_ret (Y := (syL [n] [s, t, t.extract 1 t.size])) (facts_cons (e := .byte 1 0) (by show _ ≤ (((t[0]?.getD 0).toNat : Nat) : Int); omega) (by show (((t[0]?.getD 0).toNat : Nat) : Int) ≤ _; omega) (facts_cons (by rw [hw]; omega) (by rw [hw]; omega) facts_nil)) (orcs_cons (orc_from (hI (syL [n] [s, t, t.extract 1 t.size]) 1 rfl h1z) h1z (hC (syL [n] [s, t, t.extract 1 t.size]) 1 rfl)) (fun _ h => orcs_nil h)) (KnownOk.cons (has156 _ _) (known156 (s := s) rfl hs (by rw [htw]; exact hI (syL [n] [s, t, t.extract 1 t.size]) 1 rfl h1z)) (KnownOk.cons (has157 _ _) (known157 (hI (syL [n] [s, t, t.extract 1 t.size]) 1 rfl h1z) rfl (Bool.eq_false_iff.2 cx)) (KnownOk.cons (has157 _ _) (known157 (hI (syL [n] [s, t, t.extract 1 t.size]) 1 rfl h1z) rfl (Bool.eq_false_iff.2 cX)) (KnownOk.cons (has158 _ _) (known158 (i := 0) (hC (syL [n] [s, t, t.extract 1 t.size]) 1 rfl) hr rfl h1 h2) KnownOk.nil)))) (concs1 (isS_sym (s := s) rfl (Nat.zero_le _) hs rfl)) (resN_ok hw (by omega) (by omega) _) cun6⟩
  by_cases cp : (((t[0]?.getD 0).toNat : Nat) : Int) = 43
  · obtain ⟨n, ok, h1, h2, hr⟩ := count_any (t.extract 1 t.size) (by have := extract_size t 1; omega) 10 (.inl rfl)
    have hw1 : (.bin .mul .i64 (.con 1) (.var 0) : SX).val (syL [n] [s, t, t.extract 1 t.size]) = n := by
      have e : (.bin .mul .i64 (.con 1) (.var 0) : SX).val (syL [n] [s, t, t.extract 1 t.size]) = IntKind.wrap .i64 (1 * n) := rfl
      rw [e, wrap64_is (by omega) (by omega)]
      omega
    cases ok
    · exact ⟨nanV, .inl rfl, run_ret (Y := (syL [n] [s, t, t.extract 1 t.size])) (facts_cons (e := .byte 1 0) (by show _ ≤ (((t[0]?.getD 0).toNat : Nat) : Int); omega) (by show (((t[0]?.getD 0).toNat : Nat) : Int) ≤ _; omega) facts_nil) (orcs_cons (orc_from (hI (syL [n] [s, t, t.extract 1 t.size]) 1 rfl h1z) h1z (hC (syL [n] [s, t, t.extract 1 t.size]) 1 rfl)) (fun _ h => orcs_nil h)) (KnownOk.cons (has156 _ _) (known156 (s := s) rfl hs (by rw [htw]; exact hI (syL [n] [s, t, t.extract 1 t.size]) 1 rfl h1z)) (KnownOk.cons (has157 _ _) (known157 (hI (syL [n] [s, t, t.extract 1 t.size]) 1 rfl h1z) rfl (Bool.eq_false_iff.2 cx)) (KnownOk.cons (has157 _ _) (known157 (hI (syL [n] [s, t, t.extract 1 t.size]) 1 rfl h1z) rfl (Bool.eq_false_iff.2 cX)) (KnownOk.cons (has158 _ _) (known158 (i := 0) (hC (syL [n] [s, t, t.extract 1 t.size]) 1 rfl) hr rfl h1 h2) KnownOk.nil)))) (concs1 (isS_sym (s := s) rfl (Nat.zero_le _) hs rfl)) (nanA_ok _) cun9⟩
    · exact ⟨numV n, hnum n h1 h2, run_ret (Y := (syL [n] [s, t, t.extract 1 t.size])) (facts_cons (e := .byte 1 0) (by show _ ≤ (((t[0]?.getD 0).toNat : Nat) : Int); omega) (by show (((t[0]?.getD 0).toNat : Nat) : Int) ≤ _; omega) facts_nil) (orcs_cons (orc_from (hI (syL [n] [s, t, t.extract 1 t.size]) 1 rfl h1z) h1z (hC (syL [n] [s, t, t.extract 1 t.size]) 1 rfl)) (fun _ h => orcs_nil h)) (KnownOk.cons (has156 _ _) (known156 (s := s) rfl hs (by rw [htw]; exact hI (syL [n] [s, t, t.extract 1 t.size]) 1 rfl h1z)) (KnownOk.cons (has157 _ _) (known157 (hI (syL [n] [s, t, t.extract 1 t.size]) 1 rfl h1z) rfl (Bool.eq_false_iff.2 cx)) (KnownOk.cons (has157 _ _) (known157 (hI (syL [n] [s, t, t.extract 1 t.size]) 1 rfl h1z) rfl (Bool.eq_false_iff.2 cX)) (KnownOk.cons (has158 _ _) (known158 (i := 0) (hC (syL [n] [s, t, t.extract 1 t.size]) 1 rfl) hr rfl h1 h2) KnownOk.nil)))) (concs1 (isS_sym (s := s) rfl (Nat.zero_le _) hs rfl)) (resN_ok (e := .bin .mul .i64 (.con 1) (.var 0)) (n := n) hw1 h1 h2 _) cun8⟩
  by_cases ca : (((t[0]?.getD 0).toNat : Nat) : Int) ≤ 42
  · obtain ⟨n, ok, h1, h2, hr⟩ := count_any (t) (by have := extract_size t 1; omega) 10 (.inl rfl)
    have hw1 : (.bin .mul .i64 (.con 1) (.var 0) : SX).val (syL [n] [s, t, t.extract 1 t.size]) = n := by
      have e : (.bin .mul .i64 (.con 1) (.var 0) : SX).val (syL [n] [s, t, t.extract 1 t.size]) = IntKind.wrap .i64 (1 * n) := rfl
      rw [e, wrap64_is (by omega) (by omega)]
      omega
    cases ok
    · exact ⟨nanV, .inl rfl, run_ret (Y := (syL [n] [s, t, t.extract 1 t.size])) (facts_cons (e := .byte 1 0) (by show _ ≤ (((t[0]?.getD 0).toNat : Nat) : Int); omega) (by show (((t[0]?.getD 0).toNat : Nat) : Int) ≤ _; omega) facts_nil) (fun _ h => orcs_nil h) (KnownOk.cons (has156 _ _) (known156 (s := s) rfl hs (by rw [htw]; exact hI (syL [n] [s, t, t.extract 1 t.size]) 1 rfl h1z)) (KnownOk.cons (has157 _ _) (known157 (hI (syL [n] [s, t, t.extract 1 t.size]) 1 rfl h1z) rfl (Bool.eq_false_iff.2 cx)) (KnownOk.cons (has157 _ _) (known157 (hI (syL [n] [s, t, t.extract 1 t.size]) 1 rfl h1z) rfl (Bool.eq_false_iff.2 cX)) (KnownOk.cons (has158 _ _) (known158 (i := 0) (hI (syL [n] [s, t, t.extract 1 t.size]) 1 rfl h1z) hr rfl h1 h2) KnownOk.nil)))) (concs1 (isS_sym (s := s) rfl (Nat.zero_le _) hs rfl)) (nanA_ok _) cun11⟩
    · exact ⟨numV n, hnum n h1 h2, run_ret (Y := (syL [n] [s, t, t.extract 1 t.size])) (facts_cons (e := .byte 1 0) (by show _ ≤ (((t[0]?.getD 0).toNat : Nat) : Int); omega) (by show (((t[0]?.getD 0).toNat : Nat) : Int) ≤ _; omega) facts_nil) (fun _ h => orcs_nil h) (KnownOk.cons (has156 _ _) (known156 (s := s) rfl hs (by rw [htw]; exact hI (syL [n] [s, t, t.extract 1 t.size]) 1 rfl h1z)) (KnownOk.cons (has157 _ _) (known157 (hI (syL [n] [s, t, t.extract 1 t.size]) 1 rfl h1z) rfl (Bool.eq_false_iff.2 cx)) (KnownOk.cons (has157 _ _) (known157 (hI (syL [n] [s, t, t.extract 1 t.size]) 1 rfl h1z) rfl (Bool.eq_false_iff.2 cX)) (KnownOk.cons (has158 _ _) (known158 (i := 0) (hI (syL [n] [s, t, t.extract 1 t.size]) 1 rfl h1z) hr rfl h1 h2) KnownOk.nil)))) (concs1 (isS_sym (s := s) rfl (Nat.zero_le _) hs rfl)) (resN_ok (e := .bin .mul .i64 (.con 1) (.var 0)) (n := n) hw1 h1 h2 _) cun10⟩
  by_cases cc : (((t[0]?.getD 0).toNat : Nat) : Int) ≤ 44
  · obtain ⟨n, ok, h1, h2, hr⟩ := count_any (t) (by have := extract_size t 1; omega) 10 (.inl rfl)
    have hw1 : (.bin .mul .i64 (.con 1) (.var 0) : SX).val (syL [n] [s, t, t.extract 1 t.size]) = n := by
      have e : (.bin .mul .i64 (.con 1) (.var 0) : SX).val (syL [n] [s, t, t.extract 1 t.size]) = IntKind.wrap .i64 (1 * n) := rfl
      rw [e, wrap64_is (by omega) (by omega)]
      omega
    cases ok
    · exact ⟨nanV, .inl rfl, run_ret (Y := (syL [n] [s, t, t.extract 1 t.size])) (facts_cons (e := .byte 1 0) (by show _ ≤ (((t[0]?.getD 0).toNat : Nat) : Int); omega) (by show (((t[0]?.getD 0).toNat : Nat) : Int) ≤ _; omega) facts_nil) (fun _ h => orcs_nil h) (KnownOk.cons (has156 _ _) (known156 (s := s) rfl hs (by rw [htw]; exact hI (syL [n] [s, t, t.extract 1 t.size]) 1 rfl h1z)) (KnownOk.cons (has157 _ _) (known157 (hI (syL [n] [s, t, t.extract 1 t.size]) 1 rfl h1z) rfl (Bool.eq_false_iff.2 cx)) (KnownOk.cons (has157 _ _) (known157 (hI (syL [n] [s, t, t.extract 1 t.size]) 1 rfl h1z) rfl (Bool.eq_false_iff.2 cX)) (KnownOk.cons (has158 _ _) (known158 (i := 0) (hI (syL [n] [s, t, t.extract 1 t.size]) 1 rfl h1z) hr rfl h1 h2) KnownOk.nil)))) (concs1 (isS_sym (s := s) rfl (Nat.zero_le _) hs rfl)) (nanA_ok _) cun13⟩
    · exact ⟨numV n, hnum n h1 h2, run_ret (Y := (syL [n] [s, t, t.extract 1 t.size])) (facts_cons (e := .byte 1 0) (by show _ ≤ (((t[0]?.getD 0).toNat : Nat) : Int); omega) (by show (((t[0]?.getD 0).toNat : Nat) : Int) ≤ _; omega) facts_nil) (fun _ h => orcs_nil h) (KnownOk.cons (has156 _ _) (known156 (s := s) rfl hs (by rw [htw]; exact hI (syL [n] [s, t, t.extract 1 t.size]) 1 rfl h1z)) (KnownOk.cons (has157 _ _) (known157 (hI (syL [n] [s, t, t.extract 1 t.size]) 1 rfl h1z) rfl (Bool.eq_false_iff.2 cx)) (KnownOk.cons (has157 _ _) (known157 (hI (syL [n] [s, t, t.extract 1 t.size]) 1 rfl h1z) rfl (Bool.eq_false_iff.2 cX)) (KnownOk.cons (has158 _ _) (known158 (i := 0) (hI (syL [n] [s, t, t.extract 1 t.size]) 1 rfl h1z) hr rfl h1 h2) KnownOk.nil)))) (concs1 (isS_sym (s := s) rfl (Nat.zero_le _) hs rfl)) (resN_ok (e := .bin .mul .i64 (.con 1) (.var 0)) (n := n) hw1 h1 h2 _) cun12⟩
  obtain ⟨n, ok, h1, h2, hr⟩ := count_any (t) (by have := extract_size t 1; omega) 10 (.inl rfl)
  have hw1 : (.bin .mul .i64 (.con 1) (.var 0) : SX).val (syL [n] [s, t, t.extract 1 t.size]) = n := by
    have e : (.bin .mul .i64 (.con 1) (.var 0) : SX).val (syL [n] [s, t, t.extract 1 t.size]) = IntKind.wrap .i64 (1 * n) := rfl
    rw [e, wrap64_is (by omega) (by omega)]
    omega
  cases ok
  · exact ⟨nanV, .inl rfl, run_ret (Y := (syL [n] [s, t, t.extract 1 t.size])) (facts_cons (e := .byte 1 0) (by show _ ≤ (((t[0]?.getD 0).toNat : Nat) : Int); omega) (by show (((t[0]?.getD 0).toNat : Nat) : Int) ≤ _; omega) facts_nil) (fun _ h => orcs_nil h) (KnownOk.cons (has156 _ _) (known156 (s := s) rfl hs (by rw [htw]; exact hI (syL [n] [s, t, t.extract 1 t.size]) 1 rfl h1z)) (KnownOk.cons (has157 _ _) (known157 (hI (syL [n] [s, t, t.extract 1 t.size]) 1 rfl h1z) rfl (Bool.eq_false_iff.2 cx)) (KnownOk.cons (has157 _ _) (known157 (hI (syL [n] [s, t, t.extract 1 t.size]) 1 rfl h1z) rfl (Bool.eq_false_iff.2 cX)) (KnownOk.cons (has158 _ _) (known158 (i := 0) (hI (syL [n] [s, t, t.extract 1 t.size]) 1 rfl h1z) hr rfl h1 h2) KnownOk.nil)))) (concs1 (isS_sym (s := s) rfl (Nat.zero_le _) hs rfl)) (nanA_ok _) cun15⟩
  · exact ⟨numV n, hnum n h1 h2, run_ret (Y := (syL [n] [s, t, t.extract 1 t.size])) (facts_cons (e := .byte 1 0) (by show _ ≤ (((t[0]?.getD 0).toNat : Nat) : Int); omega) (by show (((t[0]?.getD 0).toNat : Nat) : Int) ≤ _; omega) facts_nil) (fun _ h => orcs_nil h) (KnownOk.cons (has156 _ _) (known156 (s := s) rfl hs (by rw [htw]; exact hI (syL [n] [s, t, t.extract 1 t.size]) 1 rfl h1z)) (KnownOk.cons (has157 _ _) (known157 (hI (syL [n] [s, t, t.extract 1 t.size]) 1 rfl h1z) rfl (Bool.eq_false_iff.2 cx)) (KnownOk.cons (has157 _ _) (known157 (hI (syL [n] [s, t, t.extract 1 t.size]) 1 rfl h1z) rfl (Bool.eq_false_iff.2 cX)) (KnownOk.cons (has158 _ _) (known158 (i := 0) (hI (syL [n] [s, t, t.extract 1 t.size]) 1 rfl h1z) hr rfl h1 h2) KnownOk.nil)))) (concs1 (isS_sym (s := s) rfl (Nat.zero_le _) hs rfl)) (resN_ok (e := .bin .mul .i64 (.con 1) (.var 0)) (n := n) hw1 h1 h2 _) cun14⟩

/-- the classes of plain values: undefined, null, a truth value, a number, none, a text, a symbol -/
inductive Pl : Int → Int → ByteArray → Prop
  | u : Pl 0 0 ByteArray.empty
  | l : Pl 1 0 ByteArray.empty
  | b (n : Int) (h : 0 ≤ n ∧ n ≤ 1) : Pl 2 n ByteArray.empty
  | n (n : Int) (h : -9007199254740992 ≤ n ∧ n ≤ 9007199254740992) : Pl 3 n ByteArray.empty
  | q : Pl 4 0 ByteArray.empty
  | t (s : ByteArray) (h : s.size ≤ 300) : Pl 5 0 s
  | s (n : Int) (h : 1 ≤ n ∧ n ≤ 2) : Pl 6 n ByteArray.empty

theorem cun16 : evKn (envQ [] []) [] 300 100 (.fn 50) [.agg [.i64 0, .i64 0, .str []]] h0 (fun v _ => sameV v (.tuple [nanA, .i64 0])) = true := by kernel_rfl
theorem cun17 : evKn (envQ [] []) [] 300 100 (.fn 50) [.agg [.i64 1, .i64 0, .str []]] h0 (fun v _ => sameV v (.tuple [.agg [.i64 3, .i64 0, .str []], .i64 0])) = true := by kernel_rfl
theorem cun18 : evKn (envQ [] []) [] 300 100 (.fn 50) [.agg [.i64 2, .i64 0, .str []]] h0 (fun v _ => sameV v (.tuple [.agg [.i64 3, .i64 0, .str []], .i64 0])) = true := by kernel_rfl
theorem cun19 : evKn (envQ [] []) [] 300 100 (.fn 50) [.agg [.i64 2, .i64 1, .str []]] h0 (fun v _ => sameV v (.tuple [.agg [.i64 3, .i64 1, .str []], .i64 0])) = true := by kernel_rfl
theorem cun20 : evKn (envQ [] []) [] 300 100 (.fn 50) [numA 0] h0 (fun v _ => sameV v (.tuple [numA 0, .i64 0])) = true := by kernel_rfl
theorem cun21 : evKn (envQ [] []) [] 300 100 (.fn 50) [nanA] h0 (fun v _ => sameV v (.tuple [nanA, .i64 0])) = true := by kernel_rfl
theorem cun22 : evKn (envQ [] []) [⟨109, [.sstr 0 0 300], nanA⟩] 300 100 (.fn 50) [.agg [.i64 5, .i64 0, .sstr 0 0 300]] h0 (fun v _ => sameV v (.tuple [nanA, .i64 0])) = true := by kernel_rfl
theorem cun23 : evKn (envQ [] []) [⟨109, [.sstr 0 0 300], numA 0⟩] 300 100 (.fn 50) [.agg [.i64 5, .i64 0, .sstr 0 0 300]] h0 (fun v _ => sameV v (.tuple [numA 0, .i64 0])) = true := by kernel_rfl

theorem tup_ok {Y : Sy} {x : AV} {v : Value} (h : ∀ ρ, conc Y ρ x = some v) : conc Y (fun _ => none) (.tuple [x, .i64 0]) = some (.tuple #[v, .int .i64 0]) := by
  rw [conc, concs2 h (isI_64 0)]

theorem num_self {v : Value} (h : IsNum v) : AE.Returns Tryz.prog 50 [v] (.tuple #[v, .int .i64 0]) := by
  rcases h with rfl | ⟨n, h, rfl⟩
  · exact run_ret (Y := syL [] []) facts_nil (fun _ h => orcs_nil h) KnownOk.nil (concs1 nanA_ok) (tup_ok nanA_ok) cun21
  · exact run_ret (Y := syL [n] []) facts_nil (fun _ h => orcs_nil h) KnownOk.nil (concs1 (numA_ok (i := 0) (n := n) rfl h.1 h.2)) (tup_ok (numA_ok (i := 0) (n := n) rfl h.1 h.2)) cun20

/-- a plain value that is no symbol, as a number -/
theorem num_any {k n : Int} {s : ByteArray} (h : Pl k n s) (hk : k ≤ 5) : ∃ v, IsNum v ∧ AE.Returns Tryz.prog 50 [vC k n s] (.tuple #[v, .int .i64 0]) := by
  have hz : ∀ n : Int, 0 ≤ n → n ≤ 1 → IsNum (numV n) := fun n h1 h2 => .inr ⟨n, ⟨by omega, by omega⟩, rfl⟩
  cases h with
  | u => exact ⟨nanV, .inl rfl, run_ret (Y := syL [] []) facts_nil (fun _ h => orcs_nil h) KnownOk.nil (concs1 fun _ => rfl) (tup_ok nanA_ok) cun16⟩
  | l => exact ⟨numV 0, hz 0 (by omega) (by omega), run_ret (Y := syL [] []) facts_nil (fun _ h => orcs_nil h) KnownOk.nil (concs1 fun _ => rfl) (tup_ok fun _ => rfl) cun17⟩
  | b _ h =>
    have : n = 0 ∨ n = 1 := by omega
    rcases this with rfl | rfl
    · exact ⟨numV 0, hz 0 (by omega) (by omega), run_ret (Y := syL [] []) facts_nil (fun _ h => orcs_nil h) KnownOk.nil (concs1 fun _ => rfl) (tup_ok fun _ => rfl) cun18⟩
    · exact ⟨numV 1, hz 1 (by omega) (by omega), run_ret (Y := syL [] []) facts_nil (fun _ h => orcs_nil h) KnownOk.nil (concs1 fun _ => rfl) (tup_ok fun _ => rfl) cun19⟩
  | n _ h => exact ⟨numV n, .inr ⟨n, h, rfl⟩, num_self (.inr ⟨n, h, rfl⟩)⟩
  | q => exact ⟨nanV, .inl rfl, num_self (.inl rfl)⟩
  | t _ h =>
    obtain ⟨v, hv, hr⟩ := read_any s h
    refine ⟨v, hv, ?_⟩
    rcases hv with rfl | ⟨m, hm, rfl⟩
    · exact run_ret (Y := syL [] [s]) facts_nil (fun _ h => orcs_nil h) (KnownOk.cons (has109 _ _) (known_of hr (concs1 (isS_sym (s := s) rfl (Nat.zero_le _) h rfl)) (nanA_ok _)) KnownOk.nil) (concs1 (conc_val (isI_64 5) (isI_64 0) (isS_sym (s := s) rfl (Nat.zero_le _) h rfl) rfl)) (tup_ok nanA_ok) cun22
    · exact run_ret (Y := syL [m] [s]) facts_nil (fun _ h => orcs_nil h) (KnownOk.cons (has109 _ _) (known_of hr (concs1 (isS_sym (s := s) rfl (Nat.zero_le _) h rfl)) (numA_ok (i := 0) (n := m) rfl hm.1 hm.2 _)) KnownOk.nil) (concs1 (conc_val (isI_64 5) (isI_64 0) (isS_sym (s := s) rfl (Nat.zero_le _) h rfl) rfl)) (tup_ok (numA_ok (i := 0) (n := m) rfl hm.1 hm.2)) cun23
  | s _ _ => omega

theorem cun24 : evKn (envQ [] []) [] 300 100 (.fn 49) [.agg [.i64 0, .i64 0, .str []]] h0 (fun v _ => sameV v (.bool false)) = true := by kernel_rfl
theorem cun25 : evKn (envQ [] []) [] 300 100 (.fn 49) [.agg [.i64 1, .i64 0, .str []]] h0 (fun v _ => sameV v (.bool false)) = true := by kernel_rfl
theorem cun26 : evKn (envQ [] []) [] 300 100 (.fn 49) [.agg [.i64 2, .i64 0, .str []]] h0 (fun v _ => sameV v (.bool false)) = true := by kernel_rfl
theorem cun27 : evKn (envQ [] []) [] 300 100 (.fn 49) [.agg [.i64 2, .i64 1, .str []]] h0 (fun v _ => sameV v (.bool true)) = true := by kernel_rfl
theorem cun28 : evKn (envQ [] []) [] 300 100 (.fn 49) [.agg [.i64 4, .i64 0, .str []]] h0 (fun v _ => sameV v (.bool false)) = true := by kernel_rfl
theorem cun29 : evKn (envQ [] []) [] 300 100 (.fn 49) [.agg [.i64 3, .i64 0, .str []]] h0 (fun v _ => sameV v (.bool false)) = true := by kernel_rfl
theorem cun30 : evKn (envQ [] []) [] 300 100 (.fn 49) [.agg [.i64 3, .sint .i64 (.var 0) (-9007199254740992) (-1), .str []]] h0 (fun v _ => sameV v (.bool true)) = true := by kernel_rfl
theorem cun31 : evKn (envQ [] []) [] 300 100 (.fn 49) [.agg [.i64 3, .sint .i64 (.var 0) 1 9007199254740992, .str []]] h0 (fun v _ => sameV v (.bool true)) = true := by kernel_rfl
theorem cun32 : evKn (envQ [] []) [] 300 100 (.fn 49) [.agg [.i64 5, .i64 0, .str []]] h0 (fun v _ => sameV v (.bool false)) = true := by kernel_rfl
theorem cun33 : evKn (envQ [] []) [] 300 100 (.fn 49) [.agg [.i64 5, .i64 0, .sstr 0 1 300]] h0 (fun v _ => sameV v (.bool true)) = true := by kernel_rfl
theorem cun34 : evKn (envQ [] []) [] 300 100 (.fn 49) [.agg [.i64 6, .sint .i64 (.var 0) 1 2, .str []]] h0 (fun v _ => sameV v (.bool true)) = true := by kernel_rfl

theorem truth_any {k n : Int} {s : ByteArray} (h : Pl k n s) : ∃ r, AE.Returns Tryz.prog 49 [vC k n s] (.bool r) := by
  cases h with
  | u => exact ⟨false, run_ret (Y := syL [] []) facts_nil (fun _ h => orcs_nil h) KnownOk.nil (concs1 (fun _ => rfl)) rfl cun24⟩
  | l => exact ⟨false, run_ret (Y := syL [] []) facts_nil (fun _ h => orcs_nil h) KnownOk.nil (concs1 (fun _ => rfl)) rfl cun25⟩
  | b _ h =>
    have : n = 0 ∨ n = 1 := by omega
    rcases this with rfl | rfl
    · exact ⟨false, run_ret (Y := syL [] []) facts_nil (fun _ h => orcs_nil h) KnownOk.nil (concs1 (fun _ => rfl)) rfl cun26⟩
    · exact ⟨true, run_ret (Y := syL [] []) facts_nil (fun _ h => orcs_nil h) KnownOk.nil (concs1 (fun _ => rfl)) rfl cun27⟩
  | n _ h =>
    rcases Int.lt_trichotomy n 0 with c | rfl | c
    · exact ⟨true, run_ret (Y := syL [n] []) facts_nil (fun _ h => orcs_nil h) KnownOk.nil (concs1 (resN_ok (e := .var 0) (n := n) rfl h.1 (by omega))) rfl cun30⟩
    · exact ⟨false, run_ret (Y := syL [] []) facts_nil (fun _ h => orcs_nil h) KnownOk.nil (concs1 (fun _ => rfl)) rfl cun29⟩
    · exact ⟨true, run_ret (Y := syL [n] []) facts_nil (fun _ h => orcs_nil h) KnownOk.nil (concs1 (resN_ok (e := .var 0) (n := n) rfl (by omega) h.2)) rfl cun31⟩
  | q => exact ⟨false, run_ret (Y := syL [] []) facts_nil (fun _ h => orcs_nil h) KnownOk.nil (concs1 (fun _ => rfl)) rfl cun28⟩
  | t _ h =>
    by_cases c : s.size = 0
    · obtain rfl := empty_of c
      exact ⟨false, run_ret (Y := syL [] []) facts_nil (fun _ h => orcs_nil h) KnownOk.nil (concs1 (fun _ => rfl)) rfl cun32⟩
    · exact ⟨true, run_ret (Y := syL [] [s]) facts_nil (fun _ h => orcs_nil h) KnownOk.nil (concs1 (conc_val (isI_64 5) (isI_64 0) (isS_sym (s := s) rfl (by omega) h rfl) rfl)) rfl cun33⟩
  | s _ h => exact ⟨true, run_ret (Y := syL [n] []) facts_nil (fun _ h => orcs_nil h) KnownOk.nil (concs1 (conc_val (isI_64 6) (isI_sym (n := n) rfl h.1 h.2) (isS_str rfl) rfl)) rfl cun34⟩

theorem cun35 : evKn (envQ [] [.eqa [1, 1, 2] [.sint .i64 (.var 0) (-9223372036854775808) 9223372036854775807, .sint .i64 (.var 1) (-9223372036854775808) 9223372036854775807, .sstr 0 0 9223372036854775807] [.sint .i64 (.var 2) (-9223372036854775808) 9223372036854775807, .sint .i64 (.var 3) (-9223372036854775808) 9223372036854775807, .sstr 1 0 9223372036854775807] false]) [] 300 100 (.fn 30) [.agg [.sint .i64 (.var 0) (-9223372036854775808) 9223372036854775807, .sint .i64 (.var 1) (-9223372036854775808) 9223372036854775807, .sstr 0 0 9223372036854775807], .agg [.sint .i64 (.var 2) (-9223372036854775808) 9223372036854775807, .sint .i64 (.var 3) (-9223372036854775808) 9223372036854775807, .sstr 1 0 9223372036854775807]] h0 (fun v _ => sameV v (.bool false)) = true := by kernel_rfl
theorem cun36 : evKn (envQ [] [.eqa [1, 1, 2] [.sint .i64 (.var 0) (-9223372036854775808) 3, .sint .i64 (.var 1) (-9223372036854775808) 9223372036854775807, .sstr 0 0 9223372036854775807] [.sint .i64 (.var 2) (-9223372036854775808) 3, .sint .i64 (.var 3) (-9223372036854775808) 9223372036854775807, .sstr 1 0 9223372036854775807] true]) [] 300 100 (.fn 30) [.agg [.sint .i64 (.var 0) (-9223372036854775808) 3, .sint .i64 (.var 1) (-9223372036854775808) 9223372036854775807, .sstr 0 0 9223372036854775807], .agg [.sint .i64 (.var 2) (-9223372036854775808) 3, .sint .i64 (.var 3) (-9223372036854775808) 9223372036854775807, .sstr 1 0 9223372036854775807]] h0 (fun v _ => sameV v (.bool true)) = true := by kernel_rfl
theorem cun37 : evKn (envQ [] [.eqa [1, 1, 2] [.i64 4, .sint .i64 (.var 1) (-9223372036854775808) 9223372036854775807, .sstr 0 0 9223372036854775807] [.i64 4, .sint .i64 (.var 3) (-9223372036854775808) 9223372036854775807, .sstr 1 0 9223372036854775807] true]) [] 300 100 (.fn 30) [.agg [.i64 4, .sint .i64 (.var 1) (-9223372036854775808) 9223372036854775807, .sstr 0 0 9223372036854775807], .agg [.i64 4, .sint .i64 (.var 3) (-9223372036854775808) 9223372036854775807, .sstr 1 0 9223372036854775807]] h0 (fun v _ => sameV v (.bool false)) = true := by kernel_rfl
theorem cun38 : evKn (envQ [] [.eqa [1, 1, 2] [.sint .i64 (.var 0) 5 9223372036854775807, .sint .i64 (.var 1) (-9223372036854775808) 9223372036854775807, .sstr 0 0 9223372036854775807] [.sint .i64 (.var 2) 5 9223372036854775807, .sint .i64 (.var 3) (-9223372036854775808) 9223372036854775807, .sstr 1 0 9223372036854775807] true]) [] 300 100 (.fn 30) [.agg [.sint .i64 (.var 0) 5 9223372036854775807, .sint .i64 (.var 1) (-9223372036854775808) 9223372036854775807, .sstr 0 0 9223372036854775807], .agg [.sint .i64 (.var 2) 5 9223372036854775807, .sint .i64 (.var 3) (-9223372036854775808) 9223372036854775807, .sstr 1 0 9223372036854775807]] h0 (fun v _ => sameV v (.bool true)) = true := by kernel_rfl

theorem strict_any {k n k' n' : Int} {s s' : ByteArray} (h : fits k n s) (h' : fits k' n' s') : ∃ r, AE.Returns Tryz.prog 30 [vC k n s, vC k' n' s'] (.bool r) := by
  have hk : ∀ (Y : Sy) (j : Nat) (m lo hi : Int), Y.ints j = m → lo ≤ m → m ≤ hi → IsI Y (.sint .i64 (.var j) lo hi) .i64 m := fun Y j m lo hi e h1 h2 => isI_sym e h1 h2
  have hs : ∀ (Y : Sy) (j : Nat) (u : ByteArray), Y.strs j = u → Nat.ble neFrom j = false → u.size ≤ 9223372036854775807 → IsS Y (.sstr j 0 9223372036854775807) u := fun Y j u e hj hu => isS_sym e (Nat.zero_le _) hu hj
  by_cases c : sameW k n s k' n' s' = true
  · have hkk : k = k' := by
      unfold sameW at c
      simp only [Bool.and_eq_true, beq_iff_eq] at c
      exact c.1
    subst hkk
    by_cases c4 : k = 4
    · subst c4
      exact ⟨false, run_ret (Y := (syL [0, n, 0, n'] [s, s'])) facts_nil (orcs_cons (orc_same (isI_64 4) (hk (syL [0, n, 0, n'] [s, s']) 1 n _ _ rfl h.2.1.1 h.2.1.2) (hs (syL [0, n, 0, n'] [s, s']) 0 s rfl rfl h.2.2) (isI_64 4) (hk (syL [0, n, 0, n'] [s, s']) 3 n' _ _ rfl h'.2.1.1 h'.2.1.2) (hs (syL [0, n, 0, n'] [s, s']) 1 s' rfl rfl h'.2.2) c) (fun _ h => orcs_nil h)) KnownOk.nil (concs2 (conc_val (isI_64 4) (hk (syL [0, n, 0, n'] [s, s']) 1 n _ _ rfl h.2.1.1 h.2.1.2) (hs (syL [0, n, 0, n'] [s, s']) 0 s rfl rfl h.2.2) rfl) (conc_val (isI_64 4) (hk (syL [0, n, 0, n'] [s, s']) 3 n' _ _ rfl h'.2.1.1 h'.2.1.2) (hs (syL [0, n, 0, n'] [s, s']) 1 s' rfl rfl h'.2.2) rfl)) rfl cun37⟩
    by_cases c3 : k < 4
    · exact ⟨true, run_ret (Y := (syL [k, n, k, n'] [s, s'])) facts_nil (orcs_cons (orc_same (hk (syL [k, n, k, n'] [s, s']) 0 k _ _ rfl h.1.1 (by omega)) (hk (syL [k, n, k, n'] [s, s']) 1 n _ _ rfl h.2.1.1 h.2.1.2) (hs (syL [k, n, k, n'] [s, s']) 0 s rfl rfl h.2.2) (hk (syL [k, n, k, n'] [s, s']) 2 k _ _ rfl h'.1.1 (by omega)) (hk (syL [k, n, k, n'] [s, s']) 3 n' _ _ rfl h'.2.1.1 h'.2.1.2) (hs (syL [k, n, k, n'] [s, s']) 1 s' rfl rfl h'.2.2) c) (fun _ h => orcs_nil h)) KnownOk.nil (concs2 (conc_val (hk (syL [k, n, k, n'] [s, s']) 0 k _ _ rfl h.1.1 (by omega)) (hk (syL [k, n, k, n'] [s, s']) 1 n _ _ rfl h.2.1.1 h.2.1.2) (hs (syL [k, n, k, n'] [s, s']) 0 s rfl rfl h.2.2) rfl) (conc_val (hk (syL [k, n, k, n'] [s, s']) 2 k _ _ rfl h'.1.1 (by omega)) (hk (syL [k, n, k, n'] [s, s']) 3 n' _ _ rfl h'.2.1.1 h'.2.1.2) (hs (syL [k, n, k, n'] [s, s']) 1 s' rfl rfl h'.2.2) rfl)) rfl cun36⟩
    · exact ⟨true, run_ret (Y := (syL [k, n, k, n'] [s, s'])) facts_nil (orcs_cons (orc_same (hk (syL [k, n, k, n'] [s, s']) 0 k _ _ rfl (by omega) h.1.2) (hk (syL [k, n, k, n'] [s, s']) 1 n _ _ rfl h.2.1.1 h.2.1.2) (hs (syL [k, n, k, n'] [s, s']) 0 s rfl rfl h.2.2) (hk (syL [k, n, k, n'] [s, s']) 2 k _ _ rfl (by omega) h'.1.2) (hk (syL [k, n, k, n'] [s, s']) 3 n' _ _ rfl h'.2.1.1 h'.2.1.2) (hs (syL [k, n, k, n'] [s, s']) 1 s' rfl rfl h'.2.2) c) (fun _ h => orcs_nil h)) KnownOk.nil (concs2 (conc_val (hk (syL [k, n, k, n'] [s, s']) 0 k _ _ rfl (by omega) h.1.2) (hk (syL [k, n, k, n'] [s, s']) 1 n _ _ rfl h.2.1.1 h.2.1.2) (hs (syL [k, n, k, n'] [s, s']) 0 s rfl rfl h.2.2) rfl) (conc_val (hk (syL [k, n, k, n'] [s, s']) 2 k _ _ rfl (by omega) h'.1.2) (hk (syL [k, n, k, n'] [s, s']) 3 n' _ _ rfl h'.2.1.1 h'.2.1.2) (hs (syL [k, n, k, n'] [s, s']) 1 s' rfl rfl h'.2.2) rfl)) rfl cun38⟩
  · exact ⟨false, run_ret (Y := (syL [k, n, k', n'] [s, s'])) facts_nil (orcs_cons (orc_same (hk (syL [k, n, k', n'] [s, s']) 0 k _ _ rfl h.1.1 h.1.2) (hk (syL [k, n, k', n'] [s, s']) 1 n _ _ rfl h.2.1.1 h.2.1.2) (hs (syL [k, n, k', n'] [s, s']) 0 s rfl rfl h.2.2) (hk (syL [k, n, k', n'] [s, s']) 2 k' _ _ rfl h'.1.1 h'.1.2) (hk (syL [k, n, k', n'] [s, s']) 3 n' _ _ rfl h'.2.1.1 h'.2.1.2) (hs (syL [k, n, k', n'] [s, s']) 1 s' rfl rfl h'.2.2) (Bool.eq_false_iff.2 c)) (fun _ h => orcs_nil h)) KnownOk.nil (concs2 (conc_val (hk (syL [k, n, k', n'] [s, s']) 0 k _ _ rfl h.1.1 h.1.2) (hk (syL [k, n, k', n'] [s, s']) 1 n _ _ rfl h.2.1.1 h.2.1.2) (hs (syL [k, n, k', n'] [s, s']) 0 s rfl rfl h.2.2) rfl) (conc_val (hk (syL [k, n, k', n'] [s, s']) 2 k' _ _ rfl h'.1.1 h'.1.2) (hk (syL [k, n, k', n'] [s, s']) 3 n' _ _ rfl h'.2.1.1 h'.2.1.2) (hs (syL [k, n, k', n'] [s, s']) 1 s' rfl rfl h'.2.2) rfl)) rfl cun35⟩

theorem cun39 : evKn (envQ [] []) [] 300 100 (.fn 31) [.agg [.i64 0, .i64 0, .str []], .agg [.i64 0, .i64 0, .str []]] h0 (fun v _ => sameV v (.tuple [.bool true, .bool true])) = true := by kernel_rfl
theorem loose_uu : ∃ r, AE.Returns Tryz.prog 31 [vC 0 0 ByteArray.empty, vC 0 0 ByteArray.empty] (.tuple #[.bool r, .bool true]) := by
  exact ⟨true, run_ret (Y := syL [0, 0, 0, 0] [ByteArray.empty, ByteArray.empty]) facts_nil (fun _ h => orcs_nil h) KnownOk.nil (concs2 (fun _ => rfl) (fun _ => rfl)) rfl cun39⟩
theorem cun40 : evKn (envQ [] []) [] 300 100 (.fn 31) [.agg [.i64 0, .i64 0, .str []], .agg [.i64 1, .i64 0, .str []]] h0 (fun v _ => sameV v (.tuple [.bool true, .bool true])) = true := by kernel_rfl
theorem loose_ul : ∃ r, AE.Returns Tryz.prog 31 [vC 0 0 ByteArray.empty, vC 1 0 ByteArray.empty] (.tuple #[.bool r, .bool true]) := by
  exact ⟨true, run_ret (Y := syL [0, 0, 0, 0] [ByteArray.empty, ByteArray.empty]) facts_nil (fun _ h => orcs_nil h) KnownOk.nil (concs2 (fun _ => rfl) (fun _ => rfl)) rfl cun40⟩
theorem cun41 : evKn (envQ [] []) [] 300 100 (.fn 31) [.agg [.i64 0, .i64 0, .str []], .agg [.i64 2, .sint .i64 (.var 1) 0 1, .str []]] h0 (fun v _ => sameV v (.tuple [.bool false, .bool true])) = true := by kernel_rfl
theorem loose_ub {n1 : Int} (h1 : 0 ≤ n1 ∧ n1 ≤ 1) : ∃ r, AE.Returns Tryz.prog 31 [vC 0 0 ByteArray.empty, vC 2 n1 ByteArray.empty] (.tuple #[.bool r, .bool true]) := by
  exact ⟨false, run_ret (Y := syL [0, n1, 0, 0] [ByteArray.empty, ByteArray.empty]) facts_nil (fun _ h => orcs_nil h) KnownOk.nil (concs2 (fun _ => rfl) (conc_val (isI_64 2) (isI_sym (n := n1) rfl h1.1 h1.2) (isS_str rfl) rfl)) rfl cun41⟩
theorem cun42 : evKn (envQ [] []) [] 300 100 (.fn 31) [.agg [.i64 0, .i64 0, .str []], numA 1] h0 (fun v _ => sameV v (.tuple [.bool false, .bool true])) = true := by kernel_rfl
theorem loose_un {n1 : Int} (h1 : -9007199254740992 ≤ n1 ∧ n1 ≤ 9007199254740992) : ∃ r, AE.Returns Tryz.prog 31 [vC 0 0 ByteArray.empty, vC 3 n1 ByteArray.empty] (.tuple #[.bool r, .bool true]) := by
  exact ⟨false, run_ret (Y := syL [0, n1, 0, 0] [ByteArray.empty, ByteArray.empty]) facts_nil (fun _ h => orcs_nil h) KnownOk.nil (concs2 (fun _ => rfl) (numA_ok (i := 1) (n := n1) rfl h1.1 h1.2)) rfl cun42⟩
theorem cun43 : evKn (envQ [] []) [] 300 100 (.fn 31) [.agg [.i64 0, .i64 0, .str []], nanA] h0 (fun v _ => sameV v (.tuple [.bool false, .bool true])) = true := by kernel_rfl
theorem loose_uq : ∃ r, AE.Returns Tryz.prog 31 [vC 0 0 ByteArray.empty, vC 4 0 ByteArray.empty] (.tuple #[.bool r, .bool true]) := by
  exact ⟨false, run_ret (Y := syL [0, 0, 0, 0] [ByteArray.empty, ByteArray.empty]) facts_nil (fun _ h => orcs_nil h) KnownOk.nil (concs2 (fun _ => rfl) nanA_ok) rfl cun43⟩
theorem cun44 : evKn (envQ [] []) [] 300 100 (.fn 31) [.agg [.i64 0, .i64 0, .str []], .agg [.i64 5, .i64 0, .sstr 1 0 300]] h0 (fun v _ => sameV v (.tuple [.bool false, .bool true])) = true := by kernel_rfl
theorem loose_ut {s1 : ByteArray} (h1 : s1.size ≤ 300) : ∃ r, AE.Returns Tryz.prog 31 [vC 0 0 ByteArray.empty, vC 5 0 s1] (.tuple #[.bool r, .bool true]) := by
  exact ⟨false, run_ret (Y := syL [0, 0, 0, 0] [ByteArray.empty, s1]) facts_nil (fun _ h => orcs_nil h) KnownOk.nil (concs2 (fun _ => rfl) (conc_val (isI_64 5) (isI_64 0) (isS_sym (s := s1) rfl (Nat.zero_le _) h1 rfl) rfl)) rfl cun44⟩
theorem cun45 : evKn (envQ [] []) [] 300 100 (.fn 31) [.agg [.i64 0, .i64 0, .str []], .agg [.i64 6, .sint .i64 (.var 1) 1 2, .str []]] h0 (fun v _ => sameV v (.tuple [.bool false, .bool true])) = true := by kernel_rfl
theorem loose_us {n1 : Int} (h1 : 1 ≤ n1 ∧ n1 ≤ 2) : ∃ r, AE.Returns Tryz.prog 31 [vC 0 0 ByteArray.empty, vC 6 n1 ByteArray.empty] (.tuple #[.bool r, .bool true]) := by
  exact ⟨false, run_ret (Y := syL [0, n1, 0, 0] [ByteArray.empty, ByteArray.empty]) facts_nil (fun _ h => orcs_nil h) KnownOk.nil (concs2 (fun _ => rfl) (conc_val (isI_64 6) (isI_sym (n := n1) rfl h1.1 h1.2) (isS_str rfl) rfl)) rfl cun45⟩
theorem cun46 : evKn (envQ [] []) [] 300 100 (.fn 31) [.agg [.i64 1, .i64 0, .str []], .agg [.i64 0, .i64 0, .str []]] h0 (fun v _ => sameV v (.tuple [.bool true, .bool true])) = true := by kernel_rfl
theorem loose_lu : ∃ r, AE.Returns Tryz.prog 31 [vC 1 0 ByteArray.empty, vC 0 0 ByteArray.empty] (.tuple #[.bool r, .bool true]) := by
  exact ⟨true, run_ret (Y := syL [0, 0, 0, 0] [ByteArray.empty, ByteArray.empty]) facts_nil (fun _ h => orcs_nil h) KnownOk.nil (concs2 (fun _ => rfl) (fun _ => rfl)) rfl cun46⟩
theorem cun47 : evKn (envQ [] []) [] 300 100 (.fn 31) [.agg [.i64 1, .i64 0, .str []], .agg [.i64 1, .i64 0, .str []]] h0 (fun v _ => sameV v (.tuple [.bool true, .bool true])) = true := by kernel_rfl
theorem loose_ll : ∃ r, AE.Returns Tryz.prog 31 [vC 1 0 ByteArray.empty, vC 1 0 ByteArray.empty] (.tuple #[.bool r, .bool true]) := by
  exact ⟨true, run_ret (Y := syL [0, 0, 0, 0] [ByteArray.empty, ByteArray.empty]) facts_nil (fun _ h => orcs_nil h) KnownOk.nil (concs2 (fun _ => rfl) (fun _ => rfl)) rfl cun47⟩
theorem cun48 : evKn (envQ [] []) [] 300 100 (.fn 31) [.agg [.i64 1, .i64 0, .str []], .agg [.i64 2, .sint .i64 (.var 1) 0 1, .str []]] h0 (fun v _ => sameV v (.tuple [.bool false, .bool true])) = true := by kernel_rfl
theorem loose_lb {n1 : Int} (h1 : 0 ≤ n1 ∧ n1 ≤ 1) : ∃ r, AE.Returns Tryz.prog 31 [vC 1 0 ByteArray.empty, vC 2 n1 ByteArray.empty] (.tuple #[.bool r, .bool true]) := by
  exact ⟨false, run_ret (Y := syL [0, n1, 0, 0] [ByteArray.empty, ByteArray.empty]) facts_nil (fun _ h => orcs_nil h) KnownOk.nil (concs2 (fun _ => rfl) (conc_val (isI_64 2) (isI_sym (n := n1) rfl h1.1 h1.2) (isS_str rfl) rfl)) rfl cun48⟩
theorem cun49 : evKn (envQ [] []) [] 300 100 (.fn 31) [.agg [.i64 1, .i64 0, .str []], numA 1] h0 (fun v _ => sameV v (.tuple [.bool false, .bool true])) = true := by kernel_rfl
theorem loose_ln {n1 : Int} (h1 : -9007199254740992 ≤ n1 ∧ n1 ≤ 9007199254740992) : ∃ r, AE.Returns Tryz.prog 31 [vC 1 0 ByteArray.empty, vC 3 n1 ByteArray.empty] (.tuple #[.bool r, .bool true]) := by
  exact ⟨false, run_ret (Y := syL [0, n1, 0, 0] [ByteArray.empty, ByteArray.empty]) facts_nil (fun _ h => orcs_nil h) KnownOk.nil (concs2 (fun _ => rfl) (numA_ok (i := 1) (n := n1) rfl h1.1 h1.2)) rfl cun49⟩
theorem cun50 : evKn (envQ [] []) [] 300 100 (.fn 31) [.agg [.i64 1, .i64 0, .str []], nanA] h0 (fun v _ => sameV v (.tuple [.bool false, .bool true])) = true := by kernel_rfl
theorem loose_lq : ∃ r, AE.Returns Tryz.prog 31 [vC 1 0 ByteArray.empty, vC 4 0 ByteArray.empty] (.tuple #[.bool r, .bool true]) := by
  exact ⟨false, run_ret (Y := syL [0, 0, 0, 0] [ByteArray.empty, ByteArray.empty]) facts_nil (fun _ h => orcs_nil h) KnownOk.nil (concs2 (fun _ => rfl) nanA_ok) rfl cun50⟩
theorem cun51 : evKn (envQ [] []) [] 300 100 (.fn 31) [.agg [.i64 1, .i64 0, .str []], .agg [.i64 5, .i64 0, .sstr 1 0 300]] h0 (fun v _ => sameV v (.tuple [.bool false, .bool true])) = true := by kernel_rfl
theorem loose_lt {s1 : ByteArray} (h1 : s1.size ≤ 300) : ∃ r, AE.Returns Tryz.prog 31 [vC 1 0 ByteArray.empty, vC 5 0 s1] (.tuple #[.bool r, .bool true]) := by
  exact ⟨false, run_ret (Y := syL [0, 0, 0, 0] [ByteArray.empty, s1]) facts_nil (fun _ h => orcs_nil h) KnownOk.nil (concs2 (fun _ => rfl) (conc_val (isI_64 5) (isI_64 0) (isS_sym (s := s1) rfl (Nat.zero_le _) h1 rfl) rfl)) rfl cun51⟩
theorem cun52 : evKn (envQ [] []) [] 300 100 (.fn 31) [.agg [.i64 1, .i64 0, .str []], .agg [.i64 6, .sint .i64 (.var 1) 1 2, .str []]] h0 (fun v _ => sameV v (.tuple [.bool false, .bool true])) = true := by kernel_rfl
theorem loose_ls {n1 : Int} (h1 : 1 ≤ n1 ∧ n1 ≤ 2) : ∃ r, AE.Returns Tryz.prog 31 [vC 1 0 ByteArray.empty, vC 6 n1 ByteArray.empty] (.tuple #[.bool r, .bool true]) := by
  exact ⟨false, run_ret (Y := syL [0, n1, 0, 0] [ByteArray.empty, ByteArray.empty]) facts_nil (fun _ h => orcs_nil h) KnownOk.nil (concs2 (fun _ => rfl) (conc_val (isI_64 6) (isI_sym (n := n1) rfl h1.1 h1.2) (isS_str rfl) rfl)) rfl cun52⟩
theorem cun53 : evKn (envQ [] []) [] 300 100 (.fn 31) [.agg [.i64 2, .sint .i64 (.var 0) 0 1, .str []], .agg [.i64 0, .i64 0, .str []]] h0 (fun v _ => sameV v (.tuple [.bool false, .bool true])) = true := by kernel_rfl
theorem loose_bu {n0 : Int} (h0 : 0 ≤ n0 ∧ n0 ≤ 1) : ∃ r, AE.Returns Tryz.prog 31 [vC 2 n0 ByteArray.empty, vC 0 0 ByteArray.empty] (.tuple #[.bool r, .bool true]) := by
  exact ⟨false, run_ret (Y := syL [n0, 0, 0, 0] [ByteArray.empty, ByteArray.empty]) facts_nil (fun _ h => orcs_nil h) KnownOk.nil (concs2 (conc_val (isI_64 2) (isI_sym (n := n0) rfl h0.1 h0.2) (isS_str rfl) rfl) (fun _ => rfl)) rfl cun53⟩
theorem cun54 : evKn (envQ [] []) [] 300 100 (.fn 31) [.agg [.i64 2, .sint .i64 (.var 0) 0 1, .str []], .agg [.i64 1, .i64 0, .str []]] h0 (fun v _ => sameV v (.tuple [.bool false, .bool true])) = true := by kernel_rfl
theorem loose_bl {n0 : Int} (h0 : 0 ≤ n0 ∧ n0 ≤ 1) : ∃ r, AE.Returns Tryz.prog 31 [vC 2 n0 ByteArray.empty, vC 1 0 ByteArray.empty] (.tuple #[.bool r, .bool true]) := by
  exact ⟨false, run_ret (Y := syL [n0, 0, 0, 0] [ByteArray.empty, ByteArray.empty]) facts_nil (fun _ h => orcs_nil h) KnownOk.nil (concs2 (conc_val (isI_64 2) (isI_sym (n := n0) rfl h0.1 h0.2) (isS_str rfl) rfl) (fun _ => rfl)) rfl cun54⟩
theorem cun55 : evKn (envQ [] [.eqa [1, 1, 2] [.i64 2, .sint .i64 (.var 0) 0 1, .str []] [.i64 2, .sint .i64 (.var 1) 0 1, .str []] false]) [] 300 100 (.fn 31) [.agg [.i64 2, .sint .i64 (.var 0) 0 1, .str []], .agg [.i64 2, .sint .i64 (.var 1) 0 1, .str []]] h0 (fun v _ => sameV v (.tuple [.bool false, .bool true])) = true := by kernel_rfl
theorem cun56 : evKn (envQ [] [.eqa [1, 1, 2] [.i64 2, .sint .i64 (.var 0) 0 1, .str []] [.i64 2, .sint .i64 (.var 1) 0 1, .str []] true]) [] 300 100 (.fn 31) [.agg [.i64 2, .sint .i64 (.var 0) 0 1, .str []], .agg [.i64 2, .sint .i64 (.var 1) 0 1, .str []]] h0 (fun v _ => sameV v (.tuple [.bool true, .bool true])) = true := by kernel_rfl
theorem loose_bb {n0 : Int} (h0 : 0 ≤ n0 ∧ n0 ≤ 1) {n1 : Int} (h1 : 0 ≤ n1 ∧ n1 ≤ 1) : ∃ r, AE.Returns Tryz.prog 31 [vC 2 n0 ByteArray.empty, vC 2 n1 ByteArray.empty] (.tuple #[.bool r, .bool true]) := by
  cases c : sameW 2 n0 ByteArray.empty 2 n1 ByteArray.empty
  · exact ⟨false, run_ret (Y := syL [n0, n1, 0, 0] [ByteArray.empty, ByteArray.empty]) facts_nil (orcs_cons (orc_same (isI_64 2) (isI_sym (n := n0) rfl h0.1 h0.2) isE (isI_64 2) (isI_sym (n := n1) rfl h1.1 h1.2) isE c) (fun _ h => orcs_nil h)) KnownOk.nil (concs2 (conc_val (isI_64 2) (isI_sym (n := n0) rfl h0.1 h0.2) (isS_str rfl) rfl) (conc_val (isI_64 2) (isI_sym (n := n1) rfl h1.1 h1.2) (isS_str rfl) rfl)) rfl cun55⟩
  · exact ⟨true, run_ret (Y := syL [n0, n1, 0, 0] [ByteArray.empty, ByteArray.empty]) facts_nil (orcs_cons (orc_same (isI_64 2) (isI_sym (n := n0) rfl h0.1 h0.2) isE (isI_64 2) (isI_sym (n := n1) rfl h1.1 h1.2) isE c) (fun _ h => orcs_nil h)) KnownOk.nil (concs2 (conc_val (isI_64 2) (isI_sym (n := n0) rfl h0.1 h0.2) (isS_str rfl) rfl) (conc_val (isI_64 2) (isI_sym (n := n1) rfl h1.1 h1.2) (isS_str rfl) rfl)) rfl cun56⟩
theorem cun57 : evKn (envQ [] [.eqa [1, 1, 2] [.i64 3, .sint .i64 (.var 0) 0 1, .str []] [.i64 3, .sint .i64 (.var 1) (-9007199254740992) 9007199254740992, .str []] false]) [] 300 100 (.fn 31) [.agg [.i64 2, .sint .i64 (.var 0) 0 1, .str []], numA 1] h0 (fun v _ => sameV v (.tuple [.bool false, .bool true])) = true := by kernel_rfl
theorem cun58 : evKn (envQ [] [.eqa [1, 1, 2] [.i64 3, .sint .i64 (.var 0) 0 1, .str []] [.i64 3, .sint .i64 (.var 1) (-9007199254740992) 9007199254740992, .str []] true]) [] 300 100 (.fn 31) [.agg [.i64 2, .sint .i64 (.var 0) 0 1, .str []], numA 1] h0 (fun v _ => sameV v (.tuple [.bool true, .bool true])) = true := by kernel_rfl
theorem loose_bn {n0 : Int} (h0 : 0 ≤ n0 ∧ n0 ≤ 1) {n1 : Int} (h1 : -9007199254740992 ≤ n1 ∧ n1 ≤ 9007199254740992) : ∃ r, AE.Returns Tryz.prog 31 [vC 2 n0 ByteArray.empty, vC 3 n1 ByteArray.empty] (.tuple #[.bool r, .bool true]) := by
  cases c : sameW 3 n0 ByteArray.empty 3 n1 ByteArray.empty
  · exact ⟨false, run_ret (Y := syL [n0, n1, 0, 0] [ByteArray.empty, ByteArray.empty]) facts_nil (orcs_cons (orc_same (isI_64 3) (isI_sym (n := n0) rfl h0.1 h0.2) isE (isI_64 3) (isI_sym (n := n1) rfl h1.1 h1.2) isE c) (fun _ h => orcs_nil h)) KnownOk.nil (concs2 (conc_val (isI_64 2) (isI_sym (n := n0) rfl h0.1 h0.2) (isS_str rfl) rfl) (numA_ok (i := 1) (n := n1) rfl h1.1 h1.2)) rfl cun57⟩
  · exact ⟨true, run_ret (Y := syL [n0, n1, 0, 0] [ByteArray.empty, ByteArray.empty]) facts_nil (orcs_cons (orc_same (isI_64 3) (isI_sym (n := n0) rfl h0.1 h0.2) isE (isI_64 3) (isI_sym (n := n1) rfl h1.1 h1.2) isE c) (fun _ h => orcs_nil h)) KnownOk.nil (concs2 (conc_val (isI_64 2) (isI_sym (n := n0) rfl h0.1 h0.2) (isS_str rfl) rfl) (numA_ok (i := 1) (n := n1) rfl h1.1 h1.2)) rfl cun58⟩
theorem cun59 : evKn (envQ [] []) [] 300 100 (.fn 31) [.agg [.i64 2, .sint .i64 (.var 0) 0 1, .str []], nanA] h0 (fun v _ => sameV v (.tuple [.bool false, .bool true])) = true := by kernel_rfl
theorem loose_bq {n0 : Int} (h0 : 0 ≤ n0 ∧ n0 ≤ 1) : ∃ r, AE.Returns Tryz.prog 31 [vC 2 n0 ByteArray.empty, vC 4 0 ByteArray.empty] (.tuple #[.bool r, .bool true]) := by
  exact ⟨false, run_ret (Y := syL [n0, 0, 0, 0] [ByteArray.empty, ByteArray.empty]) facts_nil (fun _ h => orcs_nil h) KnownOk.nil (concs2 (conc_val (isI_64 2) (isI_sym (n := n0) rfl h0.1 h0.2) (isS_str rfl) rfl) nanA_ok) rfl cun59⟩
theorem cun60 : evKn (envQ [] []) [⟨109, [.sstr 1 0 300], nanA⟩] 300 100 (.fn 31) [.agg [.i64 2, .sint .i64 (.var 0) 0 1, .str []], .agg [.i64 5, .i64 0, .sstr 1 0 300]] h0 (fun v _ => sameV v (.tuple [.bool false, .bool true])) = true := by kernel_rfl
theorem cun61 : evKn (envQ [] [.eqa [1, 1, 2] [.i64 3, .sint .i64 (.var 0) 0 1, .str []] [.i64 3, .sint .i64 (.var 3) (-9007199254740992) 9007199254740992, .str []] false]) [⟨109, [.sstr 1 0 300], numA 3⟩] 300 100 (.fn 31) [.agg [.i64 2, .sint .i64 (.var 0) 0 1, .str []], .agg [.i64 5, .i64 0, .sstr 1 0 300]] h0 (fun v _ => sameV v (.tuple [.bool false, .bool true])) = true := by kernel_rfl
theorem cun62 : evKn (envQ [] [.eqa [1, 1, 2] [.i64 3, .sint .i64 (.var 0) 0 1, .str []] [.i64 3, .sint .i64 (.var 3) (-9007199254740992) 9007199254740992, .str []] true]) [⟨109, [.sstr 1 0 300], numA 3⟩] 300 100 (.fn 31) [.agg [.i64 2, .sint .i64 (.var 0) 0 1, .str []], .agg [.i64 5, .i64 0, .sstr 1 0 300]] h0 (fun v _ => sameV v (.tuple [.bool true, .bool true])) = true := by kernel_rfl
theorem loose_bt {n0 : Int} (h0 : 0 ≤ n0 ∧ n0 ≤ 1) {s1 : ByteArray} (h1 : s1.size ≤ 300) : ∃ r, AE.Returns Tryz.prog 31 [vC 2 n0 ByteArray.empty, vC 5 0 s1] (.tuple #[.bool r, .bool true]) := by
  obtain ⟨v, hv, hr⟩ := read_any s1 h1
  rcases hv with rfl | ⟨m, hm, rfl⟩
  · exact ⟨false, run_ret (Y := syL [n0, 0, 0, 0] [ByteArray.empty, s1]) facts_nil (fun _ h => orcs_nil h) (KnownOk.cons (has109 _ _) (known_of hr (concs1 (isS_sym (s := s1) rfl (Nat.zero_le _) h1 rfl)) (nanA_ok _)) KnownOk.nil) (concs2 (conc_val (isI_64 2) (isI_sym (n := n0) rfl h0.1 h0.2) (isS_str rfl) rfl) (conc_val (isI_64 5) (isI_64 0) (isS_sym (s := s1) rfl (Nat.zero_le _) h1 rfl) rfl)) rfl cun60⟩
  · cases c : sameW 3 n0 ByteArray.empty 3 m ByteArray.empty
    · exact ⟨false, run_ret (Y := syL [n0, 0, 0, m] [ByteArray.empty, s1]) facts_nil (orcs_cons (orc_same (isI_64 3) (isI_sym (n := n0) rfl h0.1 h0.2) isE (isI_64 3) (isI_sym (n := m) rfl hm.1 hm.2) isE c) (fun _ h => orcs_nil h)) (KnownOk.cons (has109 _ _) (known_of hr (concs1 (isS_sym (s := s1) rfl (Nat.zero_le _) h1 rfl)) (numA_ok (i := 3) (n := m) rfl hm.1 hm.2 _)) KnownOk.nil) (concs2 (conc_val (isI_64 2) (isI_sym (n := n0) rfl h0.1 h0.2) (isS_str rfl) rfl) (conc_val (isI_64 5) (isI_64 0) (isS_sym (s := s1) rfl (Nat.zero_le _) h1 rfl) rfl)) rfl cun61⟩
    · exact ⟨true, run_ret (Y := syL [n0, 0, 0, m] [ByteArray.empty, s1]) facts_nil (orcs_cons (orc_same (isI_64 3) (isI_sym (n := n0) rfl h0.1 h0.2) isE (isI_64 3) (isI_sym (n := m) rfl hm.1 hm.2) isE c) (fun _ h => orcs_nil h)) (KnownOk.cons (has109 _ _) (known_of hr (concs1 (isS_sym (s := s1) rfl (Nat.zero_le _) h1 rfl)) (numA_ok (i := 3) (n := m) rfl hm.1 hm.2 _)) KnownOk.nil) (concs2 (conc_val (isI_64 2) (isI_sym (n := n0) rfl h0.1 h0.2) (isS_str rfl) rfl) (conc_val (isI_64 5) (isI_64 0) (isS_sym (s := s1) rfl (Nat.zero_le _) h1 rfl) rfl)) rfl cun62⟩
theorem cun63 : evKn (envQ [] []) [] 300 100 (.fn 31) [.agg [.i64 2, .sint .i64 (.var 0) 0 1, .str []], .agg [.i64 6, .sint .i64 (.var 1) 1 2, .str []]] h0 (fun v _ => sameV v (.tuple [.bool false, .bool true])) = true := by kernel_rfl
theorem loose_bs {n0 : Int} (h0 : 0 ≤ n0 ∧ n0 ≤ 1) {n1 : Int} (h1 : 1 ≤ n1 ∧ n1 ≤ 2) : ∃ r, AE.Returns Tryz.prog 31 [vC 2 n0 ByteArray.empty, vC 6 n1 ByteArray.empty] (.tuple #[.bool r, .bool true]) := by
  exact ⟨false, run_ret (Y := syL [n0, n1, 0, 0] [ByteArray.empty, ByteArray.empty]) facts_nil (fun _ h => orcs_nil h) KnownOk.nil (concs2 (conc_val (isI_64 2) (isI_sym (n := n0) rfl h0.1 h0.2) (isS_str rfl) rfl) (conc_val (isI_64 6) (isI_sym (n := n1) rfl h1.1 h1.2) (isS_str rfl) rfl)) rfl cun63⟩
theorem cun64 : evKn (envQ [] []) [] 300 100 (.fn 31) [numA 0, .agg [.i64 0, .i64 0, .str []]] h0 (fun v _ => sameV v (.tuple [.bool false, .bool true])) = true := by kernel_rfl
theorem loose_nu {n0 : Int} (h0 : -9007199254740992 ≤ n0 ∧ n0 ≤ 9007199254740992) : ∃ r, AE.Returns Tryz.prog 31 [vC 3 n0 ByteArray.empty, vC 0 0 ByteArray.empty] (.tuple #[.bool r, .bool true]) := by
  exact ⟨false, run_ret (Y := syL [n0, 0, 0, 0] [ByteArray.empty, ByteArray.empty]) facts_nil (fun _ h => orcs_nil h) KnownOk.nil (concs2 (numA_ok (i := 0) (n := n0) rfl h0.1 h0.2) (fun _ => rfl)) rfl cun64⟩
theorem cun65 : evKn (envQ [] []) [] 300 100 (.fn 31) [numA 0, .agg [.i64 1, .i64 0, .str []]] h0 (fun v _ => sameV v (.tuple [.bool false, .bool true])) = true := by kernel_rfl
theorem loose_nl {n0 : Int} (h0 : -9007199254740992 ≤ n0 ∧ n0 ≤ 9007199254740992) : ∃ r, AE.Returns Tryz.prog 31 [vC 3 n0 ByteArray.empty, vC 1 0 ByteArray.empty] (.tuple #[.bool r, .bool true]) := by
  exact ⟨false, run_ret (Y := syL [n0, 0, 0, 0] [ByteArray.empty, ByteArray.empty]) facts_nil (fun _ h => orcs_nil h) KnownOk.nil (concs2 (numA_ok (i := 0) (n := n0) rfl h0.1 h0.2) (fun _ => rfl)) rfl cun65⟩
theorem cun66 : evKn (envQ [] [.eqa [1, 1, 2] [.i64 3, .sint .i64 (.var 0) (-9007199254740992) 9007199254740992, .str []] [.i64 3, .sint .i64 (.var 1) 0 1, .str []] false]) [] 300 100 (.fn 31) [numA 0, .agg [.i64 2, .sint .i64 (.var 1) 0 1, .str []]] h0 (fun v _ => sameV v (.tuple [.bool false, .bool true])) = true := by kernel_rfl
theorem cun67 : evKn (envQ [] [.eqa [1, 1, 2] [.i64 3, .sint .i64 (.var 0) (-9007199254740992) 9007199254740992, .str []] [.i64 3, .sint .i64 (.var 1) 0 1, .str []] true]) [] 300 100 (.fn 31) [numA 0, .agg [.i64 2, .sint .i64 (.var 1) 0 1, .str []]] h0 (fun v _ => sameV v (.tuple [.bool true, .bool true])) = true := by kernel_rfl
theorem loose_nb {n0 : Int} (h0 : -9007199254740992 ≤ n0 ∧ n0 ≤ 9007199254740992) {n1 : Int} (h1 : 0 ≤ n1 ∧ n1 ≤ 1) : ∃ r, AE.Returns Tryz.prog 31 [vC 3 n0 ByteArray.empty, vC 2 n1 ByteArray.empty] (.tuple #[.bool r, .bool true]) := by
  cases c : sameW 3 n0 ByteArray.empty 3 n1 ByteArray.empty
  · exact ⟨false, run_ret (Y := syL [n0, n1, 0, 0] [ByteArray.empty, ByteArray.empty]) facts_nil (orcs_cons (orc_same (isI_64 3) (isI_sym (n := n0) rfl h0.1 h0.2) isE (isI_64 3) (isI_sym (n := n1) rfl h1.1 h1.2) isE c) (fun _ h => orcs_nil h)) KnownOk.nil (concs2 (numA_ok (i := 0) (n := n0) rfl h0.1 h0.2) (conc_val (isI_64 2) (isI_sym (n := n1) rfl h1.1 h1.2) (isS_str rfl) rfl)) rfl cun66⟩
  · exact ⟨true, run_ret (Y := syL [n0, n1, 0, 0] [ByteArray.empty, ByteArray.empty]) facts_nil (orcs_cons (orc_same (isI_64 3) (isI_sym (n := n0) rfl h0.1 h0.2) isE (isI_64 3) (isI_sym (n := n1) rfl h1.1 h1.2) isE c) (fun _ h => orcs_nil h)) KnownOk.nil (concs2 (numA_ok (i := 0) (n := n0) rfl h0.1 h0.2) (conc_val (isI_64 2) (isI_sym (n := n1) rfl h1.1 h1.2) (isS_str rfl) rfl)) rfl cun67⟩
theorem cun68 : evKn (envQ [] [.eqa [1, 1, 2] [.i64 3, .sint .i64 (.var 0) (-9007199254740992) 9007199254740992, .str []] [.i64 3, .sint .i64 (.var 1) (-9007199254740992) 9007199254740992, .str []] false]) [] 300 100 (.fn 31) [numA 0, numA 1] h0 (fun v _ => sameV v (.tuple [.bool false, .bool true])) = true := by kernel_rfl
theorem cun69 : evKn (envQ [] [.eqa [1, 1, 2] [.i64 3, .sint .i64 (.var 0) (-9007199254740992) 9007199254740992, .str []] [.i64 3, .sint .i64 (.var 1) (-9007199254740992) 9007199254740992, .str []] true]) [] 300 100 (.fn 31) [numA 0, numA 1] h0 (fun v _ => sameV v (.tuple [.bool true, .bool true])) = true := by kernel_rfl
theorem loose_nn {n0 : Int} (h0 : -9007199254740992 ≤ n0 ∧ n0 ≤ 9007199254740992) {n1 : Int} (h1 : -9007199254740992 ≤ n1 ∧ n1 ≤ 9007199254740992) : ∃ r, AE.Returns Tryz.prog 31 [vC 3 n0 ByteArray.empty, vC 3 n1 ByteArray.empty] (.tuple #[.bool r, .bool true]) := by
  cases c : sameW 3 n0 ByteArray.empty 3 n1 ByteArray.empty
  · exact ⟨false, run_ret (Y := syL [n0, n1, 0, 0] [ByteArray.empty, ByteArray.empty]) facts_nil (orcs_cons (orc_same (isI_64 3) (isI_sym (n := n0) rfl h0.1 h0.2) isE (isI_64 3) (isI_sym (n := n1) rfl h1.1 h1.2) isE c) (fun _ h => orcs_nil h)) KnownOk.nil (concs2 (numA_ok (i := 0) (n := n0) rfl h0.1 h0.2) (numA_ok (i := 1) (n := n1) rfl h1.1 h1.2)) rfl cun68⟩
  · exact ⟨true, run_ret (Y := syL [n0, n1, 0, 0] [ByteArray.empty, ByteArray.empty]) facts_nil (orcs_cons (orc_same (isI_64 3) (isI_sym (n := n0) rfl h0.1 h0.2) isE (isI_64 3) (isI_sym (n := n1) rfl h1.1 h1.2) isE c) (fun _ h => orcs_nil h)) KnownOk.nil (concs2 (numA_ok (i := 0) (n := n0) rfl h0.1 h0.2) (numA_ok (i := 1) (n := n1) rfl h1.1 h1.2)) rfl cun69⟩
theorem cun70 : evKn (envQ [] []) [] 300 100 (.fn 31) [numA 0, nanA] h0 (fun v _ => sameV v (.tuple [.bool false, .bool true])) = true := by kernel_rfl
theorem loose_nq {n0 : Int} (h0 : -9007199254740992 ≤ n0 ∧ n0 ≤ 9007199254740992) : ∃ r, AE.Returns Tryz.prog 31 [vC 3 n0 ByteArray.empty, vC 4 0 ByteArray.empty] (.tuple #[.bool r, .bool true]) := by
  exact ⟨false, run_ret (Y := syL [n0, 0, 0, 0] [ByteArray.empty, ByteArray.empty]) facts_nil (fun _ h => orcs_nil h) KnownOk.nil (concs2 (numA_ok (i := 0) (n := n0) rfl h0.1 h0.2) nanA_ok) rfl cun70⟩
theorem cun71 : evKn (envQ [] []) [⟨109, [.sstr 1 0 300], nanA⟩] 300 100 (.fn 31) [numA 0, .agg [.i64 5, .i64 0, .sstr 1 0 300]] h0 (fun v _ => sameV v (.tuple [.bool false, .bool true])) = true := by kernel_rfl
theorem cun72 : evKn (envQ [] [.eqa [1, 1, 2] [.i64 3, .sint .i64 (.var 0) (-9007199254740992) 9007199254740992, .str []] [.i64 3, .sint .i64 (.var 3) (-9007199254740992) 9007199254740992, .str []] false]) [⟨109, [.sstr 1 0 300], numA 3⟩] 300 100 (.fn 31) [numA 0, .agg [.i64 5, .i64 0, .sstr 1 0 300]] h0 (fun v _ => sameV v (.tuple [.bool false, .bool true])) = true := by kernel_rfl
theorem cun73 : evKn (envQ [] [.eqa [1, 1, 2] [.i64 3, .sint .i64 (.var 0) (-9007199254740992) 9007199254740992, .str []] [.i64 3, .sint .i64 (.var 3) (-9007199254740992) 9007199254740992, .str []] true]) [⟨109, [.sstr 1 0 300], numA 3⟩] 300 100 (.fn 31) [numA 0, .agg [.i64 5, .i64 0, .sstr 1 0 300]] h0 (fun v _ => sameV v (.tuple [.bool true, .bool true])) = true := by kernel_rfl
theorem loose_nt {n0 : Int} (h0 : -9007199254740992 ≤ n0 ∧ n0 ≤ 9007199254740992) {s1 : ByteArray} (h1 : s1.size ≤ 300) : ∃ r, AE.Returns Tryz.prog 31 [vC 3 n0 ByteArray.empty, vC 5 0 s1] (.tuple #[.bool r, .bool true]) := by
  obtain ⟨v, hv, hr⟩ := read_any s1 h1
  rcases hv with rfl | ⟨m, hm, rfl⟩
  · exact ⟨false, run_ret (Y := syL [n0, 0, 0, 0] [ByteArray.empty, s1]) facts_nil (fun _ h => orcs_nil h) (KnownOk.cons (has109 _ _) (known_of hr (concs1 (isS_sym (s := s1) rfl (Nat.zero_le _) h1 rfl)) (nanA_ok _)) KnownOk.nil) (concs2 (numA_ok (i := 0) (n := n0) rfl h0.1 h0.2) (conc_val (isI_64 5) (isI_64 0) (isS_sym (s := s1) rfl (Nat.zero_le _) h1 rfl) rfl)) rfl cun71⟩
  · cases c : sameW 3 n0 ByteArray.empty 3 m ByteArray.empty
    · exact ⟨false, run_ret (Y := syL [n0, 0, 0, m] [ByteArray.empty, s1]) facts_nil (orcs_cons (orc_same (isI_64 3) (isI_sym (n := n0) rfl h0.1 h0.2) isE (isI_64 3) (isI_sym (n := m) rfl hm.1 hm.2) isE c) (fun _ h => orcs_nil h)) (KnownOk.cons (has109 _ _) (known_of hr (concs1 (isS_sym (s := s1) rfl (Nat.zero_le _) h1 rfl)) (numA_ok (i := 3) (n := m) rfl hm.1 hm.2 _)) KnownOk.nil) (concs2 (numA_ok (i := 0) (n := n0) rfl h0.1 h0.2) (conc_val (isI_64 5) (isI_64 0) (isS_sym (s := s1) rfl (Nat.zero_le _) h1 rfl) rfl)) rfl cun72⟩
    · exact ⟨true, run_ret (Y := syL [n0, 0, 0, m] [ByteArray.empty, s1]) facts_nil (orcs_cons (orc_same (isI_64 3) (isI_sym (n := n0) rfl h0.1 h0.2) isE (isI_64 3) (isI_sym (n := m) rfl hm.1 hm.2) isE c) (fun _ h => orcs_nil h)) (KnownOk.cons (has109 _ _) (known_of hr (concs1 (isS_sym (s := s1) rfl (Nat.zero_le _) h1 rfl)) (numA_ok (i := 3) (n := m) rfl hm.1 hm.2 _)) KnownOk.nil) (concs2 (numA_ok (i := 0) (n := n0) rfl h0.1 h0.2) (conc_val (isI_64 5) (isI_64 0) (isS_sym (s := s1) rfl (Nat.zero_le _) h1 rfl) rfl)) rfl cun73⟩
theorem cun74 : evKn (envQ [] []) [] 300 100 (.fn 31) [numA 0, .agg [.i64 6, .sint .i64 (.var 1) 1 2, .str []]] h0 (fun v _ => sameV v (.tuple [.bool false, .bool true])) = true := by kernel_rfl
theorem loose_ns {n0 : Int} (h0 : -9007199254740992 ≤ n0 ∧ n0 ≤ 9007199254740992) {n1 : Int} (h1 : 1 ≤ n1 ∧ n1 ≤ 2) : ∃ r, AE.Returns Tryz.prog 31 [vC 3 n0 ByteArray.empty, vC 6 n1 ByteArray.empty] (.tuple #[.bool r, .bool true]) := by
  exact ⟨false, run_ret (Y := syL [n0, n1, 0, 0] [ByteArray.empty, ByteArray.empty]) facts_nil (fun _ h => orcs_nil h) KnownOk.nil (concs2 (numA_ok (i := 0) (n := n0) rfl h0.1 h0.2) (conc_val (isI_64 6) (isI_sym (n := n1) rfl h1.1 h1.2) (isS_str rfl) rfl)) rfl cun74⟩
theorem cun75 : evKn (envQ [] []) [] 300 100 (.fn 31) [nanA, .agg [.i64 0, .i64 0, .str []]] h0 (fun v _ => sameV v (.tuple [.bool false, .bool true])) = true := by kernel_rfl
theorem loose_qu : ∃ r, AE.Returns Tryz.prog 31 [vC 4 0 ByteArray.empty, vC 0 0 ByteArray.empty] (.tuple #[.bool r, .bool true]) := by
  exact ⟨false, run_ret (Y := syL [0, 0, 0, 0] [ByteArray.empty, ByteArray.empty]) facts_nil (fun _ h => orcs_nil h) KnownOk.nil (concs2 nanA_ok (fun _ => rfl)) rfl cun75⟩
theorem cun76 : evKn (envQ [] []) [] 300 100 (.fn 31) [nanA, .agg [.i64 1, .i64 0, .str []]] h0 (fun v _ => sameV v (.tuple [.bool false, .bool true])) = true := by kernel_rfl
theorem loose_ql : ∃ r, AE.Returns Tryz.prog 31 [vC 4 0 ByteArray.empty, vC 1 0 ByteArray.empty] (.tuple #[.bool r, .bool true]) := by
  exact ⟨false, run_ret (Y := syL [0, 0, 0, 0] [ByteArray.empty, ByteArray.empty]) facts_nil (fun _ h => orcs_nil h) KnownOk.nil (concs2 nanA_ok (fun _ => rfl)) rfl cun76⟩
theorem cun77 : evKn (envQ [] []) [] 300 100 (.fn 31) [nanA, .agg [.i64 2, .sint .i64 (.var 1) 0 1, .str []]] h0 (fun v _ => sameV v (.tuple [.bool false, .bool true])) = true := by kernel_rfl
theorem loose_qb {n1 : Int} (h1 : 0 ≤ n1 ∧ n1 ≤ 1) : ∃ r, AE.Returns Tryz.prog 31 [vC 4 0 ByteArray.empty, vC 2 n1 ByteArray.empty] (.tuple #[.bool r, .bool true]) := by
  exact ⟨false, run_ret (Y := syL [0, n1, 0, 0] [ByteArray.empty, ByteArray.empty]) facts_nil (fun _ h => orcs_nil h) KnownOk.nil (concs2 nanA_ok (conc_val (isI_64 2) (isI_sym (n := n1) rfl h1.1 h1.2) (isS_str rfl) rfl)) rfl cun77⟩
theorem cun78 : evKn (envQ [] []) [] 300 100 (.fn 31) [nanA, numA 1] h0 (fun v _ => sameV v (.tuple [.bool false, .bool true])) = true := by kernel_rfl
theorem loose_qn {n1 : Int} (h1 : -9007199254740992 ≤ n1 ∧ n1 ≤ 9007199254740992) : ∃ r, AE.Returns Tryz.prog 31 [vC 4 0 ByteArray.empty, vC 3 n1 ByteArray.empty] (.tuple #[.bool r, .bool true]) := by
  exact ⟨false, run_ret (Y := syL [0, n1, 0, 0] [ByteArray.empty, ByteArray.empty]) facts_nil (fun _ h => orcs_nil h) KnownOk.nil (concs2 nanA_ok (numA_ok (i := 1) (n := n1) rfl h1.1 h1.2)) rfl cun78⟩
theorem cun79 : evKn (envQ [] []) [] 300 100 (.fn 31) [nanA, nanA] h0 (fun v _ => sameV v (.tuple [.bool false, .bool true])) = true := by kernel_rfl
theorem loose_qq : ∃ r, AE.Returns Tryz.prog 31 [vC 4 0 ByteArray.empty, vC 4 0 ByteArray.empty] (.tuple #[.bool r, .bool true]) := by
  exact ⟨false, run_ret (Y := syL [0, 0, 0, 0] [ByteArray.empty, ByteArray.empty]) facts_nil (fun _ h => orcs_nil h) KnownOk.nil (concs2 nanA_ok nanA_ok) rfl cun79⟩
theorem cun80 : evKn (envQ [] []) [⟨109, [.sstr 1 0 300], nanA⟩] 300 100 (.fn 31) [nanA, .agg [.i64 5, .i64 0, .sstr 1 0 300]] h0 (fun v _ => sameV v (.tuple [.bool false, .bool true])) = true := by kernel_rfl
theorem cun81 : evKn (envQ [] []) [⟨109, [.sstr 1 0 300], numA 3⟩] 300 100 (.fn 31) [nanA, .agg [.i64 5, .i64 0, .sstr 1 0 300]] h0 (fun v _ => sameV v (.tuple [.bool false, .bool true])) = true := by kernel_rfl
theorem loose_qt {s1 : ByteArray} (h1 : s1.size ≤ 300) : ∃ r, AE.Returns Tryz.prog 31 [vC 4 0 ByteArray.empty, vC 5 0 s1] (.tuple #[.bool r, .bool true]) := by
  obtain ⟨v, hv, hr⟩ := read_any s1 h1
  rcases hv with rfl | ⟨m, hm, rfl⟩
  · exact ⟨false, run_ret (Y := syL [0, 0, 0, 0] [ByteArray.empty, s1]) facts_nil (fun _ h => orcs_nil h) (KnownOk.cons (has109 _ _) (known_of hr (concs1 (isS_sym (s := s1) rfl (Nat.zero_le _) h1 rfl)) (nanA_ok _)) KnownOk.nil) (concs2 nanA_ok (conc_val (isI_64 5) (isI_64 0) (isS_sym (s := s1) rfl (Nat.zero_le _) h1 rfl) rfl)) rfl cun80⟩
  · exact ⟨false, run_ret (Y := syL [0, 0, 0, m] [ByteArray.empty, s1]) facts_nil (fun _ h => orcs_nil h) (KnownOk.cons (has109 _ _) (known_of hr (concs1 (isS_sym (s := s1) rfl (Nat.zero_le _) h1 rfl)) (numA_ok (i := 3) (n := m) rfl hm.1 hm.2 _)) KnownOk.nil) (concs2 nanA_ok (conc_val (isI_64 5) (isI_64 0) (isS_sym (s := s1) rfl (Nat.zero_le _) h1 rfl) rfl)) rfl cun81⟩
theorem cun82 : evKn (envQ [] []) [] 300 100 (.fn 31) [nanA, .agg [.i64 6, .sint .i64 (.var 1) 1 2, .str []]] h0 (fun v _ => sameV v (.tuple [.bool false, .bool true])) = true := by kernel_rfl
theorem loose_qs {n1 : Int} (h1 : 1 ≤ n1 ∧ n1 ≤ 2) : ∃ r, AE.Returns Tryz.prog 31 [vC 4 0 ByteArray.empty, vC 6 n1 ByteArray.empty] (.tuple #[.bool r, .bool true]) := by
  exact ⟨false, run_ret (Y := syL [0, n1, 0, 0] [ByteArray.empty, ByteArray.empty]) facts_nil (fun _ h => orcs_nil h) KnownOk.nil (concs2 nanA_ok (conc_val (isI_64 6) (isI_sym (n := n1) rfl h1.1 h1.2) (isS_str rfl) rfl)) rfl cun82⟩
theorem cun83 : evKn (envQ [] []) [] 300 100 (.fn 31) [.agg [.i64 5, .i64 0, .sstr 0 0 300], .agg [.i64 0, .i64 0, .str []]] h0 (fun v _ => sameV v (.tuple [.bool false, .bool true])) = true := by kernel_rfl
theorem loose_tu {s0 : ByteArray} (h0 : s0.size ≤ 300) : ∃ r, AE.Returns Tryz.prog 31 [vC 5 0 s0, vC 0 0 ByteArray.empty] (.tuple #[.bool r, .bool true]) := by
  exact ⟨false, run_ret (Y := syL [0, 0, 0, 0] [s0, ByteArray.empty]) facts_nil (fun _ h => orcs_nil h) KnownOk.nil (concs2 (conc_val (isI_64 5) (isI_64 0) (isS_sym (s := s0) rfl (Nat.zero_le _) h0 rfl) rfl) (fun _ => rfl)) rfl cun83⟩
theorem cun84 : evKn (envQ [] []) [] 300 100 (.fn 31) [.agg [.i64 5, .i64 0, .sstr 0 0 300], .agg [.i64 1, .i64 0, .str []]] h0 (fun v _ => sameV v (.tuple [.bool false, .bool true])) = true := by kernel_rfl
theorem loose_tl {s0 : ByteArray} (h0 : s0.size ≤ 300) : ∃ r, AE.Returns Tryz.prog 31 [vC 5 0 s0, vC 1 0 ByteArray.empty] (.tuple #[.bool r, .bool true]) := by
  exact ⟨false, run_ret (Y := syL [0, 0, 0, 0] [s0, ByteArray.empty]) facts_nil (fun _ h => orcs_nil h) KnownOk.nil (concs2 (conc_val (isI_64 5) (isI_64 0) (isS_sym (s := s0) rfl (Nat.zero_le _) h0 rfl) rfl) (fun _ => rfl)) rfl cun84⟩
theorem cun85 : evKn (envQ [] []) [⟨109, [.sstr 0 0 300], nanA⟩] 300 100 (.fn 31) [.agg [.i64 5, .i64 0, .sstr 0 0 300], .agg [.i64 2, .sint .i64 (.var 1) 0 1, .str []]] h0 (fun v _ => sameV v (.tuple [.bool false, .bool true])) = true := by kernel_rfl
theorem cun86 : evKn (envQ [] [.eqa [1, 1, 2] [.i64 3, .sint .i64 (.var 2) (-9007199254740992) 9007199254740992, .str []] [.i64 3, .sint .i64 (.var 1) 0 1, .str []] false]) [⟨109, [.sstr 0 0 300], numA 2⟩] 300 100 (.fn 31) [.agg [.i64 5, .i64 0, .sstr 0 0 300], .agg [.i64 2, .sint .i64 (.var 1) 0 1, .str []]] h0 (fun v _ => sameV v (.tuple [.bool false, .bool true])) = true := by kernel_rfl
theorem cun87 : evKn (envQ [] [.eqa [1, 1, 2] [.i64 3, .sint .i64 (.var 2) (-9007199254740992) 9007199254740992, .str []] [.i64 3, .sint .i64 (.var 1) 0 1, .str []] true]) [⟨109, [.sstr 0 0 300], numA 2⟩] 300 100 (.fn 31) [.agg [.i64 5, .i64 0, .sstr 0 0 300], .agg [.i64 2, .sint .i64 (.var 1) 0 1, .str []]] h0 (fun v _ => sameV v (.tuple [.bool true, .bool true])) = true := by kernel_rfl
theorem loose_tb {s0 : ByteArray} (h0 : s0.size ≤ 300) {n1 : Int} (h1 : 0 ≤ n1 ∧ n1 ≤ 1) : ∃ r, AE.Returns Tryz.prog 31 [vC 5 0 s0, vC 2 n1 ByteArray.empty] (.tuple #[.bool r, .bool true]) := by
  obtain ⟨v, hv, hr⟩ := read_any s0 h0
  rcases hv with rfl | ⟨m, hm, rfl⟩
  · exact ⟨false, run_ret (Y := syL [0, n1, 0, 0] [s0, ByteArray.empty]) facts_nil (fun _ h => orcs_nil h) (KnownOk.cons (has109 _ _) (known_of hr (concs1 (isS_sym (s := s0) rfl (Nat.zero_le _) h0 rfl)) (nanA_ok _)) KnownOk.nil) (concs2 (conc_val (isI_64 5) (isI_64 0) (isS_sym (s := s0) rfl (Nat.zero_le _) h0 rfl) rfl) (conc_val (isI_64 2) (isI_sym (n := n1) rfl h1.1 h1.2) (isS_str rfl) rfl)) rfl cun85⟩
  · cases c : sameW 3 m ByteArray.empty 3 n1 ByteArray.empty
    · exact ⟨false, run_ret (Y := syL [0, n1, m, 0] [s0, ByteArray.empty]) facts_nil (orcs_cons (orc_same (isI_64 3) (isI_sym (n := m) rfl hm.1 hm.2) isE (isI_64 3) (isI_sym (n := n1) rfl h1.1 h1.2) isE c) (fun _ h => orcs_nil h)) (KnownOk.cons (has109 _ _) (known_of hr (concs1 (isS_sym (s := s0) rfl (Nat.zero_le _) h0 rfl)) (numA_ok (i := 2) (n := m) rfl hm.1 hm.2 _)) KnownOk.nil) (concs2 (conc_val (isI_64 5) (isI_64 0) (isS_sym (s := s0) rfl (Nat.zero_le _) h0 rfl) rfl) (conc_val (isI_64 2) (isI_sym (n := n1) rfl h1.1 h1.2) (isS_str rfl) rfl)) rfl cun86⟩
    · exact ⟨true, run_ret (Y := syL [0, n1, m, 0] [s0, ByteArray.empty]) facts_nil (orcs_cons (orc_same (isI_64 3) (isI_sym (n := m) rfl hm.1 hm.2) isE (isI_64 3) (isI_sym (n := n1) rfl h1.1 h1.2) isE c) (fun _ h => orcs_nil h)) (KnownOk.cons (has109 _ _) (known_of hr (concs1 (isS_sym (s := s0) rfl (Nat.zero_le _) h0 rfl)) (numA_ok (i := 2) (n := m) rfl hm.1 hm.2 _)) KnownOk.nil) (concs2 (conc_val (isI_64 5) (isI_64 0) (isS_sym (s := s0) rfl (Nat.zero_le _) h0 rfl) rfl) (conc_val (isI_64 2) (isI_sym (n := n1) rfl h1.1 h1.2) (isS_str rfl) rfl)) rfl cun87⟩
theorem cun88 : evKn (envQ [] []) [⟨109, [.sstr 0 0 300], nanA⟩] 300 100 (.fn 31) [.agg [.i64 5, .i64 0, .sstr 0 0 300], numA 1] h0 (fun v _ => sameV v (.tuple [.bool false, .bool true])) = true := by kernel_rfl
theorem cun89 : evKn (envQ [] [.eqa [1, 1, 2] [.i64 3, .sint .i64 (.var 2) (-9007199254740992) 9007199254740992, .str []] [.i64 3, .sint .i64 (.var 1) (-9007199254740992) 9007199254740992, .str []] false]) [⟨109, [.sstr 0 0 300], numA 2⟩] 300 100 (.fn 31) [.agg [.i64 5, .i64 0, .sstr 0 0 300], numA 1] h0 (fun v _ => sameV v (.tuple [.bool false, .bool true])) = true := by kernel_rfl
theorem cun90 : evKn (envQ [] [.eqa [1, 1, 2] [.i64 3, .sint .i64 (.var 2) (-9007199254740992) 9007199254740992, .str []] [.i64 3, .sint .i64 (.var 1) (-9007199254740992) 9007199254740992, .str []] true]) [⟨109, [.sstr 0 0 300], numA 2⟩] 300 100 (.fn 31) [.agg [.i64 5, .i64 0, .sstr 0 0 300], numA 1] h0 (fun v _ => sameV v (.tuple [.bool true, .bool true])) = true := by kernel_rfl
theorem loose_tn {s0 : ByteArray} (h0 : s0.size ≤ 300) {n1 : Int} (h1 : -9007199254740992 ≤ n1 ∧ n1 ≤ 9007199254740992) : ∃ r, AE.Returns Tryz.prog 31 [vC 5 0 s0, vC 3 n1 ByteArray.empty] (.tuple #[.bool r, .bool true]) := by
  obtain ⟨v, hv, hr⟩ := read_any s0 h0
  rcases hv with rfl | ⟨m, hm, rfl⟩
  · exact ⟨false, run_ret (Y := syL [0, n1, 0, 0] [s0, ByteArray.empty]) facts_nil (fun _ h => orcs_nil h) (KnownOk.cons (has109 _ _) (known_of hr (concs1 (isS_sym (s := s0) rfl (Nat.zero_le _) h0 rfl)) (nanA_ok _)) KnownOk.nil) (concs2 (conc_val (isI_64 5) (isI_64 0) (isS_sym (s := s0) rfl (Nat.zero_le _) h0 rfl) rfl) (numA_ok (i := 1) (n := n1) rfl h1.1 h1.2)) rfl cun88⟩
  · cases c : sameW 3 m ByteArray.empty 3 n1 ByteArray.empty
    · exact ⟨false, run_ret (Y := syL [0, n1, m, 0] [s0, ByteArray.empty]) facts_nil (orcs_cons (orc_same (isI_64 3) (isI_sym (n := m) rfl hm.1 hm.2) isE (isI_64 3) (isI_sym (n := n1) rfl h1.1 h1.2) isE c) (fun _ h => orcs_nil h)) (KnownOk.cons (has109 _ _) (known_of hr (concs1 (isS_sym (s := s0) rfl (Nat.zero_le _) h0 rfl)) (numA_ok (i := 2) (n := m) rfl hm.1 hm.2 _)) KnownOk.nil) (concs2 (conc_val (isI_64 5) (isI_64 0) (isS_sym (s := s0) rfl (Nat.zero_le _) h0 rfl) rfl) (numA_ok (i := 1) (n := n1) rfl h1.1 h1.2)) rfl cun89⟩
    · exact ⟨true, run_ret (Y := syL [0, n1, m, 0] [s0, ByteArray.empty]) facts_nil (orcs_cons (orc_same (isI_64 3) (isI_sym (n := m) rfl hm.1 hm.2) isE (isI_64 3) (isI_sym (n := n1) rfl h1.1 h1.2) isE c) (fun _ h => orcs_nil h)) (KnownOk.cons (has109 _ _) (known_of hr (concs1 (isS_sym (s := s0) rfl (Nat.zero_le _) h0 rfl)) (numA_ok (i := 2) (n := m) rfl hm.1 hm.2 _)) KnownOk.nil) (concs2 (conc_val (isI_64 5) (isI_64 0) (isS_sym (s := s0) rfl (Nat.zero_le _) h0 rfl) rfl) (numA_ok (i := 1) (n := n1) rfl h1.1 h1.2)) rfl cun90⟩
theorem cun91 : evKn (envQ [] []) [⟨109, [.sstr 0 0 300], nanA⟩] 300 100 (.fn 31) [.agg [.i64 5, .i64 0, .sstr 0 0 300], nanA] h0 (fun v _ => sameV v (.tuple [.bool false, .bool true])) = true := by kernel_rfl
theorem cun92 : evKn (envQ [] []) [⟨109, [.sstr 0 0 300], numA 2⟩] 300 100 (.fn 31) [.agg [.i64 5, .i64 0, .sstr 0 0 300], nanA] h0 (fun v _ => sameV v (.tuple [.bool false, .bool true])) = true := by kernel_rfl
theorem loose_tq {s0 : ByteArray} (h0 : s0.size ≤ 300) : ∃ r, AE.Returns Tryz.prog 31 [vC 5 0 s0, vC 4 0 ByteArray.empty] (.tuple #[.bool r, .bool true]) := by
  obtain ⟨v, hv, hr⟩ := read_any s0 h0
  rcases hv with rfl | ⟨m, hm, rfl⟩
  · exact ⟨false, run_ret (Y := syL [0, 0, 0, 0] [s0, ByteArray.empty]) facts_nil (fun _ h => orcs_nil h) (KnownOk.cons (has109 _ _) (known_of hr (concs1 (isS_sym (s := s0) rfl (Nat.zero_le _) h0 rfl)) (nanA_ok _)) KnownOk.nil) (concs2 (conc_val (isI_64 5) (isI_64 0) (isS_sym (s := s0) rfl (Nat.zero_le _) h0 rfl) rfl) nanA_ok) rfl cun91⟩
  · exact ⟨false, run_ret (Y := syL [0, 0, m, 0] [s0, ByteArray.empty]) facts_nil (fun _ h => orcs_nil h) (KnownOk.cons (has109 _ _) (known_of hr (concs1 (isS_sym (s := s0) rfl (Nat.zero_le _) h0 rfl)) (numA_ok (i := 2) (n := m) rfl hm.1 hm.2 _)) KnownOk.nil) (concs2 (conc_val (isI_64 5) (isI_64 0) (isS_sym (s := s0) rfl (Nat.zero_le _) h0 rfl) rfl) nanA_ok) rfl cun92⟩
theorem cun93 : evKn (envQ [] [.eqa [1, 1, 2] [.i64 5, .i64 0, .sstr 0 0 300] [.i64 5, .i64 0, .sstr 1 0 300] false]) [] 300 100 (.fn 31) [.agg [.i64 5, .i64 0, .sstr 0 0 300], .agg [.i64 5, .i64 0, .sstr 1 0 300]] h0 (fun v _ => sameV v (.tuple [.bool false, .bool true])) = true := by kernel_rfl
theorem cun94 : evKn (envQ [] [.eqa [1, 1, 2] [.i64 5, .i64 0, .sstr 0 0 300] [.i64 5, .i64 0, .sstr 1 0 300] true]) [] 300 100 (.fn 31) [.agg [.i64 5, .i64 0, .sstr 0 0 300], .agg [.i64 5, .i64 0, .sstr 1 0 300]] h0 (fun v _ => sameV v (.tuple [.bool true, .bool true])) = true := by kernel_rfl
theorem loose_tt {s0 : ByteArray} (h0 : s0.size ≤ 300) {s1 : ByteArray} (h1 : s1.size ≤ 300) : ∃ r, AE.Returns Tryz.prog 31 [vC 5 0 s0, vC 5 0 s1] (.tuple #[.bool r, .bool true]) := by
  cases c : sameW 5 0 s0 5 0 s1
  · exact ⟨false, run_ret (Y := syL [0, 0, 0, 0] [s0, s1]) facts_nil (orcs_cons (orc_same (isI_64 5) (isI_64 0) (isS_sym (s := s0) rfl (Nat.zero_le _) h0 rfl) (isI_64 5) (isI_64 0) (isS_sym (s := s1) rfl (Nat.zero_le _) h1 rfl) c) (fun _ h => orcs_nil h)) KnownOk.nil (concs2 (conc_val (isI_64 5) (isI_64 0) (isS_sym (s := s0) rfl (Nat.zero_le _) h0 rfl) rfl) (conc_val (isI_64 5) (isI_64 0) (isS_sym (s := s1) rfl (Nat.zero_le _) h1 rfl) rfl)) rfl cun93⟩
  · exact ⟨true, run_ret (Y := syL [0, 0, 0, 0] [s0, s1]) facts_nil (orcs_cons (orc_same (isI_64 5) (isI_64 0) (isS_sym (s := s0) rfl (Nat.zero_le _) h0 rfl) (isI_64 5) (isI_64 0) (isS_sym (s := s1) rfl (Nat.zero_le _) h1 rfl) c) (fun _ h => orcs_nil h)) KnownOk.nil (concs2 (conc_val (isI_64 5) (isI_64 0) (isS_sym (s := s0) rfl (Nat.zero_le _) h0 rfl) rfl) (conc_val (isI_64 5) (isI_64 0) (isS_sym (s := s1) rfl (Nat.zero_le _) h1 rfl) rfl)) rfl cun94⟩
theorem cun95 : evKn (envQ [] []) [] 300 100 (.fn 31) [.agg [.i64 5, .i64 0, .sstr 0 0 300], .agg [.i64 6, .sint .i64 (.var 1) 1 2, .str []]] h0 (fun v _ => sameV v (.tuple [.bool false, .bool true])) = true := by kernel_rfl
theorem loose_ts {s0 : ByteArray} (h0 : s0.size ≤ 300) {n1 : Int} (h1 : 1 ≤ n1 ∧ n1 ≤ 2) : ∃ r, AE.Returns Tryz.prog 31 [vC 5 0 s0, vC 6 n1 ByteArray.empty] (.tuple #[.bool r, .bool true]) := by
  exact ⟨false, run_ret (Y := syL [0, n1, 0, 0] [s0, ByteArray.empty]) facts_nil (fun _ h => orcs_nil h) KnownOk.nil (concs2 (conc_val (isI_64 5) (isI_64 0) (isS_sym (s := s0) rfl (Nat.zero_le _) h0 rfl) rfl) (conc_val (isI_64 6) (isI_sym (n := n1) rfl h1.1 h1.2) (isS_str rfl) rfl)) rfl cun95⟩
theorem cun96 : evKn (envQ [] []) [] 300 100 (.fn 31) [.agg [.i64 6, .sint .i64 (.var 0) 1 2, .str []], .agg [.i64 0, .i64 0, .str []]] h0 (fun v _ => sameV v (.tuple [.bool false, .bool true])) = true := by kernel_rfl
theorem loose_su {n0 : Int} (h0 : 1 ≤ n0 ∧ n0 ≤ 2) : ∃ r, AE.Returns Tryz.prog 31 [vC 6 n0 ByteArray.empty, vC 0 0 ByteArray.empty] (.tuple #[.bool r, .bool true]) := by
  exact ⟨false, run_ret (Y := syL [n0, 0, 0, 0] [ByteArray.empty, ByteArray.empty]) facts_nil (fun _ h => orcs_nil h) KnownOk.nil (concs2 (conc_val (isI_64 6) (isI_sym (n := n0) rfl h0.1 h0.2) (isS_str rfl) rfl) (fun _ => rfl)) rfl cun96⟩
theorem cun97 : evKn (envQ [] []) [] 300 100 (.fn 31) [.agg [.i64 6, .sint .i64 (.var 0) 1 2, .str []], .agg [.i64 1, .i64 0, .str []]] h0 (fun v _ => sameV v (.tuple [.bool false, .bool true])) = true := by kernel_rfl
theorem loose_sl {n0 : Int} (h0 : 1 ≤ n0 ∧ n0 ≤ 2) : ∃ r, AE.Returns Tryz.prog 31 [vC 6 n0 ByteArray.empty, vC 1 0 ByteArray.empty] (.tuple #[.bool r, .bool true]) := by
  exact ⟨false, run_ret (Y := syL [n0, 0, 0, 0] [ByteArray.empty, ByteArray.empty]) facts_nil (fun _ h => orcs_nil h) KnownOk.nil (concs2 (conc_val (isI_64 6) (isI_sym (n := n0) rfl h0.1 h0.2) (isS_str rfl) rfl) (fun _ => rfl)) rfl cun97⟩
theorem cun98 : evKn (envQ [] []) [] 300 100 (.fn 31) [.agg [.i64 6, .sint .i64 (.var 0) 1 2, .str []], .agg [.i64 2, .sint .i64 (.var 1) 0 1, .str []]] h0 (fun v _ => sameV v (.tuple [.bool false, .bool true])) = true := by kernel_rfl
theorem loose_sb {n0 : Int} (h0 : 1 ≤ n0 ∧ n0 ≤ 2) {n1 : Int} (h1 : 0 ≤ n1 ∧ n1 ≤ 1) : ∃ r, AE.Returns Tryz.prog 31 [vC 6 n0 ByteArray.empty, vC 2 n1 ByteArray.empty] (.tuple #[.bool r, .bool true]) := by
  exact ⟨false, run_ret (Y := syL [n0, n1, 0, 0] [ByteArray.empty, ByteArray.empty]) facts_nil (fun _ h => orcs_nil h) KnownOk.nil (concs2 (conc_val (isI_64 6) (isI_sym (n := n0) rfl h0.1 h0.2) (isS_str rfl) rfl) (conc_val (isI_64 2) (isI_sym (n := n1) rfl h1.1 h1.2) (isS_str rfl) rfl)) rfl cun98⟩
theorem cun99 : evKn (envQ [] []) [] 300 100 (.fn 31) [.agg [.i64 6, .sint .i64 (.var 0) 1 2, .str []], numA 1] h0 (fun v _ => sameV v (.tuple [.bool false, .bool true])) = true := by kernel_rfl
theorem loose_sn {n0 : Int} (h0 : 1 ≤ n0 ∧ n0 ≤ 2) {n1 : Int} (h1 : -9007199254740992 ≤ n1 ∧ n1 ≤ 9007199254740992) : ∃ r, AE.Returns Tryz.prog 31 [vC 6 n0 ByteArray.empty, vC 3 n1 ByteArray.empty] (.tuple #[.bool r, .bool true]) := by
  exact ⟨false, run_ret (Y := syL [n0, n1, 0, 0] [ByteArray.empty, ByteArray.empty]) facts_nil (fun _ h => orcs_nil h) KnownOk.nil (concs2 (conc_val (isI_64 6) (isI_sym (n := n0) rfl h0.1 h0.2) (isS_str rfl) rfl) (numA_ok (i := 1) (n := n1) rfl h1.1 h1.2)) rfl cun99⟩
theorem cun100 : evKn (envQ [] []) [] 300 100 (.fn 31) [.agg [.i64 6, .sint .i64 (.var 0) 1 2, .str []], nanA] h0 (fun v _ => sameV v (.tuple [.bool false, .bool true])) = true := by kernel_rfl
theorem loose_sq {n0 : Int} (h0 : 1 ≤ n0 ∧ n0 ≤ 2) : ∃ r, AE.Returns Tryz.prog 31 [vC 6 n0 ByteArray.empty, vC 4 0 ByteArray.empty] (.tuple #[.bool r, .bool true]) := by
  exact ⟨false, run_ret (Y := syL [n0, 0, 0, 0] [ByteArray.empty, ByteArray.empty]) facts_nil (fun _ h => orcs_nil h) KnownOk.nil (concs2 (conc_val (isI_64 6) (isI_sym (n := n0) rfl h0.1 h0.2) (isS_str rfl) rfl) nanA_ok) rfl cun100⟩
theorem cun101 : evKn (envQ [] []) [] 300 100 (.fn 31) [.agg [.i64 6, .sint .i64 (.var 0) 1 2, .str []], .agg [.i64 5, .i64 0, .sstr 1 0 300]] h0 (fun v _ => sameV v (.tuple [.bool false, .bool true])) = true := by kernel_rfl
theorem loose_st {n0 : Int} (h0 : 1 ≤ n0 ∧ n0 ≤ 2) {s1 : ByteArray} (h1 : s1.size ≤ 300) : ∃ r, AE.Returns Tryz.prog 31 [vC 6 n0 ByteArray.empty, vC 5 0 s1] (.tuple #[.bool r, .bool true]) := by
  exact ⟨false, run_ret (Y := syL [n0, 0, 0, 0] [ByteArray.empty, s1]) facts_nil (fun _ h => orcs_nil h) KnownOk.nil (concs2 (conc_val (isI_64 6) (isI_sym (n := n0) rfl h0.1 h0.2) (isS_str rfl) rfl) (conc_val (isI_64 5) (isI_64 0) (isS_sym (s := s1) rfl (Nat.zero_le _) h1 rfl) rfl)) rfl cun101⟩
theorem cun102 : evKn (envQ [] [.eqa [1, 1, 2] [.i64 6, .sint .i64 (.var 0) 1 2, .str []] [.i64 6, .sint .i64 (.var 1) 1 2, .str []] false]) [] 300 100 (.fn 31) [.agg [.i64 6, .sint .i64 (.var 0) 1 2, .str []], .agg [.i64 6, .sint .i64 (.var 1) 1 2, .str []]] h0 (fun v _ => sameV v (.tuple [.bool false, .bool true])) = true := by kernel_rfl
theorem cun103 : evKn (envQ [] [.eqa [1, 1, 2] [.i64 6, .sint .i64 (.var 0) 1 2, .str []] [.i64 6, .sint .i64 (.var 1) 1 2, .str []] true]) [] 300 100 (.fn 31) [.agg [.i64 6, .sint .i64 (.var 0) 1 2, .str []], .agg [.i64 6, .sint .i64 (.var 1) 1 2, .str []]] h0 (fun v _ => sameV v (.tuple [.bool true, .bool true])) = true := by kernel_rfl
theorem loose_ss {n0 : Int} (h0 : 1 ≤ n0 ∧ n0 ≤ 2) {n1 : Int} (h1 : 1 ≤ n1 ∧ n1 ≤ 2) : ∃ r, AE.Returns Tryz.prog 31 [vC 6 n0 ByteArray.empty, vC 6 n1 ByteArray.empty] (.tuple #[.bool r, .bool true]) := by
  cases c : sameW 6 n0 ByteArray.empty 6 n1 ByteArray.empty
  · exact ⟨false, run_ret (Y := syL [n0, n1, 0, 0] [ByteArray.empty, ByteArray.empty]) facts_nil (orcs_cons (orc_same (isI_64 6) (isI_sym (n := n0) rfl h0.1 h0.2) isE (isI_64 6) (isI_sym (n := n1) rfl h1.1 h1.2) isE c) (fun _ h => orcs_nil h)) KnownOk.nil (concs2 (conc_val (isI_64 6) (isI_sym (n := n0) rfl h0.1 h0.2) (isS_str rfl) rfl) (conc_val (isI_64 6) (isI_sym (n := n1) rfl h1.1 h1.2) (isS_str rfl) rfl)) rfl cun102⟩
  · exact ⟨true, run_ret (Y := syL [n0, n1, 0, 0] [ByteArray.empty, ByteArray.empty]) facts_nil (orcs_cons (orc_same (isI_64 6) (isI_sym (n := n0) rfl h0.1 h0.2) isE (isI_64 6) (isI_sym (n := n1) rfl h1.1 h1.2) isE c) (fun _ h => orcs_nil h)) KnownOk.nil (concs2 (conc_val (isI_64 6) (isI_sym (n := n0) rfl h0.1 h0.2) (isS_str rfl) rfl) (conc_val (isI_64 6) (isI_sym (n := n1) rfl h1.1 h1.2) (isS_str rfl) rfl)) rfl cun103⟩

theorem loose_any {k n k' n' : Int} {s s' : ByteArray} (h : Pl k n s) (h' : Pl k' n' s') : ∃ r, AE.Returns Tryz.prog 31 [vC k n s, vC k' n' s'] (.tuple #[.bool r, .bool true]) := by
  cases h <;> cases h'
  case u.u => exact loose_uu
  case u.l => exact loose_ul
  case u.b => exact loose_ub (by assumption)
  case u.n => exact loose_un (by assumption)
  case u.q => exact loose_uq
  case u.t => exact loose_ut (by assumption)
  case u.s => exact loose_us (by assumption)
  case l.u => exact loose_lu
  case l.l => exact loose_ll
  case l.b => exact loose_lb (by assumption)
  case l.n => exact loose_ln (by assumption)
  case l.q => exact loose_lq
  case l.t => exact loose_lt (by assumption)
  case l.s => exact loose_ls (by assumption)
  case b.u => exact loose_bu (by assumption)
  case b.l => exact loose_bl (by assumption)
  case b.b => exact loose_bb (by assumption) (by assumption)
  case b.n => exact loose_bn (by assumption) (by assumption)
  case b.q => exact loose_bq (by assumption)
  case b.t => exact loose_bt (by assumption) (by assumption)
  case b.s => exact loose_bs (by assumption) (by assumption)
  case n.u => exact loose_nu (by assumption)
  case n.l => exact loose_nl (by assumption)
  case n.b => exact loose_nb (by assumption) (by assumption)
  case n.n => exact loose_nn (by assumption) (by assumption)
  case n.q => exact loose_nq (by assumption)
  case n.t => exact loose_nt (by assumption) (by assumption)
  case n.s => exact loose_ns (by assumption) (by assumption)
  case q.u => exact loose_qu
  case q.l => exact loose_ql
  case q.b => exact loose_qb (by assumption)
  case q.n => exact loose_qn (by assumption)
  case q.q => exact loose_qq
  case q.t => exact loose_qt (by assumption)
  case q.s => exact loose_qs (by assumption)
  case t.u => exact loose_tu (by assumption)
  case t.l => exact loose_tl (by assumption)
  case t.b => exact loose_tb (by assumption) (by assumption)
  case t.n => exact loose_tn (by assumption) (by assumption)
  case t.q => exact loose_tq (by assumption)
  case t.t => exact loose_tt (by assumption) (by assumption)
  case t.s => exact loose_ts (by assumption) (by assumption)
  case s.u => exact loose_su (by assumption)
  case s.l => exact loose_sl (by assumption)
  case s.b => exact loose_sb (by assumption) (by assumption)
  case s.n => exact loose_sn (by assumption) (by assumption)
  case s.q => exact loose_sq (by assumption)
  case s.t => exact loose_st (by assumption) (by assumption)
  case s.s => exact loose_ss (by assumption) (by assumption)

end Go.Proofs.YtgcmekonnliemaaGreatDoor
