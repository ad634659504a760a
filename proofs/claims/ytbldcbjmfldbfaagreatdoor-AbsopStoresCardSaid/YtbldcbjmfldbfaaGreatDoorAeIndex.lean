/-
  Array indices: the program's reader returns a number or nothing, and where nothing, the reference's reader does so too: for every string, class by class, by the kernel. The decimal form of an index is read back.
-/
import Derived.Test.YtbldcbjmfldbfaaGreatDoorAeEnv
import Derived.Lib.ItoaNum
namespace Go.Proofs.YtbldcbjmfldbfaaGreatDoor
open Go.AE
set_option maxRecDepth 100000

def byteN (s : ByteArray) (j : Nat) : Int := ((s[j]?.getD 0).toNat : Int)
def syS (s : ByteArray) : Sy := ⟨fun _ => 0, fun _ => s, fun _ => (none, 0, 0), fun _ => undef⟩
theorem byte_in (s : ByteArray) (j : Nat) : 0 ≤ byteN s j ∧ byteN s j ≤ 255 := by
  unfold byteN
  have := (s[j]?.getD 0).toNat_lt
  omega

def digX (j : Nat) : SX := .bin .sub .u8 (.byte 0 j) (.con 48)
def digR (j : Nat) : SX := .bin .sub .i64 (.byte 0 j) (.con 48)
/-- the number that n digits give: the program's, the reference's way to reckon it -/
def numX : Nat → SX
  | 0 => .con 0
  | 1 => .bin .add .i64 (.con 0) (digX 0)
  | n + 2 => .bin .add .i64 (.bin .mul .i64 (.con 10) (numX (n + 1))) (digX (n + 1))
def refX : Nat → SX
  | 0 => .con 0
  | 1 => .bin .add .i64 (.con 0) (digR 0)
  | n + 2 => .bin .add .i64 (.bin .mul .i64 (refX (n + 1)) (.con 10)) (digR (n + 1))

def hor (s : ByteArray) : Nat → Int
  | 0 => 0
  | n + 1 => 10 * hor s n + (byteN s n - 48)

section
variable {s : ByteArray}

def Digits (s : ByteArray) (n : Nat) : Prop := ∀ j, j < n → 48 ≤ byteN s j ∧ byteN s j ≤ 57
theorem Digits.less {n m : Nat} (h : Digits s n) (hm : m ≤ n) : Digits s m := fun j hj => h j (by omega)

theorem hor_in : ∀ {n : Nat}, Digits s n → 0 ≤ hor s n ∧ hor s n < (10 ^ n : Nat)
  | 0, _ => by simp [hor]
  | n + 1, h => by
    have ih := hor_in (h.less (Nat.le_succ n))
    have hd := h n (by omega)
    have e : (10 ^ (n + 1) : Nat) = 10 * 10 ^ n := by rw [Nat.pow_succ, Nat.mul_comm]
    rw [e]
    simp only [hor]
    omega

theorem pow_le {n : Nat} (h : n ≤ 10) : (10 ^ n : Nat) ≤ 10000000000 := Nat.pow_le_pow_right (by omega) h

theorem digX_val {j : Nat} (h : 48 ≤ byteN s j ∧ byteN s j ≤ 57) : (digX j).val (syS s) = byteN s j - 48 := by
  show IntKind.wrap .u8 (byteN s j - 48) = _
  exact wrap_id (k := .u8) (by show (0 : Int) ≤ _; omega) (by show _ ≤ (255 : Int); omega)
theorem digR_val {j : Nat} (h : 48 ≤ byteN s j ∧ byteN s j ≤ 57) : (digR j).val (syS s) = byteN s j - 48 := by
  show IntKind.wrap .i64 (byteN s j - 48) = _
  exact wrap64_in _ (by omega) (by omega)

theorem num_val : ∀ {n : Nat}, n ≤ 10 → Digits s n → (numX n).val (syS s) = hor s n
  | 0, _, _ => rfl
  | 1, _, h => by
    show IntKind.wrap .i64 (0 + (digX 0).val (syS s)) = _
    have hd := h 0 (by omega)
    rw [digX_val hd, wrap64_in _ (by omega) (by omega)]
    simp only [hor]
    omega
  | n + 2, hn, h => by
    have ih := num_val (n := n + 1) (by omega) (h.less (by omega))
    have hi := hor_in (h.less (m := n + 1) (by omega))
    have hp := pow_le (n := n + 1) (by omega)
    have hd := h (n + 1) (by omega)
    show IntKind.wrap .i64 (IntKind.wrap .i64 (10 * (numX (n + 1)).val (syS s)) + (digX (n + 1)).val (syS s)) = 10 * hor s (n + 1) + (byteN s (n + 1) - 48)
    rw [ih, digX_val hd, wrap64_in (10 * hor s (n + 1)) (by omega) (by omega), wrap64_in _ (by omega) (by omega)]

theorem ref_val : ∀ {n : Nat}, n ≤ 10 → Digits s n → (refX n).val (syS s) = hor s n
  | 0, _, _ => rfl
  | 1, _, h => by
    show IntKind.wrap .i64 (0 + (digR 0).val (syS s)) = _
    have hd := h 0 (by omega)
    rw [digR_val hd, wrap64_in _ (by omega) (by omega)]
    simp only [hor]
    omega
  | n + 2, hn, h => by
    have ih := ref_val (n := n + 1) (by omega) (h.less (by omega))
    have hi := hor_in (h.less (m := n + 1) (by omega))
    have hp := pow_le (n := n + 1) (by omega)
    have hd := h (n + 1) (by omega)
    show IntKind.wrap .i64 (IntKind.wrap .i64 ((refX (n + 1)).val (syS s) * 10) + (digR (n + 1)).val (syS s)) = 10 * hor s (n + 1) + (byteN s (n + 1) - 48)
    rw [ih, digR_val hd, wrap64_in (hor s (n + 1) * 10) (by omega) (by omega), wrap64_in _ (by omega) (by omega)]
    omega

def noIdx : AV := .tuple [.i64 0, .bool false]
def cNo : Value := .tuple #[.int .i64 0, .bool false]
def cYes (n : Int) : Value := .tuple #[.int .i64 n, .bool true]

/-- neither reads a number -/
def NoIdx (s : ByteArray) : Prop := AE.Returns Tryz.prog 97 [.string s] cNo ∧ AE.Returns Tryz.prog 49 [.string s] cNo

theorem facts_ok {fs : List (SX × Int × Int)} (h : fs.all (fun f => decide (f.2.1 ≤ f.1.val (syS s)) && decide (f.1.val (syS s) ≤ f.2.2)) = true) : EnvOk (syS s) (envF fs) := envF_ok fun e l u hm => by
  rw [List.all_eq_true] at h
  simpa using h _ hm

theorem conc_s {l u : Nat} (h1 : l ≤ s.size) (h2 : s.size ≤ u) (ρ : Rho) : conc (syS s) ρ (.sstr 0 l u) = some (.string s) := by
  show (if l ≤ s.size ∧ s.size ≤ u ∧ neOk 0 s = true then some (Value.string s) else none) = _
  rw [if_pos ⟨h1, h2, rfl⟩]

theorem no_of {fs : List (SX × Int × Int)} {l u : Nat} (h1 : l ≤ s.size) (h2 : s.size ≤ u) (hf : fs.all (fun f => decide (f.2.1 ≤ f.1.val (syS s)) && decide (f.1.val (syS s) ≤ f.2.2)) = true)
    (r1 : evKn (envF fs) [] 300 100 (.fn 97) [.sstr 0 l u] ⟨.nil, 0, [], []⟩ (fun v _ => sameV v noIdx) = true) (r2 : evKn (envF fs) [] 300 100 (.fn 49) [.sstr 0 l u] ⟨.nil, 0, [], []⟩ (fun v _ => sameV v noIdx) = true) : NoIdx s :=
  ⟨Gives.returns (gives_of_run (facts_ok hf) KnownOk.nil rfl r1) (concs_cons.2 ⟨_, _, conc_s h1 h2 _, rfl, rfl⟩) rfl, Gives.returns (gives_of_run (facts_ok hf) KnownOk.nil rfl r2) (concs_cons.2 ⟨_, _, conc_s h1 h2 _, rfl, rfl⟩) rfl⟩

theorem yes_of {fs : List (SX × Int × Int)} {n : Nat} {lo hi : Int} (hn : n ≤ 10) (h1 : s.size = n) (hd : Digits s n) (hf : fs.all (fun f => decide (f.2.1 ≤ f.1.val (syS s)) && decide (f.1.val (syS s) ≤ f.2.2)) = true)
    (r1 : evKn (envF fs) [] 300 100 (.fn 97) [.sstr 0 n n] ⟨.nil, 0, [], []⟩ (fun v _ => sameV v (.tuple [.sint .i64 (numX n) lo hi, .bool true])) = true) : AE.Returns Tryz.prog 97 [.string s] (cYes (hor s n)) := by
  intro w
  have hg := gives_of_run (facts_ok hf) KnownOk.nil rfl r1 w [.string s] (concs_cons.2 ⟨_, _, conc_s (by omega) (by omega) _, rfl, rfl⟩)
  refine hg.mono fun e w' he => ?_
  obtain ⟨cv, rfl, h2, h3⟩ := he
  refine ⟨?_, h3⟩
  obtain ⟨cs, h4, rfl⟩ := conc_tuple h2
  obtain ⟨c1, r, h5, h6, rfl⟩ := concs_cons.1 h4
  obtain ⟨c2, r', h7, h8, rfl⟩ := concs_cons.1 h6
  rw [concs_nil] at h8
  subst h8
  simp only [conc, num_val hn hd] at h5
  split at h5
  · cases h5
    cases h7
    rfl
  · cases h5

/-- a fact on a byte -/
theorem fct {e : SX} {l u : Int} (h1 : l ≤ e.val (syS s)) (h2 : e.val (syS s) ≤ u) : (decide (l ≤ e.val (syS s)) && decide (e.val (syS s) ≤ u)) = true := by simp [h1, h2]

theorem bad0_0 (hl : 1 ≤ s.size) (hu : s.size ≤ 10) (ha : 0 ≤ byteN s 0) (hb : byteN s 0 ≤ 47) : NoIdx s :=
  no_of (fs := [(.byte 0 0, 0, 47)]) hl hu (Bool.and_eq_true_iff.2 ⟨fct (e := .byte 0 0) ha hb, rfl⟩) (by kernel_rfl) (by kernel_rfl)
theorem bad0_1 (hl : 1 ≤ s.size) (hu : s.size ≤ 10) (ha : 58 ≤ byteN s 0) (hb : byteN s 0 ≤ 64) : NoIdx s :=
  no_of (fs := [(.byte 0 0, 58, 64)]) hl hu (Bool.and_eq_true_iff.2 ⟨fct (e := .byte 0 0) ha hb, rfl⟩) (by kernel_rfl) (by kernel_rfl)
theorem bad0_2 (hl : 1 ≤ s.size) (hu : s.size ≤ 10) (ha : 65 ≤ byteN s 0) (hb : byteN s 0 ≤ 70) : NoIdx s :=
  no_of (fs := [(.byte 0 0, 65, 70)]) hl hu (Bool.and_eq_true_iff.2 ⟨fct (e := .byte 0 0) ha hb, rfl⟩) (by kernel_rfl) (by kernel_rfl)
theorem bad0_3 (hl : 1 ≤ s.size) (hu : s.size ≤ 10) (ha : 71 ≤ byteN s 0) (hb : byteN s 0 ≤ 96) : NoIdx s :=
  no_of (fs := [(.byte 0 0, 71, 96)]) hl hu (Bool.and_eq_true_iff.2 ⟨fct (e := .byte 0 0) ha hb, rfl⟩) (by kernel_rfl) (by kernel_rfl)
theorem bad0_4 (hl : 1 ≤ s.size) (hu : s.size ≤ 10) (ha : 97 ≤ byteN s 0) (hb : byteN s 0 ≤ 102) : NoIdx s :=
  no_of (fs := [(.byte 0 0, 97, 102)]) hl hu (Bool.and_eq_true_iff.2 ⟨fct (e := .byte 0 0) ha hb, rfl⟩) (by kernel_rfl) (by kernel_rfl)
theorem bad0_5 (hl : 1 ≤ s.size) (hu : s.size ≤ 10) (ha : 103 ≤ byteN s 0) (hb : byteN s 0 ≤ 255) : NoIdx s :=
  no_of (fs := [(.byte 0 0, 103, 255)]) hl hu (Bool.and_eq_true_iff.2 ⟨fct (e := .byte 0 0) ha hb, rfl⟩) (by kernel_rfl) (by kernel_rfl)
theorem bad0 (hl : 1 ≤ s.size) (hu : s.size ≤ 10) (h : ¬ (48 ≤ byteN s 0 ∧ byteN s 0 ≤ 57)) : NoIdx s := by
  have hi := byte_in s 0
  by_cases c0 : byteN s 0 ≤ 47
  · exact bad0_0 hl hu (by omega) c0
  by_cases c1 : byteN s 0 ≤ 64
  · exact bad0_1 hl hu (by omega) c1
  by_cases c2 : byteN s 0 ≤ 70
  · exact bad0_2 hl hu (by omega) c2
  by_cases c3 : byteN s 0 ≤ 96
  · exact bad0_3 hl hu (by omega) c3
  by_cases c4 : byteN s 0 ≤ 102
  · exact bad0_4 hl hu (by omega) c4
  exact bad0_5 hl hu (by omega) (by omega)

theorem bad1_0 (hl : 2 ≤ s.size) (hu : s.size ≤ 10) (hd : Digits s 1) (h0 : 49 ≤ byteN s 0) (ha : 0 ≤ byteN s 1) (hb : byteN s 1 ≤ 47) : NoIdx s :=
  no_of (fs := [(.byte 0 0, 49, 57), (.byte 0 1, 0, 47)]) hl hu (Bool.and_eq_true_iff.2 ⟨fct (e := .byte 0 0) h0 (hd 0 (by omega)).2, Bool.and_eq_true_iff.2 ⟨fct (e := .byte 0 1) ha hb, rfl⟩⟩) (by kernel_rfl) (by kernel_rfl)
theorem bad1_1 (hl : 2 ≤ s.size) (hu : s.size ≤ 10) (hd : Digits s 1) (h0 : 49 ≤ byteN s 0) (ha : 58 ≤ byteN s 1) (hb : byteN s 1 ≤ 64) : NoIdx s :=
  no_of (fs := [(.byte 0 0, 49, 57), (.byte 0 1, 58, 64)]) hl hu (Bool.and_eq_true_iff.2 ⟨fct (e := .byte 0 0) h0 (hd 0 (by omega)).2, Bool.and_eq_true_iff.2 ⟨fct (e := .byte 0 1) ha hb, rfl⟩⟩) (by kernel_rfl) (by kernel_rfl)
theorem bad1_2 (hl : 2 ≤ s.size) (hu : s.size ≤ 10) (hd : Digits s 1) (h0 : 49 ≤ byteN s 0) (ha : 65 ≤ byteN s 1) (hb : byteN s 1 ≤ 70) : NoIdx s :=
  no_of (fs := [(.byte 0 0, 49, 57), (.byte 0 1, 65, 70)]) hl hu (Bool.and_eq_true_iff.2 ⟨fct (e := .byte 0 0) h0 (hd 0 (by omega)).2, Bool.and_eq_true_iff.2 ⟨fct (e := .byte 0 1) ha hb, rfl⟩⟩) (by kernel_rfl) (by kernel_rfl)
theorem bad1_3 (hl : 2 ≤ s.size) (hu : s.size ≤ 10) (hd : Digits s 1) (h0 : 49 ≤ byteN s 0) (ha : 71 ≤ byteN s 1) (hb : byteN s 1 ≤ 96) : NoIdx s :=
  no_of (fs := [(.byte 0 0, 49, 57), (.byte 0 1, 71, 96)]) hl hu (Bool.and_eq_true_iff.2 ⟨fct (e := .byte 0 0) h0 (hd 0 (by omega)).2, Bool.and_eq_true_iff.2 ⟨fct (e := .byte 0 1) ha hb, rfl⟩⟩) (by kernel_rfl) (by kernel_rfl)
theorem bad1_4 (hl : 2 ≤ s.size) (hu : s.size ≤ 10) (hd : Digits s 1) (h0 : 49 ≤ byteN s 0) (ha : 97 ≤ byteN s 1) (hb : byteN s 1 ≤ 102) : NoIdx s :=
  no_of (fs := [(.byte 0 0, 49, 57), (.byte 0 1, 97, 102)]) hl hu (Bool.and_eq_true_iff.2 ⟨fct (e := .byte 0 0) h0 (hd 0 (by omega)).2, Bool.and_eq_true_iff.2 ⟨fct (e := .byte 0 1) ha hb, rfl⟩⟩) (by kernel_rfl) (by kernel_rfl)
theorem bad1_5 (hl : 2 ≤ s.size) (hu : s.size ≤ 10) (hd : Digits s 1) (h0 : 49 ≤ byteN s 0) (ha : 103 ≤ byteN s 1) (hb : byteN s 1 ≤ 255) : NoIdx s :=
  no_of (fs := [(.byte 0 0, 49, 57), (.byte 0 1, 103, 255)]) hl hu (Bool.and_eq_true_iff.2 ⟨fct (e := .byte 0 0) h0 (hd 0 (by omega)).2, Bool.and_eq_true_iff.2 ⟨fct (e := .byte 0 1) ha hb, rfl⟩⟩) (by kernel_rfl) (by kernel_rfl)
theorem bad1 (hl : 2 ≤ s.size) (hu : s.size ≤ 10) (hd : Digits s 1) (h0 : 49 ≤ byteN s 0) (h : ¬ (48 ≤ byteN s 1 ∧ byteN s 1 ≤ 57)) : NoIdx s := by
  have hi := byte_in s 1
  by_cases c0 : byteN s 1 ≤ 47
  · exact bad1_0 hl hu hd h0 (by omega) c0
  by_cases c1 : byteN s 1 ≤ 64
  · exact bad1_1 hl hu hd h0 (by omega) c1
  by_cases c2 : byteN s 1 ≤ 70
  · exact bad1_2 hl hu hd h0 (by omega) c2
  by_cases c3 : byteN s 1 ≤ 96
  · exact bad1_3 hl hu hd h0 (by omega) c3
  by_cases c4 : byteN s 1 ≤ 102
  · exact bad1_4 hl hu hd h0 (by omega) c4
  exact bad1_5 hl hu hd h0 (by omega) (by omega)

theorem bad2_0 (hl : 3 ≤ s.size) (hu : s.size ≤ 10) (hd : Digits s 2) (h0 : 49 ≤ byteN s 0) (ha : 0 ≤ byteN s 2) (hb : byteN s 2 ≤ 47) : NoIdx s :=
  no_of (fs := [(.byte 0 0, 49, 57), (.byte 0 1, 48, 57), (.byte 0 2, 0, 47)]) hl hu (Bool.and_eq_true_iff.2 ⟨fct (e := .byte 0 0) h0 (hd 0 (by omega)).2, Bool.and_eq_true_iff.2 ⟨fct (e := .byte 0 1) (hd 1 (by omega)).1 (hd 1 (by omega)).2, Bool.and_eq_true_iff.2 ⟨fct (e := .byte 0 2) ha hb, rfl⟩⟩⟩) (by kernel_rfl) (by kernel_rfl)
theorem bad2_1 (hl : 3 ≤ s.size) (hu : s.size ≤ 10) (hd : Digits s 2) (h0 : 49 ≤ byteN s 0) (ha : 58 ≤ byteN s 2) (hb : byteN s 2 ≤ 64) : NoIdx s :=
  no_of (fs := [(.byte 0 0, 49, 57), (.byte 0 1, 48, 57), (.byte 0 2, 58, 64)]) hl hu (Bool.and_eq_true_iff.2 ⟨fct (e := .byte 0 0) h0 (hd 0 (by omega)).2, Bool.and_eq_true_iff.2 ⟨fct (e := .byte 0 1) (hd 1 (by omega)).1 (hd 1 (by omega)).2, Bool.and_eq_true_iff.2 ⟨fct (e := .byte 0 2) ha hb, rfl⟩⟩⟩) (by kernel_rfl) (by kernel_rfl)
theorem bad2_2 (hl : 3 ≤ s.size) (hu : s.size ≤ 10) (hd : Digits s 2) (h0 : 49 ≤ byteN s 0) (ha : 65 ≤ byteN s 2) (hb : byteN s 2 ≤ 70) : NoIdx s :=
  no_of (fs := [(.byte 0 0, 49, 57), (.byte 0 1, 48, 57), (.byte 0 2, 65, 70)]) hl hu (Bool.and_eq_true_iff.2 ⟨fct (e := .byte 0 0) h0 (hd 0 (by omega)).2, Bool.and_eq_true_iff.2 ⟨fct (e := .byte 0 1) (hd 1 (by omega)).1 (hd 1 (by omega)).2, Bool.and_eq_true_iff.2 ⟨fct (e := .byte 0 2) ha hb, rfl⟩⟩⟩) (by kernel_rfl) (by kernel_rfl)
theorem bad2_3 (hl : 3 ≤ s.size) (hu : s.size ≤ 10) (hd : Digits s 2) (h0 : 49 ≤ byteN s 0) (ha : 71 ≤ byteN s 2) (hb : byteN s 2 ≤ 96) : NoIdx s :=
  no_of (fs := [(.byte 0 0, 49, 57), (.byte 0 1, 48, 57), (.byte 0 2, 71, 96)]) hl hu (Bool.and_eq_true_iff.2 ⟨fct (e := .byte 0 0) h0 (hd 0 (by omega)).2, Bool.and_eq_true_iff.2 ⟨fct (e := .byte 0 1) (hd 1 (by omega)).1 (hd 1 (by omega)).2, Bool.and_eq_true_iff.2 ⟨fct (e := .byte 0 2) ha hb, rfl⟩⟩⟩) (by kernel_rfl) (by kernel_rfl)
theorem bad2_4 (hl : 3 ≤ s.size) (hu : s.size ≤ 10) (hd : Digits s 2) (h0 : 49 ≤ byteN s 0) (ha : 97 ≤ byteN s 2) (hb : byteN s 2 ≤ 102) : NoIdx s :=
  no_of (fs := [(.byte 0 0, 49, 57), (.byte 0 1, 48, 57), (.byte 0 2, 97, 102)]) hl hu (Bool.and_eq_true_iff.2 ⟨fct (e := .byte 0 0) h0 (hd 0 (by omega)).2, Bool.and_eq_true_iff.2 ⟨fct (e := .byte 0 1) (hd 1 (by omega)).1 (hd 1 (by omega)).2, Bool.and_eq_true_iff.2 ⟨fct (e := .byte 0 2) ha hb, rfl⟩⟩⟩) (by kernel_rfl) (by kernel_rfl)
theorem bad2_5 (hl : 3 ≤ s.size) (hu : s.size ≤ 10) (hd : Digits s 2) (h0 : 49 ≤ byteN s 0) (ha : 103 ≤ byteN s 2) (hb : byteN s 2 ≤ 255) : NoIdx s :=
  no_of (fs := [(.byte 0 0, 49, 57), (.byte 0 1, 48, 57), (.byte 0 2, 103, 255)]) hl hu (Bool.and_eq_true_iff.2 ⟨fct (e := .byte 0 0) h0 (hd 0 (by omega)).2, Bool.and_eq_true_iff.2 ⟨fct (e := .byte 0 1) (hd 1 (by omega)).1 (hd 1 (by omega)).2, Bool.and_eq_true_iff.2 ⟨fct (e := .byte 0 2) ha hb, rfl⟩⟩⟩) (by kernel_rfl) (by kernel_rfl)
theorem bad2 (hl : 3 ≤ s.size) (hu : s.size ≤ 10) (hd : Digits s 2) (h0 : 49 ≤ byteN s 0) (h : ¬ (48 ≤ byteN s 2 ∧ byteN s 2 ≤ 57)) : NoIdx s := by
  have hi := byte_in s 2
  by_cases c0 : byteN s 2 ≤ 47
  · exact bad2_0 hl hu hd h0 (by omega) c0
  by_cases c1 : byteN s 2 ≤ 64
  · exact bad2_1 hl hu hd h0 (by omega) c1
  by_cases c2 : byteN s 2 ≤ 70
  · exact bad2_2 hl hu hd h0 (by omega) c2
  by_cases c3 : byteN s 2 ≤ 96
  · exact bad2_3 hl hu hd h0 (by omega) c3
  by_cases c4 : byteN s 2 ≤ 102
  · exact bad2_4 hl hu hd h0 (by omega) c4
  exact bad2_5 hl hu hd h0 (by omega) (by omega)

theorem bad3_0 (hl : 4 ≤ s.size) (hu : s.size ≤ 10) (hd : Digits s 3) (h0 : 49 ≤ byteN s 0) (ha : 0 ≤ byteN s 3) (hb : byteN s 3 ≤ 47) : NoIdx s :=
  no_of (fs := [(.byte 0 0, 49, 57), (.byte 0 1, 48, 57), (.byte 0 2, 48, 57), (.byte 0 3, 0, 47)]) hl hu (Bool.and_eq_true_iff.2 ⟨fct (e := .byte 0 0) h0 (hd 0 (by omega)).2, Bool.and_eq_true_iff.2 ⟨fct (e := .byte 0 1) (hd 1 (by omega)).1 (hd 1 (by omega)).2, Bool.and_eq_true_iff.2 ⟨fct (e := .byte 0 2) (hd 2 (by omega)).1 (hd 2 (by omega)).2, Bool.and_eq_true_iff.2 ⟨fct (e := .byte 0 3) ha hb, rfl⟩⟩⟩⟩) (by kernel_rfl) (by kernel_rfl)
theorem bad3_1 (hl : 4 ≤ s.size) (hu : s.size ≤ 10) (hd : Digits s 3) (h0 : 49 ≤ byteN s 0) (ha : 58 ≤ byteN s 3) (hb : byteN s 3 ≤ 64) : NoIdx s :=
  no_of (fs := [(.byte 0 0, 49, 57), (.byte 0 1, 48, 57), (.byte 0 2, 48, 57), (.byte 0 3, 58, 64)]) hl hu (Bool.and_eq_true_iff.2 ⟨fct (e := .byte 0 0) h0 (hd 0 (by omega)).2, Bool.and_eq_true_iff.2 ⟨fct (e := .byte 0 1) (hd 1 (by omega)).1 (hd 1 (by omega)).2, Bool.and_eq_true_iff.2 ⟨fct (e := .byte 0 2) (hd 2 (by omega)).1 (hd 2 (by omega)).2, Bool.and_eq_true_iff.2 ⟨fct (e := .byte 0 3) ha hb, rfl⟩⟩⟩⟩) (by kernel_rfl) (by kernel_rfl)
theorem bad3_2 (hl : 4 ≤ s.size) (hu : s.size ≤ 10) (hd : Digits s 3) (h0 : 49 ≤ byteN s 0) (ha : 65 ≤ byteN s 3) (hb : byteN s 3 ≤ 70) : NoIdx s :=
  no_of (fs := [(.byte 0 0, 49, 57), (.byte 0 1, 48, 57), (.byte 0 2, 48, 57), (.byte 0 3, 65, 70)]) hl hu (Bool.and_eq_true_iff.2 ⟨fct (e := .byte 0 0) h0 (hd 0 (by omega)).2, Bool.and_eq_true_iff.2 ⟨fct (e := .byte 0 1) (hd 1 (by omega)).1 (hd 1 (by omega)).2, Bool.and_eq_true_iff.2 ⟨fct (e := .byte 0 2) (hd 2 (by omega)).1 (hd 2 (by omega)).2, Bool.and_eq_true_iff.2 ⟨fct (e := .byte 0 3) ha hb, rfl⟩⟩⟩⟩) (by kernel_rfl) (by kernel_rfl)
theorem bad3_3 (hl : 4 ≤ s.size) (hu : s.size ≤ 10) (hd : Digits s 3) (h0 : 49 ≤ byteN s 0) (ha : 71 ≤ byteN s 3) (hb : byteN s 3 ≤ 96) : NoIdx s :=
  no_of (fs := [(.byte 0 0, 49, 57), (.byte 0 1, 48, 57), (.byte 0 2, 48, 57), (.byte 0 3, 71, 96)]) hl hu (Bool.and_eq_true_iff.2 ⟨fct (e := .byte 0 0) h0 (hd 0 (by omega)).2, Bool.and_eq_true_iff.2 ⟨fct (e := .byte 0 1) (hd 1 (by omega)).1 (hd 1 (by omega)).2, Bool.and_eq_true_iff.2 ⟨fct (e := .byte 0 2) (hd 2 (by omega)).1 (hd 2 (by omega)).2, Bool.and_eq_true_iff.2 ⟨fct (e := .byte 0 3) ha hb, rfl⟩⟩⟩⟩) (by kernel_rfl) (by kernel_rfl)
theorem bad3_4 (hl : 4 ≤ s.size) (hu : s.size ≤ 10) (hd : Digits s 3) (h0 : 49 ≤ byteN s 0) (ha : 97 ≤ byteN s 3) (hb : byteN s 3 ≤ 102) : NoIdx s :=
  no_of (fs := [(.byte 0 0, 49, 57), (.byte 0 1, 48, 57), (.byte 0 2, 48, 57), (.byte 0 3, 97, 102)]) hl hu (Bool.and_eq_true_iff.2 ⟨fct (e := .byte 0 0) h0 (hd 0 (by omega)).2, Bool.and_eq_true_iff.2 ⟨fct (e := .byte 0 1) (hd 1 (by omega)).1 (hd 1 (by omega)).2, Bool.and_eq_true_iff.2 ⟨fct (e := .byte 0 2) (hd 2 (by omega)).1 (hd 2 (by omega)).2, Bool.and_eq_true_iff.2 ⟨fct (e := .byte 0 3) ha hb, rfl⟩⟩⟩⟩) (by kernel_rfl) (by kernel_rfl)
theorem bad3_5 (hl : 4 ≤ s.size) (hu : s.size ≤ 10) (hd : Digits s 3) (h0 : 49 ≤ byteN s 0) (ha : 103 ≤ byteN s 3) (hb : byteN s 3 ≤ 255) : NoIdx s :=
  no_of (fs := [(.byte 0 0, 49, 57), (.byte 0 1, 48, 57), (.byte 0 2, 48, 57), (.byte 0 3, 103, 255)]) hl hu (Bool.and_eq_true_iff.2 ⟨fct (e := .byte 0 0) h0 (hd 0 (by omega)).2, Bool.and_eq_true_iff.2 ⟨fct (e := .byte 0 1) (hd 1 (by omega)).1 (hd 1 (by omega)).2, Bool.and_eq_true_iff.2 ⟨fct (e := .byte 0 2) (hd 2 (by omega)).1 (hd 2 (by omega)).2, Bool.and_eq_true_iff.2 ⟨fct (e := .byte 0 3) ha hb, rfl⟩⟩⟩⟩) (by kernel_rfl) (by kernel_rfl)
theorem bad3 (hl : 4 ≤ s.size) (hu : s.size ≤ 10) (hd : Digits s 3) (h0 : 49 ≤ byteN s 0) (h : ¬ (48 ≤ byteN s 3 ∧ byteN s 3 ≤ 57)) : NoIdx s := by
  have hi := byte_in s 3
  by_cases c0 : byteN s 3 ≤ 47
  · exact bad3_0 hl hu hd h0 (by omega) c0
  by_cases c1 : byteN s 3 ≤ 64
  · exact bad3_1 hl hu hd h0 (by omega) c1
  by_cases c2 : byteN s 3 ≤ 70
  · exact bad3_2 hl hu hd h0 (by omega) c2
  by_cases c3 : byteN s 3 ≤ 96
  · exact bad3_3 hl hu hd h0 (by omega) c3
  by_cases c4 : byteN s 3 ≤ 102
  · exact bad3_4 hl hu hd h0 (by omega) c4
  exact bad3_5 hl hu hd h0 (by omega) (by omega)

theorem bad4_0 (hl : 5 ≤ s.size) (hu : s.size ≤ 10) (hd : Digits s 4) (h0 : 49 ≤ byteN s 0) (ha : 0 ≤ byteN s 4) (hb : byteN s 4 ≤ 47) : NoIdx s :=
  no_of (fs := [(.byte 0 0, 49, 57), (.byte 0 1, 48, 57), (.byte 0 2, 48, 57), (.byte 0 3, 48, 57), (.byte 0 4, 0, 47)]) hl hu (Bool.and_eq_true_iff.2 ⟨fct (e := .byte 0 0) h0 (hd 0 (by omega)).2, Bool.and_eq_true_iff.2 ⟨fct (e := .byte 0 1) (hd 1 (by omega)).1 (hd 1 (by omega)).2, Bool.and_eq_true_iff.2 ⟨fct (e := .byte 0 2) (hd 2 (by omega)).1 (hd 2 (by omega)).2, Bool.and_eq_true_iff.2 ⟨fct (e := .byte 0 3) (hd 3 (by omega)).1 (hd 3 (by omega)).2, Bool.and_eq_true_iff.2 ⟨fct (e := .byte 0 4) ha hb, rfl⟩⟩⟩⟩⟩) (by kernel_rfl) (by kernel_rfl)
theorem bad4_1 (hl : 5 ≤ s.size) (hu : s.size ≤ 10) (hd : Digits s 4) (h0 : 49 ≤ byteN s 0) (ha : 58 ≤ byteN s 4) (hb : byteN s 4 ≤ 64) : NoIdx s :=
  no_of (fs := [(.byte 0 0, 49, 57), (.byte 0 1, 48, 57), (.byte 0 2, 48, 57), (.byte 0 3, 48, 57), (.byte 0 4, 58, 64)]) hl hu (Bool.and_eq_true_iff.2 ⟨fct (e := .byte 0 0) h0 (hd 0 (by omega)).2, Bool.and_eq_true_iff.2 ⟨fct (e := .byte 0 1) (hd 1 (by omega)).1 (hd 1 (by omega)).2, Bool.and_eq_true_iff.2 ⟨fct (e := .byte 0 2) (hd 2 (by omega)).1 (hd 2 (by omega)).2, Bool.and_eq_true_iff.2 ⟨fct (e := .byte 0 3) (hd 3 (by omega)).1 (hd 3 (by omega)).2, Bool.and_eq_true_iff.2 ⟨fct (e := .byte 0 4) ha hb, rfl⟩⟩⟩⟩⟩) (by kernel_rfl) (by kernel_rfl)
theorem bad4_2 (hl : 5 ≤ s.size) (hu : s.size ≤ 10) (hd : Digits s 4) (h0 : 49 ≤ byteN s 0) (ha : 65 ≤ byteN s 4) (hb : byteN s 4 ≤ 70) : NoIdx s :=
  no_of (fs := [(.byte 0 0, 49, 57), (.byte 0 1, 48, 57), (.byte 0 2, 48, 57), (.byte 0 3, 48, 57), (.byte 0 4, 65, 70)]) hl hu (Bool.and_eq_true_iff.2 ⟨fct (e := .byte 0 0) h0 (hd 0 (by omega)).2, Bool.and_eq_true_iff.2 ⟨fct (e := .byte 0 1) (hd 1 (by omega)).1 (hd 1 (by omega)).2, Bool.and_eq_true_iff.2 ⟨fct (e := .byte 0 2) (hd 2 (by omega)).1 (hd 2 (by omega)).2, Bool.and_eq_true_iff.2 ⟨fct (e := .byte 0 3) (hd 3 (by omega)).1 (hd 3 (by omega)).2, Bool.and_eq_true_iff.2 ⟨fct (e := .byte 0 4) ha hb, rfl⟩⟩⟩⟩⟩) (by kernel_rfl) (by kernel_rfl)
theorem bad4_3 (hl : 5 ≤ s.size) (hu : s.size ≤ 10) (hd : Digits s 4) (h0 : 49 ≤ byteN s 0) (ha : 71 ≤ byteN s 4) (hb : byteN s 4 ≤ 96) : NoIdx s :=
  no_of (fs := [(.byte 0 0, 49, 57), (.byte 0 1, 48, 57), (.byte 0 2, 48, 57), (.byte 0 3, 48, 57), (.byte 0 4, 71, 96)]) hl hu (Bool.and_eq_true_iff.2 ⟨fct (e := .byte 0 0) h0 (hd 0 (by omega)).2, Bool.and_eq_true_iff.2 ⟨fct (e := .byte 0 1) (hd 1 (by omega)).1 (hd 1 (by omega)).2, Bool.and_eq_true_iff.2 ⟨fct (e := .byte 0 2) (hd 2 (by omega)).1 (hd 2 (by omega)).2, Bool.and_eq_true_iff.2 ⟨fct (e := .byte 0 3) (hd 3 (by omega)).1 (hd 3 (by omega)).2, Bool.and_eq_true_iff.2 ⟨fct (e := .byte 0 4) ha hb, rfl⟩⟩⟩⟩⟩) (by kernel_rfl) (by kernel_rfl)
theorem bad4_4 (hl : 5 ≤ s.size) (hu : s.size ≤ 10) (hd : Digits s 4) (h0 : 49 ≤ byteN s 0) (ha : 97 ≤ byteN s 4) (hb : byteN s 4 ≤ 102) : NoIdx s :=
  no_of (fs := [(.byte 0 0, 49, 57), (.byte 0 1, 48, 57), (.byte 0 2, 48, 57), (.byte 0 3, 48, 57), (.byte 0 4, 97, 102)]) hl hu (Bool.and_eq_true_iff.2 ⟨fct (e := .byte 0 0) h0 (hd 0 (by omega)).2, Bool.and_eq_true_iff.2 ⟨fct (e := .byte 0 1) (hd 1 (by omega)).1 (hd 1 (by omega)).2, Bool.and_eq_true_iff.2 ⟨fct (e := .byte 0 2) (hd 2 (by omega)).1 (hd 2 (by omega)).2, Bool.and_eq_true_iff.2 ⟨fct (e := .byte 0 3) (hd 3 (by omega)).1 (hd 3 (by omega)).2, Bool.and_eq_true_iff.2 ⟨fct (e := .byte 0 4) ha hb, rfl⟩⟩⟩⟩⟩) (by kernel_rfl) (by kernel_rfl)
theorem bad4_5 (hl : 5 ≤ s.size) (hu : s.size ≤ 10) (hd : Digits s 4) (h0 : 49 ≤ byteN s 0) (ha : 103 ≤ byteN s 4) (hb : byteN s 4 ≤ 255) : NoIdx s :=
  no_of (fs := [(.byte 0 0, 49, 57), (.byte 0 1, 48, 57), (.byte 0 2, 48, 57), (.byte 0 3, 48, 57), (.byte 0 4, 103, 255)]) hl hu (Bool.and_eq_true_iff.2 ⟨fct (e := .byte 0 0) h0 (hd 0 (by omega)).2, Bool.and_eq_true_iff.2 ⟨fct (e := .byte 0 1) (hd 1 (by omega)).1 (hd 1 (by omega)).2, Bool.and_eq_true_iff.2 ⟨fct (e := .byte 0 2) (hd 2 (by omega)).1 (hd 2 (by omega)).2, Bool.and_eq_true_iff.2 ⟨fct (e := .byte 0 3) (hd 3 (by omega)).1 (hd 3 (by omega)).2, Bool.and_eq_true_iff.2 ⟨fct (e := .byte 0 4) ha hb, rfl⟩⟩⟩⟩⟩) (by kernel_rfl) (by kernel_rfl)
theorem bad4 (hl : 5 ≤ s.size) (hu : s.size ≤ 10) (hd : Digits s 4) (h0 : 49 ≤ byteN s 0) (h : ¬ (48 ≤ byteN s 4 ∧ byteN s 4 ≤ 57)) : NoIdx s := by
  have hi := byte_in s 4
  by_cases c0 : byteN s 4 ≤ 47
  · exact bad4_0 hl hu hd h0 (by omega) c0
  by_cases c1 : byteN s 4 ≤ 64
  · exact bad4_1 hl hu hd h0 (by omega) c1
  by_cases c2 : byteN s 4 ≤ 70
  · exact bad4_2 hl hu hd h0 (by omega) c2
  by_cases c3 : byteN s 4 ≤ 96
  · exact bad4_3 hl hu hd h0 (by omega) c3
  by_cases c4 : byteN s 4 ≤ 102
  · exact bad4_4 hl hu hd h0 (by omega) c4
  exact bad4_5 hl hu hd h0 (by omega) (by omega)

theorem bad5_0 (hl : 6 ≤ s.size) (hu : s.size ≤ 10) (hd : Digits s 5) (h0 : 49 ≤ byteN s 0) (ha : 0 ≤ byteN s 5) (hb : byteN s 5 ≤ 47) : NoIdx s :=
  no_of (fs := [(.byte 0 0, 49, 57), (.byte 0 1, 48, 57), (.byte 0 2, 48, 57), (.byte 0 3, 48, 57), (.byte 0 4, 48, 57), (.byte 0 5, 0, 47)]) hl hu (Bool.and_eq_true_iff.2 ⟨fct (e := .byte 0 0) h0 (hd 0 (by omega)).2, Bool.and_eq_true_iff.2 ⟨fct (e := .byte 0 1) (hd 1 (by omega)).1 (hd 1 (by omega)).2, Bool.and_eq_true_iff.2 ⟨fct (e := .byte 0 2) (hd 2 (by omega)).1 (hd 2 (by omega)).2, Bool.and_eq_true_iff.2 ⟨fct (e := .byte 0 3) (hd 3 (by omega)).1 (hd 3 (by omega)).2, Bool.and_eq_true_iff.2 ⟨fct (e := .byte 0 4) (hd 4 (by omega)).1 (hd 4 (by omega)).2, Bool.and_eq_true_iff.2 ⟨fct (e := .byte 0 5) ha hb, rfl⟩⟩⟩⟩⟩⟩) (by kernel_rfl) (by kernel_rfl)
theorem bad5_1 (hl : 6 ≤ s.size) (hu : s.size ≤ 10) (hd : Digits s 5) (h0 : 49 ≤ byteN s 0) (ha : 58 ≤ byteN s 5) (hb : byteN s 5 ≤ 64) : NoIdx s :=
  no_of (fs := [(.byte 0 0, 49, 57), (.byte 0 1, 48, 57), (.byte 0 2, 48, 57), (.byte 0 3, 48, 57), (.byte 0 4, 48, 57), (.byte 0 5, 58, 64)]) hl hu (Bool.and_eq_true_iff.2 ⟨fct (e := .byte 0 0) h0 (hd 0 (by omega)).2, Bool.and_eq_true_iff.2 ⟨fct (e := .byte 0 1) (hd 1 (by omega)).1 (hd 1 (by omega)).2, Bool.and_eq_true_iff.2 ⟨fct (e := .byte 0 2) (hd 2 (by omega)).1 (hd 2 (by omega)).2, Bool.and_eq_true_iff.2 ⟨fct (e := .byte 0 3) (hd 3 (by omega)).1 (hd 3 (by omega)).2, Bool.and_eq_true_iff.2 ⟨fct (e := .byte 0 4) (hd 4 (by omega)).1 (hd 4 (by omega)).2, Bool.and_eq_true_iff.2 ⟨fct (e := .byte 0 5) ha hb, rfl⟩⟩⟩⟩⟩⟩) (by kernel_rfl) (by kernel_rfl)
theorem bad5_2 (hl : 6 ≤ s.size) (hu : s.size ≤ 10) (hd : Digits s 5) (h0 : 49 ≤ byteN s 0) (ha : 65 ≤ byteN s 5) (hb : byteN s 5 ≤ 70) : NoIdx s :=
  no_of (fs := [(.byte 0 0, 49, 57), (.byte 0 1, 48, 57), (.byte 0 2, 48, 57), (.byte 0 3, 48, 57), (.byte 0 4, 48, 57), (.byte 0 5, 65, 70)]) hl hu (Bool.and_eq_true_iff.2 ⟨fct (e := .byte 0 0) h0 (hd 0 (by omega)).2, Bool.and_eq_true_iff.2 ⟨fct (e := .byte 0 1) (hd 1 (by omega)).1 (hd 1 (by omega)).2, Bool.and_eq_true_iff.2 ⟨fct (e := .byte 0 2) (hd 2 (by omega)).1 (hd 2 (by omega)).2, Bool.and_eq_true_iff.2 ⟨fct (e := .byte 0 3) (hd 3 (by omega)).1 (hd 3 (by omega)).2, Bool.and_eq_true_iff.2 ⟨fct (e := .byte 0 4) (hd 4 (by omega)).1 (hd 4 (by omega)).2, Bool.and_eq_true_iff.2 ⟨fct (e := .byte 0 5) ha hb, rfl⟩⟩⟩⟩⟩⟩) (by kernel_rfl) (by kernel_rfl)
theorem bad5_3 (hl : 6 ≤ s.size) (hu : s.size ≤ 10) (hd : Digits s 5) (h0 : 49 ≤ byteN s 0) (ha : 71 ≤ byteN s 5) (hb : byteN s 5 ≤ 96) : NoIdx s :=
  no_of (fs := [(.byte 0 0, 49, 57), (.byte 0 1, 48, 57), (.byte 0 2, 48, 57), (.byte 0 3, 48, 57), (.byte 0 4, 48, 57), (.byte 0 5, 71, 96)]) hl hu (Bool.and_eq_true_iff.2 ⟨fct (e := .byte 0 0) h0 (hd 0 (by omega)).2, Bool.and_eq_true_iff.2 ⟨fct (e := .byte 0 1) (hd 1 (by omega)).1 (hd 1 (by omega)).2, Bool.and_eq_true_iff.2 ⟨fct (e := .byte 0 2) (hd 2 (by omega)).1 (hd 2 (by omega)).2, Bool.and_eq_true_iff.2 ⟨fct (e := .byte 0 3) (hd 3 (by omega)).1 (hd 3 (by omega)).2, Bool.and_eq_true_iff.2 ⟨fct (e := .byte 0 4) (hd 4 (by omega)).1 (hd 4 (by omega)).2, Bool.and_eq_true_iff.2 ⟨fct (e := .byte 0 5) ha hb, rfl⟩⟩⟩⟩⟩⟩) (by kernel_rfl) (by kernel_rfl)
theorem bad5_4 (hl : 6 ≤ s.size) (hu : s.size ≤ 10) (hd : Digits s 5) (h0 : 49 ≤ byteN s 0) (ha : 97 ≤ byteN s 5) (hb : byteN s 5 ≤ 102) : NoIdx s :=
  no_of (fs := [(.byte 0 0, 49, 57), (.byte 0 1, 48, 57), (.byte 0 2, 48, 57), (.byte 0 3, 48, 57), (.byte 0 4, 48, 57), (.byte 0 5, 97, 102)]) hl hu (Bool.and_eq_true_iff.2 ⟨fct (e := .byte 0 0) h0 (hd 0 (by omega)).2, Bool.and_eq_true_iff.2 ⟨fct (e := .byte 0 1) (hd 1 (by omega)).1 (hd 1 (by omega)).2, Bool.and_eq_true_iff.2 ⟨fct (e := .byte 0 2) (hd 2 (by omega)).1 (hd 2 (by omega)).2, Bool.and_eq_true_iff.2 ⟨fct (e := .byte 0 3) (hd 3 (by omega)).1 (hd 3 (by omega)).2, Bool.and_eq_true_iff.2 ⟨fct (e := .byte 0 4) (hd 4 (by omega)).1 (hd 4 (by omega)).2, Bool.and_eq_true_iff.2 ⟨fct (e := .byte 0 5) ha hb, rfl⟩⟩⟩⟩⟩⟩) (by kernel_rfl) (by kernel_rfl)
theorem bad5_5 (hl : 6 ≤ s.size) (hu : s.size ≤ 10) (hd : Digits s 5) (h0 : 49 ≤ byteN s 0) (ha : 103 ≤ byteN s 5) (hb : byteN s 5 ≤ 255) : NoIdx s :=
  no_of (fs := [(.byte 0 0, 49, 57), (.byte 0 1, 48, 57), (.byte 0 2, 48, 57), (.byte 0 3, 48, 57), (.byte 0 4, 48, 57), (.byte 0 5, 103, 255)]) hl hu (Bool.and_eq_true_iff.2 ⟨fct (e := .byte 0 0) h0 (hd 0 (by omega)).2, Bool.and_eq_true_iff.2 ⟨fct (e := .byte 0 1) (hd 1 (by omega)).1 (hd 1 (by omega)).2, Bool.and_eq_true_iff.2 ⟨fct (e := .byte 0 2) (hd 2 (by omega)).1 (hd 2 (by omega)).2, Bool.and_eq_true_iff.2 ⟨fct (e := .byte 0 3) (hd 3 (by omega)).1 (hd 3 (by omega)).2, Bool.and_eq_true_iff.2 ⟨fct (e := .byte 0 4) (hd 4 (by omega)).1 (hd 4 (by omega)).2, Bool.and_eq_true_iff.2 ⟨fct (e := .byte 0 5) ha hb, rfl⟩⟩⟩⟩⟩⟩) (by kernel_rfl) (by kernel_rfl)
theorem bad5 (hl : 6 ≤ s.size) (hu : s.size ≤ 10) (hd : Digits s 5) (h0 : 49 ≤ byteN s 0) (h : ¬ (48 ≤ byteN s 5 ∧ byteN s 5 ≤ 57)) : NoIdx s := by
  have hi := byte_in s 5
  by_cases c0 : byteN s 5 ≤ 47
  · exact bad5_0 hl hu hd h0 (by omega) c0
  by_cases c1 : byteN s 5 ≤ 64
  · exact bad5_1 hl hu hd h0 (by omega) c1
  by_cases c2 : byteN s 5 ≤ 70
  · exact bad5_2 hl hu hd h0 (by omega) c2
  by_cases c3 : byteN s 5 ≤ 96
  · exact bad5_3 hl hu hd h0 (by omega) c3
  by_cases c4 : byteN s 5 ≤ 102
  · exact bad5_4 hl hu hd h0 (by omega) c4
  exact bad5_5 hl hu hd h0 (by omega) (by omega)

theorem bad6_0 (hl : 7 ≤ s.size) (hu : s.size ≤ 10) (hd : Digits s 6) (h0 : 49 ≤ byteN s 0) (ha : 0 ≤ byteN s 6) (hb : byteN s 6 ≤ 47) : NoIdx s :=
  no_of (fs := [(.byte 0 0, 49, 57), (.byte 0 1, 48, 57), (.byte 0 2, 48, 57), (.byte 0 3, 48, 57), (.byte 0 4, 48, 57), (.byte 0 5, 48, 57), (.byte 0 6, 0, 47)]) hl hu (Bool.and_eq_true_iff.2 ⟨fct (e := .byte 0 0) h0 (hd 0 (by omega)).2, Bool.and_eq_true_iff.2 ⟨fct (e := .byte 0 1) (hd 1 (by omega)).1 (hd 1 (by omega)).2, Bool.and_eq_true_iff.2 ⟨fct (e := .byte 0 2) (hd 2 (by omega)).1 (hd 2 (by omega)).2, Bool.and_eq_true_iff.2 ⟨fct (e := .byte 0 3) (hd 3 (by omega)).1 (hd 3 (by omega)).2, Bool.and_eq_true_iff.2 ⟨fct (e := .byte 0 4) (hd 4 (by omega)).1 (hd 4 (by omega)).2, Bool.and_eq_true_iff.2 ⟨fct (e := .byte 0 5) (hd 5 (by omega)).1 (hd 5 (by omega)).2, Bool.and_eq_true_iff.2 ⟨fct (e := .byte 0 6) ha hb, rfl⟩⟩⟩⟩⟩⟩⟩) (by kernel_rfl) (by kernel_rfl)
theorem bad6_1 (hl : 7 ≤ s.size) (hu : s.size ≤ 10) (hd : Digits s 6) (h0 : 49 ≤ byteN s 0) (ha : 58 ≤ byteN s 6) (hb : byteN s 6 ≤ 64) : NoIdx s :=
  no_of (fs := [(.byte 0 0, 49, 57), (.byte 0 1, 48, 57), (.byte 0 2, 48, 57), (.byte 0 3, 48, 57), (.byte 0 4, 48, 57), (.byte 0 5, 48, 57), (.byte 0 6, 58, 64)]) hl hu (Bool.and_eq_true_iff.2 ⟨fct (e := .byte 0 0) h0 (hd 0 (by omega)).2, Bool.and_eq_true_iff.2 ⟨fct (e := .byte 0 1) (hd 1 (by omega)).1 (hd 1 (by omega)).2, Bool.and_eq_true_iff.2 ⟨fct (e := .byte 0 2) (hd 2 (by omega)).1 (hd 2 (by omega)).2, Bool.and_eq_true_iff.2 ⟨fct (e := .byte 0 3) (hd 3 (by omega)).1 (hd 3 (by omega)).2, Bool.and_eq_true_iff.2 ⟨fct (e := .byte 0 4) (hd 4 (by omega)).1 (hd 4 (by omega)).2, Bool.and_eq_true_iff.2 ⟨fct (e := .byte 0 5) (hd 5 (by omega)).1 (hd 5 (by omega)).2, Bool.and_eq_true_iff.2 ⟨fct (e := .byte 0 6) ha hb, rfl⟩⟩⟩⟩⟩⟩⟩) (by kernel_rfl) (by kernel_rfl)
theorem bad6_2 (hl : 7 ≤ s.size) (hu : s.size ≤ 10) (hd : Digits s 6) (h0 : 49 ≤ byteN s 0) (ha : 65 ≤ byteN s 6) (hb : byteN s 6 ≤ 70) : NoIdx s :=
  no_of (fs := [(.byte 0 0, 49, 57), (.byte 0 1, 48, 57), (.byte 0 2, 48, 57), (.byte 0 3, 48, 57), (.byte 0 4, 48, 57), (.byte 0 5, 48, 57), (.byte 0 6, 65, 70)]) hl hu (Bool.and_eq_true_iff.2 ⟨fct (e := .byte 0 0) h0 (hd 0 (by omega)).2, Bool.and_eq_true_iff.2 ⟨fct (e := .byte 0 1) (hd 1 (by omega)).1 (hd 1 (by omega)).2, Bool.and_eq_true_iff.2 ⟨fct (e := .byte 0 2) (hd 2 (by omega)).1 (hd 2 (by omega)).2, Bool.and_eq_true_iff.2 ⟨fct (e := .byte 0 3) (hd 3 (by omega)).1 (hd 3 (by omega)).2, Bool.and_eq_true_iff.2 ⟨fct (e := .byte 0 4) (hd 4 (by omega)).1 (hd 4 (by omega)).2, Bool.and_eq_true_iff.2 ⟨fct (e := .byte 0 5) (hd 5 (by omega)).1 (hd 5 (by omega)).2, Bool.and_eq_true_iff.2 ⟨fct (e := .byte 0 6) ha hb, rfl⟩⟩⟩⟩⟩⟩⟩) (by kernel_rfl) (by kernel_rfl)
theorem bad6_3 (hl : 7 ≤ s.size) (hu : s.size ≤ 10) (hd : Digits s 6) (h0 : 49 ≤ byteN s 0) (ha : 71 ≤ byteN s 6) (hb : byteN s 6 ≤ 96) : NoIdx s :=
  no_of (fs := [(.byte 0 0, 49, 57), (.byte 0 1, 48, 57), (.byte 0 2, 48, 57), (.byte 0 3, 48, 57), (.byte 0 4, 48, 57), (.byte 0 5, 48, 57), (.byte 0 6, 71, 96)]) hl hu (Bool.and_eq_true_iff.2 ⟨fct (e := .byte 0 0) h0 (hd 0 (by omega)).2, Bool.and_eq_true_iff.2 ⟨fct (e := .byte 0 1) (hd 1 (by omega)).1 (hd 1 (by omega)).2, Bool.and_eq_true_iff.2 ⟨fct (e := .byte 0 2) (hd 2 (by omega)).1 (hd 2 (by omega)).2, Bool.and_eq_true_iff.2 ⟨fct (e := .byte 0 3) (hd 3 (by omega)).1 (hd 3 (by omega)).2, Bool.and_eq_true_iff.2 ⟨fct (e := .byte 0 4) (hd 4 (by omega)).1 (hd 4 (by omega)).2, Bool.and_eq_true_iff.2 ⟨fct (e := .byte 0 5) (hd 5 (by omega)).1 (hd 5 (by omega)).2, Bool.and_eq_true_iff.2 ⟨fct (e := .byte 0 6) ha hb, rfl⟩⟩⟩⟩⟩⟩⟩) (by kernel_rfl) (by kernel_rfl)
theorem bad6_4 (hl : 7 ≤ s.size) (hu : s.size ≤ 10) (hd : Digits s 6) (h0 : 49 ≤ byteN s 0) (ha : 97 ≤ byteN s 6) (hb : byteN s 6 ≤ 102) : NoIdx s :=
  no_of (fs := [(.byte 0 0, 49, 57), (.byte 0 1, 48, 57), (.byte 0 2, 48, 57), (.byte 0 3, 48, 57), (.byte 0 4, 48, 57), (.byte 0 5, 48, 57), (.byte 0 6, 97, 102)]) hl hu (Bool.and_eq_true_iff.2 ⟨fct (e := .byte 0 0) h0 (hd 0 (by omega)).2, Bool.and_eq_true_iff.2 ⟨fct (e := .byte 0 1) (hd 1 (by omega)).1 (hd 1 (by omega)).2, Bool.and_eq_true_iff.2 ⟨fct (e := .byte 0 2) (hd 2 (by omega)).1 (hd 2 (by omega)).2, Bool.and_eq_true_iff.2 ⟨fct (e := .byte 0 3) (hd 3 (by omega)).1 (hd 3 (by omega)).2, Bool.and_eq_true_iff.2 ⟨fct (e := .byte 0 4) (hd 4 (by omega)).1 (hd 4 (by omega)).2, Bool.and_eq_true_iff.2 ⟨fct (e := .byte 0 5) (hd 5 (by omega)).1 (hd 5 (by omega)).2, Bool.and_eq_true_iff.2 ⟨fct (e := .byte 0 6) ha hb, rfl⟩⟩⟩⟩⟩⟩⟩) (by kernel_rfl) (by kernel_rfl)
theorem bad6_5 (hl : 7 ≤ s.size) (hu : s.size ≤ 10) (hd : Digits s 6) (h0 : 49 ≤ byteN s 0) (ha : 103 ≤ byteN s 6) (hb : byteN s 6 ≤ 255) : NoIdx s :=
  no_of (fs := [(.byte 0 0, 49, 57), (.byte 0 1, 48, 57), (.byte 0 2, 48, 57), (.byte 0 3, 48, 57), (.byte 0 4, 48, 57), (.byte 0 5, 48, 57), (.byte 0 6, 103, 255)]) hl hu (Bool.and_eq_true_iff.2 ⟨fct (e := .byte 0 0) h0 (hd 0 (by omega)).2, Bool.and_eq_true_iff.2 ⟨fct (e := .byte 0 1) (hd 1 (by omega)).1 (hd 1 (by omega)).2, Bool.and_eq_true_iff.2 ⟨fct (e := .byte 0 2) (hd 2 (by omega)).1 (hd 2 (by omega)).2, Bool.and_eq_true_iff.2 ⟨fct (e := .byte 0 3) (hd 3 (by omega)).1 (hd 3 (by omega)).2, Bool.and_eq_true_iff.2 ⟨fct (e := .byte 0 4) (hd 4 (by omega)).1 (hd 4 (by omega)).2, Bool.and_eq_true_iff.2 ⟨fct (e := .byte 0 5) (hd 5 (by omega)).1 (hd 5 (by omega)).2, Bool.and_eq_true_iff.2 ⟨fct (e := .byte 0 6) ha hb, rfl⟩⟩⟩⟩⟩⟩⟩) (by kernel_rfl) (by kernel_rfl)
theorem bad6 (hl : 7 ≤ s.size) (hu : s.size ≤ 10) (hd : Digits s 6) (h0 : 49 ≤ byteN s 0) (h : ¬ (48 ≤ byteN s 6 ∧ byteN s 6 ≤ 57)) : NoIdx s := by
  have hi := byte_in s 6
  by_cases c0 : byteN s 6 ≤ 47
  · exact bad6_0 hl hu hd h0 (by omega) c0
  by_cases c1 : byteN s 6 ≤ 64
  · exact bad6_1 hl hu hd h0 (by omega) c1
  by_cases c2 : byteN s 6 ≤ 70
  · exact bad6_2 hl hu hd h0 (by omega) c2
  by_cases c3 : byteN s 6 ≤ 96
  · exact bad6_3 hl hu hd h0 (by omega) c3
  by_cases c4 : byteN s 6 ≤ 102
  · exact bad6_4 hl hu hd h0 (by omega) c4
  exact bad6_5 hl hu hd h0 (by omega) (by omega)

theorem bad7_0 (hl : 8 ≤ s.size) (hu : s.size ≤ 10) (hd : Digits s 7) (h0 : 49 ≤ byteN s 0) (ha : 0 ≤ byteN s 7) (hb : byteN s 7 ≤ 47) : NoIdx s :=
  no_of (fs := [(.byte 0 0, 49, 57), (.byte 0 1, 48, 57), (.byte 0 2, 48, 57), (.byte 0 3, 48, 57), (.byte 0 4, 48, 57), (.byte 0 5, 48, 57), (.byte 0 6, 48, 57), (.byte 0 7, 0, 47)]) hl hu (Bool.and_eq_true_iff.2 ⟨fct (e := .byte 0 0) h0 (hd 0 (by omega)).2, Bool.and_eq_true_iff.2 ⟨fct (e := .byte 0 1) (hd 1 (by omega)).1 (hd 1 (by omega)).2, Bool.and_eq_true_iff.2 ⟨fct (e := .byte 0 2) (hd 2 (by omega)).1 (hd 2 (by omega)).2, Bool.and_eq_true_iff.2 ⟨fct (e := .byte 0 3) (hd 3 (by omega)).1 (hd 3 (by omega)).2, Bool.and_eq_true_iff.2 ⟨fct (e := .byte 0 4) (hd 4 (by omega)).1 (hd 4 (by omega)).2, Bool.and_eq_true_iff.2 ⟨fct (e := .byte 0 5) (hd 5 (by omega)).1 (hd 5 (by omega)).2, Bool.and_eq_true_iff.2 ⟨fct (e := .byte 0 6) (hd 6 (by omega)).1 (hd 6 (by omega)).2, Bool.and_eq_true_iff.2 ⟨fct (e := .byte 0 7) ha hb, rfl⟩⟩⟩⟩⟩⟩⟩⟩) (by kernel_rfl) (by kernel_rfl)
theorem bad7_1 (hl : 8 ≤ s.size) (hu : s.size ≤ 10) (hd : Digits s 7) (h0 : 49 ≤ byteN s 0) (ha : 58 ≤ byteN s 7) (hb : byteN s 7 ≤ 64) : NoIdx s :=
  no_of (fs := [(.byte 0 0, 49, 57), (.byte 0 1, 48, 57), (.byte 0 2, 48, 57), (.byte 0 3, 48, 57), (.byte 0 4, 48, 57), (.byte 0 5, 48, 57), (.byte 0 6, 48, 57), (.byte 0 7, 58, 64)]) hl hu (Bool.and_eq_true_iff.2 ⟨fct (e := .byte 0 0) h0 (hd 0 (by omega)).2, Bool.and_eq_true_iff.2 ⟨fct (e := .byte 0 1) (hd 1 (by omega)).1 (hd 1 (by omega)).2, Bool.and_eq_true_iff.2 ⟨fct (e := .byte 0 2) (hd 2 (by omega)).1 (hd 2 (by omega)).2, Bool.and_eq_true_iff.2 ⟨fct (e := .byte 0 3) (hd 3 (by omega)).1 (hd 3 (by omega)).2, Bool.and_eq_true_iff.2 ⟨fct (e := .byte 0 4) (hd 4 (by omega)).1 (hd 4 (by omega)).2, Bool.and_eq_true_iff.2 ⟨fct (e := .byte 0 5) (hd 5 (by omega)).1 (hd 5 (by omega)).2, Bool.and_eq_true_iff.2 ⟨fct (e := .byte 0 6) (hd 6 (by omega)).1 (hd 6 (by omega)).2, Bool.and_eq_true_iff.2 ⟨fct (e := .byte 0 7) ha hb, rfl⟩⟩⟩⟩⟩⟩⟩⟩) (by kernel_rfl) (by kernel_rfl)
theorem bad7_2 (hl : 8 ≤ s.size) (hu : s.size ≤ 10) (hd : Digits s 7) (h0 : 49 ≤ byteN s 0) (ha : 65 ≤ byteN s 7) (hb : byteN s 7 ≤ 70) : NoIdx s :=
  no_of (fs := [(.byte 0 0, 49, 57), (.byte 0 1, 48, 57), (.byte 0 2, 48, 57), (.byte 0 3, 48, 57), (.byte 0 4, 48, 57), (.byte 0 5, 48, 57), (.byte 0 6, 48, 57), (.byte 0 7, 65, 70)]) hl hu (Bool.and_eq_true_iff.2 ⟨fct (e := .byte 0 0) h0 (hd 0 (by omega)).2, Bool.and_eq_true_iff.2 ⟨fct (e := .byte 0 1) (hd 1 (by omega)).1 (hd 1 (by omega)).2, Bool.and_eq_true_iff.2 ⟨fct (e := .byte 0 2) (hd 2 (by omega)).1 (hd 2 (by omega)).2, Bool.and_eq_true_iff.2 ⟨fct (e := .byte 0 3) (hd 3 (by omega)).1 (hd 3 (by omega)).2, Bool.and_eq_true_iff.2 ⟨fct (e := .byte 0 4) (hd 4 (by omega)).1 (hd 4 (by omega)).2, Bool.and_eq_true_iff.2 ⟨fct (e := .byte 0 5) (hd 5 (by omega)).1 (hd 5 (by omega)).2, Bool.and_eq_true_iff.2 ⟨fct (e := .byte 0 6) (hd 6 (by omega)).1 (hd 6 (by omega)).2, Bool.and_eq_true_iff.2 ⟨fct (e := .byte 0 7) ha hb, rfl⟩⟩⟩⟩⟩⟩⟩⟩) (by kernel_rfl) (by kernel_rfl)
theorem bad7_3 (hl : 8 ≤ s.size) (hu : s.size ≤ 10) (hd : Digits s 7) (h0 : 49 ≤ byteN s 0) (ha : 71 ≤ byteN s 7) (hb : byteN s 7 ≤ 96) : NoIdx s :=
  no_of (fs := [(.byte 0 0, 49, 57), (.byte 0 1, 48, 57), (.byte 0 2, 48, 57), (.byte 0 3, 48, 57), (.byte 0 4, 48, 57), (.byte 0 5, 48, 57), (.byte 0 6, 48, 57), (.byte 0 7, 71, 96)]) hl hu (Bool.and_eq_true_iff.2 ⟨fct (e := .byte 0 0) h0 (hd 0 (by omega)).2, Bool.and_eq_true_iff.2 ⟨fct (e := .byte 0 1) (hd 1 (by omega)).1 (hd 1 (by omega)).2, Bool.and_eq_true_iff.2 ⟨fct (e := .byte 0 2) (hd 2 (by omega)).1 (hd 2 (by omega)).2, Bool.and_eq_true_iff.2 ⟨fct (e := .byte 0 3) (hd 3 (by omega)).1 (hd 3 (by omega)).2, Bool.and_eq_true_iff.2 ⟨fct (e := .byte 0 4) (hd 4 (by omega)).1 (hd 4 (by omega)).2, Bool.and_eq_true_iff.2 ⟨fct (e := .byte 0 5) (hd 5 (by omega)).1 (hd 5 (by omega)).2, Bool.and_eq_true_iff.2 ⟨fct (e := .byte 0 6) (hd 6 (by omega)).1 (hd 6 (by omega)).2, Bool.and_eq_true_iff.2 ⟨fct (e := .byte 0 7) ha hb, rfl⟩⟩⟩⟩⟩⟩⟩⟩) (by kernel_rfl) (by kernel_rfl)
theorem bad7_4 (hl : 8 ≤ s.size) (hu : s.size ≤ 10) (hd : Digits s 7) (h0 : 49 ≤ byteN s 0) (ha : 97 ≤ byteN s 7) (hb : byteN s 7 ≤ 102) : NoIdx s :=
  no_of (fs := [(.byte 0 0, 49, 57), (.byte 0 1, 48, 57), (.byte 0 2, 48, 57), (.byte 0 3, 48, 57), (.byte 0 4, 48, 57), (.byte 0 5, 48, 57), (.byte 0 6, 48, 57), (.byte 0 7, 97, 102)]) hl hu (Bool.and_eq_true_iff.2 ⟨fct (e := .byte 0 0) h0 (hd 0 (by omega)).2, Bool.and_eq_true_iff.2 ⟨fct (e := .byte 0 1) (hd 1 (by omega)).1 (hd 1 (by omega)).2, Bool.and_eq_true_iff.2 ⟨fct (e := .byte 0 2) (hd 2 (by omega)).1 (hd 2 (by omega)).2, Bool.and_eq_true_iff.2 ⟨fct (e := .byte 0 3) (hd 3 (by omega)).1 (hd 3 (by omega)).2, Bool.and_eq_true_iff.2 ⟨fct (e := .byte 0 4) (hd 4 (by omega)).1 (hd 4 (by omega)).2, Bool.and_eq_true_iff.2 ⟨fct (e := .byte 0 5) (hd 5 (by omega)).1 (hd 5 (by omega)).2, Bool.and_eq_true_iff.2 ⟨fct (e := .byte 0 6) (hd 6 (by omega)).1 (hd 6 (by omega)).2, Bool.and_eq_true_iff.2 ⟨fct (e := .byte 0 7) ha hb, rfl⟩⟩⟩⟩⟩⟩⟩⟩) (by kernel_rfl) (by kernel_rfl)
theorem bad7_5 (hl : 8 ≤ s.size) (hu : s.size ≤ 10) (hd : Digits s 7) (h0 : 49 ≤ byteN s 0) (ha : 103 ≤ byteN s 7) (hb : byteN s 7 ≤ 255) : NoIdx s :=
  no_of (fs := [(.byte 0 0, 49, 57), (.byte 0 1, 48, 57), (.byte 0 2, 48, 57), (.byte 0 3, 48, 57), (.byte 0 4, 48, 57), (.byte 0 5, 48, 57), (.byte 0 6, 48, 57), (.byte 0 7, 103, 255)]) hl hu (Bool.and_eq_true_iff.2 ⟨fct (e := .byte 0 0) h0 (hd 0 (by omega)).2, Bool.and_eq_true_iff.2 ⟨fct (e := .byte 0 1) (hd 1 (by omega)).1 (hd 1 (by omega)).2, Bool.and_eq_true_iff.2 ⟨fct (e := .byte 0 2) (hd 2 (by omega)).1 (hd 2 (by omega)).2, Bool.and_eq_true_iff.2 ⟨fct (e := .byte 0 3) (hd 3 (by omega)).1 (hd 3 (by omega)).2, Bool.and_eq_true_iff.2 ⟨fct (e := .byte 0 4) (hd 4 (by omega)).1 (hd 4 (by omega)).2, Bool.and_eq_true_iff.2 ⟨fct (e := .byte 0 5) (hd 5 (by omega)).1 (hd 5 (by omega)).2, Bool.and_eq_true_iff.2 ⟨fct (e := .byte 0 6) (hd 6 (by omega)).1 (hd 6 (by omega)).2, Bool.and_eq_true_iff.2 ⟨fct (e := .byte 0 7) ha hb, rfl⟩⟩⟩⟩⟩⟩⟩⟩) (by kernel_rfl) (by kernel_rfl)
theorem bad7 (hl : 8 ≤ s.size) (hu : s.size ≤ 10) (hd : Digits s 7) (h0 : 49 ≤ byteN s 0) (h : ¬ (48 ≤ byteN s 7 ∧ byteN s 7 ≤ 57)) : NoIdx s := by
  have hi := byte_in s 7
  by_cases c0 : byteN s 7 ≤ 47
  · exact bad7_0 hl hu hd h0 (by omega) c0
  by_cases c1 : byteN s 7 ≤ 64
  · exact bad7_1 hl hu hd h0 (by omega) c1
  by_cases c2 : byteN s 7 ≤ 70
  · exact bad7_2 hl hu hd h0 (by omega) c2
  by_cases c3 : byteN s 7 ≤ 96
  · exact bad7_3 hl hu hd h0 (by omega) c3
  by_cases c4 : byteN s 7 ≤ 102
  · exact bad7_4 hl hu hd h0 (by omega) c4
  exact bad7_5 hl hu hd h0 (by omega) (by omega)

theorem bad8_0 (hl : 9 ≤ s.size) (hu : s.size ≤ 10) (hd : Digits s 8) (h0 : 49 ≤ byteN s 0) (ha : 0 ≤ byteN s 8) (hb : byteN s 8 ≤ 47) : NoIdx s :=
  no_of (fs := [(.byte 0 0, 49, 57), (.byte 0 1, 48, 57), (.byte 0 2, 48, 57), (.byte 0 3, 48, 57), (.byte 0 4, 48, 57), (.byte 0 5, 48, 57), (.byte 0 6, 48, 57), (.byte 0 7, 48, 57), (.byte 0 8, 0, 47)]) hl hu (Bool.and_eq_true_iff.2 ⟨fct (e := .byte 0 0) h0 (hd 0 (by omega)).2, Bool.and_eq_true_iff.2 ⟨fct (e := .byte 0 1) (hd 1 (by omega)).1 (hd 1 (by omega)).2, Bool.and_eq_true_iff.2 ⟨fct (e := .byte 0 2) (hd 2 (by omega)).1 (hd 2 (by omega)).2, Bool.and_eq_true_iff.2 ⟨fct (e := .byte 0 3) (hd 3 (by omega)).1 (hd 3 (by omega)).2, Bool.and_eq_true_iff.2 ⟨fct (e := .byte 0 4) (hd 4 (by omega)).1 (hd 4 (by omega)).2, Bool.and_eq_true_iff.2 ⟨fct (e := .byte 0 5) (hd 5 (by omega)).1 (hd 5 (by omega)).2, Bool.and_eq_true_iff.2 ⟨fct (e := .byte 0 6) (hd 6 (by omega)).1 (hd 6 (by omega)).2, Bool.and_eq_true_iff.2 ⟨fct (e := .byte 0 7) (hd 7 (by omega)).1 (hd 7 (by omega)).2, Bool.and_eq_true_iff.2 ⟨fct (e := .byte 0 8) ha hb, rfl⟩⟩⟩⟩⟩⟩⟩⟩⟩) (by kernel_rfl) (by kernel_rfl)
theorem bad8_1 (hl : 9 ≤ s.size) (hu : s.size ≤ 10) (hd : Digits s 8) (h0 : 49 ≤ byteN s 0) (ha : 58 ≤ byteN s 8) (hb : byteN s 8 ≤ 64) : NoIdx s :=
  no_of (fs := [(.byte 0 0, 49, 57), (.byte 0 1, 48, 57), (.byte 0 2, 48, 57), (.byte 0 3, 48, 57), (.byte 0 4, 48, 57), (.byte 0 5, 48, 57), (.byte 0 6, 48, 57), (.byte 0 7, 48, 57), (.byte 0 8, 58, 64)]) hl hu (Bool.and_eq_true_iff.2 ⟨fct (e := .byte 0 0) h0 (hd 0 (by omega)).2, Bool.and_eq_true_iff.2 ⟨fct (e := .byte 0 1) (hd 1 (by omega)).1 (hd 1 (by omega)).2, Bool.and_eq_true_iff.2 ⟨fct (e := .byte 0 2) (hd 2 (by omega)).1 (hd 2 (by omega)).2, Bool.and_eq_true_iff.2 ⟨fct (e := .byte 0 3) (hd 3 (by omega)).1 (hd 3 (by omega)).2, Bool.and_eq_true_iff.2 ⟨fct (e := .byte 0 4) (hd 4 (by omega)).1 (hd 4 (by omega)).2, Bool.and_eq_true_iff.2 ⟨fct (e := .byte 0 5) (hd 5 (by omega)).1 (hd 5 (by omega)).2, Bool.and_eq_true_iff.2 ⟨fct (e := .byte 0 6) (hd 6 (by omega)).1 (hd 6 (by omega)).2, Bool.and_eq_true_iff.2 ⟨fct (e := .byte 0 7) (hd 7 (by omega)).1 (hd 7 (by omega)).2, Bool.and_eq_true_iff.2 ⟨fct (e := .byte 0 8) ha hb, rfl⟩⟩⟩⟩⟩⟩⟩⟩⟩) (by kernel_rfl) (by kernel_rfl)
theorem bad8_2 (hl : 9 ≤ s.size) (hu : s.size ≤ 10) (hd : Digits s 8) (h0 : 49 ≤ byteN s 0) (ha : 65 ≤ byteN s 8) (hb : byteN s 8 ≤ 70) : NoIdx s :=
  no_of (fs := [(.byte 0 0, 49, 57), (.byte 0 1, 48, 57), (.byte 0 2, 48, 57), (.byte 0 3, 48, 57), (.byte 0 4, 48, 57), (.byte 0 5, 48, 57), (.byte 0 6, 48, 57), (.byte 0 7, 48, 57), (.byte 0 8, 65, 70)]) hl hu (Bool.and_eq_true_iff.2 ⟨fct (e := .byte 0 0) h0 (hd 0 (by omega)).2, Bool.and_eq_true_iff.2 ⟨fct (e := .byte 0 1) (hd 1 (by omega)).1 (hd 1 (by omega)).2, Bool.and_eq_true_iff.2 ⟨fct (e := .byte 0 2) (hd 2 (by omega)).1 (hd 2 (by omega)).2, Bool.and_eq_true_iff.2 ⟨fct (e := .byte 0 3) (hd 3 (by omega)).1 (hd 3 (by omega)).2, Bool.and_eq_true_iff.2 ⟨fct (e := .byte 0 4) (hd 4 (by omega)).1 (hd 4 (by omega)).2, Bool.and_eq_true_iff.2 ⟨fct (e := .byte 0 5) (hd 5 (by omega)).1 (hd 5 (by omega)).2, Bool.and_eq_true_iff.2 ⟨fct (e := .byte 0 6) (hd 6 (by omega)).1 (hd 6 (by omega)).2, Bool.and_eq_true_iff.2 ⟨fct (e := .byte 0 7) (hd 7 (by omega)).1 (hd 7 (by omega)).2, Bool.and_eq_true_iff.2 ⟨fct (e := .byte 0 8) ha hb, rfl⟩⟩⟩⟩⟩⟩⟩⟩⟩) (by kernel_rfl) (by kernel_rfl)
theorem bad8_3 (hl : 9 ≤ s.size) (hu : s.size ≤ 10) (hd : Digits s 8) (h0 : 49 ≤ byteN s 0) (ha : 71 ≤ byteN s 8) (hb : byteN s 8 ≤ 96) : NoIdx s :=
  no_of (fs := [(.byte 0 0, 49, 57), (.byte 0 1, 48, 57), (.byte 0 2, 48, 57), (.byte 0 3, 48, 57), (.byte 0 4, 48, 57), (.byte 0 5, 48, 57), (.byte 0 6, 48, 57), (.byte 0 7, 48, 57), (.byte 0 8, 71, 96)]) hl hu (Bool.and_eq_true_iff.2 ⟨fct (e := .byte 0 0) h0 (hd 0 (by omega)).2, Bool.and_eq_true_iff.2 ⟨fct (e := .byte 0 1) (hd 1 (by omega)).1 (hd 1 (by omega)).2, Bool.and_eq_true_iff.2 ⟨fct (e := .byte 0 2) (hd 2 (by omega)).1 (hd 2 (by omega)).2, Bool.and_eq_true_iff.2 ⟨fct (e := .byte 0 3) (hd 3 (by omega)).1 (hd 3 (by omega)).2, Bool.and_eq_true_iff.2 ⟨fct (e := .byte 0 4) (hd 4 (by omega)).1 (hd 4 (by omega)).2, Bool.and_eq_true_iff.2 ⟨fct (e := .byte 0 5) (hd 5 (by omega)).1 (hd 5 (by omega)).2, Bool.and_eq_true_iff.2 ⟨fct (e := .byte 0 6) (hd 6 (by omega)).1 (hd 6 (by omega)).2, Bool.and_eq_true_iff.2 ⟨fct (e := .byte 0 7) (hd 7 (by omega)).1 (hd 7 (by omega)).2, Bool.and_eq_true_iff.2 ⟨fct (e := .byte 0 8) ha hb, rfl⟩⟩⟩⟩⟩⟩⟩⟩⟩) (by kernel_rfl) (by kernel_rfl)
theorem bad8_4 (hl : 9 ≤ s.size) (hu : s.size ≤ 10) (hd : Digits s 8) (h0 : 49 ≤ byteN s 0) (ha : 97 ≤ byteN s 8) (hb : byteN s 8 ≤ 102) : NoIdx s :=
  no_of (fs := [(.byte 0 0, 49, 57), (.byte 0 1, 48, 57), (.byte 0 2, 48, 57), (.byte 0 3, 48, 57), (.byte 0 4, 48, 57), (.byte 0 5, 48, 57), (.byte 0 6, 48, 57), (.byte 0 7, 48, 57), (.byte 0 8, 97, 102)]) hl hu (Bool.and_eq_true_iff.2 ⟨fct (e := .byte 0 0) h0 (hd 0 (by omega)).2, Bool.and_eq_true_iff.2 ⟨fct (e := .byte 0 1) (hd 1 (by omega)).1 (hd 1 (by omega)).2, Bool.and_eq_true_iff.2 ⟨fct (e := .byte 0 2) (hd 2 (by omega)).1 (hd 2 (by omega)).2, Bool.and_eq_true_iff.2 ⟨fct (e := .byte 0 3) (hd 3 (by omega)).1 (hd 3 (by omega)).2, Bool.and_eq_true_iff.2 ⟨fct (e := .byte 0 4) (hd 4 (by omega)).1 (hd 4 (by omega)).2, Bool.and_eq_true_iff.2 ⟨fct (e := .byte 0 5) (hd 5 (by omega)).1 (hd 5 (by omega)).2, Bool.and_eq_true_iff.2 ⟨fct (e := .byte 0 6) (hd 6 (by omega)).1 (hd 6 (by omega)).2, Bool.and_eq_true_iff.2 ⟨fct (e := .byte 0 7) (hd 7 (by omega)).1 (hd 7 (by omega)).2, Bool.and_eq_true_iff.2 ⟨fct (e := .byte 0 8) ha hb, rfl⟩⟩⟩⟩⟩⟩⟩⟩⟩) (by kernel_rfl) (by kernel_rfl)
theorem bad8_5 (hl : 9 ≤ s.size) (hu : s.size ≤ 10) (hd : Digits s 8) (h0 : 49 ≤ byteN s 0) (ha : 103 ≤ byteN s 8) (hb : byteN s 8 ≤ 255) : NoIdx s :=
  no_of (fs := [(.byte 0 0, 49, 57), (.byte 0 1, 48, 57), (.byte 0 2, 48, 57), (.byte 0 3, 48, 57), (.byte 0 4, 48, 57), (.byte 0 5, 48, 57), (.byte 0 6, 48, 57), (.byte 0 7, 48, 57), (.byte 0 8, 103, 255)]) hl hu (Bool.and_eq_true_iff.2 ⟨fct (e := .byte 0 0) h0 (hd 0 (by omega)).2, Bool.and_eq_true_iff.2 ⟨fct (e := .byte 0 1) (hd 1 (by omega)).1 (hd 1 (by omega)).2, Bool.and_eq_true_iff.2 ⟨fct (e := .byte 0 2) (hd 2 (by omega)).1 (hd 2 (by omega)).2, Bool.and_eq_true_iff.2 ⟨fct (e := .byte 0 3) (hd 3 (by omega)).1 (hd 3 (by omega)).2, Bool.and_eq_true_iff.2 ⟨fct (e := .byte 0 4) (hd 4 (by omega)).1 (hd 4 (by omega)).2, Bool.and_eq_true_iff.2 ⟨fct (e := .byte 0 5) (hd 5 (by omega)).1 (hd 5 (by omega)).2, Bool.and_eq_true_iff.2 ⟨fct (e := .byte 0 6) (hd 6 (by omega)).1 (hd 6 (by omega)).2, Bool.and_eq_true_iff.2 ⟨fct (e := .byte 0 7) (hd 7 (by omega)).1 (hd 7 (by omega)).2, Bool.and_eq_true_iff.2 ⟨fct (e := .byte 0 8) ha hb, rfl⟩⟩⟩⟩⟩⟩⟩⟩⟩) (by kernel_rfl) (by kernel_rfl)
theorem bad8 (hl : 9 ≤ s.size) (hu : s.size ≤ 10) (hd : Digits s 8) (h0 : 49 ≤ byteN s 0) (h : ¬ (48 ≤ byteN s 8 ∧ byteN s 8 ≤ 57)) : NoIdx s := by
  have hi := byte_in s 8
  by_cases c0 : byteN s 8 ≤ 47
  · exact bad8_0 hl hu hd h0 (by omega) c0
  by_cases c1 : byteN s 8 ≤ 64
  · exact bad8_1 hl hu hd h0 (by omega) c1
  by_cases c2 : byteN s 8 ≤ 70
  · exact bad8_2 hl hu hd h0 (by omega) c2
  by_cases c3 : byteN s 8 ≤ 96
  · exact bad8_3 hl hu hd h0 (by omega) c3
  by_cases c4 : byteN s 8 ≤ 102
  · exact bad8_4 hl hu hd h0 (by omega) c4
  exact bad8_5 hl hu hd h0 (by omega) (by omega)

theorem bad9_0 (hl : 10 ≤ s.size) (hu : s.size ≤ 10) (hd : Digits s 9) (h0 : 49 ≤ byteN s 0) (ha : 0 ≤ byteN s 9) (hb : byteN s 9 ≤ 47) : NoIdx s :=
  no_of (fs := [(.byte 0 0, 49, 57), (.byte 0 1, 48, 57), (.byte 0 2, 48, 57), (.byte 0 3, 48, 57), (.byte 0 4, 48, 57), (.byte 0 5, 48, 57), (.byte 0 6, 48, 57), (.byte 0 7, 48, 57), (.byte 0 8, 48, 57), (.byte 0 9, 0, 47)]) hl hu (Bool.and_eq_true_iff.2 ⟨fct (e := .byte 0 0) h0 (hd 0 (by omega)).2, Bool.and_eq_true_iff.2 ⟨fct (e := .byte 0 1) (hd 1 (by omega)).1 (hd 1 (by omega)).2, Bool.and_eq_true_iff.2 ⟨fct (e := .byte 0 2) (hd 2 (by omega)).1 (hd 2 (by omega)).2, Bool.and_eq_true_iff.2 ⟨fct (e := .byte 0 3) (hd 3 (by omega)).1 (hd 3 (by omega)).2, Bool.and_eq_true_iff.2 ⟨fct (e := .byte 0 4) (hd 4 (by omega)).1 (hd 4 (by omega)).2, Bool.and_eq_true_iff.2 ⟨fct (e := .byte 0 5) (hd 5 (by omega)).1 (hd 5 (by omega)).2, Bool.and_eq_true_iff.2 ⟨fct (e := .byte 0 6) (hd 6 (by omega)).1 (hd 6 (by omega)).2, Bool.and_eq_true_iff.2 ⟨fct (e := .byte 0 7) (hd 7 (by omega)).1 (hd 7 (by omega)).2, Bool.and_eq_true_iff.2 ⟨fct (e := .byte 0 8) (hd 8 (by omega)).1 (hd 8 (by omega)).2, Bool.and_eq_true_iff.2 ⟨fct (e := .byte 0 9) ha hb, rfl⟩⟩⟩⟩⟩⟩⟩⟩⟩⟩) (by kernel_rfl) (by kernel_rfl)
theorem bad9_1 (hl : 10 ≤ s.size) (hu : s.size ≤ 10) (hd : Digits s 9) (h0 : 49 ≤ byteN s 0) (ha : 58 ≤ byteN s 9) (hb : byteN s 9 ≤ 64) : NoIdx s :=
  no_of (fs := [(.byte 0 0, 49, 57), (.byte 0 1, 48, 57), (.byte 0 2, 48, 57), (.byte 0 3, 48, 57), (.byte 0 4, 48, 57), (.byte 0 5, 48, 57), (.byte 0 6, 48, 57), (.byte 0 7, 48, 57), (.byte 0 8, 48, 57), (.byte 0 9, 58, 64)]) hl hu (Bool.and_eq_true_iff.2 ⟨fct (e := .byte 0 0) h0 (hd 0 (by omega)).2, Bool.and_eq_true_iff.2 ⟨fct (e := .byte 0 1) (hd 1 (by omega)).1 (hd 1 (by omega)).2, Bool.and_eq_true_iff.2 ⟨fct (e := .byte 0 2) (hd 2 (by omega)).1 (hd 2 (by omega)).2, Bool.and_eq_true_iff.2 ⟨fct (e := .byte 0 3) (hd 3 (by omega)).1 (hd 3 (by omega)).2, Bool.and_eq_true_iff.2 ⟨fct (e := .byte 0 4) (hd 4 (by omega)).1 (hd 4 (by omega)).2, Bool.and_eq_true_iff.2 ⟨fct (e := .byte 0 5) (hd 5 (by omega)).1 (hd 5 (by omega)).2, Bool.and_eq_true_iff.2 ⟨fct (e := .byte 0 6) (hd 6 (by omega)).1 (hd 6 (by omega)).2, Bool.and_eq_true_iff.2 ⟨fct (e := .byte 0 7) (hd 7 (by omega)).1 (hd 7 (by omega)).2, Bool.and_eq_true_iff.2 ⟨fct (e := .byte 0 8) (hd 8 (by omega)).1 (hd 8 (by omega)).2, Bool.and_eq_true_iff.2 ⟨fct (e := .byte 0 9) ha hb, rfl⟩⟩⟩⟩⟩⟩⟩⟩⟩⟩) (by kernel_rfl) (by kernel_rfl)
theorem bad9_2 (hl : 10 ≤ s.size) (hu : s.size ≤ 10) (hd : Digits s 9) (h0 : 49 ≤ byteN s 0) (ha : 65 ≤ byteN s 9) (hb : byteN s 9 ≤ 70) : NoIdx s :=
  no_of (fs := [(.byte 0 0, 49, 57), (.byte 0 1, 48, 57), (.byte 0 2, 48, 57), (.byte 0 3, 48, 57), (.byte 0 4, 48, 57), (.byte 0 5, 48, 57), (.byte 0 6, 48, 57), (.byte 0 7, 48, 57), (.byte 0 8, 48, 57), (.byte 0 9, 65, 70)]) hl hu (Bool.and_eq_true_iff.2 ⟨fct (e := .byte 0 0) h0 (hd 0 (by omega)).2, Bool.and_eq_true_iff.2 ⟨fct (e := .byte 0 1) (hd 1 (by omega)).1 (hd 1 (by omega)).2, Bool.and_eq_true_iff.2 ⟨fct (e := .byte 0 2) (hd 2 (by omega)).1 (hd 2 (by omega)).2, Bool.and_eq_true_iff.2 ⟨fct (e := .byte 0 3) (hd 3 (by omega)).1 (hd 3 (by omega)).2, Bool.and_eq_true_iff.2 ⟨fct (e := .byte 0 4) (hd 4 (by omega)).1 (hd 4 (by omega)).2, Bool.and_eq_true_iff.2 ⟨fct (e := .byte 0 5) (hd 5 (by omega)).1 (hd 5 (by omega)).2, Bool.and_eq_true_iff.2 ⟨fct (e := .byte 0 6) (hd 6 (by omega)).1 (hd 6 (by omega)).2, Bool.and_eq_true_iff.2 ⟨fct (e := .byte 0 7) (hd 7 (by omega)).1 (hd 7 (by omega)).2, Bool.and_eq_true_iff.2 ⟨fct (e := .byte 0 8) (hd 8 (by omega)).1 (hd 8 (by omega)).2, Bool.and_eq_true_iff.2 ⟨fct (e := .byte 0 9) ha hb, rfl⟩⟩⟩⟩⟩⟩⟩⟩⟩⟩) (by kernel_rfl) (by kernel_rfl)
theorem bad9_3 (hl : 10 ≤ s.size) (hu : s.size ≤ 10) (hd : Digits s 9) (h0 : 49 ≤ byteN s 0) (ha : 71 ≤ byteN s 9) (hb : byteN s 9 ≤ 96) : NoIdx s :=
  no_of (fs := [(.byte 0 0, 49, 57), (.byte 0 1, 48, 57), (.byte 0 2, 48, 57), (.byte 0 3, 48, 57), (.byte 0 4, 48, 57), (.byte 0 5, 48, 57), (.byte 0 6, 48, 57), (.byte 0 7, 48, 57), (.byte 0 8, 48, 57), (.byte 0 9, 71, 96)]) hl hu (Bool.and_eq_true_iff.2 ⟨fct (e := .byte 0 0) h0 (hd 0 (by omega)).2, Bool.and_eq_true_iff.2 ⟨fct (e := .byte 0 1) (hd 1 (by omega)).1 (hd 1 (by omega)).2, Bool.and_eq_true_iff.2 ⟨fct (e := .byte 0 2) (hd 2 (by omega)).1 (hd 2 (by omega)).2, Bool.and_eq_true_iff.2 ⟨fct (e := .byte 0 3) (hd 3 (by omega)).1 (hd 3 (by omega)).2, Bool.and_eq_true_iff.2 ⟨fct (e := .byte 0 4) (hd 4 (by omega)).1 (hd 4 (by omega)).2, Bool.and_eq_true_iff.2 ⟨fct (e := .byte 0 5) (hd 5 (by omega)).1 (hd 5 (by omega)).2, Bool.and_eq_true_iff.2 ⟨fct (e := .byte 0 6) (hd 6 (by omega)).1 (hd 6 (by omega)).2, Bool.and_eq_true_iff.2 ⟨fct (e := .byte 0 7) (hd 7 (by omega)).1 (hd 7 (by omega)).2, Bool.and_eq_true_iff.2 ⟨fct (e := .byte 0 8) (hd 8 (by omega)).1 (hd 8 (by omega)).2, Bool.and_eq_true_iff.2 ⟨fct (e := .byte 0 9) ha hb, rfl⟩⟩⟩⟩⟩⟩⟩⟩⟩⟩) (by kernel_rfl) (by kernel_rfl)
theorem bad9_4 (hl : 10 ≤ s.size) (hu : s.size ≤ 10) (hd : Digits s 9) (h0 : 49 ≤ byteN s 0) (ha : 97 ≤ byteN s 9) (hb : byteN s 9 ≤ 102) : NoIdx s :=
  no_of (fs := [(.byte 0 0, 49, 57), (.byte 0 1, 48, 57), (.byte 0 2, 48, 57), (.byte 0 3, 48, 57), (.byte 0 4, 48, 57), (.byte 0 5, 48, 57), (.byte 0 6, 48, 57), (.byte 0 7, 48, 57), (.byte 0 8, 48, 57), (.byte 0 9, 97, 102)]) hl hu (Bool.and_eq_true_iff.2 ⟨fct (e := .byte 0 0) h0 (hd 0 (by omega)).2, Bool.and_eq_true_iff.2 ⟨fct (e := .byte 0 1) (hd 1 (by omega)).1 (hd 1 (by omega)).2, Bool.and_eq_true_iff.2 ⟨fct (e := .byte 0 2) (hd 2 (by omega)).1 (hd 2 (by omega)).2, Bool.and_eq_true_iff.2 ⟨fct (e := .byte 0 3) (hd 3 (by omega)).1 (hd 3 (by omega)).2, Bool.and_eq_true_iff.2 ⟨fct (e := .byte 0 4) (hd 4 (by omega)).1 (hd 4 (by omega)).2, Bool.and_eq_true_iff.2 ⟨fct (e := .byte 0 5) (hd 5 (by omega)).1 (hd 5 (by omega)).2, Bool.and_eq_true_iff.2 ⟨fct (e := .byte 0 6) (hd 6 (by omega)).1 (hd 6 (by omega)).2, Bool.and_eq_true_iff.2 ⟨fct (e := .byte 0 7) (hd 7 (by omega)).1 (hd 7 (by omega)).2, Bool.and_eq_true_iff.2 ⟨fct (e := .byte 0 8) (hd 8 (by omega)).1 (hd 8 (by omega)).2, Bool.and_eq_true_iff.2 ⟨fct (e := .byte 0 9) ha hb, rfl⟩⟩⟩⟩⟩⟩⟩⟩⟩⟩) (by kernel_rfl) (by kernel_rfl)
theorem bad9_5 (hl : 10 ≤ s.size) (hu : s.size ≤ 10) (hd : Digits s 9) (h0 : 49 ≤ byteN s 0) (ha : 103 ≤ byteN s 9) (hb : byteN s 9 ≤ 255) : NoIdx s :=
  no_of (fs := [(.byte 0 0, 49, 57), (.byte 0 1, 48, 57), (.byte 0 2, 48, 57), (.byte 0 3, 48, 57), (.byte 0 4, 48, 57), (.byte 0 5, 48, 57), (.byte 0 6, 48, 57), (.byte 0 7, 48, 57), (.byte 0 8, 48, 57), (.byte 0 9, 103, 255)]) hl hu (Bool.and_eq_true_iff.2 ⟨fct (e := .byte 0 0) h0 (hd 0 (by omega)).2, Bool.and_eq_true_iff.2 ⟨fct (e := .byte 0 1) (hd 1 (by omega)).1 (hd 1 (by omega)).2, Bool.and_eq_true_iff.2 ⟨fct (e := .byte 0 2) (hd 2 (by omega)).1 (hd 2 (by omega)).2, Bool.and_eq_true_iff.2 ⟨fct (e := .byte 0 3) (hd 3 (by omega)).1 (hd 3 (by omega)).2, Bool.and_eq_true_iff.2 ⟨fct (e := .byte 0 4) (hd 4 (by omega)).1 (hd 4 (by omega)).2, Bool.and_eq_true_iff.2 ⟨fct (e := .byte 0 5) (hd 5 (by omega)).1 (hd 5 (by omega)).2, Bool.and_eq_true_iff.2 ⟨fct (e := .byte 0 6) (hd 6 (by omega)).1 (hd 6 (by omega)).2, Bool.and_eq_true_iff.2 ⟨fct (e := .byte 0 7) (hd 7 (by omega)).1 (hd 7 (by omega)).2, Bool.and_eq_true_iff.2 ⟨fct (e := .byte 0 8) (hd 8 (by omega)).1 (hd 8 (by omega)).2, Bool.and_eq_true_iff.2 ⟨fct (e := .byte 0 9) ha hb, rfl⟩⟩⟩⟩⟩⟩⟩⟩⟩⟩) (by kernel_rfl) (by kernel_rfl)
theorem bad9 (hl : 10 ≤ s.size) (hu : s.size ≤ 10) (hd : Digits s 9) (h0 : 49 ≤ byteN s 0) (h : ¬ (48 ≤ byteN s 9 ∧ byteN s 9 ≤ 57)) : NoIdx s := by
  have hi := byte_in s 9
  by_cases c0 : byteN s 9 ≤ 47
  · exact bad9_0 hl hu hd h0 (by omega) c0
  by_cases c1 : byteN s 9 ≤ 64
  · exact bad9_1 hl hu hd h0 (by omega) c1
  by_cases c2 : byteN s 9 ≤ 70
  · exact bad9_2 hl hu hd h0 (by omega) c2
  by_cases c3 : byteN s 9 ≤ 96
  · exact bad9_3 hl hu hd h0 (by omega) c3
  by_cases c4 : byteN s 9 ≤ 102
  · exact bad9_4 hl hu hd h0 (by omega) c4
  exact bad9_5 hl hu hd h0 (by omega) (by omega)

theorem empty_ (h : s.size = 0) : NoIdx s := no_of (fs := []) (l := 0) (u := 0) (by omega) (by omega) rfl (by kernel_rfl) (by kernel_rfl)
theorem long_ (h : 11 ≤ s.size) (h2 : s.size ≤ 9223372036854775807) : NoIdx s := no_of (fs := []) (l := 11) (u := 9223372036854775807) h h2 rfl (by kernel_rfl) (by kernel_rfl)
theorem zero_ (h : 2 ≤ s.size) (h2 : s.size ≤ 10) (h0 : byteN s 0 = 48) : NoIdx s := no_of (fs := [(.byte 0 0, 48, 48)]) (l := 2) (u := 10) h h2 (Bool.and_eq_true_iff.2 ⟨fct (e := .byte 0 0) (by show (48 : Int) ≤ byteN s 0; omega) (by show byteN s 0 ≤ (48 : Int); omega), rfl⟩) (by kernel_rfl) (by kernel_rfl)
theorem num1z (h : s.size = 1) (h0 : byteN s 0 = 48) : AE.Returns Tryz.prog 97 [.string s] (cYes 0) :=
  Gives.returns (gives_of_run (Y := syS s) (facts_ok (fs := [(.byte 0 0, 48, 48)]) (Bool.and_eq_true_iff.2 ⟨fct (e := .byte 0 0) (by show (48 : Int) ≤ byteN s 0; omega) (by show byteN s 0 ≤ (48 : Int); omega), rfl⟩)) KnownOk.nil rfl
    (show evKn (envF [(.byte 0 0, 48, 48)]) [] 300 100 (.fn 97) [.sstr 0 1 1] ⟨.nil, 0, [], []⟩ (fun v _ => sameV v (.tuple [.i64 0, .bool true])) = true by kernel_rfl)) (concs_cons.2 ⟨_, _, conc_s (by omega) (by omega) _, rfl, rfl⟩) rfl
theorem num1p (h : s.size = 1) (hd : Digits s 1) (h0 : 49 ≤ byteN s 0) : AE.Returns Tryz.prog 97 [.string s] (cYes (hor s 1)) := yes_of (fs := [(.byte 0 0, 49, 57)]) (lo := 1) (hi := 9) (by omega) h hd (Bool.and_eq_true_iff.2 ⟨fct (e := .byte 0 0) h0 (hd 0 (by omega)).2, rfl⟩) (by kernel_rfl)
theorem num1 (h : s.size = 1) (hd : Digits s 1) : AE.Returns Tryz.prog 97 [.string s] (cYes (hor s 1)) := by
  by_cases h0 : byteN s 0 = 48
  · have : hor s 1 = 0 := by simp only [hor]; omega
    rw [this]
    exact num1z h h0
  · have := hd 0 (by omega)
    exact num1p h hd (by omega)
theorem num2 (h : s.size = 2) (hd : Digits s 2) (h0 : 49 ≤ byteN s 0) : AE.Returns Tryz.prog 97 [.string s] (cYes (hor s 2)) := yes_of (fs := [(.byte 0 0, 49, 57), (.byte 0 1, 48, 57)]) (lo := 10) (hi := 99) (by omega) h hd (Bool.and_eq_true_iff.2 ⟨fct (e := .byte 0 0) h0 (hd 0 (by omega)).2, Bool.and_eq_true_iff.2 ⟨fct (e := .byte 0 1) (hd 1 (by omega)).1 (hd 1 (by omega)).2, rfl⟩⟩) (by kernel_rfl)
theorem num3 (h : s.size = 3) (hd : Digits s 3) (h0 : 49 ≤ byteN s 0) : AE.Returns Tryz.prog 97 [.string s] (cYes (hor s 3)) := yes_of (fs := [(.byte 0 0, 49, 57), (.byte 0 1, 48, 57), (.byte 0 2, 48, 57)]) (lo := 100) (hi := 999) (by omega) h hd (Bool.and_eq_true_iff.2 ⟨fct (e := .byte 0 0) h0 (hd 0 (by omega)).2, Bool.and_eq_true_iff.2 ⟨fct (e := .byte 0 1) (hd 1 (by omega)).1 (hd 1 (by omega)).2, Bool.and_eq_true_iff.2 ⟨fct (e := .byte 0 2) (hd 2 (by omega)).1 (hd 2 (by omega)).2, rfl⟩⟩⟩) (by kernel_rfl)
theorem num4 (h : s.size = 4) (hd : Digits s 4) (h0 : 49 ≤ byteN s 0) : AE.Returns Tryz.prog 97 [.string s] (cYes (hor s 4)) := yes_of (fs := [(.byte 0 0, 49, 57), (.byte 0 1, 48, 57), (.byte 0 2, 48, 57), (.byte 0 3, 48, 57)]) (lo := 1000) (hi := 9999) (by omega) h hd (Bool.and_eq_true_iff.2 ⟨fct (e := .byte 0 0) h0 (hd 0 (by omega)).2, Bool.and_eq_true_iff.2 ⟨fct (e := .byte 0 1) (hd 1 (by omega)).1 (hd 1 (by omega)).2, Bool.and_eq_true_iff.2 ⟨fct (e := .byte 0 2) (hd 2 (by omega)).1 (hd 2 (by omega)).2, Bool.and_eq_true_iff.2 ⟨fct (e := .byte 0 3) (hd 3 (by omega)).1 (hd 3 (by omega)).2, rfl⟩⟩⟩⟩) (by kernel_rfl)
theorem num5 (h : s.size = 5) (hd : Digits s 5) (h0 : 49 ≤ byteN s 0) : AE.Returns Tryz.prog 97 [.string s] (cYes (hor s 5)) := yes_of (fs := [(.byte 0 0, 49, 57), (.byte 0 1, 48, 57), (.byte 0 2, 48, 57), (.byte 0 3, 48, 57), (.byte 0 4, 48, 57)]) (lo := 10000) (hi := 99999) (by omega) h hd (Bool.and_eq_true_iff.2 ⟨fct (e := .byte 0 0) h0 (hd 0 (by omega)).2, Bool.and_eq_true_iff.2 ⟨fct (e := .byte 0 1) (hd 1 (by omega)).1 (hd 1 (by omega)).2, Bool.and_eq_true_iff.2 ⟨fct (e := .byte 0 2) (hd 2 (by omega)).1 (hd 2 (by omega)).2, Bool.and_eq_true_iff.2 ⟨fct (e := .byte 0 3) (hd 3 (by omega)).1 (hd 3 (by omega)).2, Bool.and_eq_true_iff.2 ⟨fct (e := .byte 0 4) (hd 4 (by omega)).1 (hd 4 (by omega)).2, rfl⟩⟩⟩⟩⟩) (by kernel_rfl)
theorem num6 (h : s.size = 6) (hd : Digits s 6) (h0 : 49 ≤ byteN s 0) : AE.Returns Tryz.prog 97 [.string s] (cYes (hor s 6)) := yes_of (fs := [(.byte 0 0, 49, 57), (.byte 0 1, 48, 57), (.byte 0 2, 48, 57), (.byte 0 3, 48, 57), (.byte 0 4, 48, 57), (.byte 0 5, 48, 57)]) (lo := 100000) (hi := 999999) (by omega) h hd (Bool.and_eq_true_iff.2 ⟨fct (e := .byte 0 0) h0 (hd 0 (by omega)).2, Bool.and_eq_true_iff.2 ⟨fct (e := .byte 0 1) (hd 1 (by omega)).1 (hd 1 (by omega)).2, Bool.and_eq_true_iff.2 ⟨fct (e := .byte 0 2) (hd 2 (by omega)).1 (hd 2 (by omega)).2, Bool.and_eq_true_iff.2 ⟨fct (e := .byte 0 3) (hd 3 (by omega)).1 (hd 3 (by omega)).2, Bool.and_eq_true_iff.2 ⟨fct (e := .byte 0 4) (hd 4 (by omega)).1 (hd 4 (by omega)).2, Bool.and_eq_true_iff.2 ⟨fct (e := .byte 0 5) (hd 5 (by omega)).1 (hd 5 (by omega)).2, rfl⟩⟩⟩⟩⟩⟩) (by kernel_rfl)
theorem num7 (h : s.size = 7) (hd : Digits s 7) (h0 : 49 ≤ byteN s 0) : AE.Returns Tryz.prog 97 [.string s] (cYes (hor s 7)) := yes_of (fs := [(.byte 0 0, 49, 57), (.byte 0 1, 48, 57), (.byte 0 2, 48, 57), (.byte 0 3, 48, 57), (.byte 0 4, 48, 57), (.byte 0 5, 48, 57), (.byte 0 6, 48, 57)]) (lo := 1000000) (hi := 9999999) (by omega) h hd (Bool.and_eq_true_iff.2 ⟨fct (e := .byte 0 0) h0 (hd 0 (by omega)).2, Bool.and_eq_true_iff.2 ⟨fct (e := .byte 0 1) (hd 1 (by omega)).1 (hd 1 (by omega)).2, Bool.and_eq_true_iff.2 ⟨fct (e := .byte 0 2) (hd 2 (by omega)).1 (hd 2 (by omega)).2, Bool.and_eq_true_iff.2 ⟨fct (e := .byte 0 3) (hd 3 (by omega)).1 (hd 3 (by omega)).2, Bool.and_eq_true_iff.2 ⟨fct (e := .byte 0 4) (hd 4 (by omega)).1 (hd 4 (by omega)).2, Bool.and_eq_true_iff.2 ⟨fct (e := .byte 0 5) (hd 5 (by omega)).1 (hd 5 (by omega)).2, Bool.and_eq_true_iff.2 ⟨fct (e := .byte 0 6) (hd 6 (by omega)).1 (hd 6 (by omega)).2, rfl⟩⟩⟩⟩⟩⟩⟩) (by kernel_rfl)
theorem num8 (h : s.size = 8) (hd : Digits s 8) (h0 : 49 ≤ byteN s 0) : AE.Returns Tryz.prog 97 [.string s] (cYes (hor s 8)) := yes_of (fs := [(.byte 0 0, 49, 57), (.byte 0 1, 48, 57), (.byte 0 2, 48, 57), (.byte 0 3, 48, 57), (.byte 0 4, 48, 57), (.byte 0 5, 48, 57), (.byte 0 6, 48, 57), (.byte 0 7, 48, 57)]) (lo := 10000000) (hi := 99999999) (by omega) h hd (Bool.and_eq_true_iff.2 ⟨fct (e := .byte 0 0) h0 (hd 0 (by omega)).2, Bool.and_eq_true_iff.2 ⟨fct (e := .byte 0 1) (hd 1 (by omega)).1 (hd 1 (by omega)).2, Bool.and_eq_true_iff.2 ⟨fct (e := .byte 0 2) (hd 2 (by omega)).1 (hd 2 (by omega)).2, Bool.and_eq_true_iff.2 ⟨fct (e := .byte 0 3) (hd 3 (by omega)).1 (hd 3 (by omega)).2, Bool.and_eq_true_iff.2 ⟨fct (e := .byte 0 4) (hd 4 (by omega)).1 (hd 4 (by omega)).2, Bool.and_eq_true_iff.2 ⟨fct (e := .byte 0 5) (hd 5 (by omega)).1 (hd 5 (by omega)).2, Bool.and_eq_true_iff.2 ⟨fct (e := .byte 0 6) (hd 6 (by omega)).1 (hd 6 (by omega)).2, Bool.and_eq_true_iff.2 ⟨fct (e := .byte 0 7) (hd 7 (by omega)).1 (hd 7 (by omega)).2, rfl⟩⟩⟩⟩⟩⟩⟩⟩) (by kernel_rfl)
theorem num9 (h : s.size = 9) (hd : Digits s 9) (h0 : 49 ≤ byteN s 0) : AE.Returns Tryz.prog 97 [.string s] (cYes (hor s 9)) := yes_of (fs := [(.byte 0 0, 49, 57), (.byte 0 1, 48, 57), (.byte 0 2, 48, 57), (.byte 0 3, 48, 57), (.byte 0 4, 48, 57), (.byte 0 5, 48, 57), (.byte 0 6, 48, 57), (.byte 0 7, 48, 57), (.byte 0 8, 48, 57)]) (lo := 100000000) (hi := 999999999) (by omega) h hd (Bool.and_eq_true_iff.2 ⟨fct (e := .byte 0 0) h0 (hd 0 (by omega)).2, Bool.and_eq_true_iff.2 ⟨fct (e := .byte 0 1) (hd 1 (by omega)).1 (hd 1 (by omega)).2, Bool.and_eq_true_iff.2 ⟨fct (e := .byte 0 2) (hd 2 (by omega)).1 (hd 2 (by omega)).2, Bool.and_eq_true_iff.2 ⟨fct (e := .byte 0 3) (hd 3 (by omega)).1 (hd 3 (by omega)).2, Bool.and_eq_true_iff.2 ⟨fct (e := .byte 0 4) (hd 4 (by omega)).1 (hd 4 (by omega)).2, Bool.and_eq_true_iff.2 ⟨fct (e := .byte 0 5) (hd 5 (by omega)).1 (hd 5 (by omega)).2, Bool.and_eq_true_iff.2 ⟨fct (e := .byte 0 6) (hd 6 (by omega)).1 (hd 6 (by omega)).2, Bool.and_eq_true_iff.2 ⟨fct (e := .byte 0 7) (hd 7 (by omega)).1 (hd 7 (by omega)).2, Bool.and_eq_true_iff.2 ⟨fct (e := .byte 0 8) (hd 8 (by omega)).1 (hd 8 (by omega)).2, rfl⟩⟩⟩⟩⟩⟩⟩⟩⟩) (by kernel_rfl)
theorem num10 (h : s.size = 10) (hd : Digits s 10) (h0 : 49 ≤ byteN s 0) (hm : hor s 10 ≤ 4294967294) : AE.Returns Tryz.prog 97 [.string s] (cYes (hor s 10)) := yes_of (fs := [(.byte 0 0, 49, 57), (.byte 0 1, 48, 57), (.byte 0 2, 48, 57), (.byte 0 3, 48, 57), (.byte 0 4, 48, 57), (.byte 0 5, 48, 57), (.byte 0 6, 48, 57), (.byte 0 7, 48, 57), (.byte 0 8, 48, 57), (.byte 0 9, 48, 57), (numX 10, 0, 4294967294)]) (lo := 0) (hi := 4294967294) (by omega) h hd (Bool.and_eq_true_iff.2 ⟨fct (e := .byte 0 0) h0 (hd 0 (by omega)).2, Bool.and_eq_true_iff.2 ⟨fct (e := .byte 0 1) (hd 1 (by omega)).1 (hd 1 (by omega)).2, Bool.and_eq_true_iff.2 ⟨fct (e := .byte 0 2) (hd 2 (by omega)).1 (hd 2 (by omega)).2, Bool.and_eq_true_iff.2 ⟨fct (e := .byte 0 3) (hd 3 (by omega)).1 (hd 3 (by omega)).2, Bool.and_eq_true_iff.2 ⟨fct (e := .byte 0 4) (hd 4 (by omega)).1 (hd 4 (by omega)).2, Bool.and_eq_true_iff.2 ⟨fct (e := .byte 0 5) (hd 5 (by omega)).1 (hd 5 (by omega)).2, Bool.and_eq_true_iff.2 ⟨fct (e := .byte 0 6) (hd 6 (by omega)).1 (hd 6 (by omega)).2, Bool.and_eq_true_iff.2 ⟨fct (e := .byte 0 7) (hd 7 (by omega)).1 (hd 7 (by omega)).2, Bool.and_eq_true_iff.2 ⟨fct (e := .byte 0 8) (hd 8 (by omega)).1 (hd 8 (by omega)).2, Bool.and_eq_true_iff.2 ⟨fct (e := .byte 0 9) (hd 9 (by omega)).1 (hd 9 (by omega)).2, Bool.and_eq_true_iff.2 ⟨fct (e := numX 10) (by rw [num_val (by omega) hd]; exact (hor_in hd).1) (by rw [num_val (by omega) hd]; exact hm), rfl⟩⟩⟩⟩⟩⟩⟩⟩⟩⟩⟩) (by kernel_rfl)
theorem great_ (h : s.size = 10) (hd : Digits s 10) (h0 : 49 ≤ byteN s 0) (hm : 4294967294 < hor s 10) : NoIdx s := no_of (fs := [(.byte 0 0, 49, 57), (.byte 0 1, 48, 57), (.byte 0 2, 48, 57), (.byte 0 3, 48, 57), (.byte 0 4, 48, 57), (.byte 0 5, 48, 57), (.byte 0 6, 48, 57), (.byte 0 7, 48, 57), (.byte 0 8, 48, 57), (.byte 0 9, 48, 57), (numX 10, 4294967295, 9999999999), (refX 10, 4294967295, 9999999999)]) (l := 10) (u := 10) (by omega) (by omega) (Bool.and_eq_true_iff.2 ⟨fct (e := .byte 0 0) h0 (hd 0 (by omega)).2, Bool.and_eq_true_iff.2 ⟨fct (e := .byte 0 1) (hd 1 (by omega)).1 (hd 1 (by omega)).2, Bool.and_eq_true_iff.2 ⟨fct (e := .byte 0 2) (hd 2 (by omega)).1 (hd 2 (by omega)).2, Bool.and_eq_true_iff.2 ⟨fct (e := .byte 0 3) (hd 3 (by omega)).1 (hd 3 (by omega)).2, Bool.and_eq_true_iff.2 ⟨fct (e := .byte 0 4) (hd 4 (by omega)).1 (hd 4 (by omega)).2, Bool.and_eq_true_iff.2 ⟨fct (e := .byte 0 5) (hd 5 (by omega)).1 (hd 5 (by omega)).2, Bool.and_eq_true_iff.2 ⟨fct (e := .byte 0 6) (hd 6 (by omega)).1 (hd 6 (by omega)).2, Bool.and_eq_true_iff.2 ⟨fct (e := .byte 0 7) (hd 7 (by omega)).1 (hd 7 (by omega)).2, Bool.and_eq_true_iff.2 ⟨fct (e := .byte 0 8) (hd 8 (by omega)).1 (hd 8 (by omega)).2, Bool.and_eq_true_iff.2 ⟨fct (e := .byte 0 9) (hd 9 (by omega)).1 (hd 9 (by omega)).2, Bool.and_eq_true_iff.2 ⟨fct (e := numX 10) (l := 4294967295) (u := 9999999999) (by rw [num_val (by omega) hd]; omega) (by rw [num_val (by omega) hd]; have := (hor_in hd).2; omega), Bool.and_eq_true_iff.2 ⟨fct (e := refX 10) (l := 4294967295) (u := 9999999999) (by rw [ref_val (by omega) hd]; omega) (by rw [ref_val (by omega) hd]; have := (hor_in hd).2; omega), rfl⟩⟩⟩⟩⟩⟩⟩⟩⟩⟩⟩⟩) (by kernel_rfl) (by kernel_rfl)

/-- digits alone, the number small -/
theorem num_ {n : Nat} (h1 : 1 ≤ n) (h2 : n ≤ 10) (h : s.size = n) (hd : Digits s n) (h0 : n = 1 ∨ 49 ≤ byteN s 0) (hm : hor s n ≤ 4294967294) : AE.Returns Tryz.prog 97 [.string s] (cYes (hor s n)) := by
  match n, h1, h2 with
  | 1, _, _ => exact num1 h hd
  | 2, _, _ =>
    rcases h0 with h0 | h0
    · omega
    · exact num2 h hd h0
  | 3, _, _ =>
    rcases h0 with h0 | h0
    · omega
    · exact num3 h hd h0
  | 4, _, _ =>
    rcases h0 with h0 | h0
    · omega
    · exact num4 h hd h0
  | 5, _, _ =>
    rcases h0 with h0 | h0
    · omega
    · exact num5 h hd h0
  | 6, _, _ =>
    rcases h0 with h0 | h0
    · omega
    · exact num6 h hd h0
  | 7, _, _ =>
    rcases h0 with h0 | h0
    · omega
    · exact num7 h hd h0
  | 8, _, _ =>
    rcases h0 with h0 | h0
    · omega
    · exact num8 h hd h0
  | 9, _, _ =>
    rcases h0 with h0 | h0
    · omega
    · exact num9 h hd h0
  | 10, _, _ =>
    rcases h0 with h0 | h0
    · omega
    · exact num10 h hd h0 hm
  | n + 11, _, h2 => exact absurd h2 (by omega)

theorem bad_ {p : Nat} (hp : p < s.size) (hu : s.size ≤ 10) (hd : Digits s p) (h0 : p = 0 ∨ 49 ≤ byteN s 0) (h : ¬ (48 ≤ byteN s p ∧ byteN s p ≤ 57)) : NoIdx s := by
  match p with
  | 0 => exact bad0 (by omega) hu h
  | 1 =>
    rcases h0 with h0 | h0
    · omega
    · exact bad1 (by omega) hu hd h0 h
  | 2 =>
    rcases h0 with h0 | h0
    · omega
    · exact bad2 (by omega) hu hd h0 h
  | 3 =>
    rcases h0 with h0 | h0
    · omega
    · exact bad3 (by omega) hu hd h0 h
  | 4 =>
    rcases h0 with h0 | h0
    · omega
    · exact bad4 (by omega) hu hd h0 h
  | 5 =>
    rcases h0 with h0 | h0
    · omega
    · exact bad5 (by omega) hu hd h0 h
  | 6 =>
    rcases h0 with h0 | h0
    · omega
    · exact bad6 (by omega) hu hd h0 h
  | 7 =>
    rcases h0 with h0 | h0
    · omega
    · exact bad7 (by omega) hu hd h0 h
  | 8 =>
    rcases h0 with h0 | h0
    · omega
    · exact bad8 (by omega) hu hd h0 h
  | 9 =>
    rcases h0 with h0 | h0
    · omega
    · exact bad9 (by omega) hu hd h0 h
  | p + 10 => omega

theorem first_bad : ∀ n : Nat, Digits s n ∨ ∃ p, p < n ∧ Digits s p ∧ ¬ (48 ≤ byteN s p ∧ byteN s p ≤ 57)
  | 0 => .inl fun j hj => by omega
  | n + 1 => by
    rcases first_bad n with h | ⟨p, h1, h2, h3⟩
    · by_cases c : 48 ≤ byteN s n ∧ byteN s n ≤ 57
      · refine .inl fun j hj => ?_
        by_cases e : j = n
        · rw [e]; exact c
        · exact h j (by omega)
      · exact .inr ⟨n, by omega, h, c⟩
    · exact .inr ⟨p, by omega, h2, h3⟩

/-- every string -/
theorem index_all (hs : s.size ≤ 9223372036854775807) : (∃ m : Int, 0 ≤ m ∧ m ≤ 4294967294 ∧ AE.Returns Tryz.prog 97 [.string s] (cYes m)) ∨ NoIdx s := by
  by_cases c0 : s.size = 0
  · exact .inr (empty_ c0)
  by_cases c1 : 11 ≤ s.size
  · exact .inr (long_ c1 hs)
  by_cases c2 : byteN s 0 = 48 ∧ 2 ≤ s.size
  · exact .inr (zero_ c2.2 (by omega) c2.1)
  rcases first_bad (s := s) s.size with h | ⟨p, h1, h2, h3⟩
  · have hd0 := h 0 (by omega)
    by_cases c3 : hor s s.size ≤ 4294967294
    · exact .inl ⟨_, (hor_in h).1, c3, num_ (by omega) (by omega) rfl h (by omega) c3⟩
    · have hi := (hor_in h).2
      have e10 : s.size = 10 := by
        rcases Nat.lt_or_ge s.size 10 with h10 | h10
        · have : (10 ^ s.size : Nat) ≤ 10 ^ 9 := Nat.pow_le_pow_right (by omega) (by omega)
          have : (10 ^ 9 : Nat) = 1000000000 := rfl
          omega
        · omega
      rw [e10] at h c3
      exact .inr (great_ e10 h (by omega) (by omega))
  · refine .inr (bad_ h1 (by omega) h2 ?_ h3)
    by_cases hp : p = 0
    · exact .inl hp
    · have := h2 0 (by omega)
      exact .inr (by omega)

/-! ### The decimal form -/
theorem byteN_get {l : List UInt8} {j : Nat} {b : UInt8} (h : l[j]? = some b) : byteN ⟨l.toArray⟩ j = (b.toNat : Int) := by
  have hlt : j < l.length := by
    rcases Nat.lt_or_ge j l.length with h' | h'
    · exact h'
    · rw [List.getElem?_eq_none h'] at h; cases h
  have e : (⟨l.toArray⟩ : ByteArray)[j]? = some b := by
    rw [getElem?_pos (⟨l.toArray⟩ : ByteArray) j (by show j < l.toArray.size; simpa using hlt)]
    congr 1
    rw [List.getElem?_eq_getElem hlt] at h
    cases h
    rfl
  unfold byteN
  rw [e]
  rfl

theorem dec_dig : ∀ (u : Nat) (b : UInt8), b ∈ Lib.decDigits u → 48 ≤ b.toNat ∧ b.toNat ≤ 57 := by
  intro u
  induction u using Nat.strongRecOn with
  | ind u ih =>
    intro b hb
    rw [Lib.decDigits] at hb
    split at hb
    · rename_i h
      simp only [List.mem_singleton] at hb
      subst hb
      rw [UInt8.toNat_ofNat']
      omega
    · rename_i h
      rcases List.mem_append.1 hb with hb | hb
      · exact ih (u / 10) (by omega) b hb
      · simp only [List.mem_singleton] at hb
        subst hb
        rw [UInt8.toNat_ofNat']
        omega

theorem dec_first : ∀ (u : Nat), 10 ≤ u → ∃ b r, Lib.decDigits u = b :: r ∧ 49 ≤ b.toNat := by
  intro u
  induction u using Nat.strongRecOn with
  | ind u ih =>
    intro hu
    by_cases h : u / 10 < 10
    · refine ⟨UInt8.ofNat (48 + u / 10), [UInt8.ofNat (48 + u % 10)], ?_, ?_⟩
      · rw [Lib.decDigits, dif_neg (by omega), Lib.decDigits_one h]
        rfl
      · rw [UInt8.toNat_ofNat']
        omega
    · obtain ⟨b, r, e, h1⟩ := ih (u / 10) (by omega) (by omega)
      exact ⟨b, r ++ [UInt8.ofNat (48 + u % 10)], by rw [Lib.decDigits, dif_neg (by omega), e]; rfl, h1⟩

def horL (l : List UInt8) : Int := l.foldl (fun a b => 10 * a + ((b.toNat : Int) - 48)) 0

theorem horL_dec : ∀ u : Nat, horL (Lib.decDigits u) = u := by
  intro u
  induction u using Nat.strongRecOn with
  | ind u ih =>
    rw [Lib.decDigits]
    split
    · rename_i h
      show 10 * (0 : Int) + (((UInt8.ofNat (48 + u)).toNat : Int) - 48) = u
      rw [UInt8.toNat_ofNat']
      omega
    · rename_i h
      unfold horL
      rw [List.foldl_append]
      have e := ih (u / 10) (by omega)
      unfold horL at e
      rw [e]
      show 10 * ((u / 10 : Nat) : Int) + (((UInt8.ofNat (48 + u % 10)).toNat : Int) - 48) = u
      rw [UInt8.toNat_ofNat']
      omega

theorem hor_take (l : List UInt8) : ∀ n, n ≤ l.length → hor ⟨l.toArray⟩ n = horL (l.take n)
  | 0, _ => rfl
  | n + 1, h => by
    have hg : l[n]? = some l[n] := List.getElem?_eq_getElem (by omega)
    simp only [hor, hor_take l n (by omega), byteN_get hg]
    rw [List.take_add_one, hg]
    unfold horL
    rw [List.foldl_append]
    rfl

/-- the decimal form of an index is read back -/
theorem index_dec {m : Nat} (hm : m ≤ 4294967294) : AE.Returns Tryz.prog 97 [.string ⟨(Lib.decDigits m).toArray⟩] (cYes m) := by
  have hl : (Lib.decDigits m).length = Lib.nDigits m := Lib.decDigits_length m
  have hsz : (⟨(Lib.decDigits m).toArray⟩ : ByteArray).size = (Lib.decDigits m).length := by simp [ByteArray.size]
  have hd : Digits ⟨(Lib.decDigits m).toArray⟩ (Lib.decDigits m).length := by
    intro j hj
    have hg : (Lib.decDigits m)[j]? = some (Lib.decDigits m)[j] := List.getElem?_eq_getElem hj
    rw [byteN_get hg]
    have := dec_dig m _ (List.getElem_mem hj)
    omega
  have hv : hor ⟨(Lib.decDigits m).toArray⟩ (Lib.decDigits m).length = m := by
    rw [hor_take _ _ (Nat.le_refl _), List.take_length, horL_dec]
  have h1 : 1 ≤ (Lib.decDigits m).length := by rw [hl]; exact Lib.nDigits_pos m
  have h10 : (Lib.decDigits m).length ≤ 10 := by
    rw [hl]
    rcases Nat.lt_or_ge 10 (Lib.nDigits m) with h | h
    · have hp := Lib.lt_pow_nDigits (m / 10 ^ 10)
      exfalso
      have : ∀ k u, k < Lib.nDigits u → 10 ^ k ≤ u ∨ u = 0 ∧ k = 0 := by
        intro k
        induction k with
        | zero => intro u _; by_cases hu : u = 0 <;> simp [hu]; omega
        | succ k ih =>
          intro u hk
          by_cases hu : u < 10
          · rw [Lib.nDigits_small hu] at hk; omega
          · rw [Lib.nDigits_big hu] at hk
            rcases ih (u / 10) (by omega) with h' | h'
            · rw [Nat.pow_succ]; omega
            · omega
      rcases this 10 m h with h' | h'
      · have : (10 ^ 10 : Nat) = 10000000000 := rfl
        omega
      · omega
    · exact h
  have := num_ (s := ⟨(Lib.decDigits m).toArray⟩) h1 h10 hsz hd (by
    by_cases hm10 : m < 10
    · left
      rw [hl, Lib.nDigits_small hm10]
    · right
      obtain ⟨b, r, e, hb⟩ := dec_first m (by omega)
      have hg : (Lib.decDigits m)[0]? = some b := by rw [e]; rfl
      rw [byteN_get hg]
      omega) (by rw [hv]; omega)
  rw [hv] at this
  exact this

end
end Go.Proofs.YtbldcbjmfldbfaaGreatDoor
