/-
  Which operands are right.
-/
import Derived.Test.YtnkidmnddkmilaaGreatDoorAeAsVal
import Derived.Test.YtnkidmnddkmilaaGreatDoorAeAsMem
namespace Go.Proofs.YtnkidmnddkmilaaGreatDoor
open Go.RowKit
set_option maxRecDepth 100000

theorem dec_of {p : Prop} [Decidable p] {b : Bool} (h : b = true ↔ p) : b = decide p := by
  rw [Bool.eq_iff_iff, decide_eq_true_eq]
  exact h

/-- a code, its slices whole -/
def codeS (s : ByteArray) (k l r : Int) (ai : Option Addr) (li ci : Nat) (ap : Option Addr) (lp cp : Nat) (ak : Option Addr) (lk ck : Nat) (ag : Option Addr) (lg cg : Nat) : Value :=
  .agg #[.string s, .int .i64 k, .int .i64 l, .int .i64 r, .slice ai li ci, .slice ap lp cp, .slice ak lk ck, .slice ag lg cg]

def P114 (r n : Int) (_li _lp _lk : Nat) : Bool := decide (0 ≤ n ∧ n < r)
def P100 (r n : Int) (_li _lp _lk : Nat) : Bool := decide (0 ≤ n ∧ n < r - 1)
def P113 (r n : Int) (_li _lp _lk : Nat) : Bool := decide (0 ≤ n ∧ n / 2 < r)
def P116 (r n : Int) (_li _lp _lk : Nat) : Bool := decide (0 ≤ n ∧ n / 4 < r ∧ n % 4 ≤ 2)
def P112 (_r n : Int) (_li lp _lk : Nat) : Bool := decide (0 ≤ n ∧ n < (lp : Int))
def P107 (_r n : Int) (_li _lp lk : Nat) : Bool := decide (0 ≤ n ∧ n < (lk : Int))
def P102 (_r n : Int) (_li _lp _lk : Nat) : Bool := decide (0 ≤ n ∧ n ≤ 4096)
def P106 (_r n : Int) (li _lp _lk : Nat) : Bool := decide (0 ≤ n ∧ n < (li : Int))
def P110 (_r n : Int) (_li _lp _lk : Nat) : Bool := decide (0 ≤ n ∧ n ≤ 65536)
def P97 (_r n : Int) (_li _lp _lk : Nat) : Bool := decide (-1 ≤ n ∧ n ≤ 1024)
def P98 (_r n : Int) (_li _lp _lk : Nat) : Bool := decide (0 ≤ n ∧ n ≤ 1)
def P45 (_r n : Int) (_li _lp _lk : Nat) : Bool := decide (n = 0)

set_option maxHeartbeats 2000000 in
theorem partOk_114 (s : ByteArray) (k l r : Int) (ai : Option Addr) (li ci : Nat) (ap : Option Addr) (lp cp : Nat) (ak : Option Addr) (lk ck : Nat) (ag : Option Addr) (lg cg : Nat) (n : Int) (h0 : 0 ≤ r) (h1 : r ≤ 4096) (_hi : li ≤ 1499) (_hp : lp ≤ 1499) (_hk : lk ≤ 1499) (hn : inI n) (w : World) :
    Calls Tryz.prog 69 #[.agg #[.string s, .int .i64 k, .int .i64 l, .int .i64 r, .slice ai li ci, .slice ap lp cp, .slice ak lk ck, .slice ag lg cg], .int .u8 114, .int .i64 n] w fun e w' => e = .returned (.bool (P114 r n li lp lk)) ∧ Below w.heap.size w w' := by
  have hb0 : ∀ ob, Below w.heap.size w (w.alloc ob) := fun ob => (Below.refl _ _).alloc (Nat.le_refl _) ob
  obtain ⟨n0, n1⟩ := hn
  by_cases hz : 0 ≤ n
  · go_enter Tryz.func69, Tryz.ntmps69
    go_wp2
    all_goals
      go_ret
      refine ⟨ret_bool ?_, hb0 _⟩
      unfold P114
      refine dec_of ?_
      first
        | (simp; done)
        | (simp; omega)
        | omega
  · have hz' : n < 0 := by omega
    clear hz
    go_enter Tryz.func69, Tryz.ntmps69
    go_wp2
    all_goals
      go_ret
      refine ⟨ret_bool ?_, hb0 _⟩
      unfold P114
      refine dec_of ?_
      first
        | (simp; done)
        | (simp; omega)
        | omega

set_option maxHeartbeats 2000000 in
theorem partOk_100 (s : ByteArray) (k l r : Int) (ai : Option Addr) (li ci : Nat) (ap : Option Addr) (lp cp : Nat) (ak : Option Addr) (lk ck : Nat) (ag : Option Addr) (lg cg : Nat) (n : Int) (h0 : 0 ≤ r) (h1 : r ≤ 4096) (_hi : li ≤ 1499) (_hp : lp ≤ 1499) (_hk : lk ≤ 1499) (hn : inI n) (w : World) :
    Calls Tryz.prog 69 #[.agg #[.string s, .int .i64 k, .int .i64 l, .int .i64 r, .slice ai li ci, .slice ap lp cp, .slice ak lk ck, .slice ag lg cg], .int .u8 100, .int .i64 n] w fun e w' => e = .returned (.bool (P100 r n li lp lk)) ∧ Below w.heap.size w w' := by
  have hb0 : ∀ ob, Below w.heap.size w (w.alloc ob) := fun ob => (Below.refl _ _).alloc (Nat.le_refl _) ob
  obtain ⟨n0, n1⟩ := hn
  by_cases hz : 0 ≤ n
  · go_enter Tryz.func69, Tryz.ntmps69
    go_wp2
    all_goals
      go_ret
      refine ⟨ret_bool ?_, hb0 _⟩
      unfold P100
      refine dec_of ?_
      first
        | (simp; done)
        | (simp; omega)
        | omega
  · have hz' : n < 0 := by omega
    clear hz
    go_enter Tryz.func69, Tryz.ntmps69
    go_wp2
    all_goals
      go_ret
      refine ⟨ret_bool ?_, hb0 _⟩
      unfold P100
      refine dec_of ?_
      first
        | (simp; done)
        | (simp; omega)
        | omega

set_option maxHeartbeats 2000000 in
theorem partOk_113 (s : ByteArray) (k l r : Int) (ai : Option Addr) (li ci : Nat) (ap : Option Addr) (lp cp : Nat) (ak : Option Addr) (lk ck : Nat) (ag : Option Addr) (lg cg : Nat) (n : Int) (_h0 : 0 ≤ r) (_h1 : r ≤ 4096) (_hi : li ≤ 1499) (_hp : lp ≤ 1499) (_hk : lk ≤ 1499) (hn : inI n) (w : World) :
    Calls Tryz.prog 69 #[.agg #[.string s, .int .i64 k, .int .i64 l, .int .i64 r, .slice ai li ci, .slice ap lp cp, .slice ak lk ck, .slice ag lg cg], .int .u8 113, .int .i64 n] w fun e w' => e = .returned (.bool (P113 r n li lp lk)) ∧ Below w.heap.size w w' := by
  have hb0 : ∀ ob, Below w.heap.size w (w.alloc ob) := fun ob => (Below.refl _ _).alloc (Nat.le_refl _) ob
  obtain ⟨n0, n1⟩ := hn
  by_cases hz : 0 ≤ n
  · go_enter Tryz.func69, Tryz.ntmps69
    go_wp2
    all_goals
      go_ret
      refine ⟨ret_bool ?_, hb0 _⟩
      unfold P113
      refine dec_of ?_
      first
        | (simp; done)
        | (simp; omega)
        | omega
  · have hz' : n < 0 := by omega
    clear hz
    go_enter Tryz.func69, Tryz.ntmps69
    go_wp2
    all_goals
      go_ret
      refine ⟨ret_bool ?_, hb0 _⟩
      unfold P113
      refine dec_of ?_
      first
        | (simp; done)
        | (simp; omega)
        | omega

set_option maxHeartbeats 2000000 in
theorem partOk_116 (s : ByteArray) (k l r : Int) (ai : Option Addr) (li ci : Nat) (ap : Option Addr) (lp cp : Nat) (ak : Option Addr) (lk ck : Nat) (ag : Option Addr) (lg cg : Nat) (n : Int) (_h0 : 0 ≤ r) (_h1 : r ≤ 4096) (_hi : li ≤ 1499) (_hp : lp ≤ 1499) (_hk : lk ≤ 1499) (hn : inI n) (w : World) :
    Calls Tryz.prog 69 #[.agg #[.string s, .int .i64 k, .int .i64 l, .int .i64 r, .slice ai li ci, .slice ap lp cp, .slice ak lk ck, .slice ag lg cg], .int .u8 116, .int .i64 n] w fun e w' => e = .returned (.bool (P116 r n li lp lk)) ∧ Below w.heap.size w w' := by
  have hb0 : ∀ ob, Below w.heap.size w (w.alloc ob) := fun ob => (Below.refl _ _).alloc (Nat.le_refl _) ob
  obtain ⟨n0, n1⟩ := hn
  by_cases hz : 0 ≤ n
  · go_enter Tryz.func69, Tryz.ntmps69
    go_wp2
    all_goals
      go_ret
      refine ⟨ret_bool ?_, hb0 _⟩
      unfold P116
      refine dec_of ?_
      first
        | (simp; done)
        | (simp; omega)
        | omega
  · have hz' : n < 0 := by omega
    clear hz
    go_enter Tryz.func69, Tryz.ntmps69
    go_wp2
    all_goals
      go_ret
      refine ⟨ret_bool ?_, hb0 _⟩
      unfold P116
      refine dec_of ?_
      first
        | (simp; done)
        | (simp; omega)
        | omega

set_option maxHeartbeats 2000000 in
theorem partOk_112 (s : ByteArray) (k l r : Int) (ai : Option Addr) (li ci : Nat) (ap : Option Addr) (lp cp : Nat) (ak : Option Addr) (lk ck : Nat) (ag : Option Addr) (lg cg : Nat) (n : Int) (_h0 : 0 ≤ r) (_h1 : r ≤ 4096) (_hi : li ≤ 1499) (hp : lp ≤ 1499) (_hk : lk ≤ 1499) (hn : inI n) (w : World) :
    Calls Tryz.prog 69 #[.agg #[.string s, .int .i64 k, .int .i64 l, .int .i64 r, .slice ai li ci, .slice ap lp cp, .slice ak lk ck, .slice ag lg cg], .int .u8 112, .int .i64 n] w fun e w' => e = .returned (.bool (P112 r n li lp lk)) ∧ Below w.heap.size w w' := by
  have hb0 : ∀ ob, Below w.heap.size w (w.alloc ob) := fun ob => (Below.refl _ _).alloc (Nat.le_refl _) ob
  obtain ⟨n0, n1⟩ := hn
  by_cases hz : 0 ≤ n
  · go_enter Tryz.func69, Tryz.ntmps69
    go_wp2
    all_goals
      go_ret
      refine ⟨ret_bool ?_, hb0 _⟩
      unfold P112
      refine dec_of ?_
      first
        | (simp; done)
        | (simp; omega)
        | omega
  · have hz' : n < 0 := by omega
    clear hz
    go_enter Tryz.func69, Tryz.ntmps69
    go_wp2
    all_goals
      go_ret
      refine ⟨ret_bool ?_, hb0 _⟩
      unfold P112
      refine dec_of ?_
      first
        | (simp; done)
        | (simp; omega)
        | omega

set_option maxHeartbeats 2000000 in
theorem partOk_107 (s : ByteArray) (k l r : Int) (ai : Option Addr) (li ci : Nat) (ap : Option Addr) (lp cp : Nat) (ak : Option Addr) (lk ck : Nat) (ag : Option Addr) (lg cg : Nat) (n : Int) (_h0 : 0 ≤ r) (_h1 : r ≤ 4096) (_hi : li ≤ 1499) (_hp : lp ≤ 1499) (hk : lk ≤ 1499) (hn : inI n) (w : World) :
    Calls Tryz.prog 69 #[.agg #[.string s, .int .i64 k, .int .i64 l, .int .i64 r, .slice ai li ci, .slice ap lp cp, .slice ak lk ck, .slice ag lg cg], .int .u8 107, .int .i64 n] w fun e w' => e = .returned (.bool (P107 r n li lp lk)) ∧ Below w.heap.size w w' := by
  have hb0 : ∀ ob, Below w.heap.size w (w.alloc ob) := fun ob => (Below.refl _ _).alloc (Nat.le_refl _) ob
  obtain ⟨n0, n1⟩ := hn
  by_cases hz : 0 ≤ n
  · go_enter Tryz.func69, Tryz.ntmps69
    go_wp2
    all_goals
      go_ret
      refine ⟨ret_bool ?_, hb0 _⟩
      unfold P107
      refine dec_of ?_
      first
        | (simp; done)
        | (simp; omega)
        | omega
  · have hz' : n < 0 := by omega
    clear hz
    go_enter Tryz.func69, Tryz.ntmps69
    go_wp2
    all_goals
      go_ret
      refine ⟨ret_bool ?_, hb0 _⟩
      unfold P107
      refine dec_of ?_
      first
        | (simp; done)
        | (simp; omega)
        | omega

set_option maxHeartbeats 2000000 in
theorem partOk_102 (s : ByteArray) (k l r : Int) (ai : Option Addr) (li ci : Nat) (ap : Option Addr) (lp cp : Nat) (ak : Option Addr) (lk ck : Nat) (ag : Option Addr) (lg cg : Nat) (n : Int) (_h0 : 0 ≤ r) (_h1 : r ≤ 4096) (_hi : li ≤ 1499) (_hp : lp ≤ 1499) (_hk : lk ≤ 1499) (hn : inI n) (w : World) :
    Calls Tryz.prog 69 #[.agg #[.string s, .int .i64 k, .int .i64 l, .int .i64 r, .slice ai li ci, .slice ap lp cp, .slice ak lk ck, .slice ag lg cg], .int .u8 102, .int .i64 n] w fun e w' => e = .returned (.bool (P102 r n li lp lk)) ∧ Below w.heap.size w w' := by
  have hb0 : ∀ ob, Below w.heap.size w (w.alloc ob) := fun ob => (Below.refl _ _).alloc (Nat.le_refl _) ob
  obtain ⟨n0, n1⟩ := hn
  by_cases hz : 0 ≤ n
  · go_enter Tryz.func69, Tryz.ntmps69
    go_wp2
    all_goals
      go_ret
      refine ⟨ret_bool ?_, hb0 _⟩
      unfold P102
      refine dec_of ?_
      first
        | (simp; done)
        | (simp; omega)
        | omega
  · have hz' : n < 0 := by omega
    clear hz
    go_enter Tryz.func69, Tryz.ntmps69
    go_wp2
    all_goals
      go_ret
      refine ⟨ret_bool ?_, hb0 _⟩
      unfold P102
      refine dec_of ?_
      first
        | (simp; done)
        | (simp; omega)
        | omega

set_option maxHeartbeats 2000000 in
theorem partOk_106 (s : ByteArray) (k l r : Int) (ai : Option Addr) (li ci : Nat) (ap : Option Addr) (lp cp : Nat) (ak : Option Addr) (lk ck : Nat) (ag : Option Addr) (lg cg : Nat) (n : Int) (_h0 : 0 ≤ r) (_h1 : r ≤ 4096) (hi : li ≤ 1499) (_hp : lp ≤ 1499) (_hk : lk ≤ 1499) (hn : inI n) (w : World) :
    Calls Tryz.prog 69 #[.agg #[.string s, .int .i64 k, .int .i64 l, .int .i64 r, .slice ai li ci, .slice ap lp cp, .slice ak lk ck, .slice ag lg cg], .int .u8 106, .int .i64 n] w fun e w' => e = .returned (.bool (P106 r n li lp lk)) ∧ Below w.heap.size w w' := by
  have hb0 : ∀ ob, Below w.heap.size w (w.alloc ob) := fun ob => (Below.refl _ _).alloc (Nat.le_refl _) ob
  obtain ⟨n0, n1⟩ := hn
  by_cases hz : 0 ≤ n
  · go_enter Tryz.func69, Tryz.ntmps69
    go_wp2
    all_goals
      go_ret
      refine ⟨ret_bool ?_, hb0 _⟩
      unfold P106
      refine dec_of ?_
      first
        | (simp; done)
        | (simp; omega)
        | omega
  · have hz' : n < 0 := by omega
    clear hz
    go_enter Tryz.func69, Tryz.ntmps69
    go_wp2
    all_goals
      go_ret
      refine ⟨ret_bool ?_, hb0 _⟩
      unfold P106
      refine dec_of ?_
      first
        | (simp; done)
        | (simp; omega)
        | omega

set_option maxHeartbeats 2000000 in
theorem partOk_110 (s : ByteArray) (k l r : Int) (ai : Option Addr) (li ci : Nat) (ap : Option Addr) (lp cp : Nat) (ak : Option Addr) (lk ck : Nat) (ag : Option Addr) (lg cg : Nat) (n : Int) (_h0 : 0 ≤ r) (_h1 : r ≤ 4096) (_hi : li ≤ 1499) (_hp : lp ≤ 1499) (_hk : lk ≤ 1499) (hn : inI n) (w : World) :
    Calls Tryz.prog 69 #[.agg #[.string s, .int .i64 k, .int .i64 l, .int .i64 r, .slice ai li ci, .slice ap lp cp, .slice ak lk ck, .slice ag lg cg], .int .u8 110, .int .i64 n] w fun e w' => e = .returned (.bool (P110 r n li lp lk)) ∧ Below w.heap.size w w' := by
  have hb0 : ∀ ob, Below w.heap.size w (w.alloc ob) := fun ob => (Below.refl _ _).alloc (Nat.le_refl _) ob
  obtain ⟨n0, n1⟩ := hn
  by_cases hz : 0 ≤ n
  · go_enter Tryz.func69, Tryz.ntmps69
    go_wp2
    all_goals
      go_ret
      refine ⟨ret_bool ?_, hb0 _⟩
      unfold P110
      refine dec_of ?_
      first
        | (simp; done)
        | (simp; omega)
        | omega
  · have hz' : n < 0 := by omega
    clear hz
    go_enter Tryz.func69, Tryz.ntmps69
    go_wp2
    all_goals
      go_ret
      refine ⟨ret_bool ?_, hb0 _⟩
      unfold P110
      refine dec_of ?_
      first
        | (simp; done)
        | (simp; omega)
        | omega

set_option maxHeartbeats 2000000 in
theorem partOk_97 (s : ByteArray) (k l r : Int) (ai : Option Addr) (li ci : Nat) (ap : Option Addr) (lp cp : Nat) (ak : Option Addr) (lk ck : Nat) (ag : Option Addr) (lg cg : Nat) (n : Int) (_h0 : 0 ≤ r) (_h1 : r ≤ 4096) (_hi : li ≤ 1499) (_hp : lp ≤ 1499) (_hk : lk ≤ 1499) (hn : inI n) (w : World) :
    Calls Tryz.prog 69 #[.agg #[.string s, .int .i64 k, .int .i64 l, .int .i64 r, .slice ai li ci, .slice ap lp cp, .slice ak lk ck, .slice ag lg cg], .int .u8 97, .int .i64 n] w fun e w' => e = .returned (.bool (P97 r n li lp lk)) ∧ Below w.heap.size w w' := by
  have hb0 : ∀ ob, Below w.heap.size w (w.alloc ob) := fun ob => (Below.refl _ _).alloc (Nat.le_refl _) ob
  obtain ⟨n0, n1⟩ := hn
  by_cases hz : 0 ≤ n
  · go_enter Tryz.func69, Tryz.ntmps69
    go_wp2
    all_goals
      go_ret
      refine ⟨ret_bool ?_, hb0 _⟩
      unfold P97
      refine dec_of ?_
      first
        | (simp; done)
        | (simp; omega)
        | omega
  · have hz' : n < 0 := by omega
    clear hz
    go_enter Tryz.func69, Tryz.ntmps69
    go_wp2
    all_goals
      go_ret
      refine ⟨ret_bool ?_, hb0 _⟩
      unfold P97
      refine dec_of ?_
      first
        | (simp; done)
        | (simp; omega)
        | omega

set_option maxHeartbeats 2000000 in
theorem partOk_98 (s : ByteArray) (k l r : Int) (ai : Option Addr) (li ci : Nat) (ap : Option Addr) (lp cp : Nat) (ak : Option Addr) (lk ck : Nat) (ag : Option Addr) (lg cg : Nat) (n : Int) (_h0 : 0 ≤ r) (_h1 : r ≤ 4096) (_hi : li ≤ 1499) (_hp : lp ≤ 1499) (_hk : lk ≤ 1499) (hn : inI n) (w : World) :
    Calls Tryz.prog 69 #[.agg #[.string s, .int .i64 k, .int .i64 l, .int .i64 r, .slice ai li ci, .slice ap lp cp, .slice ak lk ck, .slice ag lg cg], .int .u8 98, .int .i64 n] w fun e w' => e = .returned (.bool (P98 r n li lp lk)) ∧ Below w.heap.size w w' := by
  have hb0 : ∀ ob, Below w.heap.size w (w.alloc ob) := fun ob => (Below.refl _ _).alloc (Nat.le_refl _) ob
  obtain ⟨n0, n1⟩ := hn
  by_cases hz : 0 ≤ n
  · go_enter Tryz.func69, Tryz.ntmps69
    go_wp2
    all_goals
      go_ret
      refine ⟨ret_bool ?_, hb0 _⟩
      unfold P98
      refine dec_of ?_
      first
        | (simp; done)
        | (simp; omega)
        | omega
  · have hz' : n < 0 := by omega
    clear hz
    go_enter Tryz.func69, Tryz.ntmps69
    go_wp2
    all_goals
      go_ret
      refine ⟨ret_bool ?_, hb0 _⟩
      unfold P98
      refine dec_of ?_
      first
        | (simp; done)
        | (simp; omega)
        | omega

set_option maxHeartbeats 2000000 in
theorem partOk_45 (s : ByteArray) (k l r : Int) (ai : Option Addr) (li ci : Nat) (ap : Option Addr) (lp cp : Nat) (ak : Option Addr) (lk ck : Nat) (ag : Option Addr) (lg cg : Nat) (n : Int) (_h0 : 0 ≤ r) (_h1 : r ≤ 4096) (_hi : li ≤ 1499) (_hp : lp ≤ 1499) (_hk : lk ≤ 1499) (hn : inI n) (w : World) :
    Calls Tryz.prog 69 #[.agg #[.string s, .int .i64 k, .int .i64 l, .int .i64 r, .slice ai li ci, .slice ap lp cp, .slice ak lk ck, .slice ag lg cg], .int .u8 45, .int .i64 n] w fun e w' => e = .returned (.bool (P45 r n li lp lk)) ∧ Below w.heap.size w w' := by
  have hb0 : ∀ ob, Below w.heap.size w (w.alloc ob) := fun ob => (Below.refl _ _).alloc (Nat.le_refl _) ob
  obtain ⟨n0, n1⟩ := hn
  by_cases hz : 0 ≤ n
  · go_enter Tryz.func69, Tryz.ntmps69
    go_wp2
    all_goals
      go_ret
      refine ⟨ret_bool ?_, hb0 _⟩
      unfold P45
      refine dec_of ?_
      first
        | (simp; done)
        | (simp; omega)
        | omega
  · have hz' : n < 0 := by omega
    clear hz
    go_enter Tryz.func69, Tryz.ntmps69
    go_wp2
    all_goals
      go_ret
      refine ⟨ret_bool ?_, hb0 _⟩
      unfold P45
      refine dec_of ?_
      first
        | (simp; done)
        | (simp; omega)
        | omega

set_option maxHeartbeats 2000000 in
theorem rpartOk_114 (s : ByteArray) (k l r : Int) (ai : Option Addr) (li ci : Nat) (ap : Option Addr) (lp cp : Nat) (ak : Option Addr) (lk ck : Nat) (ag : Option Addr) (lg cg : Nat) (n : Int) (_h0 : 0 ≤ r) (_h1 : r ≤ 4096) (_hi : li ≤ 1499) (_hp : lp ≤ 1499) (_hk : lk ≤ 1499) (hn : inI n) (w : World) :
    Calls Tryz.prog 50 #[.agg #[.string s, .int .i64 k, .int .i64 l, .int .i64 r, .slice ai li ci, .slice ap lp cp, .slice ak lk ck, .slice ag lg cg], .int .u8 114, .int .i64 n] w fun e w' => e = .returned (.bool (P114 r n li lp lk)) ∧ Below w.heap.size w w' := by
  have hb0 : ∀ ob, Below w.heap.size w (w.alloc ob) := fun ob => (Below.refl _ _).alloc (Nat.le_refl _) ob
  obtain ⟨n0, n1⟩ := hn
  by_cases hz : 0 ≤ n
  · go_enter Tryz.func50, Tryz.ntmps50
    go_wp2
    all_goals
      go_ret
      refine ⟨ret_bool ?_, hb0 _⟩
      unfold P114
      refine dec_of ?_
      first
        | (simp; done)
        | (simp; omega)
        | omega
  · have hz' : n < 0 := by omega
    clear hz
    go_enter Tryz.func50, Tryz.ntmps50
    go_wp2
    all_goals
      go_ret
      refine ⟨ret_bool ?_, hb0 _⟩
      unfold P114
      refine dec_of ?_
      first
        | (simp; done)
        | (simp; omega)
        | omega

set_option maxHeartbeats 2000000 in
theorem rpartOk_100 (s : ByteArray) (k l r : Int) (ai : Option Addr) (li ci : Nat) (ap : Option Addr) (lp cp : Nat) (ak : Option Addr) (lk ck : Nat) (ag : Option Addr) (lg cg : Nat) (n : Int) (h0 : 0 ≤ r) (h1 : r ≤ 4096) (_hi : li ≤ 1499) (_hp : lp ≤ 1499) (_hk : lk ≤ 1499) (hn : inI n) (w : World) :
    Calls Tryz.prog 50 #[.agg #[.string s, .int .i64 k, .int .i64 l, .int .i64 r, .slice ai li ci, .slice ap lp cp, .slice ak lk ck, .slice ag lg cg], .int .u8 100, .int .i64 n] w fun e w' => e = .returned (.bool (P100 r n li lp lk)) ∧ Below w.heap.size w w' := by
  have hb0 : ∀ ob, Below w.heap.size w (w.alloc ob) := fun ob => (Below.refl _ _).alloc (Nat.le_refl _) ob
  obtain ⟨n0, n1⟩ := hn
  by_cases hz : 0 ≤ n
  · go_enter Tryz.func50, Tryz.ntmps50
    go_wp2
    all_goals
      go_ret
      refine ⟨ret_bool ?_, hb0 _⟩
      unfold P100
      refine dec_of ?_
      first
        | (simp; done)
        | (simp; omega)
        | omega
  · have hz' : n < 0 := by omega
    clear hz
    go_enter Tryz.func50, Tryz.ntmps50
    go_wp2
    all_goals
      go_ret
      refine ⟨ret_bool ?_, hb0 _⟩
      unfold P100
      refine dec_of ?_
      first
        | (simp; done)
        | (simp; omega)
        | omega

set_option maxHeartbeats 2000000 in
theorem rpartOk_113 (s : ByteArray) (k l r : Int) (ai : Option Addr) (li ci : Nat) (ap : Option Addr) (lp cp : Nat) (ak : Option Addr) (lk ck : Nat) (ag : Option Addr) (lg cg : Nat) (n : Int) (_h0 : 0 ≤ r) (_h1 : r ≤ 4096) (_hi : li ≤ 1499) (_hp : lp ≤ 1499) (_hk : lk ≤ 1499) (hn : inI n) (w : World) :
    Calls Tryz.prog 50 #[.agg #[.string s, .int .i64 k, .int .i64 l, .int .i64 r, .slice ai li ci, .slice ap lp cp, .slice ak lk ck, .slice ag lg cg], .int .u8 113, .int .i64 n] w fun e w' => e = .returned (.bool (P113 r n li lp lk)) ∧ Below w.heap.size w w' := by
  have hb0 : ∀ ob, Below w.heap.size w (w.alloc ob) := fun ob => (Below.refl _ _).alloc (Nat.le_refl _) ob
  obtain ⟨n0, n1⟩ := hn
  by_cases hz : 0 ≤ n
  · go_enter Tryz.func50, Tryz.ntmps50
    go_wp2
    all_goals
      go_ret
      refine ⟨ret_bool ?_, hb0 _⟩
      unfold P113
      refine dec_of ?_
      first
        | (simp; done)
        | (simp; omega)
        | omega
  · have hz' : n < 0 := by omega
    clear hz
    go_enter Tryz.func50, Tryz.ntmps50
    go_wp2
    all_goals
      go_ret
      refine ⟨ret_bool ?_, hb0 _⟩
      unfold P113
      refine dec_of ?_
      first
        | (simp; done)
        | (simp; omega)
        | omega

set_option maxHeartbeats 2000000 in
theorem rpartOk_116 (s : ByteArray) (k l r : Int) (ai : Option Addr) (li ci : Nat) (ap : Option Addr) (lp cp : Nat) (ak : Option Addr) (lk ck : Nat) (ag : Option Addr) (lg cg : Nat) (n : Int) (_h0 : 0 ≤ r) (_h1 : r ≤ 4096) (_hi : li ≤ 1499) (_hp : lp ≤ 1499) (_hk : lk ≤ 1499) (hn : inI n) (w : World) :
    Calls Tryz.prog 50 #[.agg #[.string s, .int .i64 k, .int .i64 l, .int .i64 r, .slice ai li ci, .slice ap lp cp, .slice ak lk ck, .slice ag lg cg], .int .u8 116, .int .i64 n] w fun e w' => e = .returned (.bool (P116 r n li lp lk)) ∧ Below w.heap.size w w' := by
  have hb0 : ∀ ob, Below w.heap.size w (w.alloc ob) := fun ob => (Below.refl _ _).alloc (Nat.le_refl _) ob
  obtain ⟨n0, n1⟩ := hn
  by_cases hz : 0 ≤ n
  · go_enter Tryz.func50, Tryz.ntmps50
    go_wp2
    all_goals
      go_ret
      refine ⟨ret_bool ?_, hb0 _⟩
      unfold P116
      refine dec_of ?_
      first
        | (simp; done)
        | (simp; omega)
        | omega
  · have hz' : n < 0 := by omega
    clear hz
    go_enter Tryz.func50, Tryz.ntmps50
    go_wp2
    all_goals
      go_ret
      refine ⟨ret_bool ?_, hb0 _⟩
      unfold P116
      refine dec_of ?_
      first
        | (simp; done)
        | (simp; omega)
        | omega

set_option maxHeartbeats 2000000 in
theorem rpartOk_112 (s : ByteArray) (k l r : Int) (ai : Option Addr) (li ci : Nat) (ap : Option Addr) (lp cp : Nat) (ak : Option Addr) (lk ck : Nat) (ag : Option Addr) (lg cg : Nat) (n : Int) (_h0 : 0 ≤ r) (_h1 : r ≤ 4096) (_hi : li ≤ 1499) (_hp : lp ≤ 1499) (_hk : lk ≤ 1499) (hn : inI n) (w : World) :
    Calls Tryz.prog 50 #[.agg #[.string s, .int .i64 k, .int .i64 l, .int .i64 r, .slice ai li ci, .slice ap lp cp, .slice ak lk ck, .slice ag lg cg], .int .u8 112, .int .i64 n] w fun e w' => e = .returned (.bool (P112 r n li lp lk)) ∧ Below w.heap.size w w' := by
  have hb0 : ∀ ob, Below w.heap.size w (w.alloc ob) := fun ob => (Below.refl _ _).alloc (Nat.le_refl _) ob
  obtain ⟨n0, n1⟩ := hn
  by_cases hz : 0 ≤ n
  · go_enter Tryz.func50, Tryz.ntmps50
    go_wp2
    all_goals
      go_ret
      refine ⟨ret_bool ?_, hb0 _⟩
      unfold P112
      refine dec_of ?_
      first
        | (simp; done)
        | (simp; omega)
        | omega
  · have hz' : n < 0 := by omega
    clear hz
    go_enter Tryz.func50, Tryz.ntmps50
    go_wp2
    all_goals
      go_ret
      refine ⟨ret_bool ?_, hb0 _⟩
      unfold P112
      refine dec_of ?_
      first
        | (simp; done)
        | (simp; omega)
        | omega

set_option maxHeartbeats 2000000 in
theorem rpartOk_107 (s : ByteArray) (k l r : Int) (ai : Option Addr) (li ci : Nat) (ap : Option Addr) (lp cp : Nat) (ak : Option Addr) (lk ck : Nat) (ag : Option Addr) (lg cg : Nat) (n : Int) (_h0 : 0 ≤ r) (_h1 : r ≤ 4096) (_hi : li ≤ 1499) (_hp : lp ≤ 1499) (_hk : lk ≤ 1499) (hn : inI n) (w : World) :
    Calls Tryz.prog 50 #[.agg #[.string s, .int .i64 k, .int .i64 l, .int .i64 r, .slice ai li ci, .slice ap lp cp, .slice ak lk ck, .slice ag lg cg], .int .u8 107, .int .i64 n] w fun e w' => e = .returned (.bool (P107 r n li lp lk)) ∧ Below w.heap.size w w' := by
  have hb0 : ∀ ob, Below w.heap.size w (w.alloc ob) := fun ob => (Below.refl _ _).alloc (Nat.le_refl _) ob
  obtain ⟨n0, n1⟩ := hn
  by_cases hz : 0 ≤ n
  · go_enter Tryz.func50, Tryz.ntmps50
    go_wp2
    all_goals
      go_ret
      refine ⟨ret_bool ?_, hb0 _⟩
      unfold P107
      refine dec_of ?_
      first
        | (simp; done)
        | (simp; omega)
        | omega
  · have hz' : n < 0 := by omega
    clear hz
    go_enter Tryz.func50, Tryz.ntmps50
    go_wp2
    all_goals
      go_ret
      refine ⟨ret_bool ?_, hb0 _⟩
      unfold P107
      refine dec_of ?_
      first
        | (simp; done)
        | (simp; omega)
        | omega

set_option maxHeartbeats 2000000 in
theorem rpartOk_102 (s : ByteArray) (k l r : Int) (ai : Option Addr) (li ci : Nat) (ap : Option Addr) (lp cp : Nat) (ak : Option Addr) (lk ck : Nat) (ag : Option Addr) (lg cg : Nat) (n : Int) (_h0 : 0 ≤ r) (_h1 : r ≤ 4096) (_hi : li ≤ 1499) (_hp : lp ≤ 1499) (_hk : lk ≤ 1499) (hn : inI n) (w : World) :
    Calls Tryz.prog 50 #[.agg #[.string s, .int .i64 k, .int .i64 l, .int .i64 r, .slice ai li ci, .slice ap lp cp, .slice ak lk ck, .slice ag lg cg], .int .u8 102, .int .i64 n] w fun e w' => e = .returned (.bool (P102 r n li lp lk)) ∧ Below w.heap.size w w' := by
  have hb0 : ∀ ob, Below w.heap.size w (w.alloc ob) := fun ob => (Below.refl _ _).alloc (Nat.le_refl _) ob
  obtain ⟨n0, n1⟩ := hn
  by_cases hz : 0 ≤ n
  · go_enter Tryz.func50, Tryz.ntmps50
    go_wp2
    all_goals
      go_ret
      refine ⟨ret_bool ?_, hb0 _⟩
      unfold P102
      refine dec_of ?_
      first
        | (simp; done)
        | (simp; omega)
        | omega
  · have hz' : n < 0 := by omega
    clear hz
    go_enter Tryz.func50, Tryz.ntmps50
    go_wp2
    all_goals
      go_ret
      refine ⟨ret_bool ?_, hb0 _⟩
      unfold P102
      refine dec_of ?_
      first
        | (simp; done)
        | (simp; omega)
        | omega

set_option maxHeartbeats 2000000 in
theorem rpartOk_106 (s : ByteArray) (k l r : Int) (ai : Option Addr) (li ci : Nat) (ap : Option Addr) (lp cp : Nat) (ak : Option Addr) (lk ck : Nat) (ag : Option Addr) (lg cg : Nat) (n : Int) (_h0 : 0 ≤ r) (_h1 : r ≤ 4096) (_hi : li ≤ 1499) (_hp : lp ≤ 1499) (_hk : lk ≤ 1499) (hn : inI n) (w : World) :
    Calls Tryz.prog 50 #[.agg #[.string s, .int .i64 k, .int .i64 l, .int .i64 r, .slice ai li ci, .slice ap lp cp, .slice ak lk ck, .slice ag lg cg], .int .u8 106, .int .i64 n] w fun e w' => e = .returned (.bool (P106 r n li lp lk)) ∧ Below w.heap.size w w' := by
  have hb0 : ∀ ob, Below w.heap.size w (w.alloc ob) := fun ob => (Below.refl _ _).alloc (Nat.le_refl _) ob
  obtain ⟨n0, n1⟩ := hn
  by_cases hz : 0 ≤ n
  · go_enter Tryz.func50, Tryz.ntmps50
    go_wp2
    all_goals
      go_ret
      refine ⟨ret_bool ?_, hb0 _⟩
      unfold P106
      refine dec_of ?_
      first
        | (simp; done)
        | (simp; omega)
        | omega
  · have hz' : n < 0 := by omega
    clear hz
    go_enter Tryz.func50, Tryz.ntmps50
    go_wp2
    all_goals
      go_ret
      refine ⟨ret_bool ?_, hb0 _⟩
      unfold P106
      refine dec_of ?_
      first
        | (simp; done)
        | (simp; omega)
        | omega

set_option maxHeartbeats 2000000 in
theorem rpartOk_110 (s : ByteArray) (k l r : Int) (ai : Option Addr) (li ci : Nat) (ap : Option Addr) (lp cp : Nat) (ak : Option Addr) (lk ck : Nat) (ag : Option Addr) (lg cg : Nat) (n : Int) (_h0 : 0 ≤ r) (_h1 : r ≤ 4096) (_hi : li ≤ 1499) (_hp : lp ≤ 1499) (_hk : lk ≤ 1499) (hn : inI n) (w : World) :
    Calls Tryz.prog 50 #[.agg #[.string s, .int .i64 k, .int .i64 l, .int .i64 r, .slice ai li ci, .slice ap lp cp, .slice ak lk ck, .slice ag lg cg], .int .u8 110, .int .i64 n] w fun e w' => e = .returned (.bool (P110 r n li lp lk)) ∧ Below w.heap.size w w' := by
  have hb0 : ∀ ob, Below w.heap.size w (w.alloc ob) := fun ob => (Below.refl _ _).alloc (Nat.le_refl _) ob
  obtain ⟨n0, n1⟩ := hn
  by_cases hz : 0 ≤ n
  · go_enter Tryz.func50, Tryz.ntmps50
    go_wp2
    all_goals
      go_ret
      refine ⟨ret_bool ?_, hb0 _⟩
      unfold P110
      refine dec_of ?_
      first
        | (simp; done)
        | (simp; omega)
        | omega
  · have hz' : n < 0 := by omega
    clear hz
    go_enter Tryz.func50, Tryz.ntmps50
    go_wp2
    all_goals
      go_ret
      refine ⟨ret_bool ?_, hb0 _⟩
      unfold P110
      refine dec_of ?_
      first
        | (simp; done)
        | (simp; omega)
        | omega

set_option maxHeartbeats 2000000 in
theorem rpartOk_97 (s : ByteArray) (k l r : Int) (ai : Option Addr) (li ci : Nat) (ap : Option Addr) (lp cp : Nat) (ak : Option Addr) (lk ck : Nat) (ag : Option Addr) (lg cg : Nat) (n : Int) (_h0 : 0 ≤ r) (_h1 : r ≤ 4096) (_hi : li ≤ 1499) (_hp : lp ≤ 1499) (_hk : lk ≤ 1499) (hn : inI n) (w : World) :
    Calls Tryz.prog 50 #[.agg #[.string s, .int .i64 k, .int .i64 l, .int .i64 r, .slice ai li ci, .slice ap lp cp, .slice ak lk ck, .slice ag lg cg], .int .u8 97, .int .i64 n] w fun e w' => e = .returned (.bool (P97 r n li lp lk)) ∧ Below w.heap.size w w' := by
  have hb0 : ∀ ob, Below w.heap.size w (w.alloc ob) := fun ob => (Below.refl _ _).alloc (Nat.le_refl _) ob
  obtain ⟨n0, n1⟩ := hn
  by_cases hz : 0 ≤ n
  · go_enter Tryz.func50, Tryz.ntmps50
    go_wp2
    all_goals
      go_ret
      refine ⟨ret_bool ?_, hb0 _⟩
      unfold P97
      refine dec_of ?_
      first
        | (simp; done)
        | (simp; omega)
        | omega
  · have hz' : n < 0 := by omega
    clear hz
    go_enter Tryz.func50, Tryz.ntmps50
    go_wp2
    all_goals
      go_ret
      refine ⟨ret_bool ?_, hb0 _⟩
      unfold P97
      refine dec_of ?_
      first
        | (simp; done)
        | (simp; omega)
        | omega

set_option maxHeartbeats 2000000 in
theorem rpartOk_98 (s : ByteArray) (k l r : Int) (ai : Option Addr) (li ci : Nat) (ap : Option Addr) (lp cp : Nat) (ak : Option Addr) (lk ck : Nat) (ag : Option Addr) (lg cg : Nat) (n : Int) (_h0 : 0 ≤ r) (_h1 : r ≤ 4096) (_hi : li ≤ 1499) (_hp : lp ≤ 1499) (_hk : lk ≤ 1499) (hn : inI n) (w : World) :
    Calls Tryz.prog 50 #[.agg #[.string s, .int .i64 k, .int .i64 l, .int .i64 r, .slice ai li ci, .slice ap lp cp, .slice ak lk ck, .slice ag lg cg], .int .u8 98, .int .i64 n] w fun e w' => e = .returned (.bool (P98 r n li lp lk)) ∧ Below w.heap.size w w' := by
  have hb0 : ∀ ob, Below w.heap.size w (w.alloc ob) := fun ob => (Below.refl _ _).alloc (Nat.le_refl _) ob
  obtain ⟨n0, n1⟩ := hn
  by_cases hz : 0 ≤ n
  · go_enter Tryz.func50, Tryz.ntmps50
    go_wp2
    all_goals
      go_ret
      refine ⟨ret_bool ?_, hb0 _⟩
      unfold P98
      refine dec_of ?_
      first
        | (simp; done)
        | (simp; omega)
        | omega
  · have hz' : n < 0 := by omega
    clear hz
    go_enter Tryz.func50, Tryz.ntmps50
    go_wp2
    all_goals
      go_ret
      refine ⟨ret_bool ?_, hb0 _⟩
      unfold P98
      refine dec_of ?_
      first
        | (simp; done)
        | (simp; omega)
        | omega

set_option maxHeartbeats 2000000 in
theorem rpartOk_45 (s : ByteArray) (k l r : Int) (ai : Option Addr) (li ci : Nat) (ap : Option Addr) (lp cp : Nat) (ak : Option Addr) (lk ck : Nat) (ag : Option Addr) (lg cg : Nat) (n : Int) (_h0 : 0 ≤ r) (_h1 : r ≤ 4096) (_hi : li ≤ 1499) (_hp : lp ≤ 1499) (_hk : lk ≤ 1499) (hn : inI n) (w : World) :
    Calls Tryz.prog 50 #[.agg #[.string s, .int .i64 k, .int .i64 l, .int .i64 r, .slice ai li ci, .slice ap lp cp, .slice ak lk ck, .slice ag lg cg], .int .u8 45, .int .i64 n] w fun e w' => e = .returned (.bool (P45 r n li lp lk)) ∧ Below w.heap.size w w' := by
  have hb0 : ∀ ob, Below w.heap.size w (w.alloc ob) := fun ob => (Below.refl _ _).alloc (Nat.le_refl _) ob
  obtain ⟨n0, n1⟩ := hn
  by_cases hz : 0 ≤ n
  · go_enter Tryz.func50, Tryz.ntmps50
    go_wp2
    all_goals
      go_ret
      refine ⟨ret_bool ?_, hb0 _⟩
      unfold P45
      refine dec_of ?_
      first
        | (simp; done)
        | (simp; omega)
        | omega
  · have hz' : n < 0 := by omega
    clear hz
    go_enter Tryz.func50, Tryz.ntmps50
    go_wp2
    all_goals
      go_ret
      refine ⟨ret_bool ?_, hb0 _⟩
      unfold P45
      refine dec_of ?_
      first
        | (simp; done)
        | (simp; omega)
        | omega

set_option maxHeartbeats 2000000 in
theorem partIn_111 (s : ByteArray) (k l r : Int) (ai : Option Addr) (li ci : Nat) (bk o : Nat) (lp cp : Nat) (ak : Option Addr) (lk ck : Nat) (ag : Option Addr) (lg cg : Nat) (m : Nat) (kk : Int) (_h0 : 0 ≤ r) (_h1 : r ≤ 4096) (_hi : li ≤ 1499) (hp : lp ≤ 1499) (_hk : lk ≤ 1499) (hm : m < lp) (w : World) (hc : w.cell? ⟨bk, o + m * 3, none⟩ = some (.int .i64 kk)) :
    Calls Tryz.prog 69 #[.agg #[.string s, .int .i64 k, .int .i64 l, .int .i64 r, .slice ai li ci, .slice (some ⟨bk, o, none⟩) lp cp, .slice ak lk ck, .slice ag lg cg], .int .u8 111, .int .i64 m] w fun e w' => e = .returned (.bool (decide (kk = 5))) ∧ Below w.heap.size w w' := by
  have hb0 : ∀ ob, Below w.heap.size w (w.alloc ob) := fun ob => (Below.refl _ _).alloc (Nat.le_refl _) ob
  have hlt := lt_of_cell hc
  have cA := fun ob => cell_old w ob hlt
  have hm0 : (0 : Int) ≤ (m : Int) := Int.natCast_nonneg _
  have hm1 : (m : Int) < (lp : Int) := by omega
  have hm2 : (m : Int) ≤ (lp : Int) - 1 := by omega
  go_enter Tryz.func69, Tryz.ntmps69
  go_wp2
  all_goals
    go_ret
    refine ⟨ret_bool ?_, hb0 _⟩
    first
      | (rw [Bool.eq_iff_iff]; simp; done)
      | (simp; done)

set_option maxHeartbeats 2000000 in
theorem partNo_111 (s : ByteArray) (k l r : Int) (ai : Option Addr) (li ci : Nat) (ap : Option Addr) (lp cp : Nat) (ak : Option Addr) (lk ck : Nat) (ag : Option Addr) (lg cg : Nat) (n : Int) (_h0 : 0 ≤ r) (_h1 : r ≤ 4096) (_hi : li ≤ 1499) (hp : lp ≤ 1499) (_hk : lk ≤ 1499) (hn : inI n) (w : World) (hx : ¬ (0 ≤ n ∧ n < (lp : Int))) :
    Calls Tryz.prog 69 #[.agg #[.string s, .int .i64 k, .int .i64 l, .int .i64 r, .slice ai li ci, .slice ap lp cp, .slice ak lk ck, .slice ag lg cg], .int .u8 111, .int .i64 n] w fun e w' => e = .returned (.bool false) ∧ Below w.heap.size w w' := by
  have hb0 : ∀ ob, Below w.heap.size w (w.alloc ob) := fun ob => (Below.refl _ _).alloc (Nat.le_refl _) ob
  obtain ⟨n0, n1⟩ := hn
  by_cases hz : 0 ≤ n
  · have hz2 : (lp : Int) ≤ n := by omega
    have hz3 : decide (n < (lp : Int)) = false := by simp; omega
    have hz4 : decide (n ≤ (lp : Int) - 1) = false := by simp; omega
    clear hx
    go_enter Tryz.func69, Tryz.ntmps69
    go_wp2
    all_goals
      go_ret
      refine ⟨ret_bool ?_, hb0 _⟩
      first
        | (simp; done)
        | (simp; omega)
        | omega
  · have hz' : n < 0 := by omega
    clear hz hx
    go_enter Tryz.func69, Tryz.ntmps69
    go_wp2
    all_goals
      go_ret
      refine ⟨ret_bool ?_, hb0 _⟩
      first
        | (simp; done)
        | (simp; omega)
        | omega

set_option maxHeartbeats 2000000 in
theorem partIn_103 (s : ByteArray) (k l r : Int) (ai : Option Addr) (li ci : Nat) (ap : Option Addr) (lp cp : Nat) (bk o : Nat) (lk ck : Nat) (ag : Option Addr) (lg cg : Nat) (m : Nat) (kk : Int) (_h0 : 0 ≤ r) (_h1 : r ≤ 4096) (_hi : li ≤ 1499) (_hp : lp ≤ 1499) (hk : lk ≤ 1499) (hm : m < lk) (w : World) (hc : w.cell? ⟨bk, o + m * 3, none⟩ = some (.int .i64 kk)) :
    Calls Tryz.prog 69 #[.agg #[.string s, .int .i64 k, .int .i64 l, .int .i64 r, .slice ai li ci, .slice ap lp cp, .slice (some ⟨bk, o, none⟩) lk ck, .slice ag lg cg], .int .u8 103, .int .i64 m] w fun e w' => e = .returned (.bool (decide (kk = 1))) ∧ Below w.heap.size w w' := by
  have hb0 : ∀ ob, Below w.heap.size w (w.alloc ob) := fun ob => (Below.refl _ _).alloc (Nat.le_refl _) ob
  have hlt := lt_of_cell hc
  have cA := fun ob => cell_old w ob hlt
  have hm0 : (0 : Int) ≤ (m : Int) := Int.natCast_nonneg _
  have hm1 : (m : Int) < (lk : Int) := by omega
  have hm2 : (m : Int) ≤ (lk : Int) - 1 := by omega
  go_enter Tryz.func69, Tryz.ntmps69
  go_wp2
  all_goals
    go_ret
    refine ⟨ret_bool ?_, hb0 _⟩
    first
      | (rw [Bool.eq_iff_iff]; simp; done)
      | (simp; done)

set_option maxHeartbeats 2000000 in
theorem partNo_103 (s : ByteArray) (k l r : Int) (ai : Option Addr) (li ci : Nat) (ap : Option Addr) (lp cp : Nat) (ak : Option Addr) (lk ck : Nat) (ag : Option Addr) (lg cg : Nat) (n : Int) (_h0 : 0 ≤ r) (_h1 : r ≤ 4096) (_hi : li ≤ 1499) (_hp : lp ≤ 1499) (hk : lk ≤ 1499) (hn : inI n) (w : World) (hx : ¬ (0 ≤ n ∧ n < (lk : Int))) :
    Calls Tryz.prog 69 #[.agg #[.string s, .int .i64 k, .int .i64 l, .int .i64 r, .slice ai li ci, .slice ap lp cp, .slice ak lk ck, .slice ag lg cg], .int .u8 103, .int .i64 n] w fun e w' => e = .returned (.bool false) ∧ Below w.heap.size w w' := by
  have hb0 : ∀ ob, Below w.heap.size w (w.alloc ob) := fun ob => (Below.refl _ _).alloc (Nat.le_refl _) ob
  obtain ⟨n0, n1⟩ := hn
  by_cases hz : 0 ≤ n
  · have hz2 : (lk : Int) ≤ n := by omega
    have hz3 : decide (n < (lk : Int)) = false := by simp; omega
    have hz4 : decide (n ≤ (lk : Int) - 1) = false := by simp; omega
    clear hx
    go_enter Tryz.func69, Tryz.ntmps69
    go_wp2
    all_goals
      go_ret
      refine ⟨ret_bool ?_, hb0 _⟩
      first
        | (simp; done)
        | (simp; omega)
        | omega
  · have hz' : n < 0 := by omega
    clear hz hx
    go_enter Tryz.func69, Tryz.ntmps69
    go_wp2
    all_goals
      go_ret
      refine ⟨ret_bool ?_, hb0 _⟩
      first
        | (simp; done)
        | (simp; omega)
        | omega

set_option maxHeartbeats 2000000 in
theorem rpartIn_111 (s : ByteArray) (k l r : Int) (ai : Option Addr) (li ci : Nat) (bk o : Nat) (lp cp : Nat) (ak : Option Addr) (lk ck : Nat) (ag : Option Addr) (lg cg : Nat) (m : Nat) (kk : Int) (_h0 : 0 ≤ r) (_h1 : r ≤ 4096) (_hi : li ≤ 1499) (_hp : lp ≤ 1499) (_hk : lk ≤ 1499) (hm : m < lp) (w : World) (hc : w.cell? ⟨bk, o + m * 3, none⟩ = some (.int .i64 kk)) :
    Calls Tryz.prog 50 #[.agg #[.string s, .int .i64 k, .int .i64 l, .int .i64 r, .slice ai li ci, .slice (some ⟨bk, o, none⟩) lp cp, .slice ak lk ck, .slice ag lg cg], .int .u8 111, .int .i64 m] w fun e w' => e = .returned (.bool (decide (kk = 5))) ∧ Below w.heap.size w w' := by
  have hb0 : ∀ ob, Below w.heap.size w (w.alloc ob) := fun ob => (Below.refl _ _).alloc (Nat.le_refl _) ob
  have hlt := lt_of_cell hc
  have cA := fun ob => cell_old w ob hlt
  have hm0 : (0 : Int) ≤ (m : Int) := Int.natCast_nonneg _
  have hm1 : (m : Int) < (lp : Int) := by omega
  have hm2 : (m : Int) ≤ (lp : Int) - 1 := by omega
  go_enter Tryz.func50, Tryz.ntmps50
  go_wp2
  all_goals
    go_ret
    refine ⟨ret_bool ?_, hb0 _⟩
    first
      | (rw [Bool.eq_iff_iff]; simp; done)
      | (simp; done)

set_option maxHeartbeats 2000000 in
theorem rpartNo_111 (s : ByteArray) (k l r : Int) (ai : Option Addr) (li ci : Nat) (ap : Option Addr) (lp cp : Nat) (ak : Option Addr) (lk ck : Nat) (ag : Option Addr) (lg cg : Nat) (n : Int) (_h0 : 0 ≤ r) (_h1 : r ≤ 4096) (_hi : li ≤ 1499) (_hp : lp ≤ 1499) (_hk : lk ≤ 1499) (hn : inI n) (w : World) (hx : ¬ (0 ≤ n ∧ n < (lp : Int))) :
    Calls Tryz.prog 50 #[.agg #[.string s, .int .i64 k, .int .i64 l, .int .i64 r, .slice ai li ci, .slice ap lp cp, .slice ak lk ck, .slice ag lg cg], .int .u8 111, .int .i64 n] w fun e w' => e = .returned (.bool false) ∧ Below w.heap.size w w' := by
  have hb0 : ∀ ob, Below w.heap.size w (w.alloc ob) := fun ob => (Below.refl _ _).alloc (Nat.le_refl _) ob
  obtain ⟨n0, n1⟩ := hn
  by_cases hz : 0 ≤ n
  · have hz2 : (lp : Int) ≤ n := by omega
    have hz3 : decide (n < (lp : Int)) = false := by simp; omega
    have hz4 : decide (n ≤ (lp : Int) - 1) = false := by simp; omega
    clear hx
    go_enter Tryz.func50, Tryz.ntmps50
    go_wp2
    all_goals
      go_ret
      refine ⟨ret_bool ?_, hb0 _⟩
      first
        | (simp; done)
        | (simp; omega)
        | omega
  · have hz' : n < 0 := by omega
    clear hz hx
    go_enter Tryz.func50, Tryz.ntmps50
    go_wp2
    all_goals
      go_ret
      refine ⟨ret_bool ?_, hb0 _⟩
      first
        | (simp; done)
        | (simp; omega)
        | omega

set_option maxHeartbeats 2000000 in
theorem rpartIn_103 (s : ByteArray) (k l r : Int) (ai : Option Addr) (li ci : Nat) (ap : Option Addr) (lp cp : Nat) (bk o : Nat) (lk ck : Nat) (ag : Option Addr) (lg cg : Nat) (m : Nat) (kk : Int) (_h0 : 0 ≤ r) (_h1 : r ≤ 4096) (_hi : li ≤ 1499) (_hp : lp ≤ 1499) (_hk : lk ≤ 1499) (hm : m < lk) (w : World) (hc : w.cell? ⟨bk, o + m * 3, none⟩ = some (.int .i64 kk)) :
    Calls Tryz.prog 50 #[.agg #[.string s, .int .i64 k, .int .i64 l, .int .i64 r, .slice ai li ci, .slice ap lp cp, .slice (some ⟨bk, o, none⟩) lk ck, .slice ag lg cg], .int .u8 103, .int .i64 m] w fun e w' => e = .returned (.bool (decide (kk = 1))) ∧ Below w.heap.size w w' := by
  have hb0 : ∀ ob, Below w.heap.size w (w.alloc ob) := fun ob => (Below.refl _ _).alloc (Nat.le_refl _) ob
  have hlt := lt_of_cell hc
  have cA := fun ob => cell_old w ob hlt
  have hm0 : (0 : Int) ≤ (m : Int) := Int.natCast_nonneg _
  have hm1 : (m : Int) < (lk : Int) := by omega
  have hm2 : (m : Int) ≤ (lk : Int) - 1 := by omega
  go_enter Tryz.func50, Tryz.ntmps50
  go_wp2
  all_goals
    go_ret
    refine ⟨ret_bool ?_, hb0 _⟩
    first
      | (rw [Bool.eq_iff_iff]; simp; done)
      | (simp; done)

set_option maxHeartbeats 2000000 in
theorem rpartNo_103 (s : ByteArray) (k l r : Int) (ai : Option Addr) (li ci : Nat) (ap : Option Addr) (lp cp : Nat) (ak : Option Addr) (lk ck : Nat) (ag : Option Addr) (lg cg : Nat) (n : Int) (_h0 : 0 ≤ r) (_h1 : r ≤ 4096) (_hi : li ≤ 1499) (_hp : lp ≤ 1499) (_hk : lk ≤ 1499) (hn : inI n) (w : World) (hx : ¬ (0 ≤ n ∧ n < (lk : Int))) :
    Calls Tryz.prog 50 #[.agg #[.string s, .int .i64 k, .int .i64 l, .int .i64 r, .slice ai li ci, .slice ap lp cp, .slice ak lk ck, .slice ag lg cg], .int .u8 103, .int .i64 n] w fun e w' => e = .returned (.bool false) ∧ Below w.heap.size w w' := by
  have hb0 : ∀ ob, Below w.heap.size w (w.alloc ob) := fun ob => (Below.refl _ _).alloc (Nat.le_refl _) ob
  obtain ⟨n0, n1⟩ := hn
  by_cases hz : 0 ≤ n
  · have hz2 : (lk : Int) ≤ n := by omega
    have hz3 : decide (n < (lk : Int)) = false := by simp; omega
    have hz4 : decide (n ≤ (lk : Int) - 1) = false := by simp; omega
    clear hx
    go_enter Tryz.func50, Tryz.ntmps50
    go_wp2
    all_goals
      go_ret
      refine ⟨ret_bool ?_, hb0 _⟩
      first
        | (simp; done)
        | (simp; omega)
        | omega
  · have hz' : n < 0 := by omega
    clear hz hx
    go_enter Tryz.func50, Tryz.ntmps50
    go_wp2
    all_goals
      go_ret
      refine ⟨ret_bool ?_, hb0 _⟩
      first
        | (simp; done)
        | (simp; omega)
        | omega

end Go.Proofs.YtnkidmnddkmilaaGreatDoor
