/-
  Constants and keys as text.
-/
import Derived.Test.YtnkidmnddkmilaaGreatDoorAeAsQuote
import Derived.Test.YtnkidmnddkmilaaGreatDoorAeAsRefPart
namespace Go.Proofs.YtnkidmnddkmilaaGreatDoor
open Go.RowKit
set_option maxRecDepth 100000

structure ValL where
  k : Int
  n : Int
  s : ByteArray
structure KeyL where
  k : Int
  n : Int
  s : ByteArray

/-- a constant, as text -/
def constL (v : ValL) : List UInt8 :=
  if v.k = 0 then [117, 110, 100, 101, 102, 105, 110, 101, 100]
  else if v.k = 1 then [110, 117, 108, 108]
  else if v.k = 2 then (if v.n = 1 then [116, 114, 117, 101] else [102, 97, 108, 115, 101])
  else if v.k = 8 then [104, 111, 108, 101]
  else if v.k = 5 then quoteL v.s.data.toList
  else if v.k = 4 then [78, 97, 78]
  else Lib.itoa v.n
/-- a key, as text -/
def keyL (v : KeyL) : List UInt8 :=
  if v.k = 0 then Lib.itoa v.n
  else if v.k = 1 then quoteL v.s.data.toList
  else 35 :: Lib.itoa v.n

def cV (k n : Int) (s : ByteArray) : Value := .agg #[.int .i64 k, .int .i64 n, .string s]

/-- which constants are right -/
def okK (k n : Int) : Prop := (k = 0 ∨ k = 1 ∨ k = 3 ∨ k = 4 ∨ k = 5 ∨ k = 8) ∨ (k = 2 ∧ (n = 0 ∨ n = 1))

theorem true_0 : (if (0 : Int) = 1 then [116, 114, 117, 101] else [102, 97, 108, 115, 101] : List UInt8) = [102, 97, 108, 115, 101] := rfl

theorem fmt_ret (b : Bool) (w : World) : Calls Tryz.prog 42 #[.bool b] w fun e w' => e = .returned (.string (bs (if b then [116, 114, 117, 101] else [102, 97, 108, 115, 101]))) ∧ w = w' := by
  refine (strconv_FormatBool b w).mono fun e w' he => ?_
  obtain ⟨rfl, rfl⟩ := he
  cases b <;> exact ⟨rfl, rfl⟩

set_option maxHeartbeats 1000000 in
theorem constant_ret (k n : Int) (s : ByteArray) (hk : okK k n) (hn : inI n) (hs : s.size ≤ 1499) (w : World) (hG : G w) :
    Calls Tryz.prog 16 #[.agg #[.int .i64 k, .int .i64 n, .string s]] w fun e w' => e = .returned (.string (bs (constL ⟨k, n, s⟩))) ∧ Below w.heap.size w w' := by
  have hb0 : ∀ ob, Below w.heap.size w (w.alloc ob) := fun ob => (Below.refl _ _).alloc (Nat.le_refl _) ob
  have hG0 : ∀ ob, G (w.alloc ob) := fun ob => hG.below (hb0 ob) hG.size
  rcases hk with (rfl | rfl | rfl | rfl | rfl | rfl) | ⟨rfl, rfl | rfl⟩
  all_goals
    go_enter Tryz.func16, Tryz.ntmps16
    go_wp2_with (first
      | (go_at_call 41; refine (itoa_ret n hn _ (hG0 _)).mono ?_; rintro e w1 ⟨rfl, hsz, hbel⟩)
      | (go_at_call 40; refine (quote_ret s hs _).mono ?_; rintro e w1 ⟨rfl, hsz, hbel⟩)
      | (go_at_call 42; refine (fmt_ret _ _).mono ?_; rintro e w1 ⟨rfl, rfl⟩))
    go_ret
    refine ⟨ret_str rfl, ?_⟩
    first
      | exact hb0 _
      | exact (hb0 _).trans (hbel.mono (hb0 _).size)
      | exact (hb0 _).alloc (hb0 _).size _

set_option maxHeartbeats 1000000 in
theorem rconstant_ret (k n : Int) (s : ByteArray) (hk : okK k n) (hn : inI n) (hs : s.size ≤ 1499) (w : World) :
    Calls Tryz.prog 52 #[.agg #[.int .i64 k, .int .i64 n, .string s]] w fun e w' => e = .returned (.string (bs (constL ⟨k, n, s⟩))) ∧ Below w.heap.size w w' := by
  have hb0 : ∀ ob, Below w.heap.size w (w.alloc ob) := fun ob => (Below.refl _ _).alloc (Nat.le_refl _) ob
  have a0 : bits .and .i64 0 1 = 0 := i64_and1 0
  have a1 : bits .and .i64 1 1 = 1 := i64_and1 1
  rcases hk with (rfl | rfl | rfl | rfl | rfl | rfl) | ⟨rfl, rfl | rfl⟩
  all_goals
    go_enter Tryz.func52, Tryz.ntmps52
    go_wp2_with (first
      | (go_at_call 82; refine (digits_ret n hn _).mono ?_; rintro e w1 ⟨rfl, hsz, hbel⟩)
      | (go_at_call 81; refine (refquote_ret s hs _).mono ?_; rintro e w1 ⟨rfl, hsz, hbel⟩))
    go_ret
    refine ⟨ret_str rfl, ?_⟩
    first
      | exact hb0 _
      | exact (hb0 _).trans (hbel.mono (hb0 _).size)
      | exact (hb0 _).alloc (hb0 _).size _

set_option maxHeartbeats 1000000 in
theorem keyed_ret (k n : Int) (s : ByteArray) (hk : k = 0 ∨ k = 1 ∨ k = 2) (hn : inI n) (hs : s.size ≤ 1499) (w : World) (hG : G w) :
    Calls Tryz.prog 17 #[.agg #[.int .i64 k, .int .i64 n, .string s]] w fun e w' => e = .returned (.string (bs (keyL ⟨k, n, s⟩))) ∧ Below w.heap.size w w' := by
  have hb0 : ∀ ob, Below w.heap.size w (w.alloc ob) := fun ob => (Below.refl _ _).alloc (Nat.le_refl _) ob
  have hG0 : ∀ ob, G (w.alloc ob) := fun ob => hG.below (hb0 ob) hG.size
  rcases hk with rfl | rfl | rfl
  all_goals
    go_enter Tryz.func17, Tryz.ntmps17
    go_wp2_with (first
      | (go_at_call 41; refine (itoa_ret n hn _ (hG0 _)).mono ?_; rintro e w1 ⟨rfl, hsz, hbel⟩)
      | (go_at_call 40; refine (quote_ret s hs _).mono ?_; rintro e w1 ⟨rfl, hsz, hbel⟩))
    go_ret
    refine ⟨?_, (hb0 _).trans (hbel.mono (hb0 _).size)⟩
    first
      | exact ret_str rfl
      | exact ret_str (bs_append [35] _)

set_option maxHeartbeats 1000000 in
theorem rkey_ret (k n : Int) (s : ByteArray) (hk : k = 0 ∨ k = 1 ∨ k = 2) (hn : inI n) (hs : s.size ≤ 1499) (w : World) :
    Calls Tryz.prog 53 #[.agg #[.int .i64 k, .int .i64 n, .string s]] w fun e w' => e = .returned (.string (bs (keyL ⟨k, n, s⟩))) ∧ Below w.heap.size w w' := by
  have hb0 : ∀ ob, Below w.heap.size w (w.alloc ob) := fun ob => (Below.refl _ _).alloc (Nat.le_refl _) ob
  rcases hk with rfl | rfl | rfl
  all_goals
    go_enter Tryz.func53, Tryz.ntmps53
    go_wp2_with (first
      | (go_at_call 82; refine (digits_ret n hn _).mono ?_; rintro e w1 ⟨rfl, hsz, hbel⟩)
      | (go_at_call 81; refine (refquote_ret s hs _).mono ?_; rintro e w1 ⟨rfl, hsz, hbel⟩))
    go_ret
    refine ⟨?_, (hb0 _).trans (hbel.mono (hb0 _).size)⟩
    first
      | exact ret_str rfl
      | exact ret_str (bs_append [35] _)

end Go.Proofs.YtnkidmnddkmilaaGreatDoor
