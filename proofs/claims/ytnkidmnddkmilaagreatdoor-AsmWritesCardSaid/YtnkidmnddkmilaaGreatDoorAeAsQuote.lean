/-
  Quoted texts: literal.Quote and the reference's Quote.
-/
import Derived.Test.YtnkidmnddkmilaaGreatDoorAeAsBase
namespace Go.Proofs.YtnkidmnddkmilaaGreatDoor
open Go.RowKit
set_option maxRecDepth 100000

/-- a hexadecimal digit -/
def hexD (n : Nat) : UInt8 := if n < 10 then UInt8.ofNat (48 + n) else UInt8.ofNat (87 + n)
/-- one byte of a quoted text -/
def escL (c : UInt8) : List UInt8 :=
  if c.toNat = 10 then [92, 110] else if c.toNat = 9 then [92, 116] else if c.toNat = 13 then [92, 114] else if c.toNat = 0 then [92, 48]
  else if c.toNat = 34 ∨ c.toNat = 92 then [92, c] else if c.toNat < 32 ∨ 126 < c.toNat then [92, 120, hexD (c.toNat / 16), hexD (c.toNat % 16)] else [c]
def quoteL (l : List UInt8) : List UInt8 := 34 :: (l.flatMap escL ++ [34])

theorem esc_len (c : UInt8) : (escL c).length ≤ 4 := by
  unfold escL
  repeat' split
  all_goals simp

/-- a builder that holds these bytes -/
structure Bd (B b : Nat) (l : List UInt8) (w : World) : Prop where
  is : Lib.IsBuilder 49 5 B b (Lib.byteCells l) w
  size : B ≤ w.heap.size

theorem ws_ret (B b : Nat) (l : List UInt8) (s : ByteArray) (w : World) (h : Bd B b l w) (hl : l.length + s.size ≤ 140737488355328) :
    Calls Tryz.prog 13 #[.pointer (some ⟨b, 0, none⟩), .string s] w fun e w' => e = .returned (.tuple #[.int .i64 s.size, .nilIface]) ∧ Bd B b (l ++ s.data.toList) w' ∧ Below B w w' := by
  refine (Builder_WriteString B b _ s w h.is (by rw [Lib.byteCells_length]; exact hl) h.size).mono fun e w' he => ?_
  obtain ⟨rfl, h1, h2⟩ := he
  exact ⟨rfl, ⟨Or.inr (by rw [Lib.byteCells_append]; exact h1), Nat.le_trans h.size h2.size⟩, h2⟩

theorem wb_ret (B b : Nat) (l : List UInt8) (x : Int) (c : UInt8) (hx : x = c.toNat) (w : World) (h : Bd B b l w) (hl : l.length + 1 ≤ 140737488355328) :
    Calls Tryz.prog 72 #[.pointer (some ⟨b, 0, none⟩), .int .u8 x] w fun e w' => e = .returned .nilIface ∧ Bd B b (l ++ [c]) w' ∧ Below B w w' := by
  subst hx
  refine (Builder_WriteByte B b _ _ w h.is (by rw [Lib.byteCells_length]; exact hl) h.size).mono fun e w' he => ?_
  obtain ⟨rfl, h1, h2⟩ := he
  exact ⟨rfl, ⟨Or.inr (by rw [Lib.byteCells_append]; exact h1), Nat.le_trans h.size h2.size⟩, h2⟩

theorem escL_1 {c : UInt8} (h : (c.toNat : Int) = 10) : escL c = [92, 110] := by unfold escL; rw [if_pos (by omega)]
theorem escL_2 {c : UInt8} (h : (c.toNat : Int) = 9) : escL c = [92, 116] := by unfold escL; rw [if_neg (by omega), if_pos (by omega)]
theorem escL_3 {c : UInt8} (h : (c.toNat : Int) = 13) : escL c = [92, 114] := by unfold escL; rw [if_neg (by omega), if_neg (by omega), if_pos (by omega)]
theorem escL_4 {c : UInt8} (h : (c.toNat : Int) = 0) : escL c = [92, 48] := by unfold escL; rw [if_neg (by omega), if_neg (by omega), if_neg (by omega), if_pos (by omega)]
theorem escL_5 {c : UInt8} (h : (c.toNat : Int) = 34 ∨ (c.toNat : Int) = 92) : escL c = [92, c] := by unfold escL; rw [if_neg (by omega), if_neg (by omega), if_neg (by omega), if_neg (by omega), if_pos (by omega)]
theorem escL_6 {c : UInt8} (h1 : ¬ (c.toNat : Int) = 10) (h2 : ¬ (c.toNat : Int) = 9) (h3 : ¬ (c.toNat : Int) = 13) (h4 : ¬ (c.toNat : Int) = 0) (h5 : ¬ (c.toNat : Int) = 34) (h6 : ¬ (c.toNat : Int) = 92) (h : (c.toNat : Int) < 32 ∨ 126 < (c.toNat : Int)) : escL c = [92, 120, hexD (c.toNat / 16), hexD (c.toNat % 16)] := by
  unfold escL; rw [if_neg (by omega), if_neg (by omega), if_neg (by omega), if_neg (by omega), if_neg (by omega), if_pos (by omega)]
theorem escL_7 {c : UInt8} (h5 : ¬ (c.toNat : Int) = 34) (h6 : ¬ (c.toNat : Int) = 92) (h : 32 ≤ (c.toNat : Int)) (h' : (c.toNat : Int) ≤ 126) : escL c = [c] := by
  unfold escL; rw [if_neg (by omega), if_neg (by omega), if_neg (by omega), if_neg (by omega), if_neg (by omega), if_neg (by omega)]

theorem byte_hi (c : UInt8) : (c.toNat : Int) ≤ 255 := by have := c.toNat_lt; omega

set_option maxHeartbeats 2000000 in
theorem quoted_10 (B b : Nat) (l : List UInt8) (w : World) (h : Bd B b l w) (hlen : l.length ≤ 100000) :
    Calls Tryz.prog 73 #[.pointer (some ⟨b, 0, none⟩), .int .u8 10] w fun e w' => e = .returned (.tuple #[]) ∧ Bd B b (l ++ [92, 110]) w' ∧ Below B w w' := by
  go_enter Tryz.func73, Tryz.ntmps73
  go_wp2_with (go_at_call 13; refine (ws_ret B b l _ _ (by assumption) (by simp [ByteArray.size]; omega)).mono ?_; rintro e w1 ⟨rfl, h1, hb1⟩)
  go_end0
  exact ⟨rfl, h1, hb1⟩

set_option maxHeartbeats 2000000 in
theorem quoted_9 (B b : Nat) (l : List UInt8) (w : World) (h : Bd B b l w) (hlen : l.length ≤ 100000) :
    Calls Tryz.prog 73 #[.pointer (some ⟨b, 0, none⟩), .int .u8 9] w fun e w' => e = .returned (.tuple #[]) ∧ Bd B b (l ++ [92, 116]) w' ∧ Below B w w' := by
  go_enter Tryz.func73, Tryz.ntmps73
  go_wp2_with (go_at_call 13; refine (ws_ret B b l _ _ (by assumption) (by simp [ByteArray.size]; omega)).mono ?_; rintro e w1 ⟨rfl, h1, hb1⟩)
  go_end0
  exact ⟨rfl, h1, hb1⟩

set_option maxHeartbeats 2000000 in
theorem quoted_13 (B b : Nat) (l : List UInt8) (w : World) (h : Bd B b l w) (hlen : l.length ≤ 100000) :
    Calls Tryz.prog 73 #[.pointer (some ⟨b, 0, none⟩), .int .u8 13] w fun e w' => e = .returned (.tuple #[]) ∧ Bd B b (l ++ [92, 114]) w' ∧ Below B w w' := by
  go_enter Tryz.func73, Tryz.ntmps73
  go_wp2_with (go_at_call 13; refine (ws_ret B b l _ _ (by assumption) (by simp [ByteArray.size]; omega)).mono ?_; rintro e w1 ⟨rfl, h1, hb1⟩)
  go_end0
  exact ⟨rfl, h1, hb1⟩

set_option maxHeartbeats 2000000 in
theorem quoted_0 (B b : Nat) (l : List UInt8) (w : World) (h : Bd B b l w) (hlen : l.length ≤ 100000) :
    Calls Tryz.prog 73 #[.pointer (some ⟨b, 0, none⟩), .int .u8 0] w fun e w' => e = .returned (.tuple #[]) ∧ Bd B b (l ++ [92, 48]) w' ∧ Below B w w' := by
  go_enter Tryz.func73, Tryz.ntmps73
  go_wp2_with (go_at_call 13; refine (ws_ret B b l _ _ (by assumption) (by simp [ByteArray.size]; omega)).mono ?_; rintro e w1 ⟨rfl, h1, hb1⟩)
  go_end0
  exact ⟨rfl, h1, hb1⟩

set_option maxHeartbeats 2000000 in
theorem quoted_34 (B b : Nat) (l : List UInt8) (w : World) (h : Bd B b l w) (hlen : l.length ≤ 100000) :
    Calls Tryz.prog 73 #[.pointer (some ⟨b, 0, none⟩), .int .u8 34] w fun e w' => e = .returned (.tuple #[]) ∧ Bd B b (l ++ [92, 34]) w' ∧ Below B w w' := by
  go_enter Tryz.func73, Tryz.ntmps73
  go_wp2_with (go_at_call 72; refine (wb_ret B b l _ 92 (by rfl) _ (by assumption) (by omega)).mono ?_; rintro e w1 ⟨rfl, h1, hb1⟩)
  go_wp2_with (go_at_call 72; refine (wb_ret B b (l ++ [92]) _ 34 (by rfl) _ (by assumption) (by simp; omega)).mono ?_; rintro e w2 ⟨rfl, h2, hb2⟩)
  go_end0
  exact ⟨rfl, by simpa using h2, hb1.trans hb2⟩

set_option maxHeartbeats 2000000 in
theorem quoted_92 (B b : Nat) (l : List UInt8) (w : World) (h : Bd B b l w) (hlen : l.length ≤ 100000) :
    Calls Tryz.prog 73 #[.pointer (some ⟨b, 0, none⟩), .int .u8 92] w fun e w' => e = .returned (.tuple #[]) ∧ Bd B b (l ++ [92, 92]) w' ∧ Below B w w' := by
  go_enter Tryz.func73, Tryz.ntmps73
  go_wp2_with (go_at_call 72; refine (wb_ret B b l _ 92 (by rfl) _ (by assumption) (by omega)).mono ?_; rintro e w1 ⟨rfl, h1, hb1⟩)
  go_wp2_with (go_at_call 72; refine (wb_ret B b (l ++ [92]) _ 92 (by rfl) _ (by assumption) (by simp; omega)).mono ?_; rintro e w2 ⟨rfl, h2, hb2⟩)
  go_end0
  exact ⟨rfl, by simpa using h2, hb1.trans hb2⟩

set_option maxHeartbeats 2000000 in
theorem quoted_plain (B b : Nat) (l : List UInt8) (c : UInt8) (w : World) (h : Bd B b l w) (hlen : l.length ≤ 100000) (n10 : ((c.toNat : Int) == 10) = false) (n9 : ((c.toNat : Int) == 9) = false) (n13 : ((c.toNat : Int) == 13) = false) (n0 : ((c.toNat : Int) == 0) = false) (n34 : ((c.toNat : Int) == 34) = false) (n92 : ((c.toNat : Int) == 92) = false) (h1 : 32 ≤ (c.toNat : Int)) (h2 : (c.toNat : Int) ≤ 126) :
    Calls Tryz.prog 73 #[.pointer (some ⟨b, 0, none⟩), .int .u8 c.toNat] w fun e w' => e = .returned (.tuple #[]) ∧ Bd B b (l ++ [c]) w' ∧ Below B w w' := by
  go_enter Tryz.func73, Tryz.ntmps73
  go_wp2_with (go_at_call 72; refine (wb_ret B b l _ c (by rfl) _ (by assumption) (by omega)).mono ?_; rintro e w1 ⟨rfl, h1, hb1⟩)
  go_end0
  exact ⟨rfl, by assumption, by assumption⟩

theorem hex_at (k : Nat) (hk : k < 16) : (({ data := #[48, 49, 50, 51, 52, 53, 54, 55, 56, 57, 97, 98, 99, 100, 101, 102] } : ByteArray)[k]'hk) = hexD k := by
  have h : ∀ k : Fin 16, (({ data := #[48, 49, 50, 51, 52, 53, 54, 55, 56, 57, 97, 98, 99, 100, 101, 102] } : ByteArray)[k.val]'k.isLt) = hexD k.val := by decide
  exact h ⟨k, hk⟩

set_option maxHeartbeats 2000000 in
theorem quoted_hex (B b : Nat) (l : List UInt8) (c : UInt8) (w : World) (h : Bd B b l w) (hlen : l.length ≤ 100000) (n10 : ((c.toNat : Int) == 10) = false) (n9 : ((c.toNat : Int) == 9) = false) (n13 : ((c.toNat : Int) == 13) = false) (n0 : ((c.toNat : Int) == 0) = false) (n34 : ((c.toNat : Int) == 34) = false) (n92 : ((c.toNat : Int) == 92) = false) (hh : decide ((c.toNat : Int) < 32) = false) (h3 : 126 < (c.toNat : Int)) (hq : (c.toNat : Int) / 16 < 16) (hr : (c.toNat : Int) % 16 < 16) (hq0 : 0 ≤ (c.toNat : Int) / 16) (hr0 : 0 ≤ (c.toNat : Int) % 16) :
    Calls Tryz.prog 73 #[.pointer (some ⟨b, 0, none⟩), .int .u8 c.toNat] w fun e w' => e = .returned (.tuple #[]) ∧ Bd B b (l ++ [92, 120, hexD (c.toNat / 16), hexD (c.toNat % 16)]) w' ∧ Below B w w' := by
  go_enter Tryz.func73, Tryz.ntmps73
  go_wp2_with (go_at_call 13; refine (ws_ret B b l _ _ (by assumption) (by simp [ByteArray.size]; omega)).mono ?_; rintro e w1 ⟨rfl, h1, hb1⟩)
  go_wp2_with (go_at_call 72; refine (wb_ret B b (l ++ [92, 120]) _ (hexD (c.toNat / 16)) (by rw [hex_at _ (by omega)]) _ (by assumption) (by simp; omega)).mono ?_; rintro e w2 ⟨rfl, h2, hb2⟩)
  go_wp2_with (go_at_call 72; refine (wb_ret B b (l ++ [92, 120] ++ [hexD (c.toNat / 16)]) _ (hexD (c.toNat % 16)) (by rw [hex_at _ (by omega)]) _ (by assumption) (by simp; omega)).mono ?_; rintro e w4 ⟨rfl, h4, hb4⟩)
  go_end0
  exact ⟨rfl, by simpa using h4, (hb1.trans hb2).trans hb4⟩

set_option maxHeartbeats 2000000 in
theorem quoted_ctl (B b : Nat) (l : List UInt8) (c : UInt8) (w : World) (h : Bd B b l w) (hlen : l.length ≤ 100000) (n10 : ((c.toNat : Int) == 10) = false) (n9 : ((c.toNat : Int) == 9) = false) (n13 : ((c.toNat : Int) == 13) = false) (n0 : ((c.toNat : Int) == 0) = false) (n34 : ((c.toNat : Int) == 34) = false) (n92 : ((c.toNat : Int) == 92) = false) (hh : (c.toNat : Int) < 32) (hq : (c.toNat : Int) / 16 < 16) (hr : (c.toNat : Int) % 16 < 16) (hq0 : 0 ≤ (c.toNat : Int) / 16) (hr0 : 0 ≤ (c.toNat : Int) % 16) :
    Calls Tryz.prog 73 #[.pointer (some ⟨b, 0, none⟩), .int .u8 c.toNat] w fun e w' => e = .returned (.tuple #[]) ∧ Bd B b (l ++ [92, 120, hexD (c.toNat / 16), hexD (c.toNat % 16)]) w' ∧ Below B w w' := by
  go_enter Tryz.func73, Tryz.ntmps73
  go_wp2_with (go_at_call 13; refine (ws_ret B b l _ _ (by assumption) (by simp [ByteArray.size]; omega)).mono ?_; rintro e w1 ⟨rfl, h1, hb1⟩)
  go_wp2_with (go_at_call 72; refine (wb_ret B b (l ++ [92, 120]) _ (hexD (c.toNat / 16)) (by rw [hex_at _ (by omega)]) _ (by assumption) (by simp; omega)).mono ?_; rintro e w2 ⟨rfl, h2, hb2⟩)
  go_wp2_with (go_at_call 72; refine (wb_ret B b (l ++ [92, 120] ++ [hexD (c.toNat / 16)]) _ (hexD (c.toNat % 16)) (by rw [hex_at _ (by omega)]) _ (by assumption) (by simp; omega)).mono ?_; rintro e w4 ⟨rfl, h4, hb4⟩)
  go_end0
  exact ⟨rfl, by simpa using h4, (hb1.trans hb2).trans hb4⟩


theorem quoted_ret (B b : Nat) (l : List UInt8) (c : UInt8) (w : World) (h : Bd B b l w) (hlen : l.length ≤ 100000) :
    Calls Tryz.prog 73 #[.pointer (some ⟨b, 0, none⟩), .int .u8 c.toNat] w fun e w' => e = .returned (.tuple #[]) ∧ Bd B b (l ++ escL c) w' ∧ Below B w w' := by
  have hi := byte_hi c
  have ofn : ∀ k : Nat, (hk : k < 256) → (c.toNat : Int) = k → c = UInt8.ofNat k := fun k hk e => by
    apply UInt8.toNat_inj.1
    rw [UInt8.toNat_ofNat_of_lt' (by simpa using hk)]
    omega
  by_cases h10 : (c.toNat : Int) = 10
  · rw [escL_1 h10]; obtain rfl := ofn 10 (by omega) h10; exact quoted_10 B b l w h hlen
  by_cases h9 : (c.toNat : Int) = 9
  · rw [escL_2 h9]; obtain rfl := ofn 9 (by omega) h9; exact quoted_9 B b l w h hlen
  by_cases h13 : (c.toNat : Int) = 13
  · rw [escL_3 h13]; obtain rfl := ofn 13 (by omega) h13; exact quoted_13 B b l w h hlen
  by_cases h0 : (c.toNat : Int) = 0
  · rw [escL_4 h0]; obtain rfl := ofn 0 (by omega) h0; exact quoted_0 B b l w h hlen
  by_cases h34 : (c.toNat : Int) = 34
  · rw [escL_5 (Or.inl h34)]; obtain rfl := ofn 34 (by omega) h34; exact quoted_34 B b l w h hlen
  by_cases h92 : (c.toNat : Int) = 92
  · rw [escL_5 (Or.inr h92)]; obtain rfl := ofn 92 (by omega) h92; exact quoted_92 B b l w h hlen
  have ne : ∀ k : Int, ¬ (c.toNat : Int) = k → ((c.toNat : Int) == k) = false := fun k hk => by simpa using hk
  by_cases h32 : (c.toNat : Int) < 32
  · rw [escL_6 h10 h9 h13 h0 h34 h92 (Or.inl h32)]
    exact quoted_ctl B b l c w h hlen (ne _ h10) (ne _ h9) (ne _ h13) (ne _ h0) (ne _ h34) (ne _ h92) h32 (by omega) (by omega) (by omega) (by omega)
  by_cases h126 : 126 < (c.toNat : Int)
  · rw [escL_6 h10 h9 h13 h0 h34 h92 (Or.inr h126)]
    exact quoted_hex B b l c w h hlen (ne _ h10) (ne _ h9) (ne _ h13) (ne _ h0) (ne _ h34) (ne _ h92) (by simpa using h32) h126 (by omega) (by omega) (by omega) (by omega)
  · rw [escL_7 h34 h92 (by omega) (by omega)]
    exact quoted_plain B b l c w h hlen (ne _ h10) (ne _ h9) (ne _ h13) (ne _ h0) (ne _ h34) (ne _ h92) (by omega) (by omega)

theorem esc_all (l : List UInt8) : (l.flatMap escL).length ≤ 4 * l.length := by
  induction l with
  | nil => simp
  | cons c r ih =>
    have := esc_len c
    simp only [List.flatMap_cons, List.length_append, List.length_cons]
    omega

theorem quote_len (l : List UInt8) : (quoteL l).length ≤ 4 * l.length + 2 := by
  have := esc_all l
  simp only [quoteL, List.length_cons, List.length_append, List.length_nil]
  omega

theorem quote_size (s : ByteArray) (hs : s.size ≤ 1499) : (bs (quoteL s.data.toList)).size ≤ 6000 := by
  have h1 := quote_len s.data.toList
  have e : s.data.toList.length = s.size := by rw [Array.length_toList]; rfl
  rw [bs_size]
  omega

theorem take_snoc (s : ByteArray) (k : Nat) (h : k < s.size) : s.data.toList.take (k + 1) = s.data.toList.take k ++ [s[k]] := by
  rw [List.take_succ_eq_append_getElem (by rw [Array.length_toList]; exact h)]; rfl

/-- a builder that has just been made -/
theorem bd_new (w : World) : Bd w.heap.size w.heap.size [] (w.alloc (.cells #[.pointer none, .slice none 0 0] 49)) := by
  refine ⟨Or.inl ⟨Nat.le_refl _, .slice none 0 0, heap_alloc_new w _, ⟨rfl, .inl ⟨rfl, rfl⟩⟩, by simp [Value.ownBlock]⟩, by simp⟩

set_option maxHeartbeats 2000000 in
theorem quote_ret (s : ByteArray) (hs : s.size ≤ 1499) (w : World) :
    Calls Tryz.prog 40 #[.string s] w fun e w' => e = .returned (.string (bs (quoteL s.data.toList))) ∧ (bs (quoteL s.data.toList)).size ≤ 6000 ∧ Below w.heap.size w w' := by
  have hq := quote_size s hs
  have hn := bd_new w
  have hb0 : Below w.heap.size w (w.alloc (.cells #[.pointer none, .slice none 0 0] 49)) := (Below.refl _ _).alloc (Nat.le_refl _) _
  go_enter Tryz.func40, Tryz.ntmps40
  go_wp2_with (go_at_call 72; refine (wb_ret w.heap.size w.heap.size [] _ 34 (by rfl) _ (by assumption) (by simp)).mono ?_; rintro e w1 ⟨rfl, h1, hb1⟩)
  go_loopw [4, 8] (fun j i W => ∃ k : Nat, k ≤ s.size ∧ i = .int .i64 k ∧ Bd w.heap.size w.heap.size (34 :: (s.data.toList.take k).flatMap escL) W ∧ Below w.heap.size w W) (fun _ i _ => s.size - (intOf i).toNat)
  case atStart => exact ⟨0, Nat.zero_le _, rfl, h1, hb0.trans hb1⟩
  case round =>
    obtain ⟨k, hk, rfl, hbd, hbl⟩ := hrel
    have hl : ((s.data.toList.take k).flatMap escL).length ≤ 4 * k := by
      have h1 := esc_all (s.data.toList.take k)
      have h2 : (s.data.toList.take k).length ≤ k := List.length_take_le _ _
      omega
    by_cases hlt : k < s.size
    · have HS : Hid (34 :: (s.data.toList.take (k + 1)).flatMap escL = (34 :: (s.data.toList.take k).flatMap escL) ++ escL s[k]) := Lib.hid (by rw [take_snoc s k hlt]; simp)
      go_wp2_with (go_at_call 73; refine (quoted_ret w.heap.size w.heap.size (34 :: (s.data.toList.take k).flatMap escL) s[k] _ (by assumption) (by rw [List.length_cons]; omega)).mono ?_; rintro e w2 ⟨rfl, h2, hb2⟩)
      go_roundw
      case rel => exact ⟨k + 1, by omega, by go_num, by rw [HS.out]; exact h2, hbl.trans hb2⟩
      case measure => simp [intOf]; omega
    · have hk' : k = s.size := by omega
      have HT : Hid (s.data.toList.take k = s.data.toList) := Lib.hid (by rw [List.take_of_length_le]; rw [Array.length_toList]; exact Nat.le_of_eq hk'.symm)
      clear hk'
      go_wp2_with (go_at_call 72; refine (wb_ret w.heap.size w.heap.size (34 :: (s.data.toList.take k).flatMap escL) _ 34 (by rfl) _ (by assumption) (by rw [List.length_cons]; omega)).mono ?_; rintro e w2 ⟨rfl, h2, hb2⟩)
      go_wp2_with (go_at_call 20; refine (Builder_String_any w.heap.size w.heap.size (34 :: (s.data.toList.take k).flatMap escL ++ [34]) _ h2.is h2.size).mono ?_; rintro e w4 ⟨rfl, hb4⟩)
      go_ret
      refine ⟨ret_str ?_, hq, (hbl.trans hb2).trans hb4⟩
      show bs _ = bs _
      rw [HT.out]
      rfl

/-- the next byte, as the reference takes it -/
theorem quote_step (s : ByteArray) (k : Nat) (h : k < s.size) : bs (34 :: (s.data.toList.take (k + 1)).flatMap escL) = bs (34 :: (s.data.toList.take k).flatMap escL) ++ bs (escL s[k]) := by
  rw [bs_append, take_snoc s k h]
  congr 1
  simp

theorem ext_one (s : ByteArray) (k : Nat) (h : k < s.size) : s.extract k (k + 1) = bs [s[k]] := by
  apply ByteArray.ext
  apply Array.toList_inj.1
  rw [ByteArray.data_extract, Array.toList_extract]
  have e : s.data.toList.length = s.size := by rw [Array.length_toList]; rfl
  have h1 : (s.data.toList.drop k).take (k + 1 - k) = [s[k]] := by
    rw [List.drop_eq_getElem_cons (by omega), show k + 1 - k = 1 by omega]
    rfl
  rw [List.extract_eq_take_drop, h1]
  rfl

theorem hex_ext (k : Nat) (hk : k < 16) : ({ data := #[48, 49, 50, 51, 52, 53, 54, 55, 56, 57, 97, 98, 99, 100, 101, 102] } : ByteArray).extract k (k + 1) = bs [hexD k] := by
  rw [ext_one _ _ hk, hex_at k hk]

set_option maxHeartbeats 2000000 in
theorem refquote_ret (s : ByteArray) (hs : s.size ≤ 1499) (w : World) :
    Calls Tryz.prog 81 #[.string s] w fun e w' => e = .returned (.string (bs (quoteL s.data.toList))) ∧ (bs (quoteL s.data.toList)).size ≤ 6000 ∧ Below w.heap.size w w' := by
  have hq := quote_size s hs
  go_enter Tryz.func81, Tryz.ntmps81
  go_wp2
  go_loopw [4, 5] (fun o i W => ∃ k : Nat, k ≤ s.size ∧ i = .int .i64 k ∧ o = .string (bs (34 :: (s.data.toList.take k).flatMap escL)) ∧ Below w.heap.size w W) (fun _ i _ => s.size - (intOf i).toNat)
  case atStart => exact ⟨0, Nat.zero_le _, rfl, rfl, Below.refl _ _⟩
  case round =>
    obtain ⟨k, hk, rfl, rfl, hbl⟩ := hrel
    have hl : (bs (34 :: (s.data.toList.take k).flatMap escL)).size ≤ 6000 := by
      have h1 := esc_all (s.data.toList.take k)
      have h2 : (s.data.toList.take k).length ≤ k := List.length_take_le _ _
      rw [bs_size, List.length_cons]
      omega
    by_cases hlt : k < s.size
    · have HS := Lib.hid (quote_step s k hlt)
      have hc0 : (0 : Int) ≤ (s[k].toNat : Int) := by omega
      have hc1 := byte_hi s[k]
      have ne : ∀ k' : Int, ¬ (s[k].toNat : Int) = k' → ((s[k].toNat : Int) == k') = false := fun k' hk => by simpa using hk
      have eq : ∀ k' : Int, (s[k].toNat : Int) = k' → ((s[k].toNat : Int) == k') = true := fun k' hk => by simpa using hk
      by_cases h10 : (s[k].toNat : Int) = 10
      · have e := escL_1 h10
        have HE := Lib.hid e
        have g := eq _ h10
        clear e eq ne h10
        go_wp2
        go_roundw
        case rel => exact ⟨k + 1, by omega, by go_num, congrArg Value.string (by rw [HS.out, HE.out]; rfl), hbl⟩
        case measure => simp [intOf]; omega
      by_cases h9 : (s[k].toNat : Int) = 9
      · have e := escL_2 h9
        have HE := Lib.hid e
        have g := eq _ h9
        have f10 := ne _ h10
        clear e eq ne h10 h9
        go_wp2
        go_roundw
        case rel => exact ⟨k + 1, by omega, by go_num, congrArg Value.string (by rw [HS.out, HE.out]; rfl), hbl⟩
        case measure => simp [intOf]; omega
      by_cases h13 : (s[k].toNat : Int) = 13
      · have e := escL_3 h13
        have HE := Lib.hid e
        have g := eq _ h13
        have f10 := ne _ h10
        have f9 := ne _ h9
        clear e eq ne h10 h9 h13
        go_wp2
        go_roundw
        case rel => exact ⟨k + 1, by omega, by go_num, congrArg Value.string (by rw [HS.out, HE.out]; rfl), hbl⟩
        case measure => simp [intOf]; omega
      by_cases h0 : (s[k].toNat : Int) = 0
      · have e := escL_4 h0
        have HE := Lib.hid e
        have g := eq _ h0
        have f10 := ne _ h10
        have f9 := ne _ h9
        have f13 := ne _ h13
        clear e eq ne h10 h9 h13 h0
        go_wp2
        go_roundw
        case rel => exact ⟨k + 1, by omega, by go_num, congrArg Value.string (by rw [HS.out, HE.out]; rfl), hbl⟩
        case measure => simp [intOf]; omega
      by_cases h5 : (s[k].toNat : Int) = 34 ∨ (s[k].toNat : Int) = 92
      · have e := escL_5 h5
        have HE := Lib.hid e
        have HG : Hid (((s[k].toNat : Int) == 34) = true ∨ ((s[k].toNat : Int) == 34) = false ∧ ((s[k].toNat : Int) == 92) = true) := Lib.hid (by
          by_cases h' : (s[k].toNat : Int) = 34
          · exact Or.inl (eq _ h')
          · exact Or.inr ⟨ne _ h', eq _ (by omega)⟩)
        have f10 := ne _ h10
        have f9 := ne _ h9
        have f13 := ne _ h13
        have f0 := ne _ h0
        clear e eq ne h5 h10 h9 h13 h0
        rcases HG.out with g | ⟨g1, g2⟩
        all_goals
          go_wp2
          go_roundw
          case rel => exact ⟨k + 1, by omega, by go_num, congrArg Value.string (by rw [HS.out, HE.out, ext_one s k hlt]; show bs _ ++ bs [92] ++ bs _ = _; rw [ByteArray.append_assoc, bs_append]; rfl), hbl⟩
          case measure => simp [intOf]; omega
      have h34 : ¬ (s[k].toNat : Int) = 34 := fun h => h5 (Or.inl h)
      have h92 : ¬ (s[k].toNat : Int) = 92 := fun h => h5 (Or.inr h)
      by_cases hp : 32 ≤ (s[k].toNat : Int) ∧ (s[k].toNat : Int) ≤ 126
      · have e := escL_7 h34 h92 hp.1 hp.2
        have HE := Lib.hid e
        obtain ⟨p1, p2⟩ := hp
        have f10 := ne _ h10
        have f9 := ne _ h9
        have f13 := ne _ h13
        have f0 := ne _ h0
        have f34 := ne _ h34
        have f92 := ne _ h92
        clear e eq ne h5 h10 h9 h13 h0 h34 h92
        go_wp2
        go_roundw
        case rel => exact ⟨k + 1, by omega, by go_num, congrArg Value.string (by rw [HS.out, HE.out, ext_one s k hlt]), hbl⟩
        case measure => simp [intOf]; omega
      · have HE := Lib.hid (escL_6 h10 h9 h13 h0 h34 h92 (by omega))
        have f10 := ne _ h10
        have f9 := ne _ h9
        have f13 := ne _ h13
        have f0 := ne _ h0
        have f34 := ne _ h34
        have f92 := ne _ h92
        have hq1 : (s[k].toNat : Int) / 16 < 16 := by omega
        have hq0 : 0 ≤ (s[k].toNat : Int) / 16 := by omega
        have hr1 : (s[k].toNat : Int) % 16 < 16 := by omega
        have hr0 : 0 ≤ (s[k].toNat : Int) % 16 := by omega
        clear eq ne h5 h10 h9 h13 h0 h34 h92
        by_cases h32 : (s[k].toNat : Int) < 32
        · clear hp
          go_wp2_with (fail)
          go_quiet (fail)
          go_wp2
          go_roundw
          case rel => exact ⟨k + 1, by omega, by go_num, congrArg Value.string (by rw [HS.out, HE.out, hex_ext _ (by omega), hex_ext _ (by omega)]; show bs _ ++ bs [92, 120] ++ bs _ ++ bs _ = _; rw [ByteArray.append_assoc, ByteArray.append_assoc, bs_append, bs_append]; rfl), below_drewN hbl _⟩
          case measure => simp [intOf]; omega
        · have h126 : decide ((s[k].toNat : Int) ≤ 126) = false := by simp; omega
          have h33 : 32 ≤ (s[k].toNat : Int) := by omega
          clear hp h32
          go_wp2_with (fail)
          go_quiet (fail)
          go_wp2
          go_roundw
          case rel => exact ⟨k + 1, by omega, by go_num, congrArg Value.string (by rw [HS.out, HE.out, hex_ext _ (by omega), hex_ext _ (by omega)]; show bs _ ++ bs [92, 120] ++ bs _ ++ bs _ = _; rw [ByteArray.append_assoc, ByteArray.append_assoc, bs_append, bs_append]; rfl), below_drewN hbl _⟩
          case measure => simp [intOf]; omega
    · have hk' : k = s.size := by omega
      have HT : Hid (s.data.toList.take k = s.data.toList) := Lib.hid (by rw [List.take_of_length_le]; rw [Array.length_toList]; exact Nat.le_of_eq hk'.symm)
      clear hk'
      go_wp2
      go_ret
      refine ⟨ret_str ?_, hq, hbl⟩
      rw [HT.out]
      exact bs_append _ [34]

end Go.Proofs.YtnkidmnddkmilaaGreatDoor
