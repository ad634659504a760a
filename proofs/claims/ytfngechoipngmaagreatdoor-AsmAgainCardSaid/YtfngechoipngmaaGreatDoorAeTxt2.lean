/-
  The parser of quoted texts.
  Quoted texts: literal.Quote and the reference's Quote.
  A quoted text, as it is read and checked.
  A property key of a text.
  The first line of a code, as it is read.
-/
import Derived.Laws.IdiomStrings
import Derived.Test.YtfngechoipngmaaGreatDoorAeTxt1
import Derived.Laws.ResultCell
namespace Go.Proofs.YtfngechoipngmaaGreatDoor
open Go.RowKit
set_option maxRecDepth 100000

theorem byteInfoB : (Tryz.prog.info? 5).map (fun i => (i.zero, i.size, i.bytes)) = some (some (.int .u8 0), 1, 1) := by kernel_rfl

def byteRow (l : List UInt8) : List Value := l.map fun b => Value.int .u8 (b.toNat : Int)

/-- a row of bytes as text -/
theorem conv_bytes {W : World} {base : Nat} {v : Value} {l : List UInt8} (h : W.ownsRow base 5 1 v l.length (byteRow l)) :
    (convert 49 9 v).run Tryz.prog W = .ok (.string ⟨l.toArray⟩) W := by
  rcases h.2 with ⟨rfl, hn⟩ | ⟨g, cap, cur, rfl, hb, hg, _⟩
  · have : l = [] := List.eq_nil_of_length_eq_zero hn
    subst this
    simp only [convert, Sem.run_bind, run_underlying Tryz.underlying49, run_underlying Tryz.underlying9, run_underlying Tryz.underlying5, Result.andThen_ok]
    rfl
  · refine run_convert_bytes_back (P := Tryz.prog) W 49 9 5 ⟨g, 0, none⟩ cap l Tryz.underlying49 Tryz.underlying5 Tryz.underlying9 (fun j hj => ?_)
    exact h.cells (g := g) rfl j _ (by simp [byteRow, List.getElem?_eq_getElem hj])

theorem own_slice {W : World} {base : Nat} {e : TypeId} {size n : Nat} {v : Value} {xs : List Value} (h : W.ownsRow base e size v n xs) (hn : 0 < n) : ∃ g cap, v = .slice (some ⟨g, 0, none⟩) n cap := by
  rcases h.2 with ⟨_, h0⟩ | ⟨g, cap, _, hv, _⟩
  · omega
  · exact ⟨g, cap, hv⟩

theorem tmp_cells (w : World) (cs : Array Value) (T : TypeId) : ∀ (j : Nat) u, cs.toList[j]? = some u → (w.alloc (.cells cs T)).cell? ((⟨w.heap.size, 0, none⟩ : Addr).add j) = some u := by
  intro j u h
  have e : (⟨w.heap.size, 0, none⟩ : Addr).add j = ⟨w.heap.size, j, none⟩ := by unfold Addr.add; split <;> simp_all
  rw [e, World.cell?_alloc_mark w cs T (0, 0) j]
  simpa using h

theorem one_u8 (d : Int) : ∀ u ∈ [Value.int .u8 d], u.oneCell' = true := by
  intro u hu
  rw [List.mem_singleton.1 hu]
  rfl

theorem byteRow_snoc (L : List UInt8) {d : Int} (hd : isB d) : byteRow L ++ [.int .u8 d] = byteRow (L ++ [UInt8.ofNat d.toNat]) := by
  unfold byteRow
  rw [List.map_append]
  have hx : ((UInt8.ofNat d.toNat).toNat : Int) = d := by
    rw [UInt8.toNat_ofNat']
    have := hd.1
    have := hd.2
    omega
  simp only [List.map_cons, List.map_nil, hx]

/-- a text of at most 65536 bytes, and two numbers -/
structure RetT (e : Ending) : Prop where
  ex : ∃ (t : ByteArray) (to er : Int), e = .returned (.tuple #[.string t, .int .i64 to, .int .i64 er]) ∧ t.size ≤ 65536 ∧ inI to ∧ inI er
theorem RetT.mk' {t : ByteArray} {to er : Int} (h : t.size ≤ 65536) (h1 : -9223372036854775808 ≤ to) (h2 : to ≤ 9223372036854775807) (h3 : inI er) : RetT (.returned (.tuple #[.string t, .int .i64 to, .int .i64 er])) := ⟨t, to, er, rfl, h, ⟨h1, h2⟩, h3⟩

set_option maxHeartbeats 8000000 in
theorem read_ret (s : ByteArray) (hs : s.size ≤ 400000) (w : World) :
    Calls Tryz.prog 117 #[.string s, .int .i64 0] w fun e w' => RetT e ∧ Below w.heap.size w w' := by
  have HZ : Hid (∀ er, 0 ≤ er → er ≤ 100 → RetT (.returned (.tuple #[.string ⟨#[]⟩, .int .i64 0, .int .i64 er]))) := Lib.hid fun er h1 h2 => RetT.mk' (by decide) (by decide) (by decide) (by unfold inI; omega)
  by_cases h0 : s.size = 0
  · have h0' : (s.size : Int) ≤ 0 := by omega
    go_enter Tryz.func117, Tryz.ntmps117
    go_wp2
    go_ret3
    exact ⟨HZ.out 1 (by decide) (by decide), Below.refl _ _⟩
  · have h1 : 0 < s.size := by omega
    have h1' : (0 : Int) < (s.size : Int) := by omega
    obtain ⟨i0, hi, hz0, hz1, hz2⟩ := info_parts byteInfoB
    have HO := Lib.hid (one_ret s)
    go_enter Tryz.func117, Tryz.ntmps117
    go_wp2
    all_goals first | (go_ret3; exact ⟨HZ.out 1 (by decide) (by decide), Below.refl _ _⟩) | skip
    all_goals
      go_loopw [7, 8] (fun v i W => ∃ (m : Nat) (L : List UInt8), 1 ≤ m ∧ m ≤ s.size + 5 ∧ i = .int .i64 m ∧ Hid (W.ownsRow w.heap.size 5 1 v L.length (byteRow L)) ∧ L.length ≤ 65536 ∧ Hid (Below w.heap.size w W)) (fun _ i _ => s.size + 6 - (intOf i).toNat)
      case atStart => exact ⟨1, [], Nat.le_refl _, by omega, rfl, Lib.hid (World.ownsRow_nil _ _ _ _), by simp, Lib.hid (Below.refl _ _)⟩
      case round =>
        obtain ⟨m, L, hm1, hm, rfl, hown, hL, hbl⟩ := hrel
        have hm0 : (0 : Int) ≤ (m : Int) := Int.natCast_nonneg _
        by_cases hml : m < s.size
        · have hml' : (m : Int) < (s.size : Int) := by omega
          have HM := Lib.hid (HO.out m hs hml)
          have HD : Hid (∀ j, (wr.drewN j).ownsRow w.heap.size 5 1 u7 L.length (byteRow L) ∧ Below w.heap.size w (wr.drewN j)) := Lib.hid fun j => ⟨hown.out.kept (grown_drewN wr j none) (by cases u7.ownBlock <;> simp), ⟨hbl.out.os, hbl.out.tape, hbl.out.output, hbl.out.size, hbl.out.block⟩⟩
          go_wp2
          go_quiet (fail)
          have HD1 := Lib.hid (HD.out nq)
          clear HD hown hbl
          generalize wr.drewN nq = W1 at *
          have hcv := conv_bytes HD1.out.1
          have HL1 : Hid (L.length + 1 ≤ maxLen) := Lib.hid (by unfold maxLen; omega)
          have HL2 : Hid ((L.length + 1) * 1 ≤ 140737488355328) := Lib.hid (by omega)
          have HSZ : Hid (∀ W, Below w.heap.size w W → ∀ ob, w.heap.size ≤ (W.alloc ob).heap.size) := Lib.hid fun W h ob => Nat.le_trans h.size (by simp)
          have HLS : Hid ((⟨L.toArray⟩ : ByteArray).size ≤ 65536) := Lib.hid hL
          have HI0 : Hid (inI 0) := Lib.hid (by unfold inI; omega)
          by_cases hbig : L.length < 65536
          · have hb1 : ¬ ((65536 : Int) < (L.length : Int) + 1) := by omega
            go_wp2_with (first
              | (simp only)
              | (go_at_call 128; refine (HM.out _).mono ?_; rintro e w1 ⟨hr, rfl⟩; obtain ⟨d, to, er, rfl, hd, hto, hti, hei⟩ := hr.ex)
              | (at_builtin; refine wpList_append_place rfl _ _ _ rfl w.heap.size 5 i0 (.int .u8 0) 1 1 Tryz.underlying49 hi hz0 hz1 hz2 rfl (by decide) _ _ _ rfl (HD1.out.1.alloc _) _ 1 _ [.int .u8 d] rfl rfl (tmp_cells _ _ _) (one_u8 d) HL1.out HL2.out (HSZ.out _ HD1.out.2 _) (by decide) ?_; intro v' w2 hown' hgr' hpl; obtain ⟨g, cp, rfl⟩ := own_slice hown' (Nat.succ_pos _); have hown2 := Lib.hid hown'; have hgr2 := Lib.hid hgr'; clear hpl hown' hgr'))
            all_goals first
              | (go_ret3; exact ⟨HZ.out 22 (by decide) (by decide), HD1.out.2⟩)
              | (go_ret3; exact ⟨RetT.mk' HLS.out (by omega) (by omega) HI0.out, HD1.out.2⟩)
              | (go_ret3; exact ⟨RetT.mk' (by decide) (by decide) (by decide) hei, HD1.out.2⟩)
              | (go_ret3; exact ⟨HZ.out 9 (by decide) (by decide), (HD1.out.2.alloc HD1.out.2.size _).grown hgr2.out (HSZ.out _ HD1.out.2 _) (fun k hk => (HD1.out.1.lt k hk).1)⟩)
              | skip
            all_goals
              have he0 : er = 0 := by simpa using ‹(er != 0) = false›
              have hn := hto he0
              obtain ⟨n1, n2⟩ := hn
              refine ⟨⟨to.toNat, L ++ [UInt8.ofNat d.toNat], by omega, by omega, by congr 1; omega, Lib.hid ?_, by rw [List.length_append, List.length_singleton]; omega, Lib.hid ((HD1.out.2.alloc HD1.out.2.size _).grown hgr2.out (HSZ.out _ HD1.out.2 _) (fun k hk => (HD1.out.1.lt k hk).1))⟩, by simp only [intOf]; omega⟩
              rw [List.length_append, List.length_singleton, ← byteRow_snoc L hd]
              exact hown2.out
          · have hb1 : (65536 : Int) < (L.length : Int) + 1 := by omega
            go_wp2_with (first
              | (simp only)
              | (go_at_call 128; refine (HM.out _).mono ?_; rintro e w1 ⟨hr, rfl⟩; obtain ⟨d, to, er, rfl, hd, hto, hti, hei⟩ := hr.ex)
              | (at_builtin; refine wpList_append_place rfl _ _ _ rfl w.heap.size 5 i0 (.int .u8 0) 1 1 Tryz.underlying49 hi hz0 hz1 hz2 rfl (by decide) _ _ _ rfl (HD1.out.1.alloc _) _ 1 _ [.int .u8 d] rfl rfl (tmp_cells _ _ _) (one_u8 d) HL1.out HL2.out (HSZ.out _ HD1.out.2 _) (by decide) ?_; intro v' w2 hown' hgr' hpl; obtain ⟨g, cp, rfl⟩ := own_slice hown' (Nat.succ_pos _); have hown2 := Lib.hid hown'; have hgr2 := Lib.hid hgr'; clear hpl hown' hgr'))
            all_goals first
              | (go_ret3; exact ⟨HZ.out 22 (by decide) (by decide), HD1.out.2⟩)
              | (go_ret3; exact ⟨RetT.mk' HLS.out (by omega) (by omega) HI0.out, HD1.out.2⟩)
              | (go_ret3; exact ⟨RetT.mk' (by decide) (by decide) (by decide) hei, HD1.out.2⟩)
              | (go_ret3; exact ⟨HZ.out 9 (by decide) (by decide), (HD1.out.2.alloc HD1.out.2.size _).grown hgr2.out (HSZ.out _ HD1.out.2 _) (fun k hk => (HD1.out.1.lt k hk).1)⟩)
        · have hml' : ¬ (m : Int) < (s.size : Int) := by omega
          go_wp2
          go_ret3
          exact ⟨HZ.out 8 (by decide) (by decide), hbl.out⟩

end Go.Proofs.YtfngechoipngmaaGreatDoor

namespace Go.Proofs.YtfngechoipngmaaGreatDoor
open Go.RowKit
set_option maxRecDepth 100000

/-- a hexadecimal digit -/
def hexD (n : Nat) : UInt8 := if n < 10 then UInt8.ofNat (48 + n) else UInt8.ofNat (87 + n)
/-- one byte of a quoted text -/
def escL (c : UInt8) : List UInt8 :=
  if c.toNat = 10 then [92, 110] else if c.toNat = 9 then [92, 116] else if c.toNat = 13 then [92, 114] else if c.toNat = 0 then [92, 48]
  else if c.toNat = 34 ∨ c.toNat = 92 then [92, c] else if c.toNat < 32 ∨ 126 < c.toNat then [92, 120, hexD (c.toNat / 16), hexD (c.toNat % 16)] else [c]
def quoteL (l : List UInt8) : List UInt8 := 34 :: (l.flatMap escL ++ [34])

theorem esc_len (c : UInt8) : (escL c).length ≤ 4 := by
  unfold escL
  repeat' split
  all_goals simp

/-- a builder that holds these bytes -/
structure Bd (B b : Nat) (l : List UInt8) (w : World) : Prop where
  is : Lib.IsBuilder 51 5 B b (Lib.byteCells l) w
  size : B ≤ w.heap.size

theorem ws_ret (B b : Nat) (l : List UInt8) (s : ByteArray) (w : World) (h : Bd B b l w) (hl : l.length + s.size ≤ 140737488355328) :
    Calls Tryz.prog 14 #[.pointer (some ⟨b, 0, none⟩), .string s] w fun e w' => e = .returned (.tuple #[.int .i64 s.size, .nilIface]) ∧ Bd B b (l ++ s.data.toList) w' ∧ Below B w w' := by
  refine (Builder_WriteString B b _ s w h.is (by rw [Lib.byteCells_length]; exact hl) h.size).mono fun e w' he => ?_
  obtain ⟨rfl, h1, h2⟩ := he
  exact ⟨rfl, ⟨Or.inr (by rw [Lib.byteCells_append]; exact h1), Nat.le_trans h.size h2.size⟩, h2⟩

theorem wb_ret (B b : Nat) (l : List UInt8) (x : Int) (c : UInt8) (hx : x = c.toNat) (w : World) (h : Bd B b l w) (hl : l.length + 1 ≤ 140737488355328) :
    Calls Tryz.prog 73 #[.pointer (some ⟨b, 0, none⟩), .int .u8 x] w fun e w' => e = .returned .nilIface ∧ Bd B b (l ++ [c]) w' ∧ Below B w w' := by
  subst hx
  refine (Builder_WriteByte B b _ _ w h.is (by rw [Lib.byteCells_length]; exact hl) h.size).mono fun e w' he => ?_
  obtain ⟨rfl, h1, h2⟩ := he
  exact ⟨rfl, ⟨Or.inr (by rw [Lib.byteCells_append]; exact h1), Nat.le_trans h.size h2.size⟩, h2⟩

theorem escL_1 {c : UInt8} (h : (c.toNat : Int) = 10) : escL c = [92, 110] := by unfold escL; rw [if_pos (by omega)]
theorem escL_2 {c : UInt8} (h : (c.toNat : Int) = 9) : escL c = [92, 116] := by unfold escL; rw [if_neg (by omega), if_pos (by omega)]
theorem escL_3 {c : UInt8} (h : (c.toNat : Int) = 13) : escL c = [92, 114] := by unfold escL; rw [if_neg (by omega), if_neg (by omega), if_pos (by omega)]
theorem escL_4 {c : UInt8} (h : (c.toNat : Int) = 0) : escL c = [92, 48] := by unfold escL; rw [if_neg (by omega), if_neg (by omega), if_neg (by omega), if_pos (by omega)]
theorem escL_5 {c : UInt8} (h : (c.toNat : Int) = 34 ∨ (c.toNat : Int) = 92) : escL c = [92, c] := by unfold escL; rw [if_neg (by omega), if_neg (by omega), if_neg (by omega), if_neg (by omega), if_pos (by omega)]
theorem escL_6 {c : UInt8} (h1 : ¬ (c.toNat : Int) = 10) (h2 : ¬ (c.toNat : Int) = 9) (h3 : ¬ (c.toNat : Int) = 13) (h4 : ¬ (c.toNat : Int) = 0) (h5 : ¬ (c.toNat : Int) = 34) (h6 : ¬ (c.toNat : Int) = 92) (h : (c.toNat : Int) < 32 ∨ 126 < (c.toNat : Int)) : escL c = [92, 120, hexD (c.toNat / 16), hexD (c.toNat % 16)] := by
  unfold escL; rw [if_neg (by omega), if_neg (by omega), if_neg (by omega), if_neg (by omega), if_neg (by omega), if_pos (by omega)]
theorem escL_7 {c : UInt8} (h5 : ¬ (c.toNat : Int) = 34) (h6 : ¬ (c.toNat : Int) = 92) (h : 32 ≤ (c.toNat : Int)) (h' : (c.toNat : Int) ≤ 126) : escL c = [c] := by
  unfold escL; rw [if_neg (by omega), if_neg (by omega), if_neg (by omega), if_neg (by omega), if_neg (by omega), if_neg (by omega)]

theorem byte_hi (c : UInt8) : (c.toNat : Int) ≤ 255 := by have := c.toNat_lt; omega

set_option maxHeartbeats 2000000 in
theorem quoted_10 (B b : Nat) (l : List UInt8) (w : World) (h : Bd B b l w) (hlen : l.length ≤ 1000000) :
    Calls Tryz.prog 74 #[.pointer (some ⟨b, 0, none⟩), .int .u8 10] w fun e w' => e = .returned (.tuple #[]) ∧ Bd B b (l ++ [92, 110]) w' ∧ Below B w w' := by
  go_enter Tryz.func74, Tryz.ntmps74
  go_wp2_with (go_at_call 14; refine (ws_ret B b l _ _ (by assumption) (by simp [ByteArray.size]; omega)).mono ?_; rintro e w1 ⟨rfl, h1, hb1⟩)
  go_end0
  exact ⟨rfl, h1, hb1⟩

set_option maxHeartbeats 2000000 in
theorem quoted_9 (B b : Nat) (l : List UInt8) (w : World) (h : Bd B b l w) (hlen : l.length ≤ 1000000) :
    Calls Tryz.prog 74 #[.pointer (some ⟨b, 0, none⟩), .int .u8 9] w fun e w' => e = .returned (.tuple #[]) ∧ Bd B b (l ++ [92, 116]) w' ∧ Below B w w' := by
  go_enter Tryz.func74, Tryz.ntmps74
  go_wp2_with (go_at_call 14; refine (ws_ret B b l _ _ (by assumption) (by simp [ByteArray.size]; omega)).mono ?_; rintro e w1 ⟨rfl, h1, hb1⟩)
  go_end0
  exact ⟨rfl, h1, hb1⟩

set_option maxHeartbeats 2000000 in
theorem quoted_13 (B b : Nat) (l : List UInt8) (w : World) (h : Bd B b l w) (hlen : l.length ≤ 1000000) :
    Calls Tryz.prog 74 #[.pointer (some ⟨b, 0, none⟩), .int .u8 13] w fun e w' => e = .returned (.tuple #[]) ∧ Bd B b (l ++ [92, 114]) w' ∧ Below B w w' := by
  go_enter Tryz.func74, Tryz.ntmps74
  go_wp2_with (go_at_call 14; refine (ws_ret B b l _ _ (by assumption) (by simp [ByteArray.size]; omega)).mono ?_; rintro e w1 ⟨rfl, h1, hb1⟩)
  go_end0
  exact ⟨rfl, h1, hb1⟩

set_option maxHeartbeats 2000000 in
theorem quoted_0 (B b : Nat) (l : List UInt8) (w : World) (h : Bd B b l w) (hlen : l.length ≤ 1000000) :
    Calls Tryz.prog 74 #[.pointer (some ⟨b, 0, none⟩), .int .u8 0] w fun e w' => e = .returned (.tuple #[]) ∧ Bd B b (l ++ [92, 48]) w' ∧ Below B w w' := by
  go_enter Tryz.func74, Tryz.ntmps74
  go_wp2_with (go_at_call 14; refine (ws_ret B b l _ _ (by assumption) (by simp [ByteArray.size]; omega)).mono ?_; rintro e w1 ⟨rfl, h1, hb1⟩)
  go_end0
  exact ⟨rfl, h1, hb1⟩

set_option maxHeartbeats 2000000 in
theorem quoted_34 (B b : Nat) (l : List UInt8) (w : World) (h : Bd B b l w) (hlen : l.length ≤ 1000000) :
    Calls Tryz.prog 74 #[.pointer (some ⟨b, 0, none⟩), .int .u8 34] w fun e w' => e = .returned (.tuple #[]) ∧ Bd B b (l ++ [92, 34]) w' ∧ Below B w w' := by
  go_enter Tryz.func74, Tryz.ntmps74
  go_wp2_with (go_at_call 73; refine (wb_ret B b l _ 92 (by rfl) _ (by assumption) (by omega)).mono ?_; rintro e w1 ⟨rfl, h1, hb1⟩)
  go_wp2_with (go_at_call 73; refine (wb_ret B b (l ++ [92]) _ 34 (by rfl) _ (by assumption) (by simp; omega)).mono ?_; rintro e w2 ⟨rfl, h2, hb2⟩)
  go_end0
  exact ⟨rfl, by simpa using h2, hb1.trans hb2⟩

set_option maxHeartbeats 2000000 in
theorem quoted_92 (B b : Nat) (l : List UInt8) (w : World) (h : Bd B b l w) (hlen : l.length ≤ 1000000) :
    Calls Tryz.prog 74 #[.pointer (some ⟨b, 0, none⟩), .int .u8 92] w fun e w' => e = .returned (.tuple #[]) ∧ Bd B b (l ++ [92, 92]) w' ∧ Below B w w' := by
  go_enter Tryz.func74, Tryz.ntmps74
  go_wp2_with (go_at_call 73; refine (wb_ret B b l _ 92 (by rfl) _ (by assumption) (by omega)).mono ?_; rintro e w1 ⟨rfl, h1, hb1⟩)
  go_wp2_with (go_at_call 73; refine (wb_ret B b (l ++ [92]) _ 92 (by rfl) _ (by assumption) (by simp; omega)).mono ?_; rintro e w2 ⟨rfl, h2, hb2⟩)
  go_end0
  exact ⟨rfl, by simpa using h2, hb1.trans hb2⟩

set_option maxHeartbeats 2000000 in
theorem quoted_plain (B b : Nat) (l : List UInt8) (c : UInt8) (w : World) (h : Bd B b l w) (hlen : l.length ≤ 1000000) (n10 : ((c.toNat : Int) == 10) = false) (n9 : ((c.toNat : Int) == 9) = false) (n13 : ((c.toNat : Int) == 13) = false) (n0 : ((c.toNat : Int) == 0) = false) (n34 : ((c.toNat : Int) == 34) = false) (n92 : ((c.toNat : Int) == 92) = false) (h1 : 32 ≤ (c.toNat : Int)) (h2 : (c.toNat : Int) ≤ 126) :
    Calls Tryz.prog 74 #[.pointer (some ⟨b, 0, none⟩), .int .u8 c.toNat] w fun e w' => e = .returned (.tuple #[]) ∧ Bd B b (l ++ [c]) w' ∧ Below B w w' := by
  go_enter Tryz.func74, Tryz.ntmps74
  go_wp2_with (go_at_call 73; refine (wb_ret B b l _ c (by rfl) _ (by assumption) (by omega)).mono ?_; rintro e w1 ⟨rfl, h1, hb1⟩)
  go_end0
  exact ⟨rfl, by assumption, by assumption⟩

theorem hex_at (k : Nat) (hk : k < 16) : (({ data := #[48, 49, 50, 51, 52, 53, 54, 55, 56, 57, 97, 98, 99, 100, 101, 102] } : ByteArray)[k]'hk) = hexD k := by
  have h : ∀ k : Fin 16, (({ data := #[48, 49, 50, 51, 52, 53, 54, 55, 56, 57, 97, 98, 99, 100, 101, 102] } : ByteArray)[k.val]'k.isLt) = hexD k.val := by decide
  exact h ⟨k, hk⟩

set_option maxHeartbeats 2000000 in
theorem quoted_hex (B b : Nat) (l : List UInt8) (c : UInt8) (w : World) (h : Bd B b l w) (hlen : l.length ≤ 1000000) (n10 : ((c.toNat : Int) == 10) = false) (n9 : ((c.toNat : Int) == 9) = false) (n13 : ((c.toNat : Int) == 13) = false) (n0 : ((c.toNat : Int) == 0) = false) (n34 : ((c.toNat : Int) == 34) = false) (n92 : ((c.toNat : Int) == 92) = false) (hh : decide ((c.toNat : Int) < 32) = false) (h3 : 126 < (c.toNat : Int)) (hq : (c.toNat : Int) / 16 < 16) (hr : (c.toNat : Int) % 16 < 16) (hq0 : 0 ≤ (c.toNat : Int) / 16) (hr0 : 0 ≤ (c.toNat : Int) % 16) :
    Calls Tryz.prog 74 #[.pointer (some ⟨b, 0, none⟩), .int .u8 c.toNat] w fun e w' => e = .returned (.tuple #[]) ∧ Bd B b (l ++ [92, 120, hexD (c.toNat / 16), hexD (c.toNat % 16)]) w' ∧ Below B w w' := by
  go_enter Tryz.func74, Tryz.ntmps74
  go_wp2_with (go_at_call 14; refine (ws_ret B b l _ _ (by assumption) (by simp [ByteArray.size]; omega)).mono ?_; rintro e w1 ⟨rfl, h1, hb1⟩)
  go_wp2_with (go_at_call 73; refine (wb_ret B b (l ++ [92, 120]) _ (hexD (c.toNat / 16)) (by rw [hex_at _ (by omega)]) _ (by assumption) (by simp; omega)).mono ?_; rintro e w2 ⟨rfl, h2, hb2⟩)
  go_wp2_with (go_at_call 73; refine (wb_ret B b (l ++ [92, 120] ++ [hexD (c.toNat / 16)]) _ (hexD (c.toNat % 16)) (by rw [hex_at _ (by omega)]) _ (by assumption) (by simp; omega)).mono ?_; rintro e w4 ⟨rfl, h4, hb4⟩)
  go_end0
  exact ⟨rfl, by simpa using h4, (hb1.trans hb2).trans hb4⟩

set_option maxHeartbeats 2000000 in
theorem quoted_ctl (B b : Nat) (l : List UInt8) (c : UInt8) (w : World) (h : Bd B b l w) (hlen : l.length ≤ 1000000) (n10 : ((c.toNat : Int) == 10) = false) (n9 : ((c.toNat : Int) == 9) = false) (n13 : ((c.toNat : Int) == 13) = false) (n0 : ((c.toNat : Int) == 0) = false) (n34 : ((c.toNat : Int) == 34) = false) (n92 : ((c.toNat : Int) == 92) = false) (hh : (c.toNat : Int) < 32) (hq : (c.toNat : Int) / 16 < 16) (hr : (c.toNat : Int) % 16 < 16) (hq0 : 0 ≤ (c.toNat : Int) / 16) (hr0 : 0 ≤ (c.toNat : Int) % 16) :
    Calls Tryz.prog 74 #[.pointer (some ⟨b, 0, none⟩), .int .u8 c.toNat] w fun e w' => e = .returned (.tuple #[]) ∧ Bd B b (l ++ [92, 120, hexD (c.toNat / 16), hexD (c.toNat % 16)]) w' ∧ Below B w w' := by
  go_enter Tryz.func74, Tryz.ntmps74
  go_wp2_with (go_at_call 14; refine (ws_ret B b l _ _ (by assumption) (by simp [ByteArray.size]; omega)).mono ?_; rintro e w1 ⟨rfl, h1, hb1⟩)
  go_wp2_with (go_at_call 73; refine (wb_ret B b (l ++ [92, 120]) _ (hexD (c.toNat / 16)) (by rw [hex_at _ (by omega)]) _ (by assumption) (by simp; omega)).mono ?_; rintro e w2 ⟨rfl, h2, hb2⟩)
  go_wp2_with (go_at_call 73; refine (wb_ret B b (l ++ [92, 120] ++ [hexD (c.toNat / 16)]) _ (hexD (c.toNat % 16)) (by rw [hex_at _ (by omega)]) _ (by assumption) (by simp; omega)).mono ?_; rintro e w4 ⟨rfl, h4, hb4⟩)
  go_end0
  exact ⟨rfl, by simpa using h4, (hb1.trans hb2).trans hb4⟩

theorem quoted_ret (B b : Nat) (l : List UInt8) (c : UInt8) (w : World) (h : Bd B b l w) (hlen : l.length ≤ 1000000) :
    Calls Tryz.prog 74 #[.pointer (some ⟨b, 0, none⟩), .int .u8 c.toNat] w fun e w' => e = .returned (.tuple #[]) ∧ Bd B b (l ++ escL c) w' ∧ Below B w w' := by
  have hi := byte_hi c
  have ofn : ∀ k : Nat, (hk : k < 256) → (c.toNat : Int) = k → c = UInt8.ofNat k := fun k hk e => by
    apply UInt8.toNat_inj.1
    rw [UInt8.toNat_ofNat_of_lt' (by simpa using hk)]
    omega
  by_cases h10 : (c.toNat : Int) = 10
  · rw [escL_1 h10]; obtain rfl := ofn 10 (by omega) h10; exact quoted_10 B b l w h hlen
  by_cases h9 : (c.toNat : Int) = 9
  · rw [escL_2 h9]; obtain rfl := ofn 9 (by omega) h9; exact quoted_9 B b l w h hlen
  by_cases h13 : (c.toNat : Int) = 13
  · rw [escL_3 h13]; obtain rfl := ofn 13 (by omega) h13; exact quoted_13 B b l w h hlen
  by_cases h0 : (c.toNat : Int) = 0
  · rw [escL_4 h0]; obtain rfl := ofn 0 (by omega) h0; exact quoted_0 B b l w h hlen
  by_cases h34 : (c.toNat : Int) = 34
  · rw [escL_5 (Or.inl h34)]; obtain rfl := ofn 34 (by omega) h34; exact quoted_34 B b l w h hlen
  by_cases h92 : (c.toNat : Int) = 92
  · rw [escL_5 (Or.inr h92)]; obtain rfl := ofn 92 (by omega) h92; exact quoted_92 B b l w h hlen
  have ne : ∀ k : Int, ¬ (c.toNat : Int) = k → ((c.toNat : Int) == k) = false := fun k hk => by simpa using hk
  by_cases h32 : (c.toNat : Int) < 32
  · rw [escL_6 h10 h9 h13 h0 h34 h92 (Or.inl h32)]
    exact quoted_ctl B b l c w h hlen (ne _ h10) (ne _ h9) (ne _ h13) (ne _ h0) (ne _ h34) (ne _ h92) h32 (by omega) (by omega) (by omega) (by omega)
  by_cases h126 : 126 < (c.toNat : Int)
  · rw [escL_6 h10 h9 h13 h0 h34 h92 (Or.inr h126)]
    exact quoted_hex B b l c w h hlen (ne _ h10) (ne _ h9) (ne _ h13) (ne _ h0) (ne _ h34) (ne _ h92) (by simpa using h32) h126 (by omega) (by omega) (by omega) (by omega)
  · rw [escL_7 h34 h92 (by omega) (by omega)]
    exact quoted_plain B b l c w h hlen (ne _ h10) (ne _ h9) (ne _ h13) (ne _ h0) (ne _ h34) (ne _ h92) (by omega) (by omega)

theorem esc_all (l : List UInt8) : (l.flatMap escL).length ≤ 4 * l.length := by
  induction l with
  | nil => simp
  | cons c r ih =>
    have := esc_len c
    simp only [List.flatMap_cons, List.length_append, List.length_cons]
    omega

theorem quote_len (l : List UInt8) : (quoteL l).length ≤ 4 * l.length + 2 := by
  have := esc_all l
  simp only [quoteL, List.length_cons, List.length_append, List.length_nil]
  omega

theorem quote_size (s : ByteArray) (hs : s.size ≤ 65536) : (bs (quoteL s.data.toList)).size ≤ 330000 := by
  have h1 := quote_len s.data.toList
  have e : s.data.toList.length = s.size := by rw [Array.length_toList]; rfl
  rw [bs_size]
  omega

theorem take_snoc (s : ByteArray) (k : Nat) (h : k < s.size) : s.data.toList.take (k + 1) = s.data.toList.take k ++ [s[k]] := by
  rw [List.take_succ_eq_append_getElem (by rw [Array.length_toList]; exact h)]; rfl

/-- a builder that has just been made -/
theorem bd_new (w : World) : Bd w.heap.size w.heap.size [] (w.alloc (.cells #[.pointer none, .slice none 0 0] 51)) := by
  refine ⟨Or.inl ⟨Nat.le_refl _, .slice none 0 0, heap_alloc_new w _, ⟨rfl, .inl ⟨rfl, rfl⟩⟩, by simp [Value.ownBlock]⟩, by simp⟩

set_option maxHeartbeats 2000000 in
theorem quote_ret (s : ByteArray) (hs : s.size ≤ 65536) (w : World) :
    Calls Tryz.prog 41 #[.string s] w fun e w' => e = .returned (.string (bs (quoteL s.data.toList))) ∧ (bs (quoteL s.data.toList)).size ≤ 330000 ∧ Below w.heap.size w w' := by
  have hq := quote_size s hs
  have hn := bd_new w
  have hb0 : Below w.heap.size w (w.alloc (.cells #[.pointer none, .slice none 0 0] 51)) := (Below.refl _ _).alloc (Nat.le_refl _) _
  go_enter Tryz.func41, Tryz.ntmps41
  go_wp2_with (go_at_call 73; refine (wb_ret w.heap.size w.heap.size [] _ 34 (by rfl) _ (by assumption) (by simp)).mono ?_; rintro e w1 ⟨rfl, h1, hb1⟩)
  go_loopw [4, 8] (fun j i W => ∃ k : Nat, k ≤ s.size ∧ i = .int .i64 k ∧ Bd w.heap.size w.heap.size (34 :: (s.data.toList.take k).flatMap escL) W ∧ Below w.heap.size w W) (fun _ i _ => s.size - (intOf i).toNat)
  case atStart => exact ⟨0, Nat.zero_le _, rfl, h1, hb0.trans hb1⟩
  case round =>
    obtain ⟨k, hk, rfl, hbd, hbl⟩ := hrel
    have hl : ((s.data.toList.take k).flatMap escL).length ≤ 4 * k := by
      have h1 := esc_all (s.data.toList.take k)
      have h2 : (s.data.toList.take k).length ≤ k := List.length_take_le _ _
      omega
    by_cases hlt : k < s.size
    · have HS : Hid (34 :: (s.data.toList.take (k + 1)).flatMap escL = (34 :: (s.data.toList.take k).flatMap escL) ++ escL s[k]) := Lib.hid (by rw [take_snoc s k hlt]; simp)
      go_wp2_with (go_at_call 74; refine (quoted_ret w.heap.size w.heap.size (34 :: (s.data.toList.take k).flatMap escL) s[k] _ (by assumption) (by rw [List.length_cons]; omega)).mono ?_; rintro e w2 ⟨rfl, h2, hb2⟩)
      go_roundw
      case rel => exact ⟨k + 1, by omega, by go_num, by rw [HS.out]; exact h2, hbl.trans hb2⟩
      case measure => simp [intOf]; omega
    · have hk' : k = s.size := by omega
      have HT : Hid (s.data.toList.take k = s.data.toList) := Lib.hid (by rw [List.take_of_length_le]; rw [Array.length_toList]; exact Nat.le_of_eq hk'.symm)
      clear hk'
      go_wp2_with (go_at_call 73; refine (wb_ret w.heap.size w.heap.size (34 :: (s.data.toList.take k).flatMap escL) _ 34 (by rfl) _ (by assumption) (by rw [List.length_cons]; omega)).mono ?_; rintro e w2 ⟨rfl, h2, hb2⟩)
      go_wp2_with (go_at_call 21; refine (Builder_String_any w.heap.size w.heap.size (34 :: (s.data.toList.take k).flatMap escL ++ [34]) _ h2.is h2.size).mono ?_; rintro e w4 ⟨rfl, hb4⟩)
      go_ret
      refine ⟨ret_str ?_, hq, (hbl.trans hb2).trans hb4⟩
      show bs _ = bs _
      rw [HT.out]
      rfl

end Go.Proofs.YtfngechoipngmaaGreatDoor

namespace Go.Proofs.YtfngechoipngmaaGreatDoor
open Go.RowKit
set_option maxRecDepth 100000

/-- it returns a text of at most 65536 bytes, and a bool -/
structure RetU (e : Ending) : Prop where
  ex : ∃ (t : ByteArray) (b : Bool), e = .returned (.tuple #[.string t, .bool b]) ∧ t.size ≤ 65536
theorem RetU.mk' {t : ByteArray} {b : Bool} (h : t.size ≤ 65536) : RetU (.returned (.tuple #[.string t, .bool b])) := ⟨t, b, rfl, h⟩

set_option maxHeartbeats 4000000 in
theorem unquote_ret (s : ByteArray) (hs : s.size ≤ 400000) (w : World) :
    Calls Tryz.prog 105 #[.string s] w fun e w' => RetU e ∧ Below w.heap.size w w' := by
  have HR := Lib.hid (read_ret s hs)
  go_enter Tryz.func105, Tryz.ntmps105
  go_wp2_with (first
    | (go_at_call 117; refine (HR.out _).mono ?_; rintro e w1 ⟨hr, hb1⟩; obtain ⟨t, to, er, rfl, ht, hto, her⟩ := hr.ex)
    | (go_at_call 41; refine (quote_ret _ (by omega) _).mono ?_; rintro e w2 ⟨rfl, _, hb2⟩))
  all_goals
    go_ret2
    first
      | exact ⟨RetU.mk' ht, hb1.trans (hb2.mono hb1.size)⟩
      | exact ⟨RetU.mk' ht, hb1⟩

end Go.Proofs.YtfngechoipngmaaGreatDoor

namespace Go.Proofs.YtfngechoipngmaaGreatDoor
open Go.RowKit
set_option maxRecDepth 100000

/-- a kind, a number and a text, and a bool -/
structure RetK (P : Int → Int → Prop) (e : Ending) : Prop where
  ex : ∃ (k n : Int) (s : ByteArray) (b : Bool), e = .returned (.tuple #[.agg #[.int .i64 k, .int .i64 n, .string s], .bool b]) ∧ P k n ∧ inI k ∧ inI n ∧ s.size ≤ 65536
theorem RetK.mk' {P : Int → Int → Prop} {k n : Int} {s : ByteArray} {b : Bool} (hp : P k n) (hk : inI k) (hn : inI n) (hs : s.size ≤ 65536) : RetK P (.returned (.tuple #[.agg #[.int .i64 k, .int .i64 n, .string s], .bool b])) := ⟨k, n, s, b, rfl, hp, hk, hn, hs⟩

theorem hasp_ret (s p : ByteArray) (w : World) : Calls Tryz.prog 107 #[.string s, .string p] w fun e w' => Hid (∃ b : Bool, e = .returned (.bool b)) ∧ w' = w := by
  refine (ag_strings_HasPrefix s p w).mono ?_
  rintro e w' ⟨rfl, rfl⟩
  exact ⟨Lib.hid ⟨_, rfl⟩, rfl⟩

theorem keepK {W0 w1 : World} {n : Nat} {X Y : Obj} (hb : Below W0.heap.size W0 w1) (h0 : W0.heap[n]? = some X) (h1 : W0.heap[n + 1]? = some Y) : w1.heap[n]? = some X ∧ w1.heap[n + 1]? = some Y := by
  obtain ⟨l0, _⟩ := Array.getElem?_eq_some_iff.1 h0
  obtain ⟨l1, _⟩ := Array.getElem?_eq_some_iff.1 h1
  exact ⟨(hb.block _ l0).trans h0, (hb.block _ l1).trans h1⟩
theorem two_al (w : World) (X Y : Obj) : ((w.alloc X).alloc Y).heap[w.heap.size]? = some X ∧ ((w.alloc X).alloc Y).heap[w.heap.size + 1]? = some Y := by
  have e : (w.alloc X).heap.size = w.heap.size + 1 := by show (w.heap.push X).size = _; simp only [Array.size_push]
  constructor
  · rw [Below.heap_alloc _ _ _ (by omega)]
    show (w.heap.push X)[w.heap.size]? = _
    rw [Array.getElem?_push, if_pos rfl]
  · rw [← e]
    show ((w.alloc X).heap.push Y)[(w.alloc X).heap.size]? = _
    rw [Array.getElem?_push, if_pos rfl]
theorem below_al2 (w : World) (X Y : Obj) : Below w.heap.size w ((w.alloc X).alloc Y) :=
  ((Below.refl _ w).alloc (Nat.le_refl _) _).alloc (by show w.heap.size ≤ (w.heap.push X).size; simp only [Array.size_push]; omega) _

set_option maxHeartbeats 4000000 in
theorem keyOf_ret (s : ByteArray) (hs : s.size ≤ 400000) (w : World) (hG : GE w) :
    Calls Tryz.prog 89 #[.string s] w fun e w' => RetK (fun k _ => k = 0 ∨ k = 1 ∨ k = 2) e ∧ Below w.heap.size w w' := by
  have h7 := hG.g.size
  have HG : Hid (∀ W, Below w.heap.size w W → GE W) := Lib.hid fun W hb => hG.below hb h7
  have HB : Hid (∀ X Y W, Below ((w.alloc X).alloc Y).heap.size ((w.alloc X).alloc Y) W → Below w.heap.size w W) := Lib.hid fun X Y W hb => (below_al2 w X Y).trans (hb.mono (below_al2 w X Y).size)
  clear hG
  go_enter Tryz.func89, Tryz.ntmps89
  go_wp2_with (first
    | (go_at_call 107; refine (hasp_ret _ _ _).mono ?_; rintro e w1 ⟨hr, rfl⟩; obtain ⟨b, rfl⟩ := hr.out; clear hr; cases b)
    | (go_at_call 106; refine (number_ret _ _ _ hs _ (HG.out _ (below_al2 _ _ _))).mono ?_; rintro e w1 ⟨hr, hb1⟩; obtain ⟨n, bb, rfl, hn⟩ := hr.ex; clear hr; obtain ⟨e0, e1⟩ := keepK hb1 (two_al _ _ _).1 (two_al _ _ _).2; have hb := HB.out _ _ _ hb1; clear hb1; have c0 : w1.cell? ⟨w.heap.size + 1, 0, none⟩ = some _ := (Lib.cell_of_heap e1 0).trans rfl; have c1 : w1.cell? ⟨w.heap.size + 1, 1, none⟩ = some _ := (Lib.cell_of_heap e1 1).trans rfl; have c2 : w1.cell? ⟨w.heap.size + 1, 2, none⟩ = some _ := (Lib.cell_of_heap e1 2).trans rfl; have b0 : w1.cell? ⟨w.heap.size, 0, none⟩ = some _ := (Lib.cell_of_heap e0 0).trans rfl; have b1 : w1.cell? ⟨w.heap.size, 1, none⟩ = some _ := (Lib.cell_of_heap e0 1).trans rfl; have b2 : w1.cell? ⟨w.heap.size, 2, none⟩ = some _ := (Lib.cell_of_heap e0 2).trans rfl; have f1 := Lib.frozen_of_heap e1 1; have f2 := Lib.frozen_of_heap e1 2; have d0 := Lib.frozen_of_heap e0 0; have d1 := Lib.frozen_of_heap e0 1; have d2 := Lib.frozen_of_heap e0 2; clear e0 e1)
    | (go_at_call 105; refine (unquote_ret _ hs _).mono ?_; rintro e w1 ⟨hr, hb1⟩; obtain ⟨t, bb, rfl, ht⟩ := hr.ex; clear hr; obtain ⟨e0, e1⟩ := keepK hb1 (two_al _ _ _).1 (two_al _ _ _).2; have hb := HB.out _ _ _ hb1; clear hb1; have c0 : w1.cell? ⟨w.heap.size + 1, 0, none⟩ = some _ := (Lib.cell_of_heap e1 0).trans rfl; have c1 : w1.cell? ⟨w.heap.size + 1, 1, none⟩ = some _ := (Lib.cell_of_heap e1 1).trans rfl; have c2 : w1.cell? ⟨w.heap.size + 1, 2, none⟩ = some _ := (Lib.cell_of_heap e1 2).trans rfl; have b0 : w1.cell? ⟨w.heap.size, 0, none⟩ = some _ := (Lib.cell_of_heap e0 0).trans rfl; have b1 : w1.cell? ⟨w.heap.size, 1, none⟩ = some _ := (Lib.cell_of_heap e0 1).trans rfl; have b2 : w1.cell? ⟨w.heap.size, 2, none⟩ = some _ := (Lib.cell_of_heap e0 2).trans rfl; have f1 := Lib.frozen_of_heap e1 1; have f2 := Lib.frozen_of_heap e1 2; have d0 := Lib.frozen_of_heap e0 0; have d1 := Lib.frozen_of_heap e0 1; have d2 := Lib.frozen_of_heap e0 2; clear e0 e1)
    | fail)
  all_goals
    (try simp only [Exit.inBlock, Exit.then])
    first
      | (refine bodyPost_ret (v := .tuple #[.agg #[.int .i64 0, .int .i64 n, .string ⟨#[]⟩], .bool bb]) ?_ rfl ⟨RetK.mk' (by omega) (by unfold inI; omega) hn (by decide), (((hb.setCell (by simp) _).setCell (Nat.le_refl _) _).setCell (Nat.le_refl _) _).setCell (Nat.le_refl _) _⟩; rw [results_cell_tmp rfl]; go_simp; done)
      | (refine bodyPost_ret (v := .tuple #[.agg #[.int .i64 2, .int .i64 n, .string ⟨#[]⟩], .bool bb]) ?_ rfl ⟨RetK.mk' (by omega) (by unfold inI; omega) hn (by decide), (((hb.setCell (by simp) _).setCell (Nat.le_refl _) _).setCell (Nat.le_refl _) _).setCell (Nat.le_refl _) _⟩; rw [results_cell_tmp rfl]; go_simp; done)
      | (refine bodyPost_ret (v := .tuple #[.agg #[.int .i64 1, .int .i64 0, .string t], .bool bb]) ?_ rfl ⟨RetK.mk' (by omega) (by unfold inI; omega) (by unfold inI; omega) ht, (((hb.setCell (by simp) _).setCell (Nat.le_refl _) _).setCell (Nat.le_refl _) _).setCell (Nat.le_refl _) _⟩; rw [results_cell_tmp rfl]; go_simp; done)

end Go.Proofs.YtfngechoipngmaaGreatDoor

namespace Go.Proofs.YtfngechoipngmaaGreatDoor
open Go.RowKit
set_option maxRecDepth 100000

/-- a code without its parts -/
structure RetH (e : Ending) : Prop where
  ex : ∃ (s : ByteArray) (a b c : Int), e = .returned (.agg #[.string s, .int .i64 a, .int .i64 b, .int .i64 c, .slice none 0 0, .slice none 0 0, .slice none 0 0, .slice none 0 0]) ∧ s.size ≤ 65536 ∧ inI a ∧ inI b ∧ inI c

theorem keep_grown {W W' : World} {rn b : Nat} {o : Obj} (hg : W.grownBy W' (some rn)) (h : W.heap[b]? = some o) (hb : b ≠ rn) : W'.heap[b]? = some o := by
  obtain ⟨l, _⟩ := Array.getElem?_eq_some_iff.1 h
  exact (hg.block _ l (by simp; omega)).trans h
theorem keep_below {W W' : World} {b : Nat} {o : Obj} (hg : Below W.heap.size W W') (h : W.heap[b]? = some o) : W'.heap[b]? = some o := by
  obtain ⟨l, _⟩ := Array.getElem?_eq_some_iff.1 h
  exact (hg.block _ l).trans h
theorem Rn.keep {rn rb cap k : Nat} {zs : List Int} {W W' : World} (h : Rn rn rb cap zs k W) (h1 : W'.heap[rn]? = W.heap[rn]?) (h2 : W'.heap[rb]? = W.heap[rb]?) : Rn rn rb cap zs k W' :=
  ⟨h1.trans h.blk, fun j hj => (World.cell?_of_block (a := ⟨rb, j, none⟩) h2).trans (h.row j hj), h.ne, h.le, h.cp⟩
theorem Rn.lt {rn rb cap k : Nat} {zs : List Int} {W : World} (h : Rn rn rb cap zs k W) : rn < W.heap.size := (Array.getElem?_eq_some_iff.1 h.blk).1
theorem Rn.below {rn rb cap k M : Nat} {zs : List Int} {W W' : World} (h : Rn rn rb cap zs k W) (hb : Below M W W') (h1 : rn < M) (h2 : rb < M) : Rn rn rb cap zs k W' := h.keep (hb.block _ h1) (hb.block _ h2)
theorem below_grown {B rn : Nat} {w W W' : World} (h : Below B w W) (hg : W.grownBy W' (some rn)) (hB : B ≤ W.heap.size) (hr : B ≤ rn) : Below B w W' := h.grown hg hB (fun k hk => by cases hk; exact hr)

def hdrC (s : ByteArray) (a b c : Int) : Array Value := #[.string s, .int .i64 a, .int .i64 b, .int .i64 c, .slice none 0 0, .slice none 0 0, .slice none 0 0, .slice none 0 0]
/-- header's own blocks -/
structure HS (n p : Nat) (s : ByteArray) (a b c : Int) (W : World) : Prop where
  e0 : W.heap[n]? = some (.cells (hdrC ⟨#[]⟩ 0 0 0) 36 (0, 0))
  e1 : W.heap[n + 1]? = some (.cells (hdrC s a b c) 36 (0, 0))
  e2 : W.heap[p]? = some (.cells #[.pointer (some ⟨n + 1, 1, none⟩), .pointer (some ⟨n + 1, 2, none⟩), .pointer (some ⟨n + 1, 3, none⟩)] 138 (0, 0))

theorem HS.grown {n p rn : Nat} {s : ByteArray} {a b c : Int} {W W' : World} (h : HS n p s a b c W) (hg : W.grownBy W' (some rn)) (h0 : rn < n) (h1 : n < p) : HS n p s a b c W' :=
  ⟨keep_grown hg h.e0 (by omega), keep_grown hg h.e1 (by omega), keep_grown hg h.e2 (by omega)⟩
theorem HS.below {n p : Nat} {s : ByteArray} {a b c : Int} {W W' : World} (h : HS n p s a b c W) (hg : Below W.heap.size W W') : HS n p s a b c W' :=
  ⟨keep_below hg h.e0, keep_below hg h.e1, keep_below hg h.e2⟩

theorem alloc_size (W : World) (X : Obj) : (W.alloc X).heap.size = W.heap.size + 1 := by show (W.heap.push X).size = _; simp only [Array.size_push]
theorem set_size (W : World) (a : Addr) (v : Value) : (W.setCell a v).heap.size = W.heap.size := by simp [World.setCell]
theorem alloc_new (W : World) (X : Obj) : (W.alloc X).heap[W.heap.size]? = some X := by
  show (W.heap.push X)[W.heap.size]? = _
  rw [Array.getElem?_push, if_pos rfl]

theorem results_cell_one {fn : Func} {p : Tmp} {ty : TypeId} (h : fn.results = #[.cell p ty]) (tmps : Array Value) (P : Program) (w : World) :
    (results fn tmps).run P w = ((asAddr (tmps.getD p undef)).run P w).andThen fun a w₁ => (loadVar ty a).run P w₁ := by
  simp only [results, h]
  simp [Sem.run_bind, Result.andThen]

def ptrsC (n : Nat) : Array Value := #[.pointer (some ⟨n + 1, 1, none⟩), .pointer (some ⟨n + 1, 2, none⟩), .pointer (some ⟨n + 1, 3, none⟩)]

theorem HS.start {n : Nat} {nm : ByteArray} {W : World} (g0 : W.heap[n]? = some (.cells (hdrC ⟨#[]⟩ 0 0 0) 36 (0, 0))) (g1 : W.heap[n + 1]? = some (.cells (hdrC ⟨#[]⟩ 0 0 0) 36 (0, 0))) :
    HS n W.heap.size nm 0 0 0 ((W.setCell ⟨n + 1, 0, none⟩ (.string nm)).alloc (.cells (ptrsC n) 138 (0, 0))) := by
  obtain ⟨l0, _⟩ := Array.getElem?_eq_some_iff.1 g0
  obtain ⟨l1, _⟩ := Array.getElem?_eq_some_iff.1 g1
  have hs := set_size W ⟨n + 1, 0, none⟩ (.string nm)
  refine ⟨?_, ?_, ?_⟩
  · rw [Below.heap_alloc _ _ _ (by omega), Below.heap_setCell _ _ _ _ (by show n ≠ n + 1; omega)]; exact g0
  · rw [Below.heap_alloc _ _ _ (by omega), set_block g1]; rfl
  · have := alloc_new (W.setCell ⟨n + 1, 0, none⟩ (.string nm)) (.cells (ptrsC n) 138 (0, 0))
    rw [hs] at this
    exact this

theorem HS.set {n p : Nat} {s : ByteArray} {a b c a' b' c' : Int} {W : World} (h : HS n p s a b c W) (hp : n + 1 < p) (i : Nat) (v : Value) (hi : (hdrC s a b c).setIfInBounds i v = hdrC s a' b' c') : HS n p s a' b' c' (W.setCell ⟨n + 1, i, none⟩ v) := by
  refine ⟨?_, ?_, ?_⟩
  · rw [Below.heap_setCell _ _ _ _ (by show n ≠ n + 1; omega)]; exact h.e0
  · rw [set_block h.e1, hi]
  · rw [Below.heap_setCell _ _ _ _ (by show p ≠ n + 1; omega)]; exact h.e2
theorem Rn.setO {rn rb cap k b i : Nat} {zs : List Int} {W : World} (h : Rn rn rb cap zs k W) (v : Value) (h1 : rn ≠ b) (h2 : rb ≠ b) : Rn rn rb cap zs k (W.setCell ⟨b, i, none⟩ v) :=
  h.keep (Below.heap_setCell _ _ _ _ h1) (Below.heap_setCell _ _ _ _ h2)
theorem RetH.mk' {s : ByteArray} {a b c : Int} (hs : s.size ≤ 65536) (ha : inI a) (hb : inI b) (hc : inI c) : RetH (.returned (.agg #[.string s, .int .i64 a, .int .i64 b, .int .i64 c, .slice none 0 0, .slice none 0 0, .slice none 0 0, .slice none 0 0])) := ⟨s, a, b, c, rfl, hs, ha, hb, hc⟩

set_option maxHeartbeats 4000000 in
theorem header_ret (B rn rb cap k : Nat) (zs : List Int) (w : World) (hG : GE w) (h7 : 7 ≤ B) (hBr : B ≤ rn) (hBw : B ≤ w.heap.size) (hrb : rb < w.heap.size) (hR : Rn rn rb cap zs k w) :
    Calls Tryz.prog 87 #[.iface 110 (.pointer (some ⟨rn, 0, none⟩))] w fun e w' => RetH e ∧ Below B w w' := by
  have HG : Hid (∀ W, Below B w W → GE W) := Lib.hid fun W hb => hG.below hb h7
  clear hG
  have hrn := hR.lt
  have HR : Hid (∀ W, Below w.heap.size w W → Rn rn rb cap zs k W) := Lib.hid fun W hb => hR.below hb hrn hrb
  clear hR
  have HNX := Lib.hid (next_ret rn rb cap)
  have hm : ∀ W, (method 299 110 (.pointer (some ⟨rn, 0, none⟩)) "pantomime/asm.next").run Tryz.prog W = .ok (166, .pointer (some ⟨rn, 0, none⟩)) W := fun _ => by kernel_rfl
  have H2 := Lib.hid (two_al w (.cells (hdrC ⟨#[]⟩ 0 0 0) 36 (0, 0)) (.cells (hdrC ⟨#[]⟩ 0 0 0) 36 (0, 0)))
  have HB2 := Lib.hid (below_al2 w (.cells (hdrC ⟨#[]⟩ 0 0 0) 36 (0, 0)) (.cells (hdrC ⟨#[]⟩ 0 0 0) 36 (0, 0)))
  go_enter Tryz.func87, Tryz.ntmps87
  go_wp2_with (first
    | (simp only)
    | (go_at_call 166; refine (HNX.out _ zs _ (HR.out _ HB2.out)).mono ?_; rintro e w1 ⟨s, ok, k1, rfl, hs, hR1, hgr⟩; have e0 := keep_grown hgr H2.out.1 (by omega); have e1 := keep_grown hgr H2.out.2 (by omega); have hb1 := below_grown (HB2.out.mono hBw) hgr (Nat.le_trans hBw HB2.out.size) hBr; have hz1 := Nat.le_trans HB2.out.size hgr.size; clear hgr)
    | (go_at_call 105; refine (unquote_ret _ hs _).mono ?_; rintro e w2 ⟨hr, hb2⟩; obtain ⟨nm, nok, rfl, hnm⟩ := hr.ex; clear hr; have g0 := keep_below hb2 e0; have g1 := keep_below hb2 e1; have hR2 := hR1.below hb2 (by omega) (by omega); have hbb := hb1.trans (hb2.mono (by omega)); have hz2 := Nat.le_trans hz1 hb2.size; clear e0 e1 hb2 hR1; have c0 : w2.cell? ⟨w.heap.size + 1, 0, none⟩ = some _ := (Lib.cell_of_heap g1 0).trans rfl; have f0 := Lib.frozen_of_heap g1 0)
    | fail)
  have hn1 : w.heap.size + 1 < w2.heap.size := (Array.getElem?_eq_some_iff.1 g1).1
  have hst := HS.start (nm := nm) g0 g1
  have hal : Below B w ((w2.setCell ⟨w.heap.size + 1, 0, none⟩ (.string nm)).alloc (.cells (ptrsC w.heap.size) 138 (0, 0))) := (hbb.setCell (by show B ≤ w.heap.size + 1; omega) _).alloc (by rw [set_size]; omega) _
  have hR3 : Rn rn rb cap zs k1 ((w2.setCell ⟨w.heap.size + 1, 0, none⟩ (.string nm)).alloc (.cells (ptrsC w.heap.size) 138 (0, 0))) :=
    (hR2.setO _ (by omega) (by omega)).keep (Below.heap_alloc _ _ _ (by rw [set_size]; omega)) (Below.heap_alloc _ _ _ (by rw [set_size]; omega))
  clear g0 g1 c0 f0 hbb hR2
  go_loopw [26] (fun i W => ∃ (m : Nat) (a b c : Int) (k' : Nat), m ≤ 3 ∧ i = .int .i64 (m : Int) ∧ (inI a ∧ inI b ∧ inI c) ∧ Hid (Rn rn rb cap zs k' W) ∧ Hid (HS w.heap.size w2.heap.size nm a b c W) ∧ Hid (Below B w W) ∧ w2.heap.size < W.heap.size) (fun i _ => 4 - (intOf i).toNat)
  case atStart => exact ⟨0, 0, 0, 0, k1, by omega, by go_num, by unfold inI; omega, Lib.hid hR3, Lib.hid hst, Lib.hid hal, by rw [alloc_size, set_size]; omega⟩
  case round =>
    obtain ⟨m, a, b, c, k', hm3, rfl, hi, hrn', hs', hbl, hzr⟩ := hrel
    obtain ⟨ha, hb, hc⟩ := hi
    rcases m with _ | _ | _ | _ | m
    · have hsh := hs'.out
      have q : wr.cell? ⟨w2.heap.size, 0, none⟩ = some (.pointer (some ⟨w.heap.size + 1, 1, none⟩)) := (Lib.cell_of_heap hsh.e2 0).trans rfl
      go_wp2_with (first
        | (simp only)
        | (go_at_call 166; clear q; refine (HNX.out _ zs _ hrn'.out).mono ?_; rintro e w3 ⟨t, tok, k3, rfl, ht, hR3, hgr⟩; have hs3 := Lib.hid (hsh.grown hgr hrn (by omega)); have hb3 := Lib.hid (below_grown hbl.out hgr (by omega) hBr); have hz3 := Nat.le_trans hzr hgr.size; have hR3 := Lib.hid hR3; clear hgr hsh)
        | (go_at_call 106; refine (number_ret _ _ _ ht _ (HG.out _ hb3.out)).mono ?_; rintro e w4 ⟨hr, hb4⟩; obtain ⟨x, xok, rfl, hx⟩ := hr.ex; clear hr; have hs4 := hs3.out.below hb4; have hR4 := Lib.hid (hR3.out.below hb4 (by omega) (by omega)); have hbb := Lib.hid (hb3.out.trans (hb4.mono (by omega))); have hz4 := Nat.le_trans hz3 hb4.size; clear hb4; have c1 : w4.cell? ⟨w.heap.size + 1, 1, none⟩ = some _ := (Lib.cell_of_heap hs4.e1 1).trans rfl; have f1 := Lib.frozen_of_heap hs4.e1 1; have hs4 := Lib.hid hs4)
        | fail)
      go_roundw
      case rel => exact ⟨1, x, b, c, _, by omega, by go_num, ⟨by assumption, by assumption, by assumption⟩, Lib.hid (hR4.out.setO _ (by omega) (by omega)), Lib.hid (hs4.out.set (by omega) _ _ rfl), Lib.hid (hbb.out.setCell (by show B ≤ w.heap.size + 1; omega) _), by rw [set_size]; exact hz4⟩
      case measure => simp [intOf]
    · have hsh := hs'.out
      have q : wr.cell? ⟨w2.heap.size, 1, none⟩ = some (.pointer (some ⟨w.heap.size + 1, 2, none⟩)) := (Lib.cell_of_heap hsh.e2 1).trans rfl
      go_wp2_with (first
        | (simp only)
        | (go_at_call 166; clear q; refine (HNX.out _ zs _ hrn'.out).mono ?_; rintro e w3 ⟨t, tok, k3, rfl, ht, hR3, hgr⟩; have hs3 := Lib.hid (hsh.grown hgr hrn (by omega)); have hb3 := Lib.hid (below_grown hbl.out hgr (by omega) hBr); have hz3 := Nat.le_trans hzr hgr.size; have hR3 := Lib.hid hR3; clear hgr hsh)
        | (go_at_call 106; refine (number_ret _ _ _ ht _ (HG.out _ hb3.out)).mono ?_; rintro e w4 ⟨hr, hb4⟩; obtain ⟨x, xok, rfl, hx⟩ := hr.ex; clear hr; have hs4 := hs3.out.below hb4; have hR4 := Lib.hid (hR3.out.below hb4 (by omega) (by omega)); have hbb := Lib.hid (hb3.out.trans (hb4.mono (by omega))); have hz4 := Nat.le_trans hz3 hb4.size; clear hb4; have c1 : w4.cell? ⟨w.heap.size + 1, 2, none⟩ = some _ := (Lib.cell_of_heap hs4.e1 2).trans rfl; have f1 := Lib.frozen_of_heap hs4.e1 2; have hs4 := Lib.hid hs4)
        | fail)
      go_roundw
      case rel => exact ⟨2, a, x, c, _, by omega, by go_num, ⟨by assumption, by assumption, by assumption⟩, Lib.hid (hR4.out.setO _ (by omega) (by omega)), Lib.hid (hs4.out.set (by omega) _ _ rfl), Lib.hid (hbb.out.setCell (by show B ≤ w.heap.size + 1; omega) _), by rw [set_size]; exact hz4⟩
      case measure => simp [intOf]
    · have hsh := hs'.out
      have q : wr.cell? ⟨w2.heap.size, 2, none⟩ = some (.pointer (some ⟨w.heap.size + 1, 3, none⟩)) := (Lib.cell_of_heap hsh.e2 2).trans rfl
      go_wp2_with (first
        | (simp only)
        | (go_at_call 166; clear q; refine (HNX.out _ zs _ hrn'.out).mono ?_; rintro e w3 ⟨t, tok, k3, rfl, ht, hR3, hgr⟩; have hs3 := Lib.hid (hsh.grown hgr hrn (by omega)); have hb3 := Lib.hid (below_grown hbl.out hgr (by omega) hBr); have hz3 := Nat.le_trans hzr hgr.size; have hR3 := Lib.hid hR3; clear hgr hsh)
        | (go_at_call 106; refine (number_ret _ _ _ ht _ (HG.out _ hb3.out)).mono ?_; rintro e w4 ⟨hr, hb4⟩; obtain ⟨x, xok, rfl, hx⟩ := hr.ex; clear hr; have hs4 := hs3.out.below hb4; have hR4 := Lib.hid (hR3.out.below hb4 (by omega) (by omega)); have hbb := Lib.hid (hb3.out.trans (hb4.mono (by omega))); have hz4 := Nat.le_trans hz3 hb4.size; clear hb4; have c1 : w4.cell? ⟨w.heap.size + 1, 3, none⟩ = some _ := (Lib.cell_of_heap hs4.e1 3).trans rfl; have f1 := Lib.frozen_of_heap hs4.e1 3; have hs4 := Lib.hid hs4)
        | fail)
      go_roundw
      case rel => exact ⟨3, a, b, x, _, by omega, by go_num, ⟨by assumption, by assumption, by assumption⟩, Lib.hid (hR4.out.setO _ (by omega) (by omega)), Lib.hid (hs4.out.set (by omega) _ _ rfl), Lib.hid (hbb.out.setCell (by show B ≤ w.heap.size + 1; omega) _), by rw [set_size]; exact hz4⟩
      case measure => simp [intOf]
    · have hsh := hs'.out
      have r0 : wr.cell? ⟨w.heap.size + 1, 0, none⟩ = some (.string nm) := (Lib.cell_of_heap hsh.e1 0).trans rfl
      have r1 : wr.cell? ⟨w.heap.size + 1, 1, none⟩ = some (.int .i64 a) := (Lib.cell_of_heap hsh.e1 1).trans rfl
      have r2 : wr.cell? ⟨w.heap.size + 1, 2, none⟩ = some (.int .i64 b) := (Lib.cell_of_heap hsh.e1 2).trans rfl
      have r3 : wr.cell? ⟨w.heap.size + 1, 3, none⟩ = some (.int .i64 c) := (Lib.cell_of_heap hsh.e1 3).trans rfl
      have r4 : wr.cell? ⟨w.heap.size + 1, 4, none⟩ = some (.slice none 0 0) := (Lib.cell_of_heap hsh.e1 4).trans rfl
      have r5 : wr.cell? ⟨w.heap.size + 1, 5, none⟩ = some (.slice none 0 0) := (Lib.cell_of_heap hsh.e1 5).trans rfl
      have r6 : wr.cell? ⟨w.heap.size + 1, 6, none⟩ = some (.slice none 0 0) := (Lib.cell_of_heap hsh.e1 6).trans rfl
      have r7 : wr.cell? ⟨w.heap.size + 1, 7, none⟩ = some (.slice none 0 0) := (Lib.cell_of_heap hsh.e1 7).trans rfl
      have o0 : wr.cell? ⟨w.heap.size, 0, none⟩ = some (.string ⟨#[]⟩) := (Lib.cell_of_heap hsh.e0 0).trans rfl
      have o1 : wr.cell? ⟨w.heap.size, 1, none⟩ = some (.int .i64 0) := (Lib.cell_of_heap hsh.e0 1).trans rfl
      have o2 : wr.cell? ⟨w.heap.size, 2, none⟩ = some (.int .i64 0) := (Lib.cell_of_heap hsh.e0 2).trans rfl
      have o3 : wr.cell? ⟨w.heap.size, 3, none⟩ = some (.int .i64 0) := (Lib.cell_of_heap hsh.e0 3).trans rfl
      have o4 : wr.cell? ⟨w.heap.size, 4, none⟩ = some (.slice none 0 0) := (Lib.cell_of_heap hsh.e0 4).trans rfl
      have o5 : wr.cell? ⟨w.heap.size, 5, none⟩ = some (.slice none 0 0) := (Lib.cell_of_heap hsh.e0 5).trans rfl
      have o6 : wr.cell? ⟨w.heap.size, 6, none⟩ = some (.slice none 0 0) := (Lib.cell_of_heap hsh.e0 6).trans rfl
      have o7 : wr.cell? ⟨w.heap.size, 7, none⟩ = some (.slice none 0 0) := (Lib.cell_of_heap hsh.e0 7).trans rfl
      have f0 := Lib.frozen_of_heap hsh.e0 0
      have f1 := Lib.frozen_of_heap hsh.e0 1
      have f2 := Lib.frozen_of_heap hsh.e0 2
      have f3 := Lib.frozen_of_heap hsh.e0 3
      have f4 := Lib.frozen_of_heap hsh.e0 4
      have f5 := Lib.frozen_of_heap hsh.e0 5
      have f6 := Lib.frozen_of_heap hsh.e0 6
      have f7 := Lib.frozen_of_heap hsh.e0 7
      have hset := ((((((((hbl.out.setCell (p := ⟨w.heap.size, 0, none⟩) hBw (.string nm)).setCell (p := ⟨w.heap.size, 1, none⟩) hBw (.int .i64 a)).setCell (p := ⟨w.heap.size, 2, none⟩) hBw (.int .i64 b)).setCell (p := ⟨w.heap.size, 3, none⟩) hBw (.int .i64 c)).setCell (p := ⟨w.heap.size, 4, none⟩) hBw (.slice none 0 0)).setCell (p := ⟨w.heap.size, 5, none⟩) hBw (.slice none 0 0)).setCell (p := ⟨w.heap.size, 6, none⟩) hBw (.slice none 0 0)).setCell (p := ⟨w.heap.size, 7, none⟩) hBw (.slice none 0 0))
      clear hsh hs' hrn' hbl HG HR HNX H2 HB2 hst hal hb1
      go_wp2
      (try simp only [Exit.inBlock, Exit.then])
      refine bodyPost_ret (v := .agg #[.string nm, .int .i64 a, .int .i64 b, .int .i64 c, .slice none 0 0, .slice none 0 0, .slice none 0 0, .slice none 0 0]) ?_ rfl ⟨RetH.mk' hnm ha hb hc, hset⟩
      rw [results_cell_one rfl]
      go_simp
    · omega

end Go.Proofs.YtfngechoipngmaaGreatDoor
