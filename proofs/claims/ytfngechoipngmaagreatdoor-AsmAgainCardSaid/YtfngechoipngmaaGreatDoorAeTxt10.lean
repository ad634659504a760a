/-
  A line.
  asm.Read.
  asm.Read: the walk.
  A text of at most 20000 bytes is that of few codes.
-/
import Derived.Test.YtfngechoipngmaaGreatDoorAeTxt8
import Derived.Test.YtfngechoipngmaaGreatDoorAeTxt9
namespace Go.Proofs.YtfngechoipngmaaGreatDoor
open Go.RowKit
set_option maxRecDepth 100000

theorem RI.keep {r : Nat} {xs : List CodeV} {x : CodeV} {vm : Value} {st : Int} {L : List (List UInt8)} {w W : World} (h : RI r xs x vm st L w) (hb : Below w.heap.size w W) : RI r xs x vm st L W :=
  { h with blk := keep_below hb h.blk, om := own_keep h.om hb, cur := ⟨own_keep h.cur.oi hb, own_keep h.cur.op hb, own_keep h.cur.ok hb, own_keep h.cur.og hb⟩,
           fin := fun y hy => ⟨own_keep (h.fin y hy).oi hb, own_keep (h.fin y hy).op hb, own_keep (h.fin y hy).ok hb, own_keep (h.fin y hy).og hb⟩ }

/-- the answer of 'line' -/
structure LineR (r : Nat) (L : List (List UInt8)) (s : ByteArray) (w : World) (e : Ending) (w' : World) : Prop where
  ex : (∃ c : Int, e = .returned (.int .i64 c) ∧ (c = 7 ∨ c = 40) ∧ Below r w w') ∨ (e = .returned (.int .i64 0) ∧ Below r w w' ∧ ∃ xs x vm st, RI r xs x vm st (L ++ [s.data.toList]) w')

theorem not_end {s : ByteArray} {wd : ByteArray} (hw : wordOf s 32 = wd) (hne : wd ≠ ⟨#[101, 110, 100]⟩) : s.data.toList ≠ [101, 110, 100] := fun e => hne (hw.symm.trans (wordOf_end s e))

theorem c9_of {W : World} {r : Nat} {vm : Value} {nm : ByteArray} {k l g : Int} {vi vp vk vg : Value} {st : Int} (h : W.heap[r]? = some (.cells (rdC vm nm k l g vi vp vk vg st) 69 (0, 0))) : W.cell? ⟨r, 9, none⟩ = some (.int .i64 st) := (Lib.cell_of_heap h 9).trans rfl

theorem line_c {r : Nat} {xs : List CodeV} {x : CodeV} {vm : Value} {st : Int} {L : List (List UInt8)} {w : World} (s : ByteArray) (h : RI r xs x vm st L w) (hG : GE w) (h7 : 7 ≤ r) (hs : s.size ≤ 65536) (hL : L.length ≤ 60000) (hw : wordOf s 32 = ⟨#[99, 111, 110, 115, 116]⟩) :
    Calls Tryz.prog 27 #[.pointer (some ⟨r, 0, none⟩), .string s] w fun e w' => LineR r L s w e w' := by
  have hrw := (Array.getElem?_eq_some_iff.1 h.blk).1
  have hlp := h.lp
  refine (line_const r s hs hw st (fun W W' => ∃ (v : ValL) (u' : Value), (inI v.k ∧ inI v.n ∧ v.s.size ≤ 65536) ∧ s.data.toList = [99, 111, 110, 115, 116, 32] ++ constL v ∧
      W'.heap[r]? = some (.cells (rdC vm x.c.name x.c.kind x.c.len x.c.regs x.vi u' x.vk x.vg st) 69 (0, 0)) ∧ W'.ownsRow (r + 1) 43 3 u' (x.c.pool.length + 1) ((x.c.pool.flatMap valC) ++ valC v) ∧ Chg r x.vp W W' ∧ (u'.ownBlock = x.vp.ownBlock ∨ ∃ k, u'.ownBlock = some k ∧ W.heap.size ≤ k)) w hrw
    (fun W hb => c9_of (h.keep hb).blk) (fun W hb => ?_)).mono ?_
  · have hk := h.keep hb
    refine (says_const r s hs vm x.c.name x.c.kind x.c.len x.c.regs x.vi x.vp x.vk x.vg st x.c.pool (by omega) W (hG.below hb hG.g.size) h7 hk.blk hk.cur.op).mono ?_
    rintro e w' hr
    obtain ⟨b, rfl, hbl, hy⟩ := hr.ex
    refine ⟨b, rfl, hbl, fun hb1 => ?_⟩
    obtain ⟨v, u', i1, i2, i3, h1, h2, h3, h4, h5⟩ := hy hb1
    exact ⟨⟨v, u', ⟨i1, i2, i3⟩, h1, h2, h3, h4, h5⟩, c9_of h2, Lib.frozen_of_heap h2 9⟩
  · rintro e w' hr
    rcases hr.ex with ⟨c, rfl, hc, hb⟩ | ⟨rfl, h0, hn, W1, ⟨W0, hb0, v, u', hv, h1, h2, h3, h4, h5⟩, rfl⟩
    · exact ⟨.inl ⟨c, rfl, hc, hb⟩⟩
    · have hk := h.keep hb0
      refine ⟨.inr ⟨rfl, ?_, _, _, _, _, step_const hk hL h0 hn hv h1 (not_end hw (by decide)) h2 h3 h4 h5⟩⟩
      exact (hb0.mono (Nat.le_of_lt hrw)).trans ((h4.below (Nat.le_trans (Nat.le_of_lt hrw) hb0.size) fun k hk2 => (hk.cur.op.lt k hk2).1).setCell (Nat.le_refl r) _)

theorem line_k {r : Nat} {xs : List CodeV} {x : CodeV} {vm : Value} {st : Int} {L : List (List UInt8)} {w : World} (s : ByteArray) (h : RI r xs x vm st L w) (hG : GE w) (h7 : 7 ≤ r) (hs : s.size ≤ 65536) (hL : L.length ≤ 60000) (hw : wordOf s 32 = ⟨#[107, 101, 121]⟩) :
    Calls Tryz.prog 27 #[.pointer (some ⟨r, 0, none⟩), .string s] w fun e w' => LineR r L s w e w' := by
  have hrw := (Array.getElem?_eq_some_iff.1 h.blk).1
  have hlp := h.lk
  refine (line_key r s hs hw st (fun W W' => ∃ (v : KeyL) (u' : Value), (inI v.k ∧ inI v.n ∧ v.s.size ≤ 65536) ∧ s.data.toList = [107, 101, 121, 32] ++ keyL v ∧
      W'.heap[r]? = some (.cells (rdC vm x.c.name x.c.kind x.c.len x.c.regs x.vi x.vp u' x.vg st) 69 (0, 0)) ∧ W'.ownsRow (r + 1) 44 3 u' (x.c.keys.length + 1) ((x.c.keys.flatMap keyC) ++ keyC v) ∧ Chg r x.vk W W' ∧ (u'.ownBlock = x.vk.ownBlock ∨ ∃ k, u'.ownBlock = some k ∧ W.heap.size ≤ k)) w hrw
    (fun W hb => c9_of (h.keep hb).blk) (fun W hb => ?_)).mono ?_
  · have hk := h.keep hb
    refine (says_key r s hs vm x.c.name x.c.kind x.c.len x.c.regs x.vi x.vp x.vk x.vg st x.c.keys (by omega) W (hG.below hb hG.g.size) h7 hk.blk hk.cur.ok).mono ?_
    rintro e w' hr
    obtain ⟨b, rfl, hbl, hy⟩ := hr.ex
    refine ⟨b, rfl, hbl, fun hb1 => ?_⟩
    obtain ⟨v, u', i1, i2, i3, h1, h2, h3, h4, h5⟩ := hy hb1
    exact ⟨⟨v, u', ⟨i1, i2, i3⟩, h1, h2, h3, h4, h5⟩, c9_of h2, Lib.frozen_of_heap h2 9⟩
  · rintro e w' hr
    rcases hr.ex with ⟨c, rfl, hc, hb⟩ | ⟨rfl, h0, hn, W1, ⟨W0, hb0, v, u', hv, h1, h2, h3, h4, h5⟩, rfl⟩
    · exact ⟨.inl ⟨c, rfl, hc, hb⟩⟩
    · have hk := h.keep hb0
      refine ⟨.inr ⟨rfl, ?_, _, _, _, _, step_key hk hL h0 hn hv h1 (not_end hw (by decide)) h2 h3 h4 h5⟩⟩
      exact (hb0.mono (Nat.le_of_lt hrw)).trans ((h4.below (Nat.le_trans (Nat.le_of_lt hrw) hb0.size) fun k hk2 => (hk.cur.ok.lt k hk2).1).setCell (Nat.le_refl r) _)

theorem line_g {r : Nat} {xs : List CodeV} {x : CodeV} {vm : Value} {st : Int} {L : List (List UInt8)} {w : World} (s : ByteArray) (h : RI r xs x vm st L w) (hG : GE w) (h7 : 7 ≤ r) (hs : s.size ≤ 65536) (hL : L.length ≤ 60000) (hw : wordOf s 32 = ⟨#[103, 117, 97, 114, 100]⟩) :
    Calls Tryz.prog 27 #[.pointer (some ⟨r, 0, none⟩), .string s] w fun e w' => LineR r L s w e w' := by
  have hrw := (Array.getElem?_eq_some_iff.1 h.blk).1
  have hlp := h.lg
  refine (line_guard r s hs hw st (fun W W' => ∃ (v : GuL) (u' : Value), (inI v.f ∧ inI v.t ∧ inI v.g ∧ inI v.r) ∧ s.data.toList = guardL v.f v.t v.g v.r ∧
      W'.heap[r]? = some (.cells (rdC vm x.c.name x.c.kind x.c.len x.c.regs x.vi x.vp x.vk u' st) 69 (0, 0)) ∧ W'.ownsRow (r + 1) 63 4 u' (x.c.guards.length + 1) ((x.c.guards.flatMap guC) ++ guC v) ∧ Chg r x.vg W W' ∧ (u'.ownBlock = x.vg.ownBlock ∨ ∃ k, u'.ownBlock = some k ∧ W.heap.size ≤ k)) w hrw
    (fun W hb => c9_of (h.keep hb).blk) (fun W hb => ?_)).mono ?_
  · have hk := h.keep hb
    refine (says_guard r s hs vm x.c.name x.c.kind x.c.len x.c.regs x.vi x.vp x.vk x.vg st x.c.guards (by omega) W (hG.below hb hG.g.size) h7 hk.blk hk.cur.og).mono ?_
    rintro e w' hr
    obtain ⟨b, rfl, hbl, hy⟩ := hr.ex
    refine ⟨b, rfl, hbl, fun hb1 => ?_⟩
    obtain ⟨v, u', i1, h1, h2, h3, h4, h5⟩ := hy hb1
    exact ⟨⟨v, u', i1, h1, h2, h3, h4, h5⟩, c9_of h2, Lib.frozen_of_heap h2 9⟩
  · rintro e w' hr
    rcases hr.ex with ⟨c, rfl, hc, hb⟩ | ⟨rfl, h0, hn, W1, ⟨W0, hb0, v, u', hv, h1, h2, h3, h4, h5⟩, rfl⟩
    · exact ⟨.inl ⟨c, rfl, hc, hb⟩⟩
    · have hk := h.keep hb0
      refine ⟨.inr ⟨rfl, ?_, _, _, _, _, step_guard hk hL h0 hn hv h1 (not_end hw (by decide)) h2 h3 h4 h5⟩⟩
      exact (hb0.mono (Nat.le_of_lt hrw)).trans ((h4.below (Nat.le_trans (Nat.le_of_lt hrw) hb0.size) fun k hk2 => (hk.cur.og.lt k hk2).1).setCell (Nat.le_refl r) _)

theorem other_ne {s : ByteArray} (h : Other s) : s ≠ ⟨#[101, 110, 100]⟩ := by
  rintro rfl
  have := h.ende
  rw [ByteArray.toList_eq] at this
  exact absurd this (by decide)

theorem line_i {r : Nat} {xs : List CodeV} {x : CodeV} {vm : Value} {st : Int} {L : List (List UInt8)} {w : World} (s : ByteArray) (h : RI r xs x vm st L w) (hG : GE w) (h7 : 7 ≤ r) (hs : s.size ≤ 65536) (hL : L.length ≤ 60000) (hwd : Other (wordOf s 32)) :
    Calls Tryz.prog 27 #[.pointer (some ⟨r, 0, none⟩), .string s] w fun e w' => LineR r L s w e w' := by
  have hrw := (Array.getElem?_eq_some_iff.1 h.blk).1
  have hlp := h.li
  refine (line_ins r s hs (wordOf s 32) hwd rfl st (fun W W' => ∃ (v : InsL) (u' : Value), (okIns v) ∧ s.data.toList = lineL v ∧
      W'.heap[r]? = some (.cells (rdC vm x.c.name x.c.kind x.c.len x.c.regs u' x.vp x.vk x.vg st) 69 (0, 0)) ∧ W'.ownsRow (r + 1) 46 4 u' (x.c.ins.length + 1) ((x.c.ins.flatMap insC) ++ insC v) ∧ Chg r x.vi W W' ∧ (u'.ownBlock = x.vi.ownBlock ∨ ∃ k, u'.ownBlock = some k ∧ W.heap.size ≤ k)) w hrw
    (fun W hb => c9_of (h.keep hb).blk) (fun W hb => ?_)).mono ?_
  · have hk := h.keep hb
    refine (says_ins r s (wordOf s 32) hs hwd vm x.c.name x.c.kind x.c.len x.c.regs x.vi x.vp x.vk x.vg st x.c.ins (by omega) W (hG.below hb hG.g.size) h7 hk.blk hk.cur.oi).mono ?_
    rintro e w' hr
    obtain ⟨b, rfl, hbl, hy⟩ := hr.ex
    refine ⟨b, rfl, hbl, fun hb1 => ?_⟩
    obtain ⟨v, u', i1, h1, h2, h3, h4, h5⟩ := hy hb1
    exact ⟨⟨v, u', i1, h1, h2, h3, h4, h5⟩, c9_of h2, Lib.frozen_of_heap h2 9⟩
  · rintro e w' hr
    rcases hr.ex with ⟨c, rfl, hc, hb⟩ | ⟨rfl, h0, hn, W1, ⟨W0, hb0, v, u', hv, h1, h2, h3, h4, h5⟩, rfl⟩
    · exact ⟨.inl ⟨c, rfl, hc, hb⟩⟩
    · have hk := h.keep hb0
      refine ⟨.inr ⟨rfl, ?_, _, _, _, _, step_ins hk hL h0 hn hv h1 (not_end rfl (other_ne hwd)) h2 h3 h4 h5⟩⟩
      exact (hb0.mono (Nat.le_of_lt hrw)).trans ((h4.below (Nat.le_trans (Nat.le_of_lt hrw) hb0.size) fun k hk2 => (hk.cur.oi.lt k hk2).1).setCell (Nat.le_refl r) _)

theorem line_h {r : Nat} {xs : List CodeV} {x : CodeV} {vm : Value} {st : Int} {L : List (List UInt8)} {w : World} (s : ByteArray) (h : RI r xs x vm st L w) (hG : GE w) (h7 : 7 ≤ r) (hs : s.size ≤ 65536) (hw : wordOf s 32 = ⟨#[99, 111, 100, 101]⟩) :
    Calls Tryz.prog 27 #[.pointer (some ⟨r, 0, none⟩), .string s] w fun e w' => LineR r L s w e w' := by
  have hrw := (Array.getElem?_eq_some_iff.1 h.blk).1
  refine (line_code r s hs hw st (fun W W' => ∃ (nm : ByteArray) (k l g : Int), nm.size ≤ 65536 ∧ inI k ∧ inI l ∧ inI g ∧ s.data.toList = headL nm.data.toList k l g ∧
      W'.heap[r]? = some (.cells (rdC vm nm k l g (.slice none 0 0) (.slice none 0 0) (.slice none 0 0) (.slice none 0 0) st) 69 (0, 0)) ∧ Chg r (.slice none 0 0) W W') w hrw
    (fun W hb => c9_of (h.keep hb).blk) (fun W hb => ?_)).mono ?_
  · have hk := h.keep hb
    refine (says_code r s hs vm x.c.name x.c.kind x.c.len x.c.regs x.vi x.vp x.vk x.vg st W (hG.below hb hG.g.size) h7 hk.blk).mono ?_
    rintro e w' hr
    obtain ⟨b, rfl, hbl, hy⟩ := hr.ex
    refine ⟨b, rfl, hbl, fun hb1 => ?_⟩
    obtain ⟨nm, k, l, g, i1, i2, i3, i4, h1, h2, h3⟩ := hy hb1
    exact ⟨⟨nm, k, l, g, i1, i2, i3, i4, h1, h2, h3⟩, c9_of h2, Lib.frozen_of_heap h2 9⟩
  · rintro e w' hr
    rcases hr.ex with ⟨c, rfl, hc, hb⟩ | ⟨rfl, h0, W1, ⟨W0, hb0, nm, k, l, g, i1, i2, i3, i4, h1, h2, h3⟩, rfl⟩
    · exact ⟨.inl ⟨c, rfl, hc, hb⟩⟩
    · subst h0
      have hk := h.keep hb0
      refine ⟨.inr ⟨rfl, ?_, _, _, _, _, step_code hk i1 i2 i3 i4 h1 (not_end hw (by decide)) h2 h3⟩⟩
      exact (hb0.mono (Nat.le_of_lt hrw)).trans ((h3.below (Nat.le_trans (Nat.le_of_lt hrw) hb0.size) fun k hk2 => nomatch hk2).setCell (Nat.le_refl r) _)

theorem line_e {r : Nat} {xs : List CodeV} {x : CodeV} {vm : Value} {st : Int} {L : List (List UInt8)} {w : World} (s : ByteArray) (h : RI r xs x vm st L w) (hG : GE w) (h7 : 7 ≤ r) (hs : s.size ≤ 65536) (hx : xs.length ≤ 65000) (hw : wordOf s 32 = ⟨#[101, 110, 100]⟩) :
    Calls Tryz.prog 27 #[.pointer (some ⟨r, 0, none⟩), .string s] w fun e w' => LineR r L s w e w' := by
  have hrw := (Array.getElem?_eq_some_iff.1 h.blk).1
  refine (line_end r s hs hw x.c vm x.vi x.vp x.vk x.vg st xs hx w hG h7 h.blk h.om h.few h.nums (h.cur.code h.few (Nat.le_refl _))).mono ?_
  rintro e w' hr
  rcases hr.ex with ⟨c, rfl, hc, hb⟩ | ⟨rfl, h0, hse, hrt, vm', h1, h2, h3, h4⟩
  · exact ⟨.inl ⟨c, rfl, hc, hb⟩⟩
  · exact ⟨.inr ⟨rfl, h3.below (Nat.le_of_lt hrw) (fun k hk => (h.om.lt k hk).1), _, _, _, _, step_end h h0 hse hrt h1 h2 h3 h4⟩⟩

/-- a line: an error, or the state with one line more -/
theorem line_any_ret {r : Nat} {xs : List CodeV} {x : CodeV} {vm : Value} {st : Int} {L : List (List UInt8)} {w : World} (s : ByteArray) (h : RI r xs x vm st L w) (hG : GE w) (h7 : 7 ≤ r) (hs : s.size ≤ 65536) (hL : L.length ≤ 60000) :
    Calls Tryz.prog 27 #[.pointer (some ⟨r, 0, none⟩), .string s] w fun e w' => LineR r L s w e w' := by
  have hx : xs.length ≤ 65000 := by
    rw [h.en]
    have : ends L ≤ L.length := List.countP_le_length
    omega
  rcases word_cases (wordOf s 32) with hw | hw | hw | hw | hw | hw
  · exact line_h s h hG h7 hs hw
  · exact line_e s h hG h7 hs hx hw
  · exact line_c s h hG h7 hs hL hw
  · exact line_k s h hG h7 hs hL hw
  · exact line_g s h hG h7 hs hL hw
  · exact line_i s h hG h7 hs hL hw

end Go.Proofs.YtfngechoipngmaaGreatDoor

namespace Go.Proofs.YtfngechoipngmaaGreatDoor
open Go.RowKit
set_option maxRecDepth 100000

theorem results_cell_tmp2 {fn : Func} {p u v : Tmp} {ty : TypeId} (h : fn.results = #[.cell p ty, .tmp u, .tmp v]) (tmps : Array Value) (P : Program) (w : World) :
    (results fn tmps).run P w = ((asAddr (tmps.getD p undef)).run P w).andThen fun a w₁ => ((loadVar ty a).run P w₁).andThen fun x w₂ => .ok (.tuple #[x, tmps.getD u undef, tmps.getD v undef]) w₂ := by
  simp only [results, h]
  simp [Sem.run_bind, Result.andThen]

/-- what was read: an image whose text is the text -/
structure ReadOk (s : ByteArray) (xs : List CodeV) (vm : Value) (w' : World) : Prop where
  img : Img w' w'.heap.size vm xs
  right : ∀ y ∈ xs, rightB y.c = true
  tx : txt xs = s.data.toList
  ls : ∃ L : List (List UInt8), joinL L = s.data.toList ∧ (∀ l ∈ L, (10 : UInt8) ∉ l) ∧ xs.length = ends L ∧ (L ≠ [] → L.getLast? = some endW)

/-- the loop's state -/
structure RL (n : Nat) (s t : ByteArray) (w W : World) (L : List (List UInt8)) : Prop where
  tx : s.data.toList = joinL L ++ t.data.toList
  no : ∀ l ∈ L, (10 : UInt8) ∉ l
  ri : ∃ xs x vm st, RI (n + 1) xs x vm st L W
  b0 : W.heap[n]? = some (.cells #[.slice none 0 0] 24 (0, 0))
  bl : Below n w W

theorem joinL_len (L : List (List UInt8)) : L.length ≤ (joinL L).length := by
  induction L with
  | nil => simp
  | cons a r ih => simp only [joinL, List.flatMap_cons, List.length_append, List.length_cons, List.length_nil] at ih ⊢; omega

theorem RL.len {n : Nat} {s t : ByteArray} {w W : World} {L : List (List UInt8)} (h : RL n s t w W L) (hs : s.size ≤ 20000) : L.length + t.size ≤ 20000 := by
  have h1 := congrArg List.length h.tx
  have h2 := joinL_len L
  rw [List.length_append, ← Lib.size_eq, ← Lib.size_eq] at h1
  omega

/-- a reader that is new -/
theorem RI.new {r : Nat} {W : World} (h : W.heap[r]? = some (.cells (rdC (.slice none 0 0) ⟨#[]⟩ 0 0 0 (.slice none 0 0) (.slice none 0 0) (.slice none 0 0) (.slice none 0 0) 0) 69 (0, 0))) : RI r [] (noCode ⟨#[]⟩ 0 0 0) (.slice none 0 0) 0 [] W := by
  have hi0 : inI 0 := by unfold inI; omega
  exact { blk := h, om := World.ownsRow_nil _ _ _ _, cur := noRows _ _ _ _ _ _, vmf := noFar _ _ _ _ _, ip := nil_apart _, ik := nil_apart _, ig := nil_apart _, pk := nil_apart _, pg := nil_apart _, kg := nil_apart _, fin := fun y hy => (nomatch hy), finm := fun y hy => (nomatch hy), fini := fun y hy => (nomatch hy), finp := fun y hy => (nomatch hy), fink := fun y hy => (nomatch hy), fing := fun y hy => (nomatch hy), good := fun y hy => (nomatch hy), few := noFew (by decide) _ _ _, nums := noNums _ hi0 hi0 hi0, st0 := by omega, k1 := fun _ => rfl, k2 := fun _ => rfl, k3 := fun _ => rfl, tx := rfl, en := rfl, lp := Nat.zero_le _, lk := Nat.zero_le _, li := Nat.zero_le _, lg := Nat.zero_le _, la := fun _ q => absurd rfl q }

theorem RI.img_set {r : Nat} {xs : List CodeV} {x : CodeV} {vm : Value} {L : List (List UInt8)} {W : World} (h : RI (r + 1) xs x vm 0 L W) (hl : xs.length ≤ 60000) (u : Value) : Img (W.setCell ⟨r, 0, none⟩ u) (W.setCell ⟨r, 0, none⟩ u).heap.size vm xs := by
  have k : ∀ {e size n : Nat} {v : Value} {ys : List Value}, W.ownsRow (r + 1 + 1) e size v n ys → (W.setCell ⟨r, 0, none⟩ u).ownsRow (r + 1 + 1) e size v n ys := fun h => ownsRow_setCell_below h (a := ⟨r, 0, none⟩) (by show r < r + 1 + 1; omega) u
  exact ⟨own_sl codeC (fun _ => rfl) (k h.om) (Nat.le_refl _) (by omega), fun y hy => Rows.code ⟨k (h.fin y hy).oi, k (h.fin y hy).op, k (h.fin y hy).ok, k (h.fin y hy).og⟩ (h.good y hy).1 (Nat.le_refl _), fun y hy => (h.good y hy).1, fun y hy => (h.good y hy).2.1⟩

theorem RI.img {r : Nat} {xs : List CodeV} {x : CodeV} {vm : Value} {L : List (List UInt8)} {W : World} (h : RI r xs x vm 0 L W) (hl : xs.length ≤ 60000) : Img W W.heap.size vm xs :=
  ⟨own_sl codeC (fun _ => rfl) h.om (Nat.le_refl _) (by omega), fun y hy => (h.fin y hy).code (h.good y hy).1 (Nat.le_refl _), fun y hy => (h.good y hy).1, fun y hy => (h.good y hy).2.1⟩

end Go.Proofs.YtfngechoipngmaaGreatDoor

namespace Go.Proofs.YtfngechoipngmaaGreatDoor
open Go.RowKit
set_option maxRecDepth 100000

theorem own_form {W : World} {b e n k : Nat} {v : Value} {xs : List Value} (h : W.ownsRow b e n v k xs) : ∃ a m c, v = .slice a m c := by
  rcases h.2 with ⟨rfl, _⟩ | ⟨g, cap, _, rfl, _⟩
  · exact ⟨_, _, _, rfl⟩
  · exact ⟨_, _, _, rfl⟩

theorem cut_sizes {t a b : ByteArray} (h : t.data.toList = a.data.toList ++ 10 :: b.data.toList) : t.size = a.size + b.size + 1 := by
  have := congrArg List.length h
  rw [List.length_append, List.length_cons, ← Lib.size_eq, ← Lib.size_eq, ← Lib.size_eq] at this
  omega

theorem LineR.below {r : Nat} {L : List (List UInt8)} {s : ByteArray} {w w' : World} {e : Ending} (h : LineR r L s w e w') : Below r w w' := by
  rcases h.ex with ⟨_, _, _, hb⟩ | ⟨_, hb, _⟩
  · exact hb
  · exact hb

/-- the answer of asm.Read -/
structure ReadR (s : ByteArray) (w : World) (e : Ending) (w' : World) : Prop where
  ex : (∃ l c : Int, e = .returned (.tuple #[.agg #[.slice none 0 0], .int .i64 l, .int .i64 c]) ∧ (c = 7 ∨ c = 8 ∨ c = 40) ∧ Below w.heap.size w w') ∨
    (∃ xs vm, e = .returned (.tuple #[.agg #[vm], .int .i64 0, .int .i64 0]) ∧ Below w.heap.size w w' ∧ ReadOk s xs vm w')

set_option maxHeartbeats 4000000 in
theorem Read_ret (s : ByteArray) (hs : s.size ≤ 20000) (w : World) (hG : GE w) :
    Calls Tryz.prog 11 #[.string s] w fun e w' => ReadR s w e w' := by
  have h7 := hG.g.size
  have HG : Hid (∀ W, Below w.heap.size w W → GE W) := Lib.hid fun W hb => hG.below hb h7
  clear hG
  have hs1 : ¬ ((16777216 : Int) < (s.size : Int)) := by omega
  have HSS := Lib.hid hs
  clear hs
  have H2 := Lib.hid (two_al w (.cells #[.slice none 0 0] 24 (0, 0)) (.cells (rdC (.slice none 0 0) ⟨#[]⟩ 0 0 0 (.slice none 0 0) (.slice none 0 0) (.slice none 0 0) (.slice none 0 0) 0) 69 (0, 0)))
  have HB2 := Lib.hid (below_al2 w (.cells #[.slice none 0 0] 24 (0, 0)) (.cells (rdC (.slice none 0 0) ⟨#[]⟩ 0 0 0 (.slice none 0 0) (.slice none 0 0) (.slice none 0 0) (.slice none 0 0) 0) 69 (0, 0)))
  go_enter Tryz.func11, Tryz.ntmps11
  go_wp2
  go_loopw [0, 3] (fun t i W => ∃ (tt : ByteArray) (L : List (List UInt8)) (li : Int), t = .string tt ∧ i = .int .i64 li ∧ Hid (RL w.heap.size s tt w W L)) (fun t _ _ => match t with | .string b => b.size | _ => 0)
  case atStart => exact ⟨s, [], 0, rfl, by go_num, Lib.hid ⟨by simp [joinL], fun l hl => (nomatch hl), ⟨[], _, _, _, RI.new H2.out.2⟩, H2.out.1, HB2.out⟩⟩
  case round =>
    obtain ⟨t, L, li, rfl, rfl, hrl⟩ := hrel
    have hlen := Lib.hid (hrl.out.len HSS.out)
    obtain ⟨xs, x, vm, st, hri⟩ := hrl.out.ri
    obtain ⟨va, vn, vc, rfl⟩ := own_form hri.om
    replace hri := Lib.hid hri
    have n0 : wr.cell? ⟨w.heap.size, 0, none⟩ = some (.slice none 0 0) := (Lib.cell_of_heap hrl.out.b0 0).trans rfl
    have n1 := Lib.frozen_of_heap hrl.out.b0 0
    have hG1 := Lib.hid (HG.out _ hrl.out.bl)
    clear H2 HB2
    by_cases ht : t.toList = []
    · have c9 : wr.cell? ⟨w.heap.size + 1, 9, none⟩ = some (.int .i64 st) := (Lib.cell_of_heap hri.out.blk 9).trans rfl
      have c0 : wr.cell? ⟨w.heap.size + 1, 0, none⟩ = some (.slice va vn vc) := (Lib.cell_of_heap hri.out.blk 0).trans rfl
      by_cases h0 : st = 0
      · subst h0
        go_wp2
        (try simp only [Exit.inBlock, Exit.then])
        refine bodyPost_ret (v := .tuple #[.agg #[.slice va vn vc], .int .i64 0, .int .i64 0]) ?_ rfl ?_
        · rw [results_cell_tmp2 rfl]
          go_simp
        · have htd : t.data.toList = [] := by rw [← ByteArray.toList_eq]; exact ht
          have htx := hrl.out.tx
          rw [htd, List.append_nil] at htx
          have hxl : xs.length ≤ 60000 := by
            rw [hri.out.en]
            have h1 : ends L ≤ L.length := List.countP_le_length
            have h2 := hlen.out
            omega
          refine ⟨.inr ⟨xs, .slice va vn vc, rfl, hrl.out.bl.setCell (Nat.le_refl _) _, hri.out.img_set hxl _, fun y hy => (hri.out.good y hy).2.2, ?_, L, htx.symm, hrl.out.no, hri.out.en, hri.out.la rfl⟩⟩
          have := hri.out.tx
          rw [if_pos rfl, List.append_nil] at this
          rw [htx, this]
      · go_wp2
        (try simp only [Exit.inBlock, Exit.then])
        refine bodyPost_ret (v := .tuple #[.agg #[.slice none 0 0], .int .i64 li, .int .i64 8]) ?_ rfl ⟨.inl ⟨li, 8, rfl, .inr (.inl rfl), hrl.out.bl.setCell (Nat.le_refl _) _⟩⟩
        rw [results_cell_tmp2 rfl]
        go_simp
    · have hte : t.toList.isEmpty = false := by simpa using ht
      go_wp2_with (first
        | (go_at_call 26; refine (cut_ret t (by have := hlen.out; omega) 10 _).mono ?_; rintro e w1 ⟨hr, hb1⟩; obtain ⟨a, b, ok, rfl, ha, hsp⟩ := hr.ex; clear hr; replace hsp := Lib.hid hsp; replace hb1 := Lib.hid hb1; replace ha := Lib.hid ha; clear n0 n1; have n0 : w1.cell? ⟨w.heap.size, 0, none⟩ = some (.slice none 0 0) := (Lib.cell_of_heap (keep_below hb1.out hrl.out.b0) 0).trans rfl; have n1 := Lib.frozen_of_heap (keep_below hb1.out hrl.out.b0) 0; cases ok)
        | (go_at_call 27; have hsz := cut_sizes (hsp.out trivial).1; refine (line_any_ret a (hri.out.keep hb1.out) (hG1.out.below hb1.out (Nat.le_trans h7 hrl.out.bl.size)) (by omega) (by have := hlen.out; omega) (by have := hlen.out; omega)).mono ?_; rintro e w2 hr; replace hsz := Lib.hid hsz; have hbl := Lib.hid hr.below; clear n0 n1; have k0 := (hbl.out.block w.heap.size (Nat.lt_succ_self _)).trans (keep_below hb1.out hrl.out.b0); have n0 : w2.cell? ⟨w.heap.size, 0, none⟩ = some (.slice none 0 0) := (Lib.cell_of_heap k0 0).trans rfl; have n1 := Lib.frozen_of_heap k0 0; clear k0; rcases hr.ex with ⟨c, rfl, rfl | rfl, _⟩ | ⟨rfl, _, hri2⟩ <;> try replace hri2 := Lib.hid hri2)
        | fail)
      all_goals first
        | (refine bodyPost_ret (v := .tuple #[.agg #[.slice none 0 0], .int .i64 (wrap64 (li + 1)), .int .i64 8]) ?_ rfl ⟨.inl ⟨_, 8, rfl, .inr (.inl rfl), (hrl.out.bl.trans (hb1.out.mono hrl.out.bl.size)).setCell (Nat.le_refl _) _⟩⟩; rw [results_cell_tmp2 rfl]; go_simp; done)
        | (refine bodyPost_ret (v := .tuple #[.agg #[.slice none 0 0], .int .i64 (wrap64 (li + 1)), .int .i64 7]) ?_ rfl ⟨.inl ⟨_, 7, rfl, .inl rfl, ((hrl.out.bl.trans (hb1.out.mono hrl.out.bl.size)).trans (hbl.out.mono (Nat.le_succ _))).setCell (Nat.le_refl _) _⟩⟩; rw [results_cell_tmp2 rfl]; go_simp; done)
        | (refine bodyPost_ret (v := .tuple #[.agg #[.slice none 0 0], .int .i64 (wrap64 (li + 1)), .int .i64 40]) ?_ rfl ⟨.inl ⟨_, 40, rfl, .inr (.inr rfl), ((hrl.out.bl.trans (hb1.out.mono hrl.out.bl.size)).trans (hbl.out.mono (Nat.le_succ _))).setCell (Nat.le_refl _) _⟩⟩; rw [results_cell_tmp2 rfl]; go_simp; done)
        | skip
      obtain ⟨hsp1, hsp2⟩ := hsp.out trivial
      refine ⟨⟨b, L ++ [a.data.toList], _, rfl, rfl, Lib.hid ⟨?_, mem_snoc hrl.out.no hsp2, hri2.out, (hbl.out.block w.heap.size (Nat.lt_succ_self _)).trans (keep_below hb1.out hrl.out.b0), (hrl.out.bl.trans (hb1.out.mono hrl.out.bl.size)).trans (hbl.out.mono (Nat.le_succ _))⟩⟩, ?_⟩
      · rw [hrl.out.tx, hsp1, joinL_append, joinL_one]
        simp
      · show b.size < t.size
        have := hsz.out
        omega

end Go.Proofs.YtfngechoipngmaaGreatDoor

namespace Go.Proofs.YtfngechoipngmaaGreatDoor
open Go.RowKit

theorem itoa_pos (n : Int) : 1 ≤ (Lib.itoa n).length := by
  unfold Lib.itoa
  split
  · simp
  · rw [Lib.decDigits_length]
    exact Lib.nDigits_pos _

theorem codeT_long (c : CodeL) : 18 ≤ (codeT c).length := by
  have h1 := itoa_pos c.kind
  have h2 := itoa_pos c.len
  have h3 := itoa_pos c.regs
  unfold codeT headS headL quoteL
  simp only [List.length_append, List.length_cons, List.length_nil]
  omega

theorem txt_few (xs : List CodeV) : 18 * xs.length ≤ (txt xs).length := by
  induction xs with
  | nil => simp
  | cons x r ih =>
    have h := codeT_long x.c
    have e : (txt (x :: r)).length = (codeT x.c).length + (txt r).length := by unfold txt; rw [List.flatMap_cons, List.length_append]
    rw [e, List.length_cons]
    omega

theorem ReadOk.few {s : ByteArray} {xs : List CodeV} {vm : Value} {w : World} (h : ReadOk s xs vm w) (hs : s.size ≤ 20000) : xs.length ≤ 1200 := by
  have h1 := txt_few xs
  rw [h.tx, ← Lib.size_eq] at h1
  omega

end Go.Proofs.YtfngechoipngmaaGreatDoor
