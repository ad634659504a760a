/-
  What turns in memory while a line is read.
  strings.Cut at one byte.
  A line of a section.
  The first line of a code.
  What a line says: the first and the last line of a code.
  The last line of a code.
  Rows that a reader owns: kept, and as slices.
-/
import Derived.Test.YtfngechoipngmaaGreatDoorAeTxt3
import Derived.Test.YtfngechoipngmaaGreatDoorAeTxt4
import Derived.Test.YtfngechoipngmaaGreatDoorAeTxt1
import Derived.Test.YtfngechoipngmaaGreatDoorAeTxt7
import Derived.Deep.AppendLies
import Derived.Lib.IndexLaws
import Derived.Lib.Split
import Derived.BigQuiet
import Derived.OwnWalk
namespace Go.Proofs.YtfngechoipngmaaGreatDoor
open Go.RowKit
set_option maxRecDepth 100000

/-- the cells of a reader -/
def rdC (vm : Value) (nm : ByteArray) (k l g : Int) (vi vp vk vg : Value) (st : Int) : Array Value := #[vm, .string nm, .int .i64 k, .int .i64 l, .int .i64 g, vi, vp, vk, vg, .int .i64 st]

/-- what turned between two worlds: block r, the row of u, and what is new -/
structure Chg (r : Nat) (u : Value) (w w' : World) : Prop where
  os : w'.os = w.os
  tape : w'.tape = w.tape
  output : w'.output = w.output
  size : w.heap.size ≤ w'.heap.size
  block : ∀ k, k < w.heap.size → k ≠ r → some k ≠ u.ownBlock → w'.heap[k]? = w.heap[k]?

theorem below_grownBy {w w' : World} (h : Below w.heap.size w w') : w.grownBy w' none := ⟨h.os, h.tape, h.output, h.size, fun k hk _ => h.block k hk⟩
theorem own_keep {w w' : World} {base e size n : Nat} {v : Value} {xs : List Value} (h : w.ownsRow base e size v n xs) (hb : Below w.heap.size w w') : w'.ownsRow base e size v n xs :=
  h.kept (below_grownBy hb) (by cases v.ownBlock <;> simp)
theorem below_pro (w : World) (X Y : Obj) : Below w.heap.size w ((w.drew.alloc X).alloc Y) := (Below.refl w.heap.size w).drew.trans (below_al2 w.drew X Y)

theorem hm_next (rn : Nat) : ∀ W, (method 299 110 (.pointer (some ⟨rn, 0, none⟩)) "pantomime/asm.next").run Tryz.prog W = .ok (166, .pointer (some ⟨rn, 0, none⟩)) W := fun _ => by kernel_rfl

theorem Chg.ofBelow {r : Nat} {u : Value} {w w' : World} (h : Below w.heap.size w w') : Chg r u w w' := ⟨h.os, h.tape, h.output, h.size, fun k hk _ _ => h.block k hk⟩
theorem Chg.below {r : Nat} {u : Value} {w w' : World} (h : Chg r u w w') (hrw : r ≤ w.heap.size) (hu : ∀ k, u.ownBlock = some k → r + 1 ≤ k) : Below r w w' :=
  ⟨h.os, h.tape, h.output, h.size, fun k hk => h.block k (by omega) (by omega) (fun e => by have := hu k e.symm; omega)⟩
theorem Chg.trans_below {r : Nat} {u : Value} {w W W' : World} (h : Chg r u w W) (hb : Below W.heap.size W W') : Chg r u w W' :=
  ⟨hb.os.trans h.os, hb.tape.trans h.tape, hb.output.trans h.output, Nat.le_trans h.size hb.size, fun k hk h1 h2 => (hb.block k (Nat.lt_of_lt_of_le hk h.size)).trans (h.block k hk h1 h2)⟩
theorem Chg.set {r : Nat} {u : Value} {w W : World} (h : Chg r u w W) (i : Nat) (v : Value) : Chg r u w (W.setCell ⟨r, i, none⟩ v) :=
  ⟨h.os, h.tape, h.output, by rw [set_size]; exact h.size, fun k hk h1 h2 => (Below.heap_setCell _ _ _ _ h1).trans (h.block k hk h1 h2)⟩

/-- behind an append of a struct -/
theorem app_keep {w w3 W0 W : World} {r : Nat} {u : Value} {X Y R : Obj} (hc : Chg r u w w3) (hg : W0.grownBy W u.ownBlock) (hh : W0.heap = ((w3.alloc X).alloc Y).heap) (h1 : W0.os = w3.os) (h2 : W0.tape = w3.tape) (h3 : W0.output = w3.output)
    (hr : w3.heap[r]? = some R) (hn1 : some r ≠ u.ownBlock) (hn2 : some w3.heap.size ≠ u.ownBlock) : Chg r u w W ∧ W.heap[r]? = some R ∧ W.heap[w3.heap.size]? = some X := by
  have e1 := alloc_size w3 X
  have e2 := alloc_size (w3.alloc X) Y
  have hrw3 := (Array.getElem?_eq_some_iff.1 hr).1
  have old : ∀ k, k < w3.heap.size → W0.heap[k]? = w3.heap[k]? := fun k hk => by rw [hh, Below.heap_alloc _ _ _ (by omega), Below.heap_alloc _ _ _ hk]
  have hz : w3.heap.size + 1 + 1 = W0.heap.size := by rw [hh]; omega
  have hsz := hg.size
  have hcz := hc.size
  refine ⟨⟨hg.os.trans (h1.trans hc.os), hg.tape.trans (h2.trans hc.tape), hg.output.trans (h3.trans hc.output), by omega, fun k hk k1 k2 => ?_⟩, ?_, ?_⟩
  · rw [hg.block k (by omega) k2, old k (by omega)]
    exact hc.block k hk k1 k2
  · rw [hg.block r (by omega) hn1, old r hrw3]
    exact hr
  · rw [hg.block _ (by omega) hn2, hh]
    exact (two_al w3 X Y).1

theorem said_eq {s : ByteArray} {l m : List UInt8} (h : ((bs l ++ bs m).toList == s.toList) = true) : s.data.toList = l ++ m := by
  have e := eq_of_beq h
  rw [ByteArray.toList_eq, ByteArray.toList_eq, bs_append, bs_data] at e
  exact e.symm
theorem said_one {s : ByteArray} {l : List UInt8} (h : ((bs l).toList == s.toList) = true) : s.data.toList = l := by
  have e := eq_of_beq h
  rw [ByteArray.toList_eq, ByteArray.toList_eq, bs_data] at e
  exact e.symm
theorem new_or {u : Value} {bg z z0 n cap : Nat} (h : u.ownBlock = some bg ∨ bg = z + 1 + 1) (hz : z0 ≤ z) : (Value.slice (some ⟨bg, 0, none⟩) n cap).ownBlock = u.ownBlock ∨ ∃ k, (Value.slice (some ⟨bg, 0, none⟩) n cap).ownBlock = some k ∧ z0 ≤ k := by
  rcases h with h | h
  · exact .inl h.symm
  · exact .inr ⟨bg, rfl, by omega⟩

end Go.Proofs.YtfngechoipngmaaGreatDoor

namespace Go.Proofs.YtfngechoipngmaaGreatDoor
open Go.RowKit
set_option maxRecDepth 100000

/-- what stands ahead of the first such byte -/
def wordOf (s : ByteArray) (c : UInt8) : ByteArray := if 0 ≤ Lib.indexByte s.data.toList c then s.extract 0 (Lib.indexByte s.data.toList c).toNat else s

theorem wordOf_end (s : ByteArray) (h : s.data.toList = [101, 110, 100]) : wordOf s 32 = ⟨#[101, 110, 100]⟩ := by
  unfold wordOf
  rw [h, if_neg (by decide)]
  cases s with
  | mk a =>
    congr 1
    exact Array.toList_inj.1 h

/-- the part ahead of the byte and the part behind it -/
structure RetCut (s : ByteArray) (c : UInt8) (e : Ending) : Prop where
  ex : ∃ (a b : ByteArray) (ok : Bool), e = .returned (.tuple #[.string a, .string b, .bool ok]) ∧ a = wordOf s c ∧ (ok = true → s.data.toList = a.data.toList ++ c :: b.data.toList ∧ c ∉ a.data.toList)

theorem split_at (s : ByteArray) (c : UInt8) (o : Nat) (h : Lib.indexByte s.data.toList c = (o : Int)) :
    s.data.toList = (s.extract 0 o).data.toList ++ c :: (s.extract (o + 1) s.size).data.toList ∧ c ∉ (s.extract 0 o).data.toList := by
  obtain ⟨h1, h2⟩ := Lib.indexByte_some h
  rw [Lib.extract_from_zero, Lib.extract_to_end]
  obtain ⟨hl, he⟩ := List.getElem?_eq_some_iff.1 h1
  constructor
  · rw [← he, ← List.drop_eq_getElem_cons hl, List.take_append_drop]
  · intro hm
    obtain ⟨k, hk⟩ := List.mem_iff_getElem?.1 hm
    rw [List.getElem?_take] at hk
    split at hk
    · exact h2 k (by omega) hk
    · cases hk

theorem cut_lite (s : ByteArray) (hs : s.size ≤ 400000) (c : UInt8) (w : World) : Calls Tryz.prog 59 #[.string s, .string ⟨#[c]⟩] w fun e w' => RetCut s c e ∧ Below w.heap.size w w' := by
  have hb := Below.refl w.heap.size w
  by_cases h : 0 ≤ Lib.indexByte s.data.toList c
  · obtain ⟨o, ho⟩ := Int.eq_ofNat_of_zero_le h
    obtain ⟨h1, h2⟩ := split_at s c o ho
    have hol : o < s.size := by
      obtain ⟨h3, _⟩ := Lib.indexByte_some ho
      obtain ⟨h4, _⟩ := List.getElem?_eq_some_iff.1 h3
      rwa [← Lib.size_eq] at h4
    have HO := Lib.hid ho
    have H1 := Lib.hid h1
    have H2 := Lib.hid h2
    clear ho h1 h2 h
    have ho0 : (0 : Int) ≤ (o : Int) := Int.natCast_nonneg _
    have ho1 : (o : Int) ≤ (s.size : Int) := by omega
    have ho2 : (o : Int) + 1 ≤ (s.size : Int) := by omega
    go_enter Tryz.func59, Tryz.ntmps59
    go_wp2_with (first
      | (go_at_call 85; refine (ag_stringslite_Index_one s c _).mono ?_; rintro e w1 ⟨rfl, rfl⟩; rw [HO.out])
      | fail)
    go_quiet (fail)
    go_wp2
    go_ret3
    exact ⟨⟨_, _, _, rfl, by unfold wordOf; rw [HO.out, if_pos (by omega)]; rfl, fun _ => ⟨H1.out, H2.out⟩⟩, below_drewN hb _⟩
  · have HO := Lib.hid h
    have HW : Hid (s = wordOf s c) := Lib.hid (by unfold wordOf; rw [if_neg h])
    clear h
    go_enter Tryz.func59, Tryz.ntmps59
    go_wp2_with (first
      | (go_at_call 85; refine (ag_stringslite_Index_one s c _).mono ?_; rintro e w1 ⟨rfl, rfl⟩; have hneg := HO.out; generalize Lib.indexByte s.data.toList c = v at *)
      | fail)
    go_ret3
    exact ⟨⟨_, _, _, rfl, HW.out, fun h => nomatch h⟩, hb⟩

theorem cut_ret (s : ByteArray) (hs : s.size ≤ 400000) (c : UInt8) (w : World) : Calls Tryz.prog 26 #[.string s, .string ⟨#[c]⟩] w fun e w' => RetCut s c e ∧ Below w.heap.size w w' := by
  go_enter Tryz.func26, Tryz.ntmps26
  go_wp2_with (first
    | (go_at_call 59; refine (cut_lite s hs c _).mono ?_; rintro e w1 ⟨hr, hb1⟩; obtain ⟨a, b, ok, rfl, ha, h⟩ := hr.ex; clear hr; replace h := Lib.hid h; replace ha := Lib.hid ha)
    | fail)
  go_ret3
  exact ⟨⟨_, _, _, rfl, ha.out, h.out⟩, hb1⟩

end Go.Proofs.YtfngechoipngmaaGreatDoor

namespace Go.Proofs.YtfngechoipngmaaGreatDoor
open Go.RowKit
set_option maxRecDepth 100000

/-- the answer of 'says' -/
structure SaysR (r : Nat) (st : Int) (P : World → Prop) (W : World) (e : Ending) (w' : World) : Prop where
  ex : ∃ b : Bool, e = .returned (.bool b) ∧ Below r W w' ∧ (b = true → P w' ∧ w'.cell? ⟨r, 9, none⟩ = some (.int .i64 st) ∧ w'.frozen? ⟨r, 9, none⟩ = false)

/-- the answer of 'line': an error, or what was said, and the section -/
structure LineM (r : Nat) (st n : Int) (P : World → Prop) (w : World) (e : Ending) (w' : World) : Prop where
  ex : (∃ c : Int, e = .returned (.int .i64 c) ∧ (c = 7 ∨ c = 40) ∧ Below r w w') ∨ (e = .returned (.int .i64 0) ∧ st ≠ 0 ∧ st ≤ n ∧ ∃ W, P W ∧ w' = W.setCell ⟨r, 9, none⟩ (.int .i64 n))

set_option maxHeartbeats 4000000 in
theorem line_const (r : Nat) (s : ByteArray) (hs : s.size ≤ 65536) (hw : wordOf s 32 = ⟨#[99, 111, 110, 115, 116]⟩) (st : Int) (P : World → World → Prop) (w : World) (hrw : r < w.heap.size)
    (h9 : ∀ W, Below w.heap.size w W → W.cell? ⟨r, 9, none⟩ = some (.int .i64 st))
    (HS : ∀ W, Below w.heap.size w W → Calls Tryz.prog 61 #[.pointer (some ⟨r, 0, none⟩), .string s, .string ⟨#[99, 111, 110, 115, 116]⟩] W fun e w' => SaysR r st (P W) W e w') :
    Calls Tryz.prog 27 #[.pointer (some ⟨r, 0, none⟩), .string s] w fun e w' => LineM r st 1 (fun W => ∃ W0, Below w.heap.size w W0 ∧ P W0 W) w e w' := by
  have H9 := Lib.hid h9
  have HSH := Lib.hid HS
  clear h9 HS
  by_cases h0 : st = 0
  · subst h0
    go_enter Tryz.func27, Tryz.ntmps27
    go_wp2_with (first
      | (go_at_call 26; refine (cut_ret s (by omega) 32 _).mono ?_; rintro e w1 ⟨hr, hb1⟩; obtain ⟨a, b, ok, rfl, ha, _⟩ := hr.ex; clear hr; rw [hw] at ha; subst ha)
      | (go_at_call 60; refine (place_const _).mono ?_; rintro e w2 ⟨rfl, hb2⟩; have hb := Lib.hid (hb1.trans (hb2.mono hb1.size)); have c9 := H9.out _ hb.out; clear hb1 hb2)
      | fail)
    all_goals
      go_ret
      exact ⟨.inl ⟨7, rfl, .inl rfl, hb.out.mono (Nat.le_of_lt hrw)⟩⟩
  · by_cases hn : st ≤ 1
    · have hn' : ¬ ((1 : Int) < st) := by omega
      go_enter Tryz.func27, Tryz.ntmps27
      go_wp2_with (first
        | (go_at_call 26; refine (cut_ret s (by omega) 32 _).mono ?_; rintro e w1 ⟨hr, hb1⟩; obtain ⟨a, b, ok, rfl, ha, _⟩ := hr.ex; clear hr; rw [hw] at ha; subst ha)
        | (go_at_call 60; refine (place_const _).mono ?_; rintro e w2 ⟨rfl, hb2⟩; have hb := Lib.hid (hb1.trans (hb2.mono hb1.size)); have c9 := H9.out _ hb.out; clear hb1 hb2)
        | (go_at_call 61; refine (HSH.out _ hb.out).mono ?_; rintro e w3 hr; obtain ⟨sb, rfl, hb3, hyes⟩ := hr.ex; clear hr; replace hb3 := Lib.hid hb3; replace hyes := Lib.hid hyes; cases sb <;> first | (obtain ⟨hP, d9, g9⟩ := hyes.out rfl; clear hyes; replace hP := Lib.hid hP) | skip)
        | fail)
      all_goals
        go_ret
        first
          | exact ⟨.inl ⟨40, rfl, .inr rfl, hb.out.mono (Nat.le_of_lt hrw)⟩⟩
          | exact ⟨.inl ⟨7, rfl, .inl rfl, (hb.out.mono (Nat.le_of_lt hrw)).trans hb3.out⟩⟩
          | exact ⟨.inr ⟨rfl, h0, hn, _, ⟨_, hb.out, hP.out⟩, rfl⟩⟩
    · have hn' : (1 : Int) < st := by omega
      go_enter Tryz.func27, Tryz.ntmps27
      go_wp2_with (first
        | (go_at_call 26; refine (cut_ret s (by omega) 32 _).mono ?_; rintro e w1 ⟨hr, hb1⟩; obtain ⟨a, b, ok, rfl, ha, _⟩ := hr.ex; clear hr; rw [hw] at ha; subst ha)
        | (go_at_call 60; refine (place_const _).mono ?_; rintro e w2 ⟨rfl, hb2⟩; have hb := Lib.hid (hb1.trans (hb2.mono hb1.size)); have c9 := H9.out _ hb.out; clear hb1 hb2)
        | fail)
      all_goals
        go_ret
        first
          | exact ⟨.inl ⟨7, rfl, .inl rfl, hb.out.mono (Nat.le_of_lt hrw)⟩⟩
          | exact ⟨.inl ⟨40, rfl, .inr rfl, hb.out.mono (Nat.le_of_lt hrw)⟩⟩

set_option maxHeartbeats 4000000 in
theorem line_key (r : Nat) (s : ByteArray) (hs : s.size ≤ 65536) (hw : wordOf s 32 = ⟨#[107, 101, 121]⟩) (st : Int) (P : World → World → Prop) (w : World) (hrw : r < w.heap.size)
    (h9 : ∀ W, Below w.heap.size w W → W.cell? ⟨r, 9, none⟩ = some (.int .i64 st))
    (HS : ∀ W, Below w.heap.size w W → Calls Tryz.prog 61 #[.pointer (some ⟨r, 0, none⟩), .string s, .string ⟨#[107, 101, 121]⟩] W fun e w' => SaysR r st (P W) W e w') :
    Calls Tryz.prog 27 #[.pointer (some ⟨r, 0, none⟩), .string s] w fun e w' => LineM r st 2 (fun W => ∃ W0, Below w.heap.size w W0 ∧ P W0 W) w e w' := by
  have H9 := Lib.hid h9
  have HSH := Lib.hid HS
  clear h9 HS
  by_cases h0 : st = 0
  · subst h0
    go_enter Tryz.func27, Tryz.ntmps27
    go_wp2_with (first
      | (go_at_call 26; refine (cut_ret s (by omega) 32 _).mono ?_; rintro e w1 ⟨hr, hb1⟩; obtain ⟨a, b, ok, rfl, ha, _⟩ := hr.ex; clear hr; rw [hw] at ha; subst ha)
      | (go_at_call 60; refine (place_key _).mono ?_; rintro e w2 ⟨rfl, hb2⟩; have hb := Lib.hid (hb1.trans (hb2.mono hb1.size)); have c9 := H9.out _ hb.out; clear hb1 hb2)
      | fail)
    all_goals
      go_ret
      exact ⟨.inl ⟨7, rfl, .inl rfl, hb.out.mono (Nat.le_of_lt hrw)⟩⟩
  · by_cases hn : st ≤ 2
    · have hn' : ¬ ((2 : Int) < st) := by omega
      go_enter Tryz.func27, Tryz.ntmps27
      go_wp2_with (first
        | (go_at_call 26; refine (cut_ret s (by omega) 32 _).mono ?_; rintro e w1 ⟨hr, hb1⟩; obtain ⟨a, b, ok, rfl, ha, _⟩ := hr.ex; clear hr; rw [hw] at ha; subst ha)
        | (go_at_call 60; refine (place_key _).mono ?_; rintro e w2 ⟨rfl, hb2⟩; have hb := Lib.hid (hb1.trans (hb2.mono hb1.size)); have c9 := H9.out _ hb.out; clear hb1 hb2)
        | (go_at_call 61; refine (HSH.out _ hb.out).mono ?_; rintro e w3 hr; obtain ⟨sb, rfl, hb3, hyes⟩ := hr.ex; clear hr; replace hb3 := Lib.hid hb3; replace hyes := Lib.hid hyes; cases sb <;> first | (obtain ⟨hP, d9, g9⟩ := hyes.out rfl; clear hyes; replace hP := Lib.hid hP) | skip)
        | fail)
      all_goals
        go_ret
        first
          | exact ⟨.inl ⟨40, rfl, .inr rfl, hb.out.mono (Nat.le_of_lt hrw)⟩⟩
          | exact ⟨.inl ⟨7, rfl, .inl rfl, (hb.out.mono (Nat.le_of_lt hrw)).trans hb3.out⟩⟩
          | exact ⟨.inr ⟨rfl, h0, hn, _, ⟨_, hb.out, hP.out⟩, rfl⟩⟩
    · have hn' : (2 : Int) < st := by omega
      go_enter Tryz.func27, Tryz.ntmps27
      go_wp2_with (first
        | (go_at_call 26; refine (cut_ret s (by omega) 32 _).mono ?_; rintro e w1 ⟨hr, hb1⟩; obtain ⟨a, b, ok, rfl, ha, _⟩ := hr.ex; clear hr; rw [hw] at ha; subst ha)
        | (go_at_call 60; refine (place_key _).mono ?_; rintro e w2 ⟨rfl, hb2⟩; have hb := Lib.hid (hb1.trans (hb2.mono hb1.size)); have c9 := H9.out _ hb.out; clear hb1 hb2)
        | fail)
      all_goals
        go_ret
        first
          | exact ⟨.inl ⟨7, rfl, .inl rfl, hb.out.mono (Nat.le_of_lt hrw)⟩⟩
          | exact ⟨.inl ⟨40, rfl, .inr rfl, hb.out.mono (Nat.le_of_lt hrw)⟩⟩

set_option maxHeartbeats 4000000 in
theorem line_guard (r : Nat) (s : ByteArray) (hs : s.size ≤ 65536) (hw : wordOf s 32 = ⟨#[103, 117, 97, 114, 100]⟩) (st : Int) (P : World → World → Prop) (w : World) (hrw : r < w.heap.size)
    (h9 : ∀ W, Below w.heap.size w W → W.cell? ⟨r, 9, none⟩ = some (.int .i64 st))
    (HS : ∀ W, Below w.heap.size w W → Calls Tryz.prog 61 #[.pointer (some ⟨r, 0, none⟩), .string s, .string ⟨#[103, 117, 97, 114, 100]⟩] W fun e w' => SaysR r st (P W) W e w') :
    Calls Tryz.prog 27 #[.pointer (some ⟨r, 0, none⟩), .string s] w fun e w' => LineM r st 4 (fun W => ∃ W0, Below w.heap.size w W0 ∧ P W0 W) w e w' := by
  have H9 := Lib.hid h9
  have HSH := Lib.hid HS
  clear h9 HS
  by_cases h0 : st = 0
  · subst h0
    go_enter Tryz.func27, Tryz.ntmps27
    go_wp2_with (first
      | (go_at_call 26; refine (cut_ret s (by omega) 32 _).mono ?_; rintro e w1 ⟨hr, hb1⟩; obtain ⟨a, b, ok, rfl, ha, _⟩ := hr.ex; clear hr; rw [hw] at ha; subst ha)
      | (go_at_call 60; refine (place_guard _).mono ?_; rintro e w2 ⟨rfl, hb2⟩; have hb := Lib.hid (hb1.trans (hb2.mono hb1.size)); have c9 := H9.out _ hb.out; clear hb1 hb2)
      | fail)
    all_goals
      go_ret
      exact ⟨.inl ⟨7, rfl, .inl rfl, hb.out.mono (Nat.le_of_lt hrw)⟩⟩
  · by_cases hn : st ≤ 4
    · have hn' : ¬ ((4 : Int) < st) := by omega
      go_enter Tryz.func27, Tryz.ntmps27
      go_wp2_with (first
        | (go_at_call 26; refine (cut_ret s (by omega) 32 _).mono ?_; rintro e w1 ⟨hr, hb1⟩; obtain ⟨a, b, ok, rfl, ha, _⟩ := hr.ex; clear hr; rw [hw] at ha; subst ha)
        | (go_at_call 60; refine (place_guard _).mono ?_; rintro e w2 ⟨rfl, hb2⟩; have hb := Lib.hid (hb1.trans (hb2.mono hb1.size)); have c9 := H9.out _ hb.out; clear hb1 hb2)
        | (go_at_call 61; refine (HSH.out _ hb.out).mono ?_; rintro e w3 hr; obtain ⟨sb, rfl, hb3, hyes⟩ := hr.ex; clear hr; replace hb3 := Lib.hid hb3; replace hyes := Lib.hid hyes; cases sb <;> first | (obtain ⟨hP, d9, g9⟩ := hyes.out rfl; clear hyes; replace hP := Lib.hid hP) | skip)
        | fail)
      all_goals
        go_ret
        first
          | exact ⟨.inl ⟨40, rfl, .inr rfl, hb.out.mono (Nat.le_of_lt hrw)⟩⟩
          | exact ⟨.inl ⟨7, rfl, .inl rfl, (hb.out.mono (Nat.le_of_lt hrw)).trans hb3.out⟩⟩
          | exact ⟨.inr ⟨rfl, h0, hn, _, ⟨_, hb.out, hP.out⟩, rfl⟩⟩
    · have hn' : (4 : Int) < st := by omega
      go_enter Tryz.func27, Tryz.ntmps27
      go_wp2_with (first
        | (go_at_call 26; refine (cut_ret s (by omega) 32 _).mono ?_; rintro e w1 ⟨hr, hb1⟩; obtain ⟨a, b, ok, rfl, ha, _⟩ := hr.ex; clear hr; rw [hw] at ha; subst ha)
        | (go_at_call 60; refine (place_guard _).mono ?_; rintro e w2 ⟨rfl, hb2⟩; have hb := Lib.hid (hb1.trans (hb2.mono hb1.size)); have c9 := H9.out _ hb.out; clear hb1 hb2)
        | fail)
      all_goals
        go_ret
        first
          | exact ⟨.inl ⟨7, rfl, .inl rfl, hb.out.mono (Nat.le_of_lt hrw)⟩⟩
          | exact ⟨.inl ⟨40, rfl, .inr rfl, hb.out.mono (Nat.le_of_lt hrw)⟩⟩

set_option maxHeartbeats 4000000 in
theorem line_ins (r : Nat) (s : ByteArray) (hs : s.size ≤ 65536) (wd : ByteArray) (hwd : Other wd) (hw : wordOf s 32 = wd) (st : Int) (P : World → World → Prop) (w : World) (hrw : r < w.heap.size)
    (h9 : ∀ W, Below w.heap.size w W → W.cell? ⟨r, 9, none⟩ = some (.int .i64 st))
    (HS : ∀ W, Below w.heap.size w W → Calls Tryz.prog 61 #[.pointer (some ⟨r, 0, none⟩), .string s, .string wd] W fun e w' => SaysR r st (P W) W e w') :
    Calls Tryz.prog 27 #[.pointer (some ⟨r, 0, none⟩), .string s] w fun e w' => LineM r st 3 (fun W => ∃ W0, Below w.heap.size w W0 ∧ P W0 W) w e w' := by
  have H9 := Lib.hid h9
  have HSH := Lib.hid HS
  clear h9 HS
  obtain ⟨o1, o2, o3, o4, o5⟩ := id hwd
  by_cases h0 : st = 0
  · subst h0
    go_enter Tryz.func27, Tryz.ntmps27
    go_wp2_with (first
      | (go_at_call 26; refine (cut_ret s (by omega) 32 _).mono ?_; rintro e w1 ⟨hr, hb1⟩; obtain ⟨a, b, ok, rfl, ha, _⟩ := hr.ex; clear hr; rw [hw] at ha; subst ha)
      | (go_at_call 60; refine (place_other _ hwd _).mono ?_; rintro e w2 ⟨hr, hb2⟩; obtain ⟨pb, rfl⟩ := hr.ex; clear hr; have hb := Lib.hid (hb1.trans (hb2.mono hb1.size)); have c9 := H9.out _ hb.out; clear hb1 hb2)
      | fail)
    all_goals
      go_ret
      exact ⟨.inl ⟨7, rfl, .inl rfl, hb.out.mono (Nat.le_of_lt hrw)⟩⟩
  · by_cases hn : st ≤ 3
    · have hn' : ¬ ((3 : Int) < st) := by omega
      go_enter Tryz.func27, Tryz.ntmps27
      go_wp2_with (first
        | (go_at_call 26; refine (cut_ret s (by omega) 32 _).mono ?_; rintro e w1 ⟨hr, hb1⟩; obtain ⟨a, b, ok, rfl, ha, _⟩ := hr.ex; clear hr; rw [hw] at ha; subst ha)
        | (go_at_call 60; refine (place_other _ hwd _).mono ?_; rintro e w2 ⟨hr, hb2⟩; obtain ⟨pb, rfl⟩ := hr.ex; clear hr; have hb := Lib.hid (hb1.trans (hb2.mono hb1.size)); have c9 := H9.out _ hb.out; clear hb1 hb2)
        | (go_at_call 61; refine (HSH.out _ hb.out).mono ?_; rintro e w3 hr; obtain ⟨sb, rfl, hb3, hyes⟩ := hr.ex; clear hr; replace hb3 := Lib.hid hb3; replace hyes := Lib.hid hyes; cases sb <;> first | (obtain ⟨hP, d9, g9⟩ := hyes.out rfl; clear hyes; replace hP := Lib.hid hP) | skip)
        | fail)
      all_goals
        go_ret
        first
          | exact ⟨.inl ⟨40, rfl, .inr rfl, hb.out.mono (Nat.le_of_lt hrw)⟩⟩
          | exact ⟨.inl ⟨7, rfl, .inl rfl, (hb.out.mono (Nat.le_of_lt hrw)).trans hb3.out⟩⟩
          | exact ⟨.inr ⟨rfl, h0, hn, _, ⟨_, hb.out, hP.out⟩, rfl⟩⟩
    · have hn' : (3 : Int) < st := by omega
      go_enter Tryz.func27, Tryz.ntmps27
      go_wp2_with (first
        | (go_at_call 26; refine (cut_ret s (by omega) 32 _).mono ?_; rintro e w1 ⟨hr, hb1⟩; obtain ⟨a, b, ok, rfl, ha, _⟩ := hr.ex; clear hr; rw [hw] at ha; subst ha)
        | (go_at_call 60; refine (place_other _ hwd _).mono ?_; rintro e w2 ⟨hr, hb2⟩; obtain ⟨pb, rfl⟩ := hr.ex; clear hr; have hb := Lib.hid (hb1.trans (hb2.mono hb1.size)); have c9 := H9.out _ hb.out; clear hb1 hb2)
        | fail)
      all_goals
        go_ret
        first
          | exact ⟨.inl ⟨7, rfl, .inl rfl, hb.out.mono (Nat.le_of_lt hrw)⟩⟩
          | exact ⟨.inl ⟨40, rfl, .inr rfl, hb.out.mono (Nat.le_of_lt hrw)⟩⟩

end Go.Proofs.YtfngechoipngmaaGreatDoor

namespace Go.Proofs.YtfngechoipngmaaGreatDoor
open Go.RowKit
set_option maxRecDepth 100000

/-- the answer of 'line' at a first line -/
structure LineC (r : Nat) (st : Int) (P : World → Prop) (w : World) (e : Ending) (w' : World) : Prop where
  ex : (∃ c : Int, e = .returned (.int .i64 c) ∧ (c = 7 ∨ c = 40) ∧ Below r w w') ∨ (e = .returned (.int .i64 0) ∧ st = 0 ∧ ∃ W, P W ∧ w' = W.setCell ⟨r, 9, none⟩ (.int .i64 1))

set_option maxHeartbeats 4000000 in
theorem line_code (r : Nat) (s : ByteArray) (hs : s.size ≤ 65536) (hw : wordOf s 32 = ⟨#[99, 111, 100, 101]⟩) (st : Int) (P : World → World → Prop) (w : World) (hrw : r < w.heap.size)
    (h9 : ∀ W, Below w.heap.size w W → W.cell? ⟨r, 9, none⟩ = some (.int .i64 st))
    (HS : ∀ W, Below w.heap.size w W → Calls Tryz.prog 61 #[.pointer (some ⟨r, 0, none⟩), .string s, .string ⟨#[99, 111, 100, 101]⟩] W fun e w' => SaysR r st (P W) W e w') :
    Calls Tryz.prog 27 #[.pointer (some ⟨r, 0, none⟩), .string s] w fun e w' => LineC r st (fun W => ∃ W0, Below w.heap.size w W0 ∧ P W0 W) w e w' := by
  have H9 := Lib.hid h9
  have HSH := Lib.hid HS
  clear h9 HS
  by_cases h0 : st = 0
  · subst h0
    go_enter Tryz.func27, Tryz.ntmps27
    go_wp2_with (first
      | (go_at_call 26; refine (cut_ret s (by omega) 32 _).mono ?_; rintro e w1 ⟨hr, hb1⟩; obtain ⟨a, b, ok, rfl, ha, _⟩ := hr.ex; clear hr; rw [hw] at ha; subst ha)
      | (go_at_call 60; refine (place_code _).mono ?_; rintro e w2 ⟨rfl, hb2⟩; have hb := Lib.hid (hb1.trans (hb2.mono hb1.size)); have c9 := H9.out _ hb.out; clear hb1 hb2)
      | (go_at_call 61; refine (HSH.out _ hb.out).mono ?_; rintro e w3 hr; obtain ⟨sb, rfl, hb3, hyes⟩ := hr.ex; clear hr; replace hb3 := Lib.hid hb3; replace hyes := Lib.hid hyes; cases sb <;> first | (obtain ⟨hP, d9, g9⟩ := hyes.out rfl; clear hyes; replace hP := Lib.hid hP) | skip)
      | fail)
    all_goals
      go_ret
      first
        | exact ⟨.inl ⟨7, rfl, .inl rfl, (hb.out.mono (Nat.le_of_lt hrw)).trans hb3.out⟩⟩
        | exact ⟨.inr ⟨rfl, rfl, _, ⟨_, hb.out, hP.out⟩, rfl⟩⟩
  · have h0b : (st == 0) = false := by simpa using h0
    go_enter Tryz.func27, Tryz.ntmps27
    go_wp2_with (first
      | (go_at_call 26; refine (cut_ret s (by omega) 32 _).mono ?_; rintro e w1 ⟨hr, hb1⟩; obtain ⟨a, b, ok, rfl, ha, _⟩ := hr.ex; clear hr; rw [hw] at ha; subst ha)
      | (go_at_call 60; refine (place_code _).mono ?_; rintro e w2 ⟨rfl, hb2⟩; have hb := Lib.hid (hb1.trans (hb2.mono hb1.size)); have c9 := H9.out _ hb.out; clear hb1 hb2)
      | fail)
    all_goals
      go_ret
      exact ⟨.inl ⟨7, rfl, .inl rfl, hb.out.mono (Nat.le_of_lt hrw)⟩⟩

end Go.Proofs.YtfngechoipngmaaGreatDoor

namespace Go.Proofs.YtfngechoipngmaaGreatDoor
open Go.RowKit
set_option maxRecDepth 100000

/-- the answer of 'says' at the last line -/
structure SaidE (s : ByteArray) (w : World) (e : Ending) (w' : World) : Prop where
  ex : ∃ b : Bool, e = .returned (.bool b) ∧ Below w.heap.size w w' ∧ (b = true → s.data.toList = [101, 110, 100])

set_option maxHeartbeats 4000000 in
theorem says_end (r : Nat) (s : ByteArray) (hs : s.size ≤ 65536) (w : World) :
    Calls Tryz.prog 61 #[.pointer (some ⟨r, 0, none⟩), .string s, .string ⟨#[101, 110, 100]⟩] w fun e w' => SaidE s w e w' := by
  obtain ⟨zs, cap, A, hcv, q1, q2, q3⟩ := conv_str s (by omega) w
  have hRn := Rn.new (w := w) (cap := cap) q1 q2 q3
  have HB := Lib.hid (below_pro w (.cells A 21 (0, 0)) (.cells #[.slice (some ⟨w.heap.size, 0, none⟩) zs.length cap, .int .i64 0] 113 (0, 0)))
  replace hRn := Lib.hid hRn
  clear q1 q2 q3
  have hm := hm_next (w.heap.size + 1)
  have HNX := Lib.hid (next_ret (w.heap.size + 1) w.heap.size cap)
  generalize zs.length = zl at *
  go_enter Tryz.func61, Tryz.ntmps61
  go_wp2_with (first
    | (simp only)
    | (simp only [hm])
    | (go_at_call 166; refine (HNX.out _ zs _ hRn.out).mono ?_; rintro e w1 ⟨t, tok, k1, rfl, ht, hR1, hgr⟩; replace HB := Lib.hid (below_grown HB.out hgr HB.out.size (Nat.le_succ _)); replace hRn := Lib.hid hR1; clear hgr hR1)
    | fail)
  go_ret
  refine ⟨_, rfl, HB.out, fun hb => ?_⟩
  have e := eq_of_beq hb
  rw [ByteArray.toList_eq] at e
  exact e

theorem eight {r : Nat} {w W : World} {vm : Value} {nm : ByteArray} {k l g : Int} {vi vp vk vg : Value} {st : Int} {u : Value} (hc : Chg r u w W) (hr : W.heap[r]? = some (.cells (rdC vm nm k l g vi vp vk vg st) 69 (0, 0))) (a : ByteArray) (b c d : Int) :
    Chg r u w ((((((((W.setCell ⟨r, 1, none⟩ (.string a)).setCell ⟨r, 2, none⟩ (.int .i64 b)).setCell ⟨r, 3, none⟩ (.int .i64 c)).setCell ⟨r, 4, none⟩ (.int .i64 d)).setCell ⟨r, 5, none⟩ (.slice none 0 0)).setCell ⟨r, 6, none⟩ (.slice none 0 0)).setCell ⟨r, 7, none⟩ (.slice none 0 0)).setCell ⟨r, 8, none⟩ (.slice none 0 0)) ∧ ((((((((W.setCell ⟨r, 1, none⟩ (.string a)).setCell ⟨r, 2, none⟩ (.int .i64 b)).setCell ⟨r, 3, none⟩ (.int .i64 c)).setCell ⟨r, 4, none⟩ (.int .i64 d)).setCell ⟨r, 5, none⟩ (.slice none 0 0)).setCell ⟨r, 6, none⟩ (.slice none 0 0)).setCell ⟨r, 7, none⟩ (.slice none 0 0)).setCell ⟨r, 8, none⟩ (.slice none 0 0)).heap[r]? = some (.cells (rdC vm a b c d (.slice none 0 0) (.slice none 0 0) (.slice none 0 0) (.slice none 0 0) st) 69 (0, 0)) := by
  have c1 := hc.set 1 (.string a)
  have c2 := c1.set 2 (.int .i64 b)
  have c3 := c2.set 3 (.int .i64 c)
  have c4 := c3.set 4 (.int .i64 d)
  have c5 := c4.set 5 (.slice none 0 0)
  have c6 := c5.set 6 (.slice none 0 0)
  have c7 := c6.set 7 (.slice none 0 0)
  have c8 := c7.set 8 (.slice none 0 0)
  have h1 : (W.setCell ⟨r, 1, none⟩ (.string a)).heap[r]? = some (.cells (rdC vm a k l g vi vp vk vg st) 69 (0, 0)) := set_block (i := 1) hr (.string a)
  have h2 : ((W.setCell ⟨r, 1, none⟩ (.string a)).setCell ⟨r, 2, none⟩ (.int .i64 b)).heap[r]? = some (.cells (rdC vm a b l g vi vp vk vg st) 69 (0, 0)) := set_block (i := 2) h1 (.int .i64 b)
  have h3 : (((W.setCell ⟨r, 1, none⟩ (.string a)).setCell ⟨r, 2, none⟩ (.int .i64 b)).setCell ⟨r, 3, none⟩ (.int .i64 c)).heap[r]? = some (.cells (rdC vm a b c g vi vp vk vg st) 69 (0, 0)) := set_block (i := 3) h2 (.int .i64 c)
  have h4 : ((((W.setCell ⟨r, 1, none⟩ (.string a)).setCell ⟨r, 2, none⟩ (.int .i64 b)).setCell ⟨r, 3, none⟩ (.int .i64 c)).setCell ⟨r, 4, none⟩ (.int .i64 d)).heap[r]? = some (.cells (rdC vm a b c d vi vp vk vg st) 69 (0, 0)) := set_block (i := 4) h3 (.int .i64 d)
  have h5 : (((((W.setCell ⟨r, 1, none⟩ (.string a)).setCell ⟨r, 2, none⟩ (.int .i64 b)).setCell ⟨r, 3, none⟩ (.int .i64 c)).setCell ⟨r, 4, none⟩ (.int .i64 d)).setCell ⟨r, 5, none⟩ (.slice none 0 0)).heap[r]? = some (.cells (rdC vm a b c d (.slice none 0 0) vp vk vg st) 69 (0, 0)) := set_block (i := 5) h4 (.slice none 0 0)
  have h6 : ((((((W.setCell ⟨r, 1, none⟩ (.string a)).setCell ⟨r, 2, none⟩ (.int .i64 b)).setCell ⟨r, 3, none⟩ (.int .i64 c)).setCell ⟨r, 4, none⟩ (.int .i64 d)).setCell ⟨r, 5, none⟩ (.slice none 0 0)).setCell ⟨r, 6, none⟩ (.slice none 0 0)).heap[r]? = some (.cells (rdC vm a b c d (.slice none 0 0) (.slice none 0 0) vk vg st) 69 (0, 0)) := set_block (i := 6) h5 (.slice none 0 0)
  have h7 : (((((((W.setCell ⟨r, 1, none⟩ (.string a)).setCell ⟨r, 2, none⟩ (.int .i64 b)).setCell ⟨r, 3, none⟩ (.int .i64 c)).setCell ⟨r, 4, none⟩ (.int .i64 d)).setCell ⟨r, 5, none⟩ (.slice none 0 0)).setCell ⟨r, 6, none⟩ (.slice none 0 0)).setCell ⟨r, 7, none⟩ (.slice none 0 0)).heap[r]? = some (.cells (rdC vm a b c d (.slice none 0 0) (.slice none 0 0) (.slice none 0 0) vg st) 69 (0, 0)) := set_block (i := 7) h6 (.slice none 0 0)
  have h8 : ((((((((W.setCell ⟨r, 1, none⟩ (.string a)).setCell ⟨r, 2, none⟩ (.int .i64 b)).setCell ⟨r, 3, none⟩ (.int .i64 c)).setCell ⟨r, 4, none⟩ (.int .i64 d)).setCell ⟨r, 5, none⟩ (.slice none 0 0)).setCell ⟨r, 6, none⟩ (.slice none 0 0)).setCell ⟨r, 7, none⟩ (.slice none 0 0)).setCell ⟨r, 8, none⟩ (.slice none 0 0)).heap[r]? = some (.cells (rdC vm a b c d (.slice none 0 0) (.slice none 0 0) (.slice none 0 0) (.slice none 0 0) st) 69 (0, 0)) := set_block (i := 8) h7 (.slice none 0 0)
  exact ⟨c8, h8⟩

/-- the answer of 'says' at the first line -/
structure SaidH (r : Nat) (s : ByteArray) (vm : Value) (st : Int) (w : World) (e : Ending) (w' : World) : Prop where
  ex : ∃ b : Bool, e = .returned (.bool b) ∧ Below r w w' ∧ (b = true → ∃ (nm : ByteArray) (k l g : Int), nm.size ≤ 65536 ∧ inI k ∧ inI l ∧ inI g ∧ s.data.toList = headL nm.data.toList k l g ∧
    w'.heap[r]? = some (.cells (rdC vm nm k l g (.slice none 0 0) (.slice none 0 0) (.slice none 0 0) (.slice none 0 0) st) 69 (0, 0)) ∧ Chg r (.slice none 0 0) w w')

set_option maxHeartbeats 4000000 in
theorem says_code (r : Nat) (s : ByteArray) (hs : s.size ≤ 65536) (vm : Value) (nm : ByteArray) (k l g : Int) (vi vp vk vg : Value) (st : Int) (w : World) (hG : GE w) (h7 : 7 ≤ r)
    (hr : w.heap[r]? = some (.cells (rdC vm nm k l g vi vp vk vg st) 69 (0, 0))) :
    Calls Tryz.prog 61 #[.pointer (some ⟨r, 0, none⟩), .string s, .string ⟨#[99, 111, 100, 101]⟩] w fun e w' => SaidH r s vm st w e w' := by
  have hrw := (Array.getElem?_eq_some_iff.1 hr).1
  have HG : Hid (∀ W, Below r w W → GE W) := Lib.hid fun W hb => hG.below hb h7
  clear hG
  obtain ⟨zs, cap, A, hcv, q1, q2, q3⟩ := conv_str s (by omega) w
  have hRn := Rn.new (w := w) (cap := cap) q1 q2 q3
  have HB := Lib.hid (below_pro w (.cells A 21 (0, 0)) (.cells #[.slice (some ⟨w.heap.size, 0, none⟩) zs.length cap, .int .i64 0] 113 (0, 0)))
  have HZ : Hid (w.heap.size + 1 < ((w.drew.alloc (.cells A 21 (0, 0))).alloc (.cells #[.slice (some ⟨w.heap.size, 0, none⟩) zs.length cap, .int .i64 0] 113 (0, 0))).heap.size) := Lib.hid hRn.lt
  replace hRn := Lib.hid hRn
  clear q1 q2 q3
  have hm := hm_next (w.heap.size + 1)
  have HNX := Lib.hid (next_ret (w.heap.size + 1) w.heap.size cap)
  have HU : Hid (∀ k, (Value.slice none 0 0).ownBlock = some k → r + 1 ≤ k) := Lib.hid fun k hk => nomatch hk
  generalize zs.length = zl at *
  go_enter Tryz.func61, Tryz.ntmps61
  go_wp2_with (first
    | (simp only)
    | (simp only [hm])
    | (go_at_call 166; refine (HNX.out _ zs _ hRn.out).mono ?_; rintro e w1 ⟨t, tok, k1, rfl, ht, hR1, hgr⟩; replace HB := Lib.hid (below_grown HB.out hgr HB.out.size (Nat.le_succ _)); replace HZ := Lib.hid (Nat.lt_of_lt_of_le HZ.out hgr.size); replace hRn := Lib.hid hR1; clear hgr hR1)
    | (go_at_call 87; refine (header_ret w.heap.size (w.heap.size + 1) w.heap.size cap _ zs _ (HG.out _ (HB.out.mono (Nat.le_of_lt hrw))) (by omega) (Nat.le_succ _) HB.out.size (Nat.lt_of_succ_lt HZ.out) hRn.out).mono ?_; rintro e w3 ⟨hr', hb3⟩; obtain ⟨n', k', l', g', rfl, hn', hk', hl', hg'⟩ := hr'.ex; clear hr'; replace HB := Lib.hid (HB.out.trans hb3); clear hb3; have hr3 := keep_below HB.out hr; have c1 : w3.cell? ⟨r, 1, none⟩ = some _ := (Lib.cell_of_heap hr3 1).trans rfl; have c2 : w3.cell? ⟨r, 2, none⟩ = some _ := (Lib.cell_of_heap hr3 2).trans rfl; have c3 : w3.cell? ⟨r, 3, none⟩ = some _ := (Lib.cell_of_heap hr3 3).trans rfl; have c4 : w3.cell? ⟨r, 4, none⟩ = some _ := (Lib.cell_of_heap hr3 4).trans rfl; have c5 : w3.cell? ⟨r, 5, none⟩ = some _ := (Lib.cell_of_heap hr3 5).trans rfl; have c6 : w3.cell? ⟨r, 6, none⟩ = some _ := (Lib.cell_of_heap hr3 6).trans rfl; have c7 : w3.cell? ⟨r, 7, none⟩ = some _ := (Lib.cell_of_heap hr3 7).trans rfl; have c8 : w3.cell? ⟨r, 8, none⟩ = some _ := (Lib.cell_of_heap hr3 8).trans rfl; have f1 := Lib.frozen_of_heap hr3 1; have f2 := Lib.frozen_of_heap hr3 2; have f3 := Lib.frozen_of_heap hr3 3; have f4 := Lib.frozen_of_heap hr3 4; have f5 := Lib.frozen_of_heap hr3 5; have f6 := Lib.frozen_of_heap hr3 6; have f7 := Lib.frozen_of_heap hr3 7; have f8 := Lib.frozen_of_heap hr3 8; replace hr3 := Lib.hid hr3; have HC3 : Hid (Chg r (.slice none 0 0) w w3) := Lib.hid (Chg.ofBelow HB.out); clear hm hcv)
    | (go_at_call 16; have h8 := eight HC3.out hr3.out n' k' l' g'; refine (headed_ret n' k' l' g' _ _ _ _ hn' hk' hl' hg' _ (HG.out _ (h8.1.below (Nat.le_of_lt hrw) HU.out)).g).mono ?_; rintro e w6 ⟨rfl, hb6⟩; replace h8 := Lib.hid h8)
    | fail)
  go_ret
  exact ⟨_, rfl, (h8.out.1.trans_below hb6).below (Nat.le_of_lt hrw) HU.out, fun hb => ⟨n', k', l', g', hn', hk', hl', hg', said_one hb, keep_below hb6 h8.out.2, h8.out.1.trans_below hb6⟩⟩

end Go.Proofs.YtfngechoipngmaaGreatDoor

namespace Go.Proofs.YtfngechoipngmaaGreatDoor
open Go.RowKit
set_option maxRecDepth 100000

theorem codeInfo : (Tryz.prog.info? 36).map (fun i => (i.zero, i.size, i.bytes)) = some (some (.agg #[.string ⟨#[]⟩, .int .i64 0, .int .i64 0, .int .i64 0, .slice none 0 0, .slice none 0 0, .slice none 0 0, .slice none 0 0]), 8, 136) := by kernel_rfl

/-- behind an append of a struct that was loaded -/
theorem app_keep1 {w w3 W0 W : World} {r : Nat} {u : Value} {Y R : Obj} (hc : Chg r u w w3) (hg : W0.grownBy W u.ownBlock) (hh : W0.heap = (w3.alloc Y).heap) (h1 : W0.os = w3.os) (h2 : W0.tape = w3.tape) (h3 : W0.output = w3.output)
    (hr : w3.heap[r]? = some R) (hn1 : some r ≠ u.ownBlock) : Chg r u w W ∧ W.heap[r]? = some R := by
  have e1 := alloc_size w3 Y
  have hrw3 := (Array.getElem?_eq_some_iff.1 hr).1
  have old : ∀ k, k < w3.heap.size → W0.heap[k]? = w3.heap[k]? := fun k hk => by rw [hh, Below.heap_alloc _ _ _ hk]
  have hz : w3.heap.size + 1 = W0.heap.size := by rw [hh]; omega
  have hsz := hg.size
  have hcz := hc.size
  refine ⟨⟨hg.os.trans (h1.trans hc.os), hg.tape.trans (h2.trans hc.tape), hg.output.trans (h3.trans hc.output), by omega, fun k hk k1 k2 => ?_⟩, ?_⟩
  · rw [hg.block k (by omega) k2, old k (by omega)]
    exact hc.block k hk k1 k2
  · rw [hg.block r (by omega) hn1, old r hrw3]
    exact hr

theorem new_or1 {u : Value} {bg z z0 n cap : Nat} (h : u.ownBlock = some bg ∨ bg = z + 1) (hz : z0 ≤ z) : (Value.slice (some ⟨bg, 0, none⟩) n cap).ownBlock = u.ownBlock ∨ ∃ k, (Value.slice (some ⟨bg, 0, none⟩) n cap).ownBlock = some k ∧ z0 ≤ k := by
  rcases h with h | h
  · exact .inl h.symm
  · exact .inr ⟨bg, rfl, by omega⟩

theorem ten {r e sz n : Nat} {w W : World} {vm v v' : Value} {nm : ByteArray} {k l g : Int} {vi vp vk vg : Value} {st : Int} {u : Value} {ys : List Value} (hc : Chg r u w W) (hr : W.heap[r]? = some (.cells (rdC vm nm k l g vi vp vk vg st) 69 (0, 0))) (ho : W.ownsRow (r + 1) e sz v' n ys) :
    Chg r u w ((((((((((W.setCell ⟨r, 0, none⟩ v).setCell ⟨r, 1, none⟩ (.string ⟨#[]⟩)).setCell ⟨r, 2, none⟩ (.int .i64 0)).setCell ⟨r, 3, none⟩ (.int .i64 0)).setCell ⟨r, 4, none⟩ (.int .i64 0)).setCell ⟨r, 5, none⟩ (.slice none 0 0)).setCell ⟨r, 6, none⟩ (.slice none 0 0)).setCell ⟨r, 7, none⟩ (.slice none 0 0)).setCell ⟨r, 8, none⟩ (.slice none 0 0)).setCell ⟨r, 9, none⟩ (.int .i64 0)) ∧ ((((((((((W.setCell ⟨r, 0, none⟩ v).setCell ⟨r, 1, none⟩ (.string ⟨#[]⟩)).setCell ⟨r, 2, none⟩ (.int .i64 0)).setCell ⟨r, 3, none⟩ (.int .i64 0)).setCell ⟨r, 4, none⟩ (.int .i64 0)).setCell ⟨r, 5, none⟩ (.slice none 0 0)).setCell ⟨r, 6, none⟩ (.slice none 0 0)).setCell ⟨r, 7, none⟩ (.slice none 0 0)).setCell ⟨r, 8, none⟩ (.slice none 0 0)).setCell ⟨r, 9, none⟩ (.int .i64 0)).heap[r]? = some (.cells (rdC v ⟨#[]⟩ 0 0 0 (.slice none 0 0) (.slice none 0 0) (.slice none 0 0) (.slice none 0 0) 0) 69 (0, 0)) ∧ ((((((((((W.setCell ⟨r, 0, none⟩ v).setCell ⟨r, 1, none⟩ (.string ⟨#[]⟩)).setCell ⟨r, 2, none⟩ (.int .i64 0)).setCell ⟨r, 3, none⟩ (.int .i64 0)).setCell ⟨r, 4, none⟩ (.int .i64 0)).setCell ⟨r, 5, none⟩ (.slice none 0 0)).setCell ⟨r, 6, none⟩ (.slice none 0 0)).setCell ⟨r, 7, none⟩ (.slice none 0 0)).setCell ⟨r, 8, none⟩ (.slice none 0 0)).setCell ⟨r, 9, none⟩ (.int .i64 0)).ownsRow (r + 1) e sz v' n ys := by
  have c0 := hc.set 0 v
  have c1 := c0.set 1 (.string ⟨#[]⟩)
  have c2 := c1.set 2 (.int .i64 0)
  have c3 := c2.set 3 (.int .i64 0)
  have c4 := c3.set 4 (.int .i64 0)
  have c5 := c4.set 5 (.slice none 0 0)
  have c6 := c5.set 6 (.slice none 0 0)
  have c7 := c6.set 7 (.slice none 0 0)
  have c8 := c7.set 8 (.slice none 0 0)
  have c9 := c8.set 9 (.int .i64 0)
  have h0 : (W.setCell ⟨r, 0, none⟩ v).heap[r]? = some (.cells (rdC v nm k l g vi vp vk vg st) 69 (0, 0)) := set_block (i := 0) hr v
  have h1 : ((W.setCell ⟨r, 0, none⟩ v).setCell ⟨r, 1, none⟩ (.string ⟨#[]⟩)).heap[r]? = some (.cells (rdC v ⟨#[]⟩ k l g vi vp vk vg st) 69 (0, 0)) := set_block (i := 1) h0 (.string ⟨#[]⟩)
  have h2 : (((W.setCell ⟨r, 0, none⟩ v).setCell ⟨r, 1, none⟩ (.string ⟨#[]⟩)).setCell ⟨r, 2, none⟩ (.int .i64 0)).heap[r]? = some (.cells (rdC v ⟨#[]⟩ 0 l g vi vp vk vg st) 69 (0, 0)) := set_block (i := 2) h1 (.int .i64 0)
  have h3 : ((((W.setCell ⟨r, 0, none⟩ v).setCell ⟨r, 1, none⟩ (.string ⟨#[]⟩)).setCell ⟨r, 2, none⟩ (.int .i64 0)).setCell ⟨r, 3, none⟩ (.int .i64 0)).heap[r]? = some (.cells (rdC v ⟨#[]⟩ 0 0 g vi vp vk vg st) 69 (0, 0)) := set_block (i := 3) h2 (.int .i64 0)
  have h4 : (((((W.setCell ⟨r, 0, none⟩ v).setCell ⟨r, 1, none⟩ (.string ⟨#[]⟩)).setCell ⟨r, 2, none⟩ (.int .i64 0)).setCell ⟨r, 3, none⟩ (.int .i64 0)).setCell ⟨r, 4, none⟩ (.int .i64 0)).heap[r]? = some (.cells (rdC v ⟨#[]⟩ 0 0 0 vi vp vk vg st) 69 (0, 0)) := set_block (i := 4) h3 (.int .i64 0)
  have h5 : ((((((W.setCell ⟨r, 0, none⟩ v).setCell ⟨r, 1, none⟩ (.string ⟨#[]⟩)).setCell ⟨r, 2, none⟩ (.int .i64 0)).setCell ⟨r, 3, none⟩ (.int .i64 0)).setCell ⟨r, 4, none⟩ (.int .i64 0)).setCell ⟨r, 5, none⟩ (.slice none 0 0)).heap[r]? = some (.cells (rdC v ⟨#[]⟩ 0 0 0 (.slice none 0 0) vp vk vg st) 69 (0, 0)) := set_block (i := 5) h4 (.slice none 0 0)
  have h6 : (((((((W.setCell ⟨r, 0, none⟩ v).setCell ⟨r, 1, none⟩ (.string ⟨#[]⟩)).setCell ⟨r, 2, none⟩ (.int .i64 0)).setCell ⟨r, 3, none⟩ (.int .i64 0)).setCell ⟨r, 4, none⟩ (.int .i64 0)).setCell ⟨r, 5, none⟩ (.slice none 0 0)).setCell ⟨r, 6, none⟩ (.slice none 0 0)).heap[r]? = some (.cells (rdC v ⟨#[]⟩ 0 0 0 (.slice none 0 0) (.slice none 0 0) vk vg st) 69 (0, 0)) := set_block (i := 6) h5 (.slice none 0 0)
  have h7 : ((((((((W.setCell ⟨r, 0, none⟩ v).setCell ⟨r, 1, none⟩ (.string ⟨#[]⟩)).setCell ⟨r, 2, none⟩ (.int .i64 0)).setCell ⟨r, 3, none⟩ (.int .i64 0)).setCell ⟨r, 4, none⟩ (.int .i64 0)).setCell ⟨r, 5, none⟩ (.slice none 0 0)).setCell ⟨r, 6, none⟩ (.slice none 0 0)).setCell ⟨r, 7, none⟩ (.slice none 0 0)).heap[r]? = some (.cells (rdC v ⟨#[]⟩ 0 0 0 (.slice none 0 0) (.slice none 0 0) (.slice none 0 0) vg st) 69 (0, 0)) := set_block (i := 7) h6 (.slice none 0 0)
  have h8 : (((((((((W.setCell ⟨r, 0, none⟩ v).setCell ⟨r, 1, none⟩ (.string ⟨#[]⟩)).setCell ⟨r, 2, none⟩ (.int .i64 0)).setCell ⟨r, 3, none⟩ (.int .i64 0)).setCell ⟨r, 4, none⟩ (.int .i64 0)).setCell ⟨r, 5, none⟩ (.slice none 0 0)).setCell ⟨r, 6, none⟩ (.slice none 0 0)).setCell ⟨r, 7, none⟩ (.slice none 0 0)).setCell ⟨r, 8, none⟩ (.slice none 0 0)).heap[r]? = some (.cells (rdC v ⟨#[]⟩ 0 0 0 (.slice none 0 0) (.slice none 0 0) (.slice none 0 0) (.slice none 0 0) st) 69 (0, 0)) := set_block (i := 8) h7 (.slice none 0 0)
  have h9 : ((((((((((W.setCell ⟨r, 0, none⟩ v).setCell ⟨r, 1, none⟩ (.string ⟨#[]⟩)).setCell ⟨r, 2, none⟩ (.int .i64 0)).setCell ⟨r, 3, none⟩ (.int .i64 0)).setCell ⟨r, 4, none⟩ (.int .i64 0)).setCell ⟨r, 5, none⟩ (.slice none 0 0)).setCell ⟨r, 6, none⟩ (.slice none 0 0)).setCell ⟨r, 7, none⟩ (.slice none 0 0)).setCell ⟨r, 8, none⟩ (.slice none 0 0)).setCell ⟨r, 9, none⟩ (.int .i64 0)).heap[r]? = some (.cells (rdC v ⟨#[]⟩ 0 0 0 (.slice none 0 0) (.slice none 0 0) (.slice none 0 0) (.slice none 0 0) 0) 69 (0, 0)) := set_block (i := 9) h8 (.int .i64 0)
  have o0 := ownsRow_setCell_below ho (a := ⟨r, 0, none⟩) (Nat.lt_succ_self r) v
  have o1 := ownsRow_setCell_below o0 (a := ⟨r, 1, none⟩) (Nat.lt_succ_self r) (.string ⟨#[]⟩)
  have o2 := ownsRow_setCell_below o1 (a := ⟨r, 2, none⟩) (Nat.lt_succ_self r) (.int .i64 0)
  have o3 := ownsRow_setCell_below o2 (a := ⟨r, 3, none⟩) (Nat.lt_succ_self r) (.int .i64 0)
  have o4 := ownsRow_setCell_below o3 (a := ⟨r, 4, none⟩) (Nat.lt_succ_self r) (.int .i64 0)
  have o5 := ownsRow_setCell_below o4 (a := ⟨r, 5, none⟩) (Nat.lt_succ_self r) (.slice none 0 0)
  have o6 := ownsRow_setCell_below o5 (a := ⟨r, 6, none⟩) (Nat.lt_succ_self r) (.slice none 0 0)
  have o7 := ownsRow_setCell_below o6 (a := ⟨r, 7, none⟩) (Nat.lt_succ_self r) (.slice none 0 0)
  have o8 := ownsRow_setCell_below o7 (a := ⟨r, 8, none⟩) (Nat.lt_succ_self r) (.slice none 0 0)
  have o9 := ownsRow_setCell_below o8 (a := ⟨r, 9, none⟩) (Nat.lt_succ_self r) (.int .i64 0)
  exact ⟨c9, h9, o9⟩

/-- the answer of 'line' at a last line -/
structure LineE (r : Nat) (s : ByteArray) (st : Int) (vm : Value) (x : CodeV) (xs : List CodeV) (w : World) (e : Ending) (w' : World) : Prop where
  ex : (∃ c : Int, e = .returned (.int .i64 c) ∧ (c = 7 ∨ c = 40) ∧ Below r w w') ∨ (e = .returned (.int .i64 0) ∧ st ≠ 0 ∧ s.data.toList = [101, 110, 100] ∧ rightB x.c = true ∧ ∃ vm',
    w'.heap[r]? = some (.cells (rdC vm' ⟨#[]⟩ 0 0 0 (.slice none 0 0) (.slice none 0 0) (.slice none 0 0) (.slice none 0 0) 0) 69 (0, 0)) ∧ w'.ownsRow (r + 1) 36 8 vm' (xs.length + 1) ((xs.flatMap codeC) ++ codeC x) ∧ Chg r vm w w' ∧
    (vm'.ownBlock = vm.ownBlock ∨ ∃ k, vm'.ownBlock = some k ∧ w.heap.size ≤ k))

theorem SlAt.one {w : World} {B n : Nat} {v : Value} {xs : List (List Value)} (h : SlAt w B n v xs) : v.oneCell' = true := by
  obtain ⟨a, c, e⟩ := h.slice
  rw [e]
  rfl

set_option maxHeartbeats 4000000 in
theorem line_end (r : Nat) (s : ByteArray) (hs : s.size ≤ 65536) (hw : wordOf s 32 = ⟨#[101, 110, 100]⟩) (c : CodeL) (vm vi vp vk vg : Value) (st : Int) (xs : List CodeV) (hx : xs.length ≤ 65000) (w : World) (_hG : GE w) (_h7 : 7 ≤ r)
    (hr : w.heap[r]? = some (.cells (rdC vm c.name c.kind c.len c.regs vi vp vk vg st) 69 (0, 0))) (ho : w.ownsRow (r + 1) 36 8 vm xs.length (xs.flatMap codeC)) (hf : Few c) (hn : Nums c) (hc : CodeAt w w.heap.size c vi vp vk vg) :
    Calls Tryz.prog 27 #[.pointer (some ⟨r, 0, none⟩), .string s] w fun e w' => LineE r s st vm ⟨c, vi, vp, vk, vg⟩ xs w e w' := by
  have hrw := (Array.getElem?_eq_some_iff.1 hr).1
  have HU : Hid (∀ k, vm.ownBlock = some k → r + 1 ≤ k) := Lib.hid fun k hk => (ho.lt k hk).1
  by_cases h0 : st = 0
  · subst h0
    have H9 : Hid (∀ W, Below w.heap.size w W → W.cell? ⟨r, 9, none⟩ = some (.int .i64 0)) := Lib.hid fun W hb => (Lib.cell_of_heap (keep_below hb hr) 9).trans rfl
    go_enter Tryz.func27, Tryz.ntmps27
    go_wp2_with (first
      | (go_at_call 26; refine (cut_ret s (by omega) 32 _).mono ?_; rintro e w1 ⟨hr, hb1⟩; obtain ⟨a, b, ok, rfl, ha, _⟩ := hr.ex; clear hr; rw [hw] at ha; subst ha)
      | (go_at_call 60; refine (place_end _).mono ?_; rintro e w2 ⟨rfl, hb2⟩; have hb := Lib.hid (hb1.trans (hb2.mono hb1.size)); have c9 := H9.out _ hb.out; clear hb1 hb2)
      | fail)
    all_goals
      go_ret
      exact ⟨.inl ⟨7, rfl, .inl rfl, hb.out.mono (Nat.le_of_lt hrw)⟩⟩
  · have h0b : (st == 0) = false := by simpa using h0
    have HR : Hid (∀ W, Below w.heap.size w W → W.heap[r]? = some (.cells (rdC vm c.name c.kind c.len c.regs vi vp vk vg st) 69 (0, 0))) := Lib.hid fun W hb => keep_below hb hr
    have HCA := Lib.hid hc
    have HOM := Lib.hid ho
    have HO1 : Hid (∀ u ∈ codeC ⟨c, vi, vp, vk, vg⟩, u.oneCell' = true) := Lib.hid (by
      unfold codeC
      have e1 := hc.ins.one; have e2 := hc.pool.one; have e3 := hc.keys.one; have e4 := hc.guards.one
      simp [e1, e2, e3, e4]; simp [Value.oneCell'])
    have HFN := Lib.hid (And.intro hf hn)
    clear hc ho hr hf hn
    go_enter Tryz.func27, Tryz.ntmps27
    go_wp2_with (first
      | (go_at_call 26; refine (cut_ret s (by omega) 32 _).mono ?_; rintro e w1 ⟨hr, hb1⟩; obtain ⟨a, b, ok, rfl, ha, _⟩ := hr.ex; clear hr; rw [hw] at ha; subst ha)
      | (go_at_call 60; refine (place_end _).mono ?_; rintro e w2 ⟨rfl, hb2⟩; have hb := Lib.hid (hb1.trans (hb2.mono hb1.size)); have c9 : w2.cell? ⟨r, 9, none⟩ = some (.int .i64 st) := (Lib.cell_of_heap (HR.out _ hb.out) 9).trans rfl; clear hb1 hb2)
      | (go_at_call 61; refine (says_end r s hs _).mono ?_; rintro e w3 hr; obtain ⟨sb, rfl, hb3, hyes⟩ := hr.ex; clear hr; replace hb := Lib.hid (hb.out.trans (hb3.mono hb.out.size)); clear hb3; replace hyes := Lib.hid hyes; have hr3 := HR.out _ hb.out; have c1 : w3.cell? ⟨r, 1, none⟩ = some (.string c.name) := (Lib.cell_of_heap hr3 1).trans rfl; have c2 : w3.cell? ⟨r, 2, none⟩ = some (.int .i64 c.kind) := (Lib.cell_of_heap hr3 2).trans rfl; have c3 : w3.cell? ⟨r, 3, none⟩ = some (.int .i64 c.len) := (Lib.cell_of_heap hr3 3).trans rfl; have c4 : w3.cell? ⟨r, 4, none⟩ = some (.int .i64 c.regs) := (Lib.cell_of_heap hr3 4).trans rfl; have c5 : w3.cell? ⟨r, 5, none⟩ = some vi := (Lib.cell_of_heap hr3 5).trans rfl; have c6 : w3.cell? ⟨r, 6, none⟩ = some vp := (Lib.cell_of_heap hr3 6).trans rfl; have c7 : w3.cell? ⟨r, 7, none⟩ = some vk := (Lib.cell_of_heap hr3 7).trans rfl; have c8 : w3.cell? ⟨r, 8, none⟩ = some vg := (Lib.cell_of_heap hr3 8).trans rfl; replace hr3 := Lib.hid hr3; cases sb)
      | (go_at_call 15; refine (right_ret c w.heap.size vi vp vk vg HFN.out.1 HFN.out.2 _ hb.out.size (HCA.out.below hb.out)).mono ?_; rintro e w4 ⟨rfl, hb4⟩; replace hb := Lib.hid (hb.out.trans (hb4.mono hb.out.size)); clear hb4 hr3; generalize hrb : rightB c = rb; replace hrb := Lib.hid hrb; cases rb)
      | fail)
    all_goals first
      | (go_ret; exact ⟨.inl ⟨7, rfl, .inl rfl, hb.out.mono (Nat.le_of_lt hrw)⟩⟩)
      | skip
    have hr4 := HR.out _ hb.out
    have hrw4 := (Array.getElem?_eq_some_iff.1 hr4).1
    have ho4 := Lib.hid (own_keep HOM.out hb.out)
    clear c1 c2 c3 c4 c5 c6 c7 c8 c9
    have d0 : w4.cell? ⟨r, 0, none⟩ = some vm := (Lib.cell_of_heap hr4 0).trans rfl; have d1 : w4.cell? ⟨r, 1, none⟩ = some (.string c.name) := (Lib.cell_of_heap hr4 1).trans rfl; have d2 : w4.cell? ⟨r, 2, none⟩ = some (.int .i64 c.kind) := (Lib.cell_of_heap hr4 2).trans rfl; have d3 : w4.cell? ⟨r, 3, none⟩ = some (.int .i64 c.len) := (Lib.cell_of_heap hr4 3).trans rfl; have d4 : w4.cell? ⟨r, 4, none⟩ = some (.int .i64 c.regs) := (Lib.cell_of_heap hr4 4).trans rfl; have d5 : w4.cell? ⟨r, 5, none⟩ = some vi := (Lib.cell_of_heap hr4 5).trans rfl; have d6 : w4.cell? ⟨r, 6, none⟩ = some vp := (Lib.cell_of_heap hr4 6).trans rfl; have d7 : w4.cell? ⟨r, 7, none⟩ = some vk := (Lib.cell_of_heap hr4 7).trans rfl; have d8 : w4.cell? ⟨r, 8, none⟩ = some vg := (Lib.cell_of_heap hr4 8).trans rfl; have d9 : w4.cell? ⟨r, 9, none⟩ = some (.int .i64 st) := (Lib.cell_of_heap hr4 9).trans rfl
    replace hr4 := Lib.hid hr4
    obtain ⟨i0, hi, hz0, hz1, hz2⟩ := info_parts codeInfo
    have HI := Lib.hid hi
    have HZ0 := Lib.hid hz0
    have HZ1 := Lib.hid hz1
    have HZ2 := Lib.hid hz2
    clear hi hz0 hz1 hz2
    have HL1 : Hid (xs.length + 1 ≤ maxLen) := Lib.hid (by unfold maxLen; omega)
    have HL2 : Hid ((xs.length + 1) * 136 ≤ 140737488355328) := Lib.hid (by omega)
    have HSZ : Hid (∀ Y, r + 1 ≤ (w4.alloc Y).heap.size) := Lib.hid fun Y => by rw [alloc_size]; omega
    have HN1 : Hid (some r ≠ vm.ownBlock) := Lib.hid fun e => by have := HU.out r e.symm; omega
    have HC4 : Hid (Chg r vm w w4) := Lib.hid (Chg.ofBelow hb.out)
    go_region_law ((refine step_append_lies _ (by rfl) _ _ _ (by rfl) (r + 1) 36 i0 (.agg #[.string ⟨#[]⟩, .int .i64 0, .int .i64 0, .int .i64 0, .slice none 0 0, .slice none 0 0, .slice none 0 0, .slice none 0 0]) 8 136 Tryz.underlying22 HI.out HZ0.out HZ1.out HZ2.out rfl (by decide) vm xs.length (xs.flatMap codeC) (by rfl) (ho4.out.alloc _) ⟨w4.heap.size, 0, none⟩ 1 1 (codeC ⟨c, vi, vp, vk, vg⟩) (by rfl) rfl (World.news_of_block (alloc_new w4 _)) HO1.out (by omega) HL1.out HL2.out (HSZ.out _) (w4.heap.size + 1) (by simp) ?_; intro bg bcap w5 hown hgrow hat hlt; obtain ⟨hc5, hr5⟩ := app_keep1 HC4.out hgrow rfl rfl rfl rfl hr4.out HN1.out; have e0 : w5.cell? ⟨r, 0, none⟩ = some vm := (Lib.cell_of_heap hr5 0).trans rfl; have e1 : w5.cell? ⟨r, 1, none⟩ = some (.string c.name) := (Lib.cell_of_heap hr5 1).trans rfl; have e2 : w5.cell? ⟨r, 2, none⟩ = some (.int .i64 c.kind) := (Lib.cell_of_heap hr5 2).trans rfl; have e3 : w5.cell? ⟨r, 3, none⟩ = some (.int .i64 c.len) := (Lib.cell_of_heap hr5 3).trans rfl; have e4 : w5.cell? ⟨r, 4, none⟩ = some (.int .i64 c.regs) := (Lib.cell_of_heap hr5 4).trans rfl; have e5 : w5.cell? ⟨r, 5, none⟩ = some vi := (Lib.cell_of_heap hr5 5).trans rfl; have e6 : w5.cell? ⟨r, 6, none⟩ = some vp := (Lib.cell_of_heap hr5 6).trans rfl; have e7 : w5.cell? ⟨r, 7, none⟩ = some vk := (Lib.cell_of_heap hr5 7).trans rfl; have e8 : w5.cell? ⟨r, 8, none⟩ = some vg := (Lib.cell_of_heap hr5 8).trans rfl; have e9 : w5.cell? ⟨r, 9, none⟩ = some (.int .i64 st) := (Lib.cell_of_heap hr5 9).trans rfl; have f0 := Lib.frozen_of_heap hr5 0; have f1 := Lib.frozen_of_heap hr5 1; have f2 := Lib.frozen_of_heap hr5 2; have f3 := Lib.frozen_of_heap hr5 3; have f4 := Lib.frozen_of_heap hr5 4; have f5 := Lib.frozen_of_heap hr5 5; have f6 := Lib.frozen_of_heap hr5 6; have f7 := Lib.frozen_of_heap hr5 7; have f8 := Lib.frozen_of_heap hr5 8; have f9 := Lib.frozen_of_heap hr5 9; replace hown := Lib.hid hown; replace hat := Lib.hid hat; replace hc5 := Lib.hid hc5; replace hr5 := Lib.hid hr5; clear hgrow))
    all_goals
      obtain ⟨k1, k2, k3⟩ := ten (v := .slice (some ⟨bg, 0, none⟩) (xs.length + 1) bcap) hc5.out hr5.out hown.out
      replace k1 := Lib.hid k1
      replace k2 := Lib.hid k2
      replace k3 := Lib.hid k3
      go_wp2
      go_ret
      refine ⟨.inr ⟨rfl, h0, hyes.out trivial, hrb.out, .slice (some ⟨bg, 0, none⟩) (xs.length + 1) bcap, ?zb, ?zc, ?zd, ?ze⟩⟩
      case zb => with_reducible exact k2.out
      case zc => with_reducible exact k3.out
      case zd => with_reducible exact k1.out
      case ze => exact new_or1 hat.out hb.out.size

end Go.Proofs.YtfngechoipngmaaGreatDoor

namespace Go.Proofs.YtfngechoipngmaaGreatDoor
open Go.RowKit
set_option maxRecDepth 100000

/-- two slices that lie in blocks of their own -/
def apart (a b : Value) : Prop := ∀ k, a.ownBlock = some k → b.ownBlock ≠ some k
theorem apart.symm {a b : Value} (h : apart a b) : apart b a := fun k h1 h2 => h k h2 h1

theorem own_chg {w W : World} {r e size n : Nat} {v u : Value} {xs : List Value} (h : w.ownsRow (r + 1) e size v n xs) (hc : Chg r u w W) (ha : apart v u) : W.ownsRow (r + 1) e size v n xs := by
  refine ⟨h.1, ?_⟩
  rcases h.2 with h2 | ⟨g, cap, cur, rfl, hb, hg, h3⟩
  · exact .inl h2
  · have hlt := (Array.getElem?_eq_some_iff.1 hg).1
    refine .inr ⟨g, cap, cur, rfl, hb, ?_, h3⟩
    rw [hc.block g hlt (by omega) (fun e => ha g rfl e.symm)]
    exact hg

/-- a new value of the row lies apart from what lay apart from the old one -/
theorem apart_new {w : World} {r e size n : Nat} {v u u' : Value} {xs : List Value} (h : w.ownsRow (r + 1) e size v n xs) (ha : apart v u) (hn : u'.ownBlock = u.ownBlock ∨ ∃ k, u'.ownBlock = some k ∧ w.heap.size ≤ k) : apart v u' := by
  intro k hk hu
  rcases hn with hn | ⟨k', h1, h2⟩
  · exact ha k hk (hn ▸ hu)
  · have := (h.lt k hk).2
    rw [h1] at hu
    cases hu
    omega

theorem apart_nil (v : Value) : apart v (.slice none 0 0) := fun _k _ h => nomatch h
theorem nil_apart (v : Value) : apart (.slice none 0 0) v := fun _k h => nomatch h

/-! A row as a slice of structs. -/

theorem flat_get {X : Type} (f : X → List Value) (n : Nat) (hf : ∀ x, (f x).length = n) : ∀ (xs : List X) (i : Nat) (x : List Value) (j : Nat) (y : Value), (xs.map f)[i]? = some x → x[j]? = some y → (xs.flatMap f)[i * n + j]? = some y := by
  intro xs
  induction xs with
  | nil => intro i x j y h; simp at h
  | cons a r ih =>
    intro i x j y h h2
    rw [List.flatMap_cons]
    cases i with
    | zero =>
      simp at h
      subst h
      have hj : j < (f a).length := (List.getElem?_eq_some_iff.1 h2).1
      rw [Nat.zero_mul, Nat.zero_add, List.getElem?_append_left hj]
      exact h2
    | succ i =>
      rw [List.getElem?_append_right (by rw [hf]; exact Nat.le_trans (Nat.le_mul_of_pos_left n (Nat.succ_pos i)) (Nat.le_add_right _ _)), hf]
      have e : (i + 1) * n + j - n = i * n + j := by rw [Nat.succ_mul]; omega
      rw [e]
      exact ih i x j y (by simpa using h) h2

theorem own_sl {X : Type} {W : World} {b e n B : Nat} {v : Value} {xs : List X} (f : X → List Value) (hf : ∀ x, (f x).length = n) (h : W.ownsRow b e n v xs.length (xs.flatMap f)) (hB : W.heap.size ≤ B) (hl : xs.length ≤ 9223372036854775807) : SlAt W B n v (xs.map f) := by
  refine ⟨by rw [List.length_map]; exact hl, ?_⟩
  have hcs : ∀ g, v.ownBlock = some g → ∀ j u, (xs.flatMap f)[j]? = some u → W.cell? ((⟨g, 0, none⟩ : Addr).add j) = some u := fun g hg => h.cells hg
  have hlt := h.lt
  rcases h.2 with ⟨rfl, h0⟩ | ⟨g, cap, cur, rfl, _, hg, _⟩
  · refine ⟨none, 0, by rw [List.length_map, h0], fun hne => ?_⟩
    cases xs with
    | nil => exact absurd rfl hne
    | cons a r => simp at h0
  · refine ⟨some ⟨g, 0, none⟩, cap, by rw [List.length_map], fun _ => ⟨g, 0, rfl, Nat.lt_of_lt_of_le (hlt g rfl).2 hB, fun i x hi j y hj => ?_⟩⟩
    have h1 := hcs g rfl (i * n + j) y (flat_get f n hf xs i x j y hi hj)
    have e1 : (⟨g, 0, none⟩ : Addr).add (i * n + j) = ⟨g, 0 + i * n + j, none⟩ := by unfold Addr.add; split <;> simp_all
    rw [e1] at h1
    exact h1

/-- a code's rows -/
structure Rows (r : Nat) (x : CodeV) (W : World) : Prop where
  oi : W.ownsRow (r + 1) 46 4 x.vi x.c.ins.length (x.c.ins.flatMap insC)
  op : W.ownsRow (r + 1) 43 3 x.vp x.c.pool.length (x.c.pool.flatMap valC)
  ok : W.ownsRow (r + 1) 44 3 x.vk x.c.keys.length (x.c.keys.flatMap keyC)
  og : W.ownsRow (r + 1) 63 4 x.vg x.c.guards.length (x.c.guards.flatMap guC)

/-- a code that lies apart from a slice -/
structure Far (x : CodeV) (u : Value) : Prop where
  i : apart x.vi u
  p : apart x.vp u
  k : apart x.vk u
  g : apart x.vg u

theorem Rows.chg {r : Nat} {x : CodeV} {w W : World} {u : Value} (h : Rows r x w) (hc : Chg r u w W) (ha : Far x u) : Rows r x W := ⟨own_chg h.oi hc ha.i, own_chg h.op hc ha.p, own_chg h.ok hc ha.k, own_chg h.og hc ha.g⟩
theorem Rows.far_new {r : Nat} {x : CodeV} {w : World} {u u' : Value} (h : Rows r x w) (ha : Far x u) (hn : u'.ownBlock = u.ownBlock ∨ ∃ k, u'.ownBlock = some k ∧ w.heap.size ≤ k) : Far x u' :=
  ⟨apart_new h.oi ha.i hn, apart_new h.op ha.p hn, apart_new h.ok ha.k hn, apart_new h.og ha.g hn⟩
theorem far_nil (x : CodeV) : Far x (.slice none 0 0) := ⟨apart_nil _, apart_nil _, apart_nil _, apart_nil _⟩

theorem Rows.code {r B : Nat} {x : CodeV} {W : World} (h : Rows r x W) (hf : Few x.c) (hB : W.heap.size ≤ B) : CodeAt W B x.c x.vi x.vp x.vk x.vg := by
  have h1 := hf.ins; have h2 := hf.pool; have h3 := hf.keys; have h4 := hf.guards
  exact ⟨own_sl insC (fun _ => rfl) h.oi hB (by omega), own_sl valC (fun _ => rfl) h.op hB (by omega), own_sl keyC (fun _ => rfl) h.ok hB (by omega), own_sl guC (fun _ => rfl) h.og hB (by omega)⟩

end Go.Proofs.YtfngechoipngmaaGreatDoor
