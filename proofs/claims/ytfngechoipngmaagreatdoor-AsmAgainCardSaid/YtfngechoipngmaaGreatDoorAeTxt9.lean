/-
  Lines of a text.
  What a line says: a constant.
  What a line says: a key.
  What a line says: a handler.
  What a line says: an instruction.
  The reader between two lines.
  The reader's state: the first and the last line of a code.
-/
import Derived.Test.YtfngechoipngmaaGreatDoorAeTxt8
namespace Go.Proofs.YtfngechoipngmaaGreatDoor

/-- lines, each with its end -/
def joinL (ls : List (List UInt8)) : List UInt8 := ls.flatMap fun l => l ++ [10]
def endW : List UInt8 := [101, 110, 100]
def ends (ls : List (List UInt8)) : Nat := ls.countP fun l => l == endW

theorem joinL_append (a b : List (List UInt8)) : joinL (a ++ b) = joinL a ++ joinL b := by unfold joinL; rw [List.flatMap_append]
theorem joinL_one (l : List UInt8) : joinL [l] = l ++ [10] := by simp [joinL]
theorem ends_append (a b : List (List UInt8)) : ends (a ++ b) = ends a + ends b := by unfold ends; rw [List.countP_append]

theorem line_split : ∀ (a b x y : List UInt8), (10 : UInt8) ∉ a → (10 : UInt8) ∉ b → (a ++ 10 :: x) <+: (b ++ 10 :: y) → a = b ∧ x <+: y
  | [], [], x, y, _, _, h => by
    obtain ⟨t, ht⟩ := h
    simp at ht
    exact ⟨rfl, t, ht⟩
  | [], c :: b, x, y, _, hb, h => by
    obtain ⟨t, ht⟩ := h
    simp at ht
    exact absurd (by simp [ht.1]) hb
  | c :: a, [], x, y, ha, _, h => by
    obtain ⟨t, ht⟩ := h
    simp at ht
    exact absurd (by simp [ht.1]) ha
  | c :: a, d :: b, x, y, ha, hb, h => by
    obtain ⟨t, ht⟩ := h
    simp at ht
    obtain ⟨rfl, ht⟩ := ht
    have := line_split a b x y (fun h => ha (by simp [h])) (fun h => hb (by simp [h])) ⟨t, by simpa using ht⟩
    exact ⟨by rw [this.1], this.2⟩

theorem lines_prefix : ∀ (a b : List (List UInt8)), (∀ l ∈ a, (10 : UInt8) ∉ l) → (∀ l ∈ b, (10 : UInt8) ∉ l) → joinL a <+: joinL b → a <+: b
  | [], b, _, _, _ => List.nil_prefix
  | x :: a, [], _, _, h => by
    obtain ⟨t, ht⟩ := h
    simp [joinL] at ht
  | x :: a, y :: b, ha, hb, h => by
    have e : ∀ (z : List UInt8) r, joinL (z :: r) = z ++ 10 :: joinL r := fun z r => by simp [joinL]
    rw [e, e] at h
    obtain ⟨rfl, h2⟩ := line_split x y _ _ (ha x (by simp)) (hb y (by simp)) h
    exact List.cons_prefix_cons.2 ⟨rfl, lines_prefix a b (fun l hl => ha l (by simp [hl])) (fun l hl => hb l (by simp [hl])) h2⟩

/-- fewer lines, fewer ends -/
theorem ends_lt {a b : List (List UInt8)} (h : a <+: b) (hne : a ≠ b) (hl : b.getLast? = some endW) : ends a < ends b := by
  obtain ⟨t, rfl⟩ := h
  have ht : t ≠ [] := fun e => hne (by rw [e, List.append_nil])
  rw [ends_append]
  have : t.getLast? = some endW := by
    rw [List.getLast?_append] at hl
    cases hh : t.getLast? with
    | none => exact absurd (List.getLast?_eq_none_iff.1 hh) ht
    | some z => rw [hh] at hl; simpa using hl
  have hm : endW ∈ t := List.mem_of_getLast? this
  have : 0 < ends t := by
    unfold ends
    exact List.countP_pos_iff.2 ⟨endW, hm, by simp⟩
  omega

theorem ends_le {a b : List (List UInt8)} (h : a <+: b) : ends a ≤ ends b := by
  obtain ⟨t, rfl⟩ := h
  rw [ends_append]
  omega

end Go.Proofs.YtfngechoipngmaaGreatDoor

namespace Go.Proofs.YtfngechoipngmaaGreatDoor
open Go.RowKit
set_option maxRecDepth 100000

theorem valInfo : (Tryz.prog.info? 43).map (fun i => (i.zero, i.size, i.bytes)) = some (some (.agg #[.int .i64 0, .int .i64 0, .string ⟨#[]⟩]), 3, 32) := by kernel_rfl

/-- the answer of 'says' at a constant -/
structure SaidC (r : Nat) (s : ByteArray) (vm : Value) (nm : ByteArray) (k l g : Int) (vi vp vk vg : Value) (st : Int) (xs : List ValL) (w : World) (e : Ending) (w' : World) : Prop where
  ex : ∃ b : Bool, e = .returned (.bool b) ∧ Below r w w' ∧ (b = true → ∃ (v : ValL) (u' : Value), inI v.k ∧ inI v.n ∧ v.s.size ≤ 65536 ∧ s.data.toList = [99, 111, 110, 115, 116, 32] ++ constL v ∧
    w'.heap[r]? = some (.cells (rdC vm nm k l g vi u' vk vg st) 69 (0, 0)) ∧ w'.ownsRow (r + 1) 43 3 u' (xs.length + 1) ((xs.flatMap valC) ++ valC v) ∧ Chg r vp w w' ∧ (u'.ownBlock = vp.ownBlock ∨ ∃ k, u'.ownBlock = some k ∧ w.heap.size ≤ k))

set_option maxHeartbeats 4000000 in
theorem says_const (r : Nat) (s : ByteArray) (hs : s.size ≤ 65536) (vm : Value) (nm : ByteArray) (k l g : Int) (vi vp vk vg : Value) (st : Int) (xs : List ValL) (hx : xs.length ≤ 65000) (w : World) (hG : GE w) (h7 : 7 ≤ r)
    (hr : w.heap[r]? = some (.cells (rdC vm nm k l g vi vp vk vg st) 69 (0, 0))) (ho : w.ownsRow (r + 1) 43 3 vp xs.length (xs.flatMap valC)) :
    Calls Tryz.prog 61 #[.pointer (some ⟨r, 0, none⟩), .string s, .string ⟨#[99, 111, 110, 115, 116]⟩] w fun e w' => SaidC r s vm nm k l g vi vp vk vg st xs w e w' := by
  have hrw := (Array.getElem?_eq_some_iff.1 hr).1
  have HG : Hid (∀ W, Below r w W → GE W) := Lib.hid fun W hb => hG.below hb h7
  clear hG
  obtain ⟨zs, cap, A, hcv, q1, q2, q3⟩ := conv_str s (by omega) w
  have hRn := Rn.new (w := w) (cap := cap) q1 q2 q3
  have HB := Lib.hid (below_pro w (.cells A 21 (0, 0)) (.cells #[.slice (some ⟨w.heap.size, 0, none⟩) zs.length cap, .int .i64 0] 113 (0, 0)))
  replace hRn := Lib.hid hRn
  clear q1 q2 q3
  have hm := hm_next (w.heap.size + 1)
  have HNX := Lib.hid (next_ret (w.heap.size + 1) w.heap.size cap)
  have HU : Hid (∀ k, vp.ownBlock = some k → r + 1 ≤ k) := Lib.hid fun k hk => (ho.lt k hk).1
  generalize zs.length = zl at *
  go_enter Tryz.func61, Tryz.ntmps61
  go_wp2_with (first
    | (simp only)
    | (simp only [hm])
    | (go_at_call 166; refine (HNX.out _ zs _ hRn.out).mono ?_; rintro e w1 ⟨t, tok, k1, rfl, ht, hR1, hgr⟩; replace HB := Lib.hid (below_grown HB.out hgr HB.out.size (Nat.le_succ _)); replace hRn := Lib.hid hR1; clear hgr hR1)
    | (go_at_call 88; refine (value_ret _ ht _ (HG.out _ (HB.out.mono (Nat.le_of_lt hrw)))).mono ?_; rintro e w3 ⟨hr', hb3⟩; obtain ⟨ck, cn, cs, cok, rfl, hp, hck, hcn, hcs⟩ := hr'.ex; clear hr'; replace HB := Lib.hid (HB.out.trans (hb3.mono HB.out.size)); clear hb3; have hr3 := keep_below HB.out hr; have ho3 := Lib.hid (own_keep ho HB.out); replace hp := Lib.hid hp; have c6 : w3.cell? ⟨r, 6, none⟩ = some vp := (Lib.cell_of_heap hr3 6).trans rfl; have f6 := Lib.frozen_of_heap hr3 6; have hrw3 := (Array.getElem?_eq_some_iff.1 hr3).1; clear hm hcv)
    | fail)
  · go_ret
    exact ⟨false, rfl, (HB.out.alloc HB.out.size _).mono (Nat.le_of_lt hrw), fun h => nomatch h⟩
  · obtain ⟨i0, hi, hz0, hz1, hz2⟩ := info_parts valInfo
    have HI := Lib.hid hi
    have HZ0 := Lib.hid hz0
    have HZ1 := Lib.hid hz1
    have HZ2 := Lib.hid hz2
    clear hi hz0 hz1 hz2
    have HL1 : Hid (xs.length + 1 ≤ maxLen) := Lib.hid (by unfold maxLen; omega)
    have HL2 : Hid ((xs.length + 1) * 32 ≤ 140737488355328) := Lib.hid (by omega)
    have HSZ : Hid (∀ X Y, r + 1 ≤ ((w3.alloc X).alloc Y).heap.size) := Lib.hid fun X Y => by rw [alloc_size, alloc_size]; omega
    have HN1 : Hid (some r ≠ vp.ownBlock) := Lib.hid fun e => by have := HU.out r e.symm; omega
    have HN2 : Hid (some w3.heap.size ≠ vp.ownBlock) := Lib.hid fun e => by have := (ho.lt _ e.symm).2; have := HB.out.size; omega
    have HC3 : Hid (Chg r vp w w3) := Lib.hid (Chg.ofBelow HB.out)
    have HR3 := Lib.hid hr3
    have HGC : Hid (∀ W, Chg r vp w W → GE W) := Lib.hid fun W hc => HG.out W (hc.below (Nat.le_of_lt hrw) HU.out)
    have HO1 : Hid (∀ u ∈ valC ⟨ck, cn, cs⟩, u.oneCell' = true) := Lib.hid (by unfold valC; simp [Value.oneCell'])
    have hsm : ¬ (9223372036854775807 < 6 + (bs (constL ⟨ck, cn, cs⟩)).size) := by have := const_len ⟨ck, cn, cs⟩ hcn hcs; rw [bs_size]; omega
    go_region_law ((refine step_append_lies _ (by rfl) _ _ _ (by rfl) (r + 1) 43 i0 (.agg #[.int .i64 0, .int .i64 0, .string ⟨#[]⟩]) 3 32 Tryz.underlying32 HI.out HZ0.out HZ1.out HZ2.out rfl (by decide) vp xs.length (xs.flatMap valC) (by rfl) ((ho3.out.alloc _).alloc _) ⟨w3.heap.size + 1, 0, none⟩ 1 1 (valC ⟨ck, cn, cs⟩) (by rfl) rfl (World.news_of_block (al_last w3 _ _)) HO1.out (by omega) HL1.out HL2.out (HSZ.out _ _) (w3.heap.size + 1 + 1) (by simp) ?_; intro bg bcap w4 hown hgrow hat hlt; obtain ⟨hc4, hr4, ht4⟩ := app_keep HC3.out hgrow rfl rfl rfl rfl HR3.out HN1.out HN2.out; have c6' : w4.cell? ⟨r, 6, none⟩ = some vp := (Lib.cell_of_heap hr4 6).trans rfl; have f6' := Lib.frozen_of_heap hr4 6; have t0 : w4.cell? ⟨w3.heap.size, 0, none⟩ = some (.int .i64 ck) := (Lib.cell_of_heap ht4 0).trans rfl; have t1 : w4.cell? ⟨w3.heap.size, 1, none⟩ = some (.int .i64 cn) := (Lib.cell_of_heap ht4 1).trans rfl; have t2 : w4.cell? ⟨w3.heap.size, 2, none⟩ = some (.string cs) := (Lib.cell_of_heap ht4 2).trans rfl; replace hown := Lib.hid hown; replace hat := Lib.hid hat; replace hc4 := Lib.hid hc4; replace hr4 := Lib.hid hr4; clear ht4 hgrow))
    all_goals
      go_wp2_with (first
        | (go_at_call 17; refine (constant_ret ck cn cs hp.out hcn hcs _ (HGC.out _ (hc4.out.set _ _)).g).mono ?_; rintro e w6 ⟨rfl, hb6⟩)
        | fail)
      go_ret
      refine ⟨_, rfl, ((hc4.out.set _ _).trans_below hb6).below (Nat.le_of_lt hrw) HU.out, fun hb => ⟨⟨ck, cn, cs⟩, _, hck, hcn, hcs, said_eq hb, keep_below hb6 (set_block hr4.out _), own_keep (ownsRow_setCell_below hown.out (by show r < r + 1; omega) _) hb6, (hc4.out.set _ _).trans_below hb6, new_or hat.out HB.out.size⟩⟩

end Go.Proofs.YtfngechoipngmaaGreatDoor

namespace Go.Proofs.YtfngechoipngmaaGreatDoor
open Go.RowKit
set_option maxRecDepth 100000

theorem keyInfo : (Tryz.prog.info? 44).map (fun i => (i.zero, i.size, i.bytes)) = some (some (.agg #[.int .i64 0, .int .i64 0, .string ⟨#[]⟩]), 3, 32) := by kernel_rfl

/-- the answer of 'says' at a key -/
structure SaidK (r : Nat) (s : ByteArray) (vm : Value) (nm : ByteArray) (k l g : Int) (vi vp vk vg : Value) (st : Int) (xs : List KeyL) (w : World) (e : Ending) (w' : World) : Prop where
  ex : ∃ b : Bool, e = .returned (.bool b) ∧ Below r w w' ∧ (b = true → ∃ (v : KeyL) (u' : Value), inI v.k ∧ inI v.n ∧ v.s.size ≤ 65536 ∧ s.data.toList = [107, 101, 121, 32] ++ keyL v ∧
    w'.heap[r]? = some (.cells (rdC vm nm k l g vi vp u' vg st) 69 (0, 0)) ∧ w'.ownsRow (r + 1) 44 3 u' (xs.length + 1) ((xs.flatMap keyC) ++ keyC v) ∧ Chg r vk w w' ∧ (u'.ownBlock = vk.ownBlock ∨ ∃ k, u'.ownBlock = some k ∧ w.heap.size ≤ k))

set_option maxHeartbeats 4000000 in
theorem says_key (r : Nat) (s : ByteArray) (hs : s.size ≤ 65536) (vm : Value) (nm : ByteArray) (k l g : Int) (vi vp vk vg : Value) (st : Int) (xs : List KeyL) (hx : xs.length ≤ 65000) (w : World) (hG : GE w) (h7 : 7 ≤ r)
    (hr : w.heap[r]? = some (.cells (rdC vm nm k l g vi vp vk vg st) 69 (0, 0))) (ho : w.ownsRow (r + 1) 44 3 vk xs.length (xs.flatMap keyC)) :
    Calls Tryz.prog 61 #[.pointer (some ⟨r, 0, none⟩), .string s, .string ⟨#[107, 101, 121]⟩] w fun e w' => SaidK r s vm nm k l g vi vp vk vg st xs w e w' := by
  have hrw := (Array.getElem?_eq_some_iff.1 hr).1
  have HG : Hid (∀ W, Below r w W → GE W) := Lib.hid fun W hb => hG.below hb h7
  clear hG
  obtain ⟨zs, cap, A, hcv, q1, q2, q3⟩ := conv_str s (by omega) w
  have hRn := Rn.new (w := w) (cap := cap) q1 q2 q3
  have HB := Lib.hid (below_pro w (.cells A 21 (0, 0)) (.cells #[.slice (some ⟨w.heap.size, 0, none⟩) zs.length cap, .int .i64 0] 113 (0, 0)))
  replace hRn := Lib.hid hRn
  clear q1 q2 q3
  have hm := hm_next (w.heap.size + 1)
  have HNX := Lib.hid (next_ret (w.heap.size + 1) w.heap.size cap)
  have HU : Hid (∀ k, vk.ownBlock = some k → r + 1 ≤ k) := Lib.hid fun k hk => (ho.lt k hk).1
  generalize zs.length = zl at *
  go_enter Tryz.func61, Tryz.ntmps61
  go_wp2_with (first
    | (simp only)
    | (simp only [hm])
    | (go_at_call 166; refine (HNX.out _ zs _ hRn.out).mono ?_; rintro e w1 ⟨t, tok, k1, rfl, ht, hR1, hgr⟩; replace HB := Lib.hid (below_grown HB.out hgr HB.out.size (Nat.le_succ _)); replace hRn := Lib.hid hR1; clear hgr hR1)
    | (go_at_call 89; refine (keyOf_ret _ ht _ (HG.out _ (HB.out.mono (Nat.le_of_lt hrw)))).mono ?_; rintro e w3 ⟨hr', hb3⟩; obtain ⟨ck, cn, cs, cok, rfl, hp, hck, hcn, hcs⟩ := hr'.ex; clear hr'; replace HB := Lib.hid (HB.out.trans (hb3.mono HB.out.size)); clear hb3; have hr3 := keep_below HB.out hr; have ho3 := Lib.hid (own_keep ho HB.out); replace hp := Lib.hid hp; have c6 : w3.cell? ⟨r, 7, none⟩ = some vk := (Lib.cell_of_heap hr3 7).trans rfl; have f6 := Lib.frozen_of_heap hr3 7; have hrw3 := (Array.getElem?_eq_some_iff.1 hr3).1; clear hm hcv)
    | fail)
  · go_ret
    exact ⟨false, rfl, (HB.out.alloc HB.out.size _).mono (Nat.le_of_lt hrw), fun h => nomatch h⟩
  · obtain ⟨i0, hi, hz0, hz1, hz2⟩ := info_parts keyInfo
    have HI := Lib.hid hi
    have HZ0 := Lib.hid hz0
    have HZ1 := Lib.hid hz1
    have HZ2 := Lib.hid hz2
    clear hi hz0 hz1 hz2
    have HL1 : Hid (xs.length + 1 ≤ maxLen) := Lib.hid (by unfold maxLen; omega)
    have HL2 : Hid ((xs.length + 1) * 32 ≤ 140737488355328) := Lib.hid (by omega)
    have HSZ : Hid (∀ X Y, r + 1 ≤ ((w3.alloc X).alloc Y).heap.size) := Lib.hid fun X Y => by rw [alloc_size, alloc_size]; omega
    have HN1 : Hid (some r ≠ vk.ownBlock) := Lib.hid fun e => by have := HU.out r e.symm; omega
    have HN2 : Hid (some w3.heap.size ≠ vk.ownBlock) := Lib.hid fun e => by have := (ho.lt _ e.symm).2; have := HB.out.size; omega
    have HC3 : Hid (Chg r vk w w3) := Lib.hid (Chg.ofBelow HB.out)
    have HR3 := Lib.hid hr3
    have HGC : Hid (∀ W, Chg r vk w W → GE W) := Lib.hid fun W hc => HG.out W (hc.below (Nat.le_of_lt hrw) HU.out)
    have HO1 : Hid (∀ u ∈ keyC ⟨ck, cn, cs⟩, u.oneCell' = true) := Lib.hid (by unfold keyC; simp [Value.oneCell'])
    have hsm : ¬ (9223372036854775807 < 4 + (bs (keyL ⟨ck, cn, cs⟩)).size) := by have := key_len ⟨ck, cn, cs⟩ hcn hcs; rw [bs_size]; omega
    go_region_law ((refine step_append_lies _ (by rfl) _ _ _ (by rfl) (r + 1) 44 i0 (.agg #[.int .i64 0, .int .i64 0, .string ⟨#[]⟩]) 3 32 Tryz.underlying33 HI.out HZ0.out HZ1.out HZ2.out rfl (by decide) vk xs.length (xs.flatMap keyC) (by rfl) ((ho3.out.alloc _).alloc _) ⟨w3.heap.size + 1, 0, none⟩ 1 1 (keyC ⟨ck, cn, cs⟩) (by rfl) rfl (World.news_of_block (al_last w3 _ _)) HO1.out (by omega) HL1.out HL2.out (HSZ.out _ _) (w3.heap.size + 1 + 1) (by simp) ?_; intro bg bcap w4 hown hgrow hat hlt; obtain ⟨hc4, hr4, ht4⟩ := app_keep HC3.out hgrow rfl rfl rfl rfl HR3.out HN1.out HN2.out; have c6' : w4.cell? ⟨r, 7, none⟩ = some vk := (Lib.cell_of_heap hr4 7).trans rfl; have f6' := Lib.frozen_of_heap hr4 7; have t0 : w4.cell? ⟨w3.heap.size, 0, none⟩ = some (.int .i64 ck) := (Lib.cell_of_heap ht4 0).trans rfl; have t1 : w4.cell? ⟨w3.heap.size, 1, none⟩ = some (.int .i64 cn) := (Lib.cell_of_heap ht4 1).trans rfl; have t2 : w4.cell? ⟨w3.heap.size, 2, none⟩ = some (.string cs) := (Lib.cell_of_heap ht4 2).trans rfl; replace hown := Lib.hid hown; replace hat := Lib.hid hat; replace hc4 := Lib.hid hc4; replace hr4 := Lib.hid hr4; clear ht4 hgrow))
    all_goals
      go_wp2_with (first
        | (go_at_call 18; refine (keyed_ret ck cn cs hp.out hcn hcs _ (HGC.out _ (hc4.out.set _ _)).g).mono ?_; rintro e w6 ⟨rfl, hb6⟩)
        | fail)
      go_ret
      refine ⟨_, rfl, ((hc4.out.set _ _).trans_below hb6).below (Nat.le_of_lt hrw) HU.out, fun hb => ⟨⟨ck, cn, cs⟩, _, hck, hcn, hcs, said_eq hb, keep_below hb6 (set_block hr4.out _), own_keep (ownsRow_setCell_below hown.out (by show r < r + 1; omega) _) hb6, (hc4.out.set _ _).trans_below hb6, new_or hat.out HB.out.size⟩⟩

end Go.Proofs.YtfngechoipngmaaGreatDoor

namespace Go.Proofs.YtfngechoipngmaaGreatDoor
open Go.RowKit
set_option maxRecDepth 100000

theorem guInfo : (Tryz.prog.info? 63).map (fun i => (i.zero, i.size, i.bytes)) = some (some (.agg #[.int .i64 0, .int .i64 0, .int .i64 0, .int .i64 0]), 4, 32) := by kernel_rfl

/-- the answer of 'says' at a handler -/
structure SaidG (r : Nat) (s : ByteArray) (vm : Value) (nm : ByteArray) (k l g : Int) (vi vp vk vg : Value) (st : Int) (xs : List GuL) (w : World) (e : Ending) (w' : World) : Prop where
  ex : ∃ b : Bool, e = .returned (.bool b) ∧ Below r w w' ∧ (b = true → ∃ (v : GuL) (u' : Value), (inI v.f ∧ inI v.t ∧ inI v.g ∧ inI v.r) ∧ s.data.toList = guardL v.f v.t v.g v.r ∧
    w'.heap[r]? = some (.cells (rdC vm nm k l g vi vp vk u' st) 69 (0, 0)) ∧ w'.ownsRow (r + 1) 63 4 u' (xs.length + 1) ((xs.flatMap guC) ++ guC v) ∧ Chg r vg w w' ∧ (u'.ownBlock = vg.ownBlock ∨ ∃ k, u'.ownBlock = some k ∧ w.heap.size ≤ k))

set_option maxHeartbeats 4000000 in
theorem says_guard (r : Nat) (s : ByteArray) (hs : s.size ≤ 65536) (vm : Value) (nm : ByteArray) (k l g : Int) (vi vp vk vg : Value) (st : Int) (xs : List GuL) (hx : xs.length ≤ 65000) (w : World) (hG : GE w) (h7 : 7 ≤ r)
    (hr : w.heap[r]? = some (.cells (rdC vm nm k l g vi vp vk vg st) 69 (0, 0))) (ho : w.ownsRow (r + 1) 63 4 vg xs.length (xs.flatMap guC)) :
    Calls Tryz.prog 61 #[.pointer (some ⟨r, 0, none⟩), .string s, .string ⟨#[103, 117, 97, 114, 100]⟩] w fun e w' => SaidG r s vm nm k l g vi vp vk vg st xs w e w' := by
  have hrw := (Array.getElem?_eq_some_iff.1 hr).1
  have HG : Hid (∀ W, Below r w W → GE W) := Lib.hid fun W hb => hG.below hb h7
  clear hG
  obtain ⟨zs, cap, A, hcv, q1, q2, q3⟩ := conv_str s (by omega) w
  have hRn := Rn.new (w := w) (cap := cap) q1 q2 q3
  have HB := Lib.hid (below_pro w (.cells A 21 (0, 0)) (.cells #[.slice (some ⟨w.heap.size, 0, none⟩) zs.length cap, .int .i64 0] 113 (0, 0)))
  have HZ : Hid (w.heap.size + 1 < ((w.drew.alloc (.cells A 21 (0, 0))).alloc (.cells #[.slice (some ⟨w.heap.size, 0, none⟩) zs.length cap, .int .i64 0] 113 (0, 0))).heap.size) := Lib.hid hRn.lt
  replace hRn := Lib.hid hRn
  clear q1 q2 q3
  have hm := hm_next (w.heap.size + 1)
  have HNX := Lib.hid (next_ret (w.heap.size + 1) w.heap.size cap)
  have HU : Hid (∀ k, vg.ownBlock = some k → r + 1 ≤ k) := Lib.hid fun k hk => (ho.lt k hk).1
  generalize zs.length = zl at *
  go_enter Tryz.func61, Tryz.ntmps61
  go_wp2_with (first
    | (simp only)
    | (simp only [hm])
    | (go_at_call 166; refine (HNX.out _ zs _ hRn.out).mono ?_; rintro e w1 ⟨t, tok, k1, rfl, ht, hR1, hgr⟩; replace HB := Lib.hid (below_grown HB.out hgr HB.out.size (Nat.le_succ _)); replace HZ := Lib.hid (Nat.lt_of_lt_of_le HZ.out hgr.size); replace hRn := Lib.hid hR1; clear hgr hR1)
    | (go_at_call 90; refine (guardr_ret w.heap.size (w.heap.size + 1) w.heap.size cap _ zs  _ (HG.out _ (HB.out.mono (Nat.le_of_lt hrw))) (by omega) (Nat.le_succ _) HB.out.size (Nat.lt_of_succ_lt HZ.out) hRn.out).mono ?_; rintro e w3 ⟨hr', hb3⟩; obtain ⟨ca, cb, cc, cd, rfl, hca, hcb, hcc, hcd⟩ := hr'.ex; clear hr'; replace HB := Lib.hid (HB.out.trans hb3); clear hb3; have hr3 := keep_below HB.out hr; have ho3 := Lib.hid (own_keep ho HB.out); have c6 : w3.cell? ⟨r, 8, none⟩ = some vg := (Lib.cell_of_heap hr3 8).trans rfl; have f6 := Lib.frozen_of_heap hr3 8; have hrw3 := (Array.getElem?_eq_some_iff.1 hr3).1; clear hm hcv)
    | fail)
  obtain ⟨i0, hi, hz0, hz1, hz2⟩ := info_parts guInfo
  have HI := Lib.hid hi
  have HZ0 := Lib.hid hz0
  have HZ1 := Lib.hid hz1
  have HZ2 := Lib.hid hz2
  clear hi hz0 hz1 hz2
  have HL1 : Hid (xs.length + 1 ≤ maxLen) := Lib.hid (by unfold maxLen; omega)
  have HL2 : Hid ((xs.length + 1) * 32 ≤ 140737488355328) := Lib.hid (by omega)
  have HSZ : Hid (∀ X Y, r + 1 ≤ ((w3.alloc X).alloc Y).heap.size) := Lib.hid fun X Y => by rw [alloc_size, alloc_size]; omega
  have HN1 : Hid (some r ≠ vg.ownBlock) := Lib.hid fun e => by have := HU.out r e.symm; omega
  have HN2 : Hid (some w3.heap.size ≠ vg.ownBlock) := Lib.hid fun e => by have := (ho.lt _ e.symm).2; have := HB.out.size; omega
  have HC3 : Hid (Chg r vg w w3) := Lib.hid (Chg.ofBelow HB.out)
  have HR3 := Lib.hid hr3
  have HGC : Hid (∀ W, Chg r vg w W → GE W) := Lib.hid fun W hc => HG.out W (hc.below (Nat.le_of_lt hrw) HU.out)
  have HO1 : Hid (∀ u ∈ guC ⟨ca, cb, cc, cd⟩, u.oneCell' = true) := Lib.hid (by unfold guC; simp [Value.oneCell'])
  go_region_law ((refine step_append_lies _ (by rfl) _ _ _ (by rfl) (r + 1) 63 i0 (.agg #[.int .i64 0, .int .i64 0, .int .i64 0, .int .i64 0]) 4 32 Tryz.underlying34 HI.out HZ0.out HZ1.out HZ2.out rfl (by decide) vg xs.length (xs.flatMap guC) (by rfl) ((ho3.out.alloc _).alloc _) ⟨w3.heap.size + 1, 0, none⟩ 1 1 (guC ⟨ca, cb, cc, cd⟩) (by rfl) rfl (World.news_of_block (al_last w3 _ _)) HO1.out (by omega) HL1.out HL2.out (HSZ.out _ _) (w3.heap.size + 1 + 1) (by simp) ?_; intro bg bcap w4 hown hgrow hat hlt; obtain ⟨hc4, hr4, ht4⟩ := app_keep HC3.out hgrow rfl rfl rfl rfl HR3.out HN1.out HN2.out; have c6' : w4.cell? ⟨r, 8, none⟩ = some vg := (Lib.cell_of_heap hr4 8).trans rfl; have f6' := Lib.frozen_of_heap hr4 8; have t0 : w4.cell? ⟨w3.heap.size, 0, none⟩ = some (.int .i64 ca) := (Lib.cell_of_heap ht4 0).trans rfl; have t1 : w4.cell? ⟨w3.heap.size, 1, none⟩ = some (.int .i64 cb) := (Lib.cell_of_heap ht4 1).trans rfl; have t2 : w4.cell? ⟨w3.heap.size, 2, none⟩ = some (.int .i64 cc) := (Lib.cell_of_heap ht4 2).trans rfl; have t3 : w4.cell? ⟨w3.heap.size, 3, none⟩ = some (.int .i64 cd) := (Lib.cell_of_heap ht4 3).trans rfl; replace hown := Lib.hid hown; replace hat := Lib.hid hat; replace hc4 := Lib.hid hc4; replace hr4 := Lib.hid hr4; clear ht4 hgrow))
  all_goals
    go_wp2_with (first
      | (go_at_call 20; refine (guarded_ret ca cb cc cd hca hcb hcc hcd _ (HGC.out _ (hc4.out.set _ _)).g).mono ?_; rintro e w6 ⟨rfl, hb6⟩)
      | fail)
    go_ret
    refine ⟨_, rfl, ((hc4.out.set _ _).trans_below hb6).below (Nat.le_of_lt hrw) HU.out, fun hb => ⟨⟨ca, cb, cc, cd⟩, _, ⟨hca, hcb, hcc, hcd⟩, said_one hb, keep_below hb6 (set_block hr4.out _), own_keep (ownsRow_setCell_below hown.out (by show r < r + 1; omega) _) hb6, (hc4.out.set _ _).trans_below hb6, new_or hat.out HB.out.size⟩⟩

end Go.Proofs.YtfngechoipngmaaGreatDoor

namespace Go.Proofs.YtfngechoipngmaaGreatDoor
open Go.RowKit
set_option maxRecDepth 100000

theorem insInfo : (Tryz.prog.info? 46).map (fun i => (i.zero, i.size, i.bytes)) = some (some (.agg #[.int .i64 0, .int .i64 0, .int .i64 0, .int .i64 0]), 4, 32) := by kernel_rfl

theorem line_any (op a b c : Int) (_ : inI op) (ha : inI a) (hb : inI b) (hc : inI c) (w : World) (hG : G w) :
    Calls Tryz.prog 19 #[.agg #[.int .i64 op, .int .i64 a, .int .i64 b, .int .i64 c]] w fun e w' => e = .returned (.string (bs (lineL ⟨op, a, b, c⟩))) ∧ Below w.heap.size w w' := by
  by_cases h : op < 0 ∨ 55 ≤ op
  · have hL : lineL ⟨op, a, b, c⟩ = [] := by unfold lineL; rw [if_pos h]
    rw [hL]
    exact line_out op a b c h w
  · exact line_ret op a b c (by omega) (by omega) ha hb hc w hG

/-- the answer of 'says' at an instruction -/
structure SaidI (r : Nat) (s : ByteArray) (vm : Value) (nm : ByteArray) (k l g : Int) (vi vp vk vg : Value) (st : Int) (xs : List InsL) (w : World) (e : Ending) (w' : World) : Prop where
  ex : ∃ b : Bool, e = .returned (.bool b) ∧ Below r w w' ∧ (b = true → ∃ (v : InsL) (u' : Value), (okIns v) ∧ s.data.toList = lineL v ∧
    w'.heap[r]? = some (.cells (rdC vm nm k l g u' vp vk vg st) 69 (0, 0)) ∧ w'.ownsRow (r + 1) 46 4 u' (xs.length + 1) ((xs.flatMap insC) ++ insC v) ∧ Chg r vi w w' ∧ (u'.ownBlock = vi.ownBlock ∨ ∃ k, u'.ownBlock = some k ∧ w.heap.size ≤ k))

set_option maxHeartbeats 4000000 in
theorem says_ins (r : Nat) (s wd : ByteArray) (hs : s.size ≤ 65536) (hw : Other wd) (vm : Value) (nm : ByteArray) (k l g : Int) (vi vp vk vg : Value) (st : Int) (xs : List InsL) (hx : xs.length ≤ 65000) (w : World) (hG : GE w) (h7 : 7 ≤ r)
    (hr : w.heap[r]? = some (.cells (rdC vm nm k l g vi vp vk vg st) 69 (0, 0))) (ho : w.ownsRow (r + 1) 46 4 vi xs.length (xs.flatMap insC)) :
    Calls Tryz.prog 61 #[.pointer (some ⟨r, 0, none⟩), .string s, .string wd] w fun e w' => SaidI r s vm nm k l g vi vp vk vg st xs w e w' := by
  have hrw := (Array.getElem?_eq_some_iff.1 hr).1
  have HG : Hid (∀ W, Below r w W → GE W) := Lib.hid fun W hb => hG.below hb h7
  clear hG
  obtain ⟨zs, cap, A, hcv, q1, q2, q3⟩ := conv_str s (by omega) w
  have hRn := Rn.new (w := w) (cap := cap) q1 q2 q3
  have HB := Lib.hid (below_pro w (.cells A 21 (0, 0)) (.cells #[.slice (some ⟨w.heap.size, 0, none⟩) zs.length cap, .int .i64 0] 113 (0, 0)))
  have HZ : Hid (w.heap.size + 1 < ((w.drew.alloc (.cells A 21 (0, 0))).alloc (.cells #[.slice (some ⟨w.heap.size, 0, none⟩) zs.length cap, .int .i64 0] 113 (0, 0))).heap.size) := Lib.hid hRn.lt
  replace hRn := Lib.hid hRn
  clear q1 q2 q3
  have hm := hm_next (w.heap.size + 1)
  have HNX := Lib.hid (next_ret (w.heap.size + 1) w.heap.size cap)
  have HU : Hid (∀ k, vi.ownBlock = some k → r + 1 ≤ k) := Lib.hid fun k hk => (ho.lt k hk).1
  generalize zs.length = zl at *
  obtain ⟨o1, o2, o3, o4, o5⟩ := hw
  go_enter Tryz.func61, Tryz.ntmps61
  go_wp2_with (first
    | (simp only)
    | (simp only [hm])
    | (go_at_call 166; refine (HNX.out _ zs _ hRn.out).mono ?_; rintro e w1 ⟨t, tok, k1, rfl, ht, hR1, hgr⟩; replace HB := Lib.hid (below_grown HB.out hgr HB.out.size (Nat.le_succ _)); replace HZ := Lib.hid (Nat.lt_of_lt_of_le HZ.out hgr.size); replace hRn := Lib.hid hR1; clear hgr hR1)
    | (go_at_call 91; refine (insr_ret w.heap.size (w.heap.size + 1) w.heap.size cap _ zs wd _ (HG.out _ (HB.out.mono (Nat.le_of_lt hrw))) (by omega) (Nat.le_succ _) HB.out.size (Nat.lt_of_succ_lt HZ.out) hRn.out).mono ?_; rintro e w3 ⟨hr', hb3⟩; obtain ⟨ca, cb, cc, cd, rfl, hca, hcb, hcc, hcd⟩ := hr'.ex; clear hr'; replace HB := Lib.hid (HB.out.trans hb3); clear hb3; have hr3 := keep_below HB.out hr; have ho3 := Lib.hid (own_keep ho HB.out); have c6 : w3.cell? ⟨r, 5, none⟩ = some vi := (Lib.cell_of_heap hr3 5).trans rfl; have f6 := Lib.frozen_of_heap hr3 5; have hrw3 := (Array.getElem?_eq_some_iff.1 hr3).1; clear hm hcv)
    | fail)
  obtain ⟨i0, hi, hz0, hz1, hz2⟩ := info_parts insInfo
  have HI := Lib.hid hi
  have HZ0 := Lib.hid hz0
  have HZ1 := Lib.hid hz1
  have HZ2 := Lib.hid hz2
  clear hi hz0 hz1 hz2
  have HL1 : Hid (xs.length + 1 ≤ maxLen) := Lib.hid (by unfold maxLen; omega)
  have HL2 : Hid ((xs.length + 1) * 32 ≤ 140737488355328) := Lib.hid (by omega)
  have HSZ : Hid (∀ X Y, r + 1 ≤ ((w3.alloc X).alloc Y).heap.size) := Lib.hid fun X Y => by rw [alloc_size, alloc_size]; omega
  have HN1 : Hid (some r ≠ vi.ownBlock) := Lib.hid fun e => by have := HU.out r e.symm; omega
  have HN2 : Hid (some w3.heap.size ≠ vi.ownBlock) := Lib.hid fun e => by have := (ho.lt _ e.symm).2; have := HB.out.size; omega
  have HC3 : Hid (Chg r vi w w3) := Lib.hid (Chg.ofBelow HB.out)
  have HR3 := Lib.hid hr3
  have HGC : Hid (∀ W, Chg r vi w W → GE W) := Lib.hid fun W hc => HG.out W (hc.below (Nat.le_of_lt hrw) HU.out)
  have HO1 : Hid (∀ u ∈ insC ⟨ca, cb, cc, cd⟩, u.oneCell' = true) := Lib.hid (by unfold insC; simp [Value.oneCell'])
  go_region_law ((refine step_append_lies _ (by rfl) _ _ _ (by rfl) (r + 1) 46 i0 (.agg #[.int .i64 0, .int .i64 0, .int .i64 0, .int .i64 0]) 4 32 Tryz.underlying31 HI.out HZ0.out HZ1.out HZ2.out rfl (by decide) vi xs.length (xs.flatMap insC) (by rfl) ((ho3.out.alloc _).alloc _) ⟨w3.heap.size + 1, 0, none⟩ 1 1 (insC ⟨ca, cb, cc, cd⟩) (by rfl) rfl (World.news_of_block (al_last w3 _ _)) HO1.out (by omega) HL1.out HL2.out (HSZ.out _ _) (w3.heap.size + 1 + 1) (by simp) ?_; intro bg bcap w4 hown hgrow hat hlt; obtain ⟨hc4, hr4, ht4⟩ := app_keep HC3.out hgrow rfl rfl rfl rfl HR3.out HN1.out HN2.out; have c6' : w4.cell? ⟨r, 5, none⟩ = some vi := (Lib.cell_of_heap hr4 5).trans rfl; have f6' := Lib.frozen_of_heap hr4 5; have t0 : w4.cell? ⟨w3.heap.size, 0, none⟩ = some (.int .i64 ca) := (Lib.cell_of_heap ht4 0).trans rfl; have t1 : w4.cell? ⟨w3.heap.size, 1, none⟩ = some (.int .i64 cb) := (Lib.cell_of_heap ht4 1).trans rfl; have t2 : w4.cell? ⟨w3.heap.size, 2, none⟩ = some (.int .i64 cc) := (Lib.cell_of_heap ht4 2).trans rfl; have t3 : w4.cell? ⟨w3.heap.size, 3, none⟩ = some (.int .i64 cd) := (Lib.cell_of_heap ht4 3).trans rfl; replace hown := Lib.hid hown; replace hat := Lib.hid hat; replace hc4 := Lib.hid hc4; replace hr4 := Lib.hid hr4; clear ht4 hgrow))
  all_goals
    go_wp2_with (first
      | (go_at_call 19; refine (line_any ca cb cc cd hca hcb hcc hcd _ (HGC.out _ (hc4.out.set _ _)).g).mono ?_; rintro e w6 ⟨rfl, hb6⟩)
      | fail)
    go_ret
    refine ⟨_, rfl, ((hc4.out.set _ _).trans_below hb6).below (Nat.le_of_lt hrw) HU.out, fun hb => ⟨⟨ca, cb, cc, cd⟩, _, ⟨hca, hcb, hcc, hcd⟩, said_one hb, keep_below hb6 (set_block hr4.out _), own_keep (ownsRow_setCell_below hown.out (by show r < r + 1; omega) _) hb6, (hc4.out.set _ _).trans_below hb6, new_or hat.out HB.out.size⟩⟩

end Go.Proofs.YtfngechoipngmaaGreatDoor

namespace Go.Proofs.YtfngechoipngmaaGreatDoor
open Go.RowKit
set_option maxRecDepth 100000

/-- the text of a code so far -/
def partT (c : CodeL) : List UInt8 := headS c ++ c.pool.flatMap poolS ++ c.keys.flatMap keyS ++ c.ins.flatMap insS ++ c.guards.flatMap guS

structure RI (r : Nat) (xs : List CodeV) (x : CodeV) (vm : Value) (st : Int) (L : List (List UInt8)) (W : World) : Prop where
  blk : W.heap[r]? = some (.cells (rdC vm x.c.name x.c.kind x.c.len x.c.regs x.vi x.vp x.vk x.vg st) 69 (0, 0))
  om : W.ownsRow (r + 1) 36 8 vm xs.length (xs.flatMap codeC)
  cur : Rows r x W
  vmf : Far x vm
  ip : apart x.vi x.vp
  ik : apart x.vi x.vk
  ig : apart x.vi x.vg
  pk : apart x.vp x.vk
  pg : apart x.vp x.vg
  kg : apart x.vk x.vg
  fin : ∀ y ∈ xs, Rows r y W
  finm : ∀ y ∈ xs, Far y vm
  fini : ∀ y ∈ xs, Far y x.vi
  finp : ∀ y ∈ xs, Far y x.vp
  fink : ∀ y ∈ xs, Far y x.vk
  fing : ∀ y ∈ xs, Far y x.vg
  good : ∀ y ∈ xs, Few y.c ∧ Nums y.c ∧ rightB y.c = true
  few : Few x.c
  nums : Nums x.c
  st0 : 0 ≤ st ∧ st ≤ 4
  k1 : st ≤ 1 → x.c.keys = []
  k2 : st ≤ 2 → x.c.ins = []
  k3 : st ≤ 3 → x.c.guards = []
  tx : joinL L = txt xs ++ (if st = 0 then [] else partT x.c)
  en : xs.length = ends L
  lp : x.c.pool.length ≤ L.length
  lk : x.c.keys.length ≤ L.length
  li : x.c.ins.length ≤ L.length
  lg : x.c.guards.length ≤ L.length
  la : st = 0 → L ≠ [] → L.getLast? = some endW

theorem mem_snoc {X : Type} {P : X → Prop} {l : List X} {v : X} (h : ∀ y ∈ l, P y) (hv : P v) : ∀ y ∈ l ++ [v], P y := by
  intro y hy
  rcases List.mem_append.1 hy with hy | hy
  · exact h y hy
  · rw [List.mem_singleton.1 hy]; exact hv

theorem setc_block {W : World} {r : Nat} {vm : Value} {nm : ByteArray} {k l g : Int} {vi vp vk vg : Value} {st : Int} (h : W.heap[r]? = some (.cells (rdC vm nm k l g vi vp vk vg st) 69 (0, 0))) (n : Int) :
    (W.setCell ⟨r, 9, none⟩ (.int .i64 n)).heap[r]? = some (.cells (rdC vm nm k l g vi vp vk vg n) 69 (0, 0)) := set_block (i := 9) h (.int .i64 n)

theorem ends_no (L : List (List UInt8)) (s : List UInt8) (h : s ≠ [101, 110, 100]) : ends (L ++ [s]) = ends L := by
  rw [ends_append]
  have : ends [s] = 0 := by
    unfold ends
    rw [List.countP_eq_zero]
    intro a ha
    rw [List.mem_singleton.1 ha]
    simpa [endW] using h
  omega

/-- a line of section 1 -/
theorem step_const {r : Nat} {xs : List CodeV} {x : CodeV} {vm : Value} {st : Int} {L : List (List UInt8)} {w W : World} {s : ByteArray} {v : ValL} {u' : Value} (h : RI r xs x vm st L w) (hL : L.length ≤ 60000) (h0 : st ≠ 0) (hst : st ≤ 1) (hv : inI v.k ∧ inI v.n ∧ v.s.size ≤ 65536)
    (hs : s.data.toList = [99, 111, 110, 115, 116, 32] ++ constL v) (he : s.data.toList ≠ [101, 110, 100])
    (hb : W.heap[r]? = some (.cells (rdC vm x.c.name x.c.kind x.c.len x.c.regs x.vi u' x.vk x.vg st) 69 (0, 0))) (ho : W.ownsRow (r + 1) 43 3 u' (x.c.pool.length + 1) ((x.c.pool.flatMap valC) ++ valC v)) (hc : Chg r x.vp w W)
    (hn : u'.ownBlock = x.vp.ownBlock ∨ ∃ k, u'.ownBlock = some k ∧ w.heap.size ≤ k) :
    RI r xs { x with c := { x.c with pool := x.c.pool ++ [v] }, vp := u' } vm 1 (L ++ [s.data.toList]) (W.setCell ⟨r, 9, none⟩ (.int .i64 1)) := by
  have hc' : Chg r x.vp w (W.setCell ⟨r, 9, none⟩ (.int .i64 1)) := hc.set 9 _
  refine { blk := setc_block hb _, om := own_chg h.om hc' (h.vmf.p.symm), cur := ⟨own_chg h.cur.oi hc' (h.ip), (by rw [List.length_append, List.flatMap_append]; simpa using ownsRow_setCell_below ho (a := ⟨r, 9, none⟩) (Nat.lt_succ_self r) _), own_chg h.cur.ok hc' (h.pk.symm), own_chg h.cur.og hc' (h.pg.symm)⟩, vmf := ⟨h.vmf.i, (apart_new h.om h.vmf.p.symm hn).symm, h.vmf.k, h.vmf.g⟩, ip := apart_new h.cur.oi (h.ip) hn, ik := h.ik, ig := h.ig, pk := (apart_new h.cur.ok (h.pk.symm) hn).symm, pg := (apart_new h.cur.og (h.pg.symm) hn).symm, kg := h.kg, fin := fun y hy => (h.fin y hy).chg hc' (h.finp y hy), finm := h.finm, fini := h.fini, finp := fun y hy => (h.fin y hy).far_new (h.finp y hy) hn, fink := h.fink, fing := h.fing, good := h.good, few := ?few, nums := ?nums, st0 := by omega, k1 := ?k1, k2 := ?k2, k3 := ?k3, tx := ?tx, en := by rw [ends_no _ _ he]; exact h.en, lp := by have := h.lp; simp only [List.length_append, List.length_singleton]; omega, lk := by have := h.lk; simp only [List.length_append, List.length_singleton]; omega, li := by have := h.li; simp only [List.length_append, List.length_singleton]; omega, lg := by have := h.lg; simp only [List.length_append, List.length_singleton]; omega, la := fun q => absurd q (by decide) }
  case few => exact { h.few with pool := (by have := h.lp; simp only [List.length_append, List.length_singleton]; omega), vs := mem_snoc h.few.vs hv.2.2 }
  case nums => exact { h.nums with pool := mem_snoc h.nums.pool ⟨hv.1, hv.2.1⟩ }
  case k1 => exact fun q => h.k1 (by omega)
  case k2 => exact fun q => h.k2 (by omega)
  case k3 => exact fun q => h.k3 (by omega)
  case tx =>
    rw [joinL_append, joinL_one, h.tx, hs, if_neg h0, if_neg (by decide)]
    have e_keys := h.k1 (by omega)
    have e_ins := h.k2 (by omega)
    have e_guards := h.k3 (by omega)
    simp only [partT, headS, poolS, List.flatMap_append, List.flatMap_cons, List.flatMap_nil, List.append_nil, List.append_assoc, e_keys, e_ins, e_guards]

/-- a line of section 2 -/
theorem step_key {r : Nat} {xs : List CodeV} {x : CodeV} {vm : Value} {st : Int} {L : List (List UInt8)} {w W : World} {s : ByteArray} {v : KeyL} {u' : Value} (h : RI r xs x vm st L w) (hL : L.length ≤ 60000) (h0 : st ≠ 0) (hst : st ≤ 2) (hv : inI v.k ∧ inI v.n ∧ v.s.size ≤ 65536)
    (hs : s.data.toList = [107, 101, 121, 32] ++ keyL v) (he : s.data.toList ≠ [101, 110, 100])
    (hb : W.heap[r]? = some (.cells (rdC vm x.c.name x.c.kind x.c.len x.c.regs x.vi x.vp u' x.vg st) 69 (0, 0))) (ho : W.ownsRow (r + 1) 44 3 u' (x.c.keys.length + 1) ((x.c.keys.flatMap keyC) ++ keyC v)) (hc : Chg r x.vk w W)
    (hn : u'.ownBlock = x.vk.ownBlock ∨ ∃ k, u'.ownBlock = some k ∧ w.heap.size ≤ k) :
    RI r xs { x with c := { x.c with keys := x.c.keys ++ [v] }, vk := u' } vm 2 (L ++ [s.data.toList]) (W.setCell ⟨r, 9, none⟩ (.int .i64 2)) := by
  have hc' : Chg r x.vk w (W.setCell ⟨r, 9, none⟩ (.int .i64 2)) := hc.set 9 _
  refine { blk := setc_block hb _, om := own_chg h.om hc' (h.vmf.k.symm), cur := ⟨own_chg h.cur.oi hc' (h.ik), own_chg h.cur.op hc' (h.pk), (by rw [List.length_append, List.flatMap_append]; simpa using ownsRow_setCell_below ho (a := ⟨r, 9, none⟩) (Nat.lt_succ_self r) _), own_chg h.cur.og hc' (h.kg.symm)⟩, vmf := ⟨h.vmf.i, h.vmf.p, (apart_new h.om h.vmf.k.symm hn).symm, h.vmf.g⟩, ip := h.ip, ik := apart_new h.cur.oi (h.ik) hn, ig := h.ig, pk := apart_new h.cur.op (h.pk) hn, pg := h.pg, kg := (apart_new h.cur.og (h.kg.symm) hn).symm, fin := fun y hy => (h.fin y hy).chg hc' (h.fink y hy), finm := h.finm, fini := h.fini, finp := h.finp, fink := fun y hy => (h.fin y hy).far_new (h.fink y hy) hn, fing := h.fing, good := h.good, few := ?few, nums := ?nums, st0 := by omega, k1 := ?k1, k2 := ?k2, k3 := ?k3, tx := ?tx, en := by rw [ends_no _ _ he]; exact h.en, lp := by have := h.lp; simp only [List.length_append, List.length_singleton]; omega, lk := by have := h.lk; simp only [List.length_append, List.length_singleton]; omega, li := by have := h.li; simp only [List.length_append, List.length_singleton]; omega, lg := by have := h.lg; simp only [List.length_append, List.length_singleton]; omega, la := fun q => absurd q (by decide) }
  case few => exact { h.few with keys := (by have := h.lk; simp only [List.length_append, List.length_singleton]; omega), ks := mem_snoc h.few.ks hv.2.2 }
  case nums => exact { h.nums with keys := mem_snoc h.nums.keys ⟨hv.1, hv.2.1⟩ }
  case k1 => exact fun q => by exact absurd q (by decide)
  case k2 => exact fun q => h.k2 (by omega)
  case k3 => exact fun q => h.k3 (by omega)
  case tx =>
    rw [joinL_append, joinL_one, h.tx, hs, if_neg h0, if_neg (by decide)]
    have e_ins := h.k2 (by omega)
    have e_guards := h.k3 (by omega)
    simp only [partT, headS, keyS, List.flatMap_append, List.flatMap_cons, List.flatMap_nil, List.append_nil, List.append_assoc, e_ins, e_guards]

/-- a line of section 3 -/
theorem step_ins {r : Nat} {xs : List CodeV} {x : CodeV} {vm : Value} {st : Int} {L : List (List UInt8)} {w W : World} {s : ByteArray} {v : InsL} {u' : Value} (h : RI r xs x vm st L w) (hL : L.length ≤ 60000) (h0 : st ≠ 0) (hst : st ≤ 3) (hv : okIns v)
    (hs : s.data.toList = lineL v) (he : s.data.toList ≠ [101, 110, 100])
    (hb : W.heap[r]? = some (.cells (rdC vm x.c.name x.c.kind x.c.len x.c.regs u' x.vp x.vk x.vg st) 69 (0, 0))) (ho : W.ownsRow (r + 1) 46 4 u' (x.c.ins.length + 1) ((x.c.ins.flatMap insC) ++ insC v)) (hc : Chg r x.vi w W)
    (hn : u'.ownBlock = x.vi.ownBlock ∨ ∃ k, u'.ownBlock = some k ∧ w.heap.size ≤ k) :
    RI r xs { x with c := { x.c with ins := x.c.ins ++ [v] }, vi := u' } vm 3 (L ++ [s.data.toList]) (W.setCell ⟨r, 9, none⟩ (.int .i64 3)) := by
  have hc' : Chg r x.vi w (W.setCell ⟨r, 9, none⟩ (.int .i64 3)) := hc.set 9 _
  refine { blk := setc_block hb _, om := own_chg h.om hc' (h.vmf.i.symm), cur := ⟨(by rw [List.length_append, List.flatMap_append]; simpa using ownsRow_setCell_below ho (a := ⟨r, 9, none⟩) (Nat.lt_succ_self r) _), own_chg h.cur.op hc' (h.ip.symm), own_chg h.cur.ok hc' (h.ik.symm), own_chg h.cur.og hc' (h.ig.symm)⟩, vmf := ⟨(apart_new h.om h.vmf.i.symm hn).symm, h.vmf.p, h.vmf.k, h.vmf.g⟩, ip := (apart_new h.cur.op (h.ip.symm) hn).symm, ik := (apart_new h.cur.ok (h.ik.symm) hn).symm, ig := (apart_new h.cur.og (h.ig.symm) hn).symm, pk := h.pk, pg := h.pg, kg := h.kg, fin := fun y hy => (h.fin y hy).chg hc' (h.fini y hy), finm := h.finm, fini := fun y hy => (h.fin y hy).far_new (h.fini y hy) hn, finp := h.finp, fink := h.fink, fing := h.fing, good := h.good, few := ?few, nums := ?nums, st0 := by omega, k1 := ?k1, k2 := ?k2, k3 := ?k3, tx := ?tx, en := by rw [ends_no _ _ he]; exact h.en, lp := by have := h.lp; simp only [List.length_append, List.length_singleton]; omega, lk := by have := h.lk; simp only [List.length_append, List.length_singleton]; omega, li := by have := h.li; simp only [List.length_append, List.length_singleton]; omega, lg := by have := h.lg; simp only [List.length_append, List.length_singleton]; omega, la := fun q => absurd q (by decide) }
  case few => exact { h.few with ins := (by have := h.li; simp only [List.length_append, List.length_singleton]; omega) }
  case nums => exact { h.nums with ins := mem_snoc h.nums.ins hv }
  case k1 => exact fun q => by exact absurd q (by decide)
  case k2 => exact fun q => by exact absurd q (by decide)
  case k3 => exact fun q => h.k3 (by omega)
  case tx =>
    rw [joinL_append, joinL_one, h.tx, hs, if_neg h0, if_neg (by decide)]
    have e_guards := h.k3 (by omega)
    simp only [partT, headS, insS, List.flatMap_append, List.flatMap_cons, List.flatMap_nil, List.append_nil, List.append_assoc, e_guards]

/-- a line of section 4 -/
theorem step_guard {r : Nat} {xs : List CodeV} {x : CodeV} {vm : Value} {st : Int} {L : List (List UInt8)} {w W : World} {s : ByteArray} {v : GuL} {u' : Value} (h : RI r xs x vm st L w) (hL : L.length ≤ 60000) (h0 : st ≠ 0) (_hst : st ≤ 4) (hv : inI v.f ∧ inI v.t ∧ inI v.g ∧ inI v.r)
    (hs : s.data.toList = guardL v.f v.t v.g v.r) (he : s.data.toList ≠ [101, 110, 100])
    (hb : W.heap[r]? = some (.cells (rdC vm x.c.name x.c.kind x.c.len x.c.regs x.vi x.vp x.vk u' st) 69 (0, 0))) (ho : W.ownsRow (r + 1) 63 4 u' (x.c.guards.length + 1) ((x.c.guards.flatMap guC) ++ guC v)) (hc : Chg r x.vg w W)
    (hn : u'.ownBlock = x.vg.ownBlock ∨ ∃ k, u'.ownBlock = some k ∧ w.heap.size ≤ k) :
    RI r xs { x with c := { x.c with guards := x.c.guards ++ [v] }, vg := u' } vm 4 (L ++ [s.data.toList]) (W.setCell ⟨r, 9, none⟩ (.int .i64 4)) := by
  have hc' : Chg r x.vg w (W.setCell ⟨r, 9, none⟩ (.int .i64 4)) := hc.set 9 _
  refine { blk := setc_block hb _, om := own_chg h.om hc' (h.vmf.g.symm), cur := ⟨own_chg h.cur.oi hc' (h.ig), own_chg h.cur.op hc' (h.pg), own_chg h.cur.ok hc' (h.kg), (by rw [List.length_append, List.flatMap_append]; simpa using ownsRow_setCell_below ho (a := ⟨r, 9, none⟩) (Nat.lt_succ_self r) _)⟩, vmf := ⟨h.vmf.i, h.vmf.p, h.vmf.k, (apart_new h.om h.vmf.g.symm hn).symm⟩, ip := h.ip, ik := h.ik, ig := apart_new h.cur.oi (h.ig) hn, pk := h.pk, pg := apart_new h.cur.op (h.pg) hn, kg := apart_new h.cur.ok (h.kg) hn, fin := fun y hy => (h.fin y hy).chg hc' (h.fing y hy), finm := h.finm, fini := h.fini, finp := h.finp, fink := h.fink, fing := fun y hy => (h.fin y hy).far_new (h.fing y hy) hn, good := h.good, few := ?few, nums := ?nums, st0 := by omega, k1 := ?k1, k2 := ?k2, k3 := ?k3, tx := ?tx, en := by rw [ends_no _ _ he]; exact h.en, lp := by have := h.lp; simp only [List.length_append, List.length_singleton]; omega, lk := by have := h.lk; simp only [List.length_append, List.length_singleton]; omega, li := by have := h.li; simp only [List.length_append, List.length_singleton]; omega, lg := by have := h.lg; simp only [List.length_append, List.length_singleton]; omega, la := fun q => absurd q (by decide) }
  case few => exact { h.few with guards := (by have := h.lg; simp only [List.length_append, List.length_singleton]; omega) }
  case nums => exact { h.nums with guards := mem_snoc h.nums.guards hv }
  case k1 => exact fun q => by exact absurd q (by decide)
  case k2 => exact fun q => by exact absurd q (by decide)
  case k3 => exact fun q => by exact absurd q (by decide)
  case tx =>
    rw [joinL_append, joinL_one, h.tx, hs, if_neg h0, if_neg (by decide)]
    simp only [partT, headS, guS, List.flatMap_append, List.flatMap_cons, List.flatMap_nil, List.append_nil, List.append_assoc]

end Go.Proofs.YtfngechoipngmaaGreatDoor

namespace Go.Proofs.YtfngechoipngmaaGreatDoor
open Go.RowKit
set_option maxRecDepth 100000

def noCode (nm : ByteArray) (k l g : Int) : CodeV := ⟨⟨nm, k, l, g, [], [], [], []⟩, .slice none 0 0, .slice none 0 0, .slice none 0 0, .slice none 0 0⟩

theorem noRows (r : Nat) (nm : ByteArray) (k l g : Int) (W : World) : Rows r (noCode nm k l g) W := ⟨World.ownsRow_nil _ _ _ _, World.ownsRow_nil _ _ _ _, World.ownsRow_nil _ _ _ _, World.ownsRow_nil _ _ _ _⟩
theorem noFar (nm : ByteArray) (k l g : Int) (u : Value) : Far (noCode nm k l g) u := ⟨nil_apart _, nil_apart _, nil_apart _, nil_apart _⟩
theorem noFew {nm : ByteArray} (h : nm.size ≤ 65536) (k l g : Int) : Few (noCode nm k l g).c :=
  ⟨h, by simp [noCode], by simp [noCode], by simp [noCode], by simp [noCode], fun v hv => (nomatch hv), fun v hv => (nomatch hv)⟩
theorem noNums (nm : ByteArray) {k l g : Int} (hk : inI k) (hl : inI l) (hg : inI g) : Nums (noCode nm k l g).c :=
  ⟨hk, hl, hg, fun _v hv => (nomatch hv), fun _v hv => (nomatch hv), fun _v hv => (nomatch hv), fun _v hv => (nomatch hv)⟩

theorem step_code {r : Nat} {xs : List CodeV} {x : CodeV} {vm : Value} {L : List (List UInt8)} {w W : World} {s nm : ByteArray} {k l g : Int} (h : RI r xs x vm 0 L w) (hnm : nm.size ≤ 65536) (hk : inI k) (hl : inI l) (hg : inI g)
    (hs : s.data.toList = headL nm.data.toList k l g) (he : s.data.toList ≠ [101, 110, 100])
    (hb : W.heap[r]? = some (.cells (rdC vm nm k l g (.slice none 0 0) (.slice none 0 0) (.slice none 0 0) (.slice none 0 0) 0) 69 (0, 0))) (hc : Chg r (.slice none 0 0) w W) :
    RI r xs (noCode nm k l g) vm 1 (L ++ [s.data.toList]) (W.setCell ⟨r, 9, none⟩ (.int .i64 1)) := by
  have hc' : Chg r (.slice none 0 0) w (W.setCell ⟨r, 9, none⟩ (.int .i64 1)) := hc.set 9 _
  refine { blk := setc_block hb _, om := own_chg h.om hc' (apart_nil _), cur := noRows _ _ _ _ _ _, vmf := noFar _ _ _ _ _, ip := nil_apart _, ik := nil_apart _, ig := nil_apart _, pk := nil_apart _, pg := nil_apart _, kg := nil_apart _, fin := fun y hy => (h.fin y hy).chg hc' (far_nil y), finm := h.finm, fini := fun y _ => far_nil y, finp := fun y _ => far_nil y, fink := fun y _ => far_nil y, fing := fun y _ => far_nil y, good := h.good, few := noFew hnm _ _ _, nums := noNums _ hk hl hg, st0 := by omega, k1 := fun _ => rfl, k2 := fun _ => rfl, k3 := fun _ => rfl, tx := ?tx, en := by rw [ends_no _ _ he]; exact h.en, lp := Nat.zero_le _, lk := Nat.zero_le _, li := Nat.zero_le _, lg := Nat.zero_le _, la := fun q => absurd q (by decide) }
  case tx =>
    rw [joinL_append, joinL_one, h.tx, hs, if_pos rfl, if_neg (by decide)]
    simp only [partT, headS, noCode, List.flatMap_nil, List.append_nil]

theorem step_end {r : Nat} {xs : List CodeV} {x : CodeV} {vm vm' : Value} {st : Int} {L : List (List UInt8)} {w W : World} {s : ByteArray} (h : RI r xs x vm st L w) (h0 : st ≠ 0)
    (hs : s.data.toList = [101, 110, 100]) (hr : rightB x.c = true)
    (hb : W.heap[r]? = some (.cells (rdC vm' ⟨#[]⟩ 0 0 0 (.slice none 0 0) (.slice none 0 0) (.slice none 0 0) (.slice none 0 0) 0) 69 (0, 0))) (ho : W.ownsRow (r + 1) 36 8 vm' (xs.length + 1) ((xs.flatMap codeC) ++ codeC x)) (hc : Chg r vm w W)
    (hn : vm'.ownBlock = vm.ownBlock ∨ ∃ k, vm'.ownBlock = some k ∧ w.heap.size ≤ k) :
    RI r (xs ++ [x]) (noCode ⟨#[]⟩ 0 0 0) vm' 0 (L ++ [s.data.toList]) W := by
  have hi0 : inI 0 := by unfold inI; omega
  refine { blk := hb, om := (by rw [List.length_append, List.flatMap_append]; simpa using ho), cur := noRows _ _ _ _ _ _, vmf := noFar _ _ _ _ _, ip := nil_apart _, ik := nil_apart _, ig := nil_apart _, pk := nil_apart _, pg := nil_apart _, kg := nil_apart _, fin := mem_snoc (fun y hy => (h.fin y hy).chg hc (h.finm y hy)) (h.cur.chg hc h.vmf), finm := mem_snoc (fun y hy => (h.fin y hy).far_new (h.finm y hy) hn) (h.cur.far_new h.vmf hn), fini := fun y _ => far_nil y, finp := fun y _ => far_nil y, fink := fun y _ => far_nil y, fing := fun y _ => far_nil y, good := mem_snoc h.good ⟨h.few, h.nums, hr⟩, few := noFew (by decide) _ _ _, nums := noNums _ hi0 hi0 hi0, st0 := by omega, k1 := fun _ => rfl, k2 := fun _ => rfl, k3 := fun _ => rfl, tx := ?tx, en := ?en, lp := Nat.zero_le _, lk := Nat.zero_le _, li := Nat.zero_le _, lg := Nat.zero_le _, la := fun _ _ => (by rw [hs]; simp [endW]) }
  case tx =>
    rw [joinL_append, joinL_one, h.tx, hs, if_neg h0, if_pos rfl]
    simp only [txt, codeT, partT, List.flatMap_append, List.flatMap_cons, List.flatMap_nil, List.append_nil, List.append_assoc, List.cons_append, List.nil_append]
  case en =>
    rw [List.length_append, ends_append, h.en, hs]
    rfl

end Go.Proofs.YtfngechoipngmaaGreatDoor
