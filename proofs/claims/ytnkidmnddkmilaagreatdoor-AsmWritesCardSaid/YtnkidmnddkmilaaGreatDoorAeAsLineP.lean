/-
  Instructions as text: the program.
-/
import Derived.Test.YtnkidmnddkmilaaGreatDoorAeAsLine
import Derived.Laws.AppendOwn
namespace Go.Proofs.YtnkidmnddkmilaaGreatDoor
open Go.RowKit
set_option maxRecDepth 100000

theorem info9 : (Tryz.prog.info? 9).map (fun i => (i.zero, i.size, i.bytes)) = some (some (.string ByteArray.empty), 1, 16) := by kernel_rfl

theorem part_seg (g : UInt8) (hg : isSign g.toNat) (n : Int) (hn : inI n) (w : World) (hG : G w) : Calls Tryz.prog 45 #[.int .u8 g.toNat, .int .i64 n] w fun e w' => e = .returned (.string (bs (partL g.toNat n))) ∧ Below w.heap.size w w' :=
  part_ret _ n hg hn w hG

/-- an operand as a word of its own -/
def ptL (g : UInt8) (n : Int) : List ByteArray := if (g.toNat : Int) = 45 then [] else [bs (partL g.toNat n)]
/-- the words of an instruction's line, so far -/
def wordsL (n0 : ByteArray) (p0 p1 p2 : List ByteArray) (k : Nat) : List ByteArray :=
  match k with
  | 0 => [n0]
  | 1 => [n0] ++ p0
  | 2 => [n0] ++ p0 ++ p1
  | _ => [n0] ++ p0 ++ p1 ++ p2

theorem pt_len (g : UInt8) (n : Int) : (ptL g n).length ≤ 1 := by unfold ptL; split <;> simp

theorem words_len (n0 : ByteArray) {p0 p1 p2 : List ByteArray} (h0 : p0.length ≤ 1) (h1 : p1.length ≤ 1) (h2 : p2.length ≤ 1) (k : Nat) : (wordsL n0 p0 p1 p2 k).length ≤ 4 := by
  unfold wordsL
  split
  all_goals simp only [List.length_append, List.length_singleton]
  all_goals omega

theorem join_words (l : List UInt8) (g0 g1 g2 : UInt8) (a b c : Int) :
    Lib.join ((wordsL (bs l) (ptL g0 a) (ptL g1 b) (ptL g2 c) 3).map (·.data.toList)) [32] = l ++ segL g0.toNat a ++ segL g1.toNat b ++ segL g2.toNat c := by
  show Lib.join ((([bs l] ++ ptL g0 a ++ ptL g1 b ++ ptL g2 c : List ByteArray)).map (·.data.toList)) [32] = _
  by_cases h0 : (g0.toNat : Int) = 45
  all_goals by_cases h1 : (g1.toNat : Int) = 45
  all_goals by_cases h2 : (g2.toNat : Int) = 45
  all_goals simp [ptL, segL, h0, h1, h2, Lib.join, List.intercalate, bs]

/-- a row of its own behind a call that makes memory -/
theorem own_below {w w1 w0 : World} {base n size : Nat} {e : TypeId} {v : Value} {xs : List Value} (h : w.ownsRow base e size v n xs) (hb : Below w.heap.size w w1) (_hbl : Below base w0 w) : w1.ownsRow base e size v n xs := by
  refine ⟨h.1, ?_⟩
  rcases h.2 with h1 | ⟨g, cap, cur, h1, h2, h3, h4⟩
  · exact Or.inl h1
  · have hlt : g < w.heap.size := by
      rcases Nat.lt_or_ge g w.heap.size with h' | h'
      · exact h'
      · simp [Array.getElem?_eq_none h'] at h3
    exact Or.inr ⟨g, cap, cur, h1, h2, by rw [hb.block g hlt]; exact h3, h4⟩

theorem cell_one_new (w : World) (x : Value) (ty : TypeId) : ∀ j u, ([x] : List Value)[j]? = some u → (w.alloc (.cells #[x] ty)).cell? ((⟨w.heap.size, 0, none⟩ : Addr).add j) = some u := by
  intro j u hj
  match j, hj with
  | 0, hj =>
    cases hj
    show (w.alloc (.cells #[x] ty)).cell? ⟨w.heap.size, 0 + 0, none⟩ = _
    rw [Lib.cell_of_heap (heap_alloc_new w _)]
    rfl

set_option maxHeartbeats 8000000 in
theorem line_aux (op a b c : Int) (n0 : ByteArray) (k0 k1 k2 : UInt8) (ha : inI a) (hb : inI b) (hc : inI c) (hn0 : n0.toList.isEmpty = false) (_hn1 : n0.size ≤ 12) (g0 : okSign k0) (g1 : okSign k1) (g2 : okSign k2)
    (hname : ∀ w, Calls Tryz.prog 43 #[.int .i64 op] w fun e w' => e = .returned (.string n0) ∧ Below w.heap.size w w')
    (hkind : ∀ w, Calls Tryz.prog 44 #[.int .i64 op] w fun e w' => e = .returned (.string ⟨#[k0, k1, k2]⟩) ∧ Below w.heap.size w w') (hj : (Lib.join ((wordsL n0 (ptL k0 a) (ptL k1 b) (ptL k2 c) 3).map (·.data.toList)) [32]).length ≤ 140737488355328) (w : World) (hG : G w) :
    Calls Tryz.prog 18 #[.agg #[.int .i64 op, .int .i64 a, .int .i64 b, .int .i64 c]] w fun e w' => e = .returned (.string (bs (Lib.join ((wordsL n0 (ptL k0 a) (ptL k1 b) (ptL k2 c) 3).map (·.data.toList)) [32]))) ∧ Below w.heap.size w w' := by
  obtain ⟨i0, hi, hz0, hz1, hz2⟩ := info_parts info9
  have HI := Lib.hid hi
  have HZ := Lib.hid hz0
  have hb0 : Below w.heap.size w (w.alloc (Obj.cells #[.int .i64 op, .int .i64 a, .int .i64 b, .int .i64 c] 42)).drew := ((Below.refl _ _).alloc (Nat.le_refl _) _).drew
  have hlt0 : w.heap.size < (w.alloc (Obj.cells #[.int .i64 op, .int .i64 a, .int .i64 b, .int .i64 c] 42)).drew.heap.size := by simp
  have HG := hG.size
  have e0 : ({ data := #[k0, k1, k2] } : ByteArray)[0]'(by show 0 < 3; omega) = k0 := rfl
  have e1 : ({ data := #[k0, k1, k2] } : ByteArray)[1]'(by show 1 < 3; omega) = k1 := rfl
  have e2 : ({ data := #[k0, k1, k2] } : ByteArray)[2]'(by show 2 < 3; omega) = k2 := rfl
  go_enter Tryz.func18, Tryz.ntmps18
  go_wp2_with (fail)
  go_region_held3 (fun w' => w'.cell? ⟨w.heap.size, 0, none⟩ = some (.int .i64 op) ∧ w'.cell? ⟨w.heap.size, 1, none⟩ = some (.int .i64 a) ∧ w'.cell? ⟨w.heap.size, 2, none⟩ = some (.int .i64 b) ∧ w'.cell? ⟨w.heap.size, 3, none⟩ = some (.int .i64 c) ∧ Below w.heap.size w w' ∧ w.heap.size < w'.heap.size)
    (first | go_keep | (go_split_ands; obtain ⟨q1, q2, q3⟩ := keepB (by assumption) (by assumption) hbel; refine ⟨?_, ?_, ?_, ?_, q1, q2⟩ <;> (rw [q3]; assumption)))
    ((first
      | (go_at_call 43; refine (hname _).mono ?_; rintro e w2 ⟨rfl, hbel⟩)
      | (go_at_call 44; refine (hkind _).mono ?_; rintro e w2 ⟨rfl, hbel⟩)))
  all_goals
    go_split_ands
    have hB2 : Below w.heap.size w w2 := by assumption
    have hL2 : w.heap.size < w2.heap.size := by assumption
    go_wp2
    go_loopw [5, 26] (fun v i W => ∃ (k : Nat) (ao : Option Addr) (cv : Nat), k ≤ 3 ∧ i = .int .i64 k ∧ v = .slice ao (wordsL n0 (ptL k0 a) (ptL k1 b) (ptL k2 c) k).length cv ∧ W.ownsRow w.heap.size 9 1 v (wordsL n0 (ptL k0 a) (ptL k1 b) (ptL k2 c) k).length ((wordsL n0 (ptL k0 a) (ptL k1 b) (ptL k2 c) k).map Value.string) ∧ Below w.heap.size w W ∧ W.heap[w2.heap.size + 1]? = some (.cells #[.int .i64 a, .int .i64 b, .int .i64 c] 3 (0, 0)) ∧ G W) (fun _ i _ => 3 - (intOf i).toNat)
    case atStart =>
      refine ⟨0, _, _, by omega, rfl, rfl, ⟨rfl, Or.inr ⟨w2.heap.size, 1, #[.string n0], rfl, by omega, ?_, Nat.le_refl _, by unfold maxLen; omega, rfl, rfl⟩⟩, ?_, ?_, ?_⟩
      · rw [Lib.alloc_old _ _ _ (by simp)]; exact heap_alloc_new w2 _
      · exact (hB2.alloc (by omega) _).alloc (by simp; omega) _
      · have := heap_alloc_new (w2.alloc (Obj.cells #[Value.string n0] 9)) (Obj.cells #[Value.int IntKind.i64 a, Value.int IntKind.i64 b, Value.int IntKind.i64 c] 3)
        simpa using this
      · exact hG.below ((hB2.alloc (by omega) _).alloc (by simp; omega) _) HG
    case round =>
      obtain ⟨k, ao, cv, hk, rfl, rfl, hown, hbl, hab, hGW⟩ := hrel
      have hsz := hbl.size
      have d0 : wr.cell? ⟨w2.heap.size + 1, 0, none⟩ = some (.int .i64 a) := by rw [Lib.cell_of_heap hab]; rfl
      have d1 : wr.cell? ⟨w2.heap.size + 1, 1, none⟩ = some (.int .i64 b) := by rw [Lib.cell_of_heap hab]; rfl
      have d2 : wr.cell? ⟨w2.heap.size + 1, 2, none⟩ = some (.int .i64 c) := by rw [Lib.cell_of_heap hab]; rfl
      have hlab : w2.heap.size + 1 < wr.heap.size := by
        rcases Nat.lt_or_ge (w2.heap.size + 1) wr.heap.size with h' | h'
        · exact h'
        · simp [Array.getElem?_eq_none h'] at hab
      have hlen := words_len n0 (pt_len k0 a) (pt_len k1 b) (pt_len k2 c) k
      rcases (show k = 0 ∨ k = 1 ∨ k = 2 ∨ k = 3 from by omega) with rfl | rfl | rfl | rfl
      · rcases g0 with h45 | hs
        · have hw : Hid (wordsL n0 (ptL k0 a) (ptL k1 b) (ptL k2 c) 1 = wordsL n0 (ptL k0 a) (ptL k1 b) (ptL k2 c) 0) := Lib.hid (by simp [wordsL, ptL, h45])
          have f45 : (((k0).toNat : Int) != 45) = false := by simp [h45]
          clear h45
          go_wp2
          go_roundw
          case rel => exact ⟨1, ao, cv, by omega, by first | rfl | simp, by rw [hw.out], by rw [hw.out]; exact hown, hbl, hab, hGW⟩
          case measure => simp [intOf]
        · have h45 : ¬ ((k0).toNat : Int) = 45 := by unfold isSign at hs; omega
          have hw : Hid (wordsL n0 (ptL k0 a) (ptL k1 b) (ptL k2 c) 1 = wordsL n0 (ptL k0 a) (ptL k1 b) (ptL k2 c) 0 ++ [bs (partL (k0).toNat a)]) := Lib.hid (by simp [wordsL, ptL, h45])
          have f45 : (((k0).toNat : Int) != 45) = true := by simpa using h45
          clear h45
          go_wp2_with (first
            | (go_at_call 45; refine (part_seg k0 hs a ha _ hGW).mono ?_; rintro e w3 ⟨rfl, hb3⟩)
            | (at_builtin; refine wpList_append_own _ rfl _ _ 85 rfl w.heap.size 9 i0 (.string ByteArray.empty) 1 16 Tryz.underlying85 HI.out HZ.out hz1 hz2 rfl (by decide) _ _ _ rfl ((own_below hown hb3 hbl).alloc _) ⟨w3.heap.size, 0, none⟩ 1 1 [.string (bs (partL (k0).toNat a))] rfl rfl (cell_one_new _ _ _) (fun x hx => by simp at hx; subst hx; rfl) (by unfold maxLen; omega) (by omega) (by have := hb3.size; simp; omega) ?_; intro v' w4 hown' hgrow hnil))
          go_roundw
          case rel =>
            have ho2 := (own_below hown hb3 hbl).alloc (.cells #[.string (bs (partL (k0).toNat a))] 9)
            have hb4 : Below w.heap.size w (w3.alloc (.cells #[.string (bs (partL (k0).toNat a))] 9)) := (hbl.trans (hb3.mono hsz)).alloc (by have := hb3.size; omega) _
            have hab3 : w3.heap[w2.heap.size + 1]? = some (.cells #[.int .i64 a, .int .i64 b, .int .i64 c] 3 (0, 0)) := by rw [hb3.block _ hlab]; exact hab
            have hlab3 : w2.heap.size + 1 < w3.heap.size := by have := hb3.size; omega
            have hab4 : (w3.alloc (.cells #[.string (bs (partL (k0).toNat a))] 9)).heap[w2.heap.size + 1]? = some (.cells #[.int .i64 a, .int .i64 b, .int .i64 c] 3 (0, 0)) := by rw [Lib.alloc_old _ _ _ hlab3]; exact hab3
            have hne := Lib.ownBlock_ne ho2 hab4 (by decide)
            have hb5 : Below w.heap.size w w4 := hb4.grown hgrow (by have := hb3.size; simp; omega) (fun q hq => (ho2.lt q hq).1)
            obtain ⟨g3, cap3, hv3⟩ : ∃ g3 cap3, v' = .slice (some ⟨g3, 0, none⟩) ((wordsL n0 (ptL k0 a) (ptL k1 b) (ptL k2 c) 0).length + 1) cap3 := by
              rcases hown'.2 with ⟨_, h⟩ | ⟨g3, cap3, _, h, _⟩
              · omega
              · exact ⟨g3, cap3, h⟩
            exact ⟨1, some ⟨g3, 0, none⟩, cap3, by omega, by first | rfl | simp, by rw [hv3, hw.out]; simp, by rw [hw.out, List.map_append, List.length_append]; exact hown', hb5, by rw [hgrow.block _ (by simp; omega) (fun e => hne e.symm)]; exact hab4, hG.below hb5 HG⟩
          case measure => simp [intOf]
      · rcases g1 with h45 | hs
        · have hw : Hid (wordsL n0 (ptL k0 a) (ptL k1 b) (ptL k2 c) 2 = wordsL n0 (ptL k0 a) (ptL k1 b) (ptL k2 c) 1) := Lib.hid (by simp [wordsL, ptL, h45])
          have f45 : (((k1).toNat : Int) != 45) = false := by simp [h45]
          clear h45
          go_wp2
          go_roundw
          case rel => exact ⟨2, ao, cv, by omega, by first | rfl | simp, by rw [hw.out], by rw [hw.out]; exact hown, hbl, hab, hGW⟩
          case measure => simp [intOf]
        · have h45 : ¬ ((k1).toNat : Int) = 45 := by unfold isSign at hs; omega
          have hw : Hid (wordsL n0 (ptL k0 a) (ptL k1 b) (ptL k2 c) 2 = wordsL n0 (ptL k0 a) (ptL k1 b) (ptL k2 c) 1 ++ [bs (partL (k1).toNat b)]) := Lib.hid (by simp [wordsL, ptL, h45])
          have f45 : (((k1).toNat : Int) != 45) = true := by simpa using h45
          clear h45
          go_wp2_with (first
            | (go_at_call 45; refine (part_seg k1 hs b hb _ hGW).mono ?_; rintro e w3 ⟨rfl, hb3⟩)
            | (at_builtin; refine wpList_append_own _ rfl _ _ 85 rfl w.heap.size 9 i0 (.string ByteArray.empty) 1 16 Tryz.underlying85 HI.out HZ.out hz1 hz2 rfl (by decide) _ _ _ rfl ((own_below hown hb3 hbl).alloc _) ⟨w3.heap.size, 0, none⟩ 1 1 [.string (bs (partL (k1).toNat b))] rfl rfl (cell_one_new _ _ _) (fun x hx => by simp at hx; subst hx; rfl) (by unfold maxLen; omega) (by omega) (by have := hb3.size; simp; omega) ?_; intro v' w4 hown' hgrow hnil))
          go_roundw
          case rel =>
            have ho2 := (own_below hown hb3 hbl).alloc (.cells #[.string (bs (partL (k1).toNat b))] 9)
            have hb4 : Below w.heap.size w (w3.alloc (.cells #[.string (bs (partL (k1).toNat b))] 9)) := (hbl.trans (hb3.mono hsz)).alloc (by have := hb3.size; omega) _
            have hab3 : w3.heap[w2.heap.size + 1]? = some (.cells #[.int .i64 a, .int .i64 b, .int .i64 c] 3 (0, 0)) := by rw [hb3.block _ hlab]; exact hab
            have hlab3 : w2.heap.size + 1 < w3.heap.size := by have := hb3.size; omega
            have hab4 : (w3.alloc (.cells #[.string (bs (partL (k1).toNat b))] 9)).heap[w2.heap.size + 1]? = some (.cells #[.int .i64 a, .int .i64 b, .int .i64 c] 3 (0, 0)) := by rw [Lib.alloc_old _ _ _ hlab3]; exact hab3
            have hne := Lib.ownBlock_ne ho2 hab4 (by decide)
            have hb5 : Below w.heap.size w w4 := hb4.grown hgrow (by have := hb3.size; simp; omega) (fun q hq => (ho2.lt q hq).1)
            obtain ⟨g3, cap3, hv3⟩ : ∃ g3 cap3, v' = .slice (some ⟨g3, 0, none⟩) ((wordsL n0 (ptL k0 a) (ptL k1 b) (ptL k2 c) 1).length + 1) cap3 := by
              rcases hown'.2 with ⟨_, h⟩ | ⟨g3, cap3, _, h, _⟩
              · omega
              · exact ⟨g3, cap3, h⟩
            exact ⟨2, some ⟨g3, 0, none⟩, cap3, by omega, by first | rfl | simp, by rw [hv3, hw.out]; simp, by rw [hw.out, List.map_append, List.length_append]; exact hown', hb5, by rw [hgrow.block _ (by simp; omega) (fun e => hne e.symm)]; exact hab4, hG.below hb5 HG⟩
          case measure => simp [intOf]
      · rcases g2 with h45 | hs
        · have hw : Hid (wordsL n0 (ptL k0 a) (ptL k1 b) (ptL k2 c) 3 = wordsL n0 (ptL k0 a) (ptL k1 b) (ptL k2 c) 2) := Lib.hid (by simp [wordsL, ptL, h45])
          have f45 : (((k2).toNat : Int) != 45) = false := by simp [h45]
          clear h45
          go_wp2
          go_roundw
          case rel => exact ⟨3, ao, cv, by omega, by first | rfl | simp, by rw [hw.out], by rw [hw.out]; exact hown, hbl, hab, hGW⟩
          case measure => simp [intOf]
        · have h45 : ¬ ((k2).toNat : Int) = 45 := by unfold isSign at hs; omega
          have hw : Hid (wordsL n0 (ptL k0 a) (ptL k1 b) (ptL k2 c) 3 = wordsL n0 (ptL k0 a) (ptL k1 b) (ptL k2 c) 2 ++ [bs (partL (k2).toNat c)]) := Lib.hid (by simp [wordsL, ptL, h45])
          have f45 : (((k2).toNat : Int) != 45) = true := by simpa using h45
          clear h45
          go_wp2_with (first
            | (go_at_call 45; refine (part_seg k2 hs c hc _ hGW).mono ?_; rintro e w3 ⟨rfl, hb3⟩)
            | (at_builtin; refine wpList_append_own _ rfl _ _ 85 rfl w.heap.size 9 i0 (.string ByteArray.empty) 1 16 Tryz.underlying85 HI.out HZ.out hz1 hz2 rfl (by decide) _ _ _ rfl ((own_below hown hb3 hbl).alloc _) ⟨w3.heap.size, 0, none⟩ 1 1 [.string (bs (partL (k2).toNat c))] rfl rfl (cell_one_new _ _ _) (fun x hx => by simp at hx; subst hx; rfl) (by unfold maxLen; omega) (by omega) (by have := hb3.size; simp; omega) ?_; intro v' w4 hown' hgrow hnil))
          go_roundw
          case rel =>
            have ho2 := (own_below hown hb3 hbl).alloc (.cells #[.string (bs (partL (k2).toNat c))] 9)
            have hb4 : Below w.heap.size w (w3.alloc (.cells #[.string (bs (partL (k2).toNat c))] 9)) := (hbl.trans (hb3.mono hsz)).alloc (by have := hb3.size; omega) _
            have hab3 : w3.heap[w2.heap.size + 1]? = some (.cells #[.int .i64 a, .int .i64 b, .int .i64 c] 3 (0, 0)) := by rw [hb3.block _ hlab]; exact hab
            have hlab3 : w2.heap.size + 1 < w3.heap.size := by have := hb3.size; omega
            have hab4 : (w3.alloc (.cells #[.string (bs (partL (k2).toNat c))] 9)).heap[w2.heap.size + 1]? = some (.cells #[.int .i64 a, .int .i64 b, .int .i64 c] 3 (0, 0)) := by rw [Lib.alloc_old _ _ _ hlab3]; exact hab3
            have hne := Lib.ownBlock_ne ho2 hab4 (by decide)
            have hb5 : Below w.heap.size w w4 := hb4.grown hgrow (by have := hb3.size; simp; omega) (fun q hq => (ho2.lt q hq).1)
            obtain ⟨g3, cap3, hv3⟩ : ∃ g3 cap3, v' = .slice (some ⟨g3, 0, none⟩) ((wordsL n0 (ptL k0 a) (ptL k1 b) (ptL k2 c) 2).length + 1) cap3 := by
              rcases hown'.2 with ⟨_, h⟩ | ⟨g3, cap3, _, h, _⟩
              · omega
              · exact ⟨g3, cap3, h⟩
            exact ⟨3, some ⟨g3, 0, none⟩, cap3, by omega, by first | rfl | simp, by rw [hv3, hw.out]; simp, by rw [hw.out, List.map_append, List.length_append]; exact hown', hb5, by rw [hgrow.block _ (by simp; omega) (fun e => hne e.symm)]; exact hab4, hG.below hb5 HG⟩
          case measure => simp [intOf]
      · obtain ⟨g, cap, cur, hv, hg, hgh, hcap, hmx, _⟩ : ∃ g cap cur, (Value.slice ao (wordsL n0 (ptL k0 a) (ptL k1 b) (ptL k2 c) 3).length cv) = .slice (some ⟨g, 0, none⟩) (wordsL n0 (ptL k0 a) (ptL k1 b) (ptL k2 c) 3).length cap ∧ w.heap.size ≤ g ∧ wr.heap[g]? = some (.cells cur 9 (0, 0)) ∧ (wordsL n0 (ptL k0 a) (ptL k1 b) (ptL k2 c) 3).length ≤ cap ∧ cap ≤ maxLen ∧ True := by
          rcases hown.2 with ⟨_, h⟩ | ⟨g, cap, cur, h, h1, h2, h3, h4, _⟩
          · simp [wordsL] at h
          · exact ⟨g, cap, cur, h, h1, h2, h3, h4, trivial⟩
        cases hv
        have hgl : g < wr.heap.size := by
          rcases Nat.lt_or_ge g wr.heap.size with h' | h'
          · exact h'
          · simp [Array.getElem?_eq_none h'] at hgh
        have hcs : ∀ (j : Nat) x, (wordsL n0 (ptL k0 a) (ptL k1 b) (ptL k2 c) 3)[j]? = some x → wr.cell? ⟨g, 0 + j, none⟩ = some (.string x) := fun j x hx => by
          have := hown.cells (g := g) rfl j (.string x) (by rw [List.getElem?_map, hx]; rfl)
          rwa [show (⟨g, 0, none⟩ : Addr).add j = ⟨g, 0 + j, none⟩ by unfold Addr.add; split <;> simp_all] at this
        have HCS := Lib.hid hcs
        clear hcs hgh hab d0 d1 d2
        go_wp2_with (go_at_call 46; (refine (strings_Join g 0 cv (wordsL n0 (ptL k0 a) (ptL k1 b) (ptL k2 c) 3) ⟨#[32]⟩ _ HCS.out hgl (by omega) hcap hj).mono ?_); rintro e w3 ⟨rfl, hb3⟩)
        go_ret
        exact ⟨rfl, hbl.trans (hb3.mono hsz)⟩

theorem line_ret (op a b c : Int) (h0 : 0 ≤ op) (h1 : op < 55) (ha : inI a) (hb : inI b) (hc : inI c) (w : World) (hG : G w) :
    Calls Tryz.prog 18 #[.agg #[.int .i64 op, .int .i64 a, .int .i64 b, .int .i64 c]] w fun e w' => e = .returned (.string (bs (lineL ⟨op, a, b, c⟩))) ∧ Below w.heap.size w w' := by
  obtain ⟨hk, hg, hne, hnl⟩ := row_good h0 h1
  have hL : lineL ⟨op, a, b, c⟩ = Lib.join ((wordsL (bs (nameL op)) (ptL (kd op 0) a) (ptL (kd op 1) b) (ptL (kd op 2) c) 3).map (·.data.toList)) [32] := by
    rw [join_words]
    unfold lineL
    rw [if_neg (show ¬ (op < 0 ∨ 55 ≤ op) by omega)]
  have s0 := seg_len (kd op 0).toNat a ha
  have s1 := seg_len (kd op 1).toNat b hb
  have s2 := seg_len (kd op 2).toNat c hc
  rw [bs_size] at s0 s1 s2
  rw [hL]
  refine line_aux op a b c _ _ _ _ ha hb hc ?_ (by rw [bs_size]; exact hnl) ((hg 0).resolve_right (by omega)) ((hg 1).resolve_right (by omega)) ((hg 2).resolve_right (by omega)) (name_ret op) (fun w => (kind_ret op w).mono fun e w' he => ⟨by rw [he.1, hk]; rfl, he.2⟩) ?_ w hG
  · rw [ByteArray.toList_eq, bs_data]
    cases h : nameL op with
    | nil => exact absurd h hne
    | cons => rfl
  · rw [join_words]
    simp only [List.length_append]
    omega

theorem line_len (x : InsL) (ha : inI x.a) (hb : inI x.b) (hc : inI x.c) : (lineL x).length ≤ 100 := by
  unfold lineL
  split
  · simp
  · obtain ⟨_, _, _, hnl⟩ := row_good (op := x.op) (by omega) (by omega)
    have s0 := seg_len (kd x.op 0).toNat x.a ha
    have s1 := seg_len (kd x.op 1).toNat x.b hb
    have s2 := seg_len (kd x.op 2).toNat x.c hc
    rw [bs_size] at s0 s1 s2
    simp only [List.length_append]
    omega

/-- an instruction whose operation there is not -/
theorem line_out (op a b c : Int) (h : op < 0 ∨ 55 ≤ op) (w : World) :
    Calls Tryz.prog 18 #[.agg #[.int .i64 op, .int .i64 a, .int .i64 b, .int .i64 c]] w fun e w' => e = .returned (.string (bs [])) ∧ Below w.heap.size w w' := by
  have hname : ∀ w, Calls Tryz.prog 43 #[.int .i64 op] w fun e w' => e = .returned (.string ⟨#[]⟩) ∧ Below w.heap.size w w' := name_out op h
  have hkind : ∀ w, Calls Tryz.prog 44 #[.int .i64 op] w fun e w' => e = .returned (.string ⟨#[]⟩) ∧ Below w.heap.size w w' := kind_out op h
  have hb0 : Below w.heap.size w (w.alloc (Obj.cells #[.int .i64 op, .int .i64 a, .int .i64 b, .int .i64 c] 42)).drew := ((Below.refl _ _).alloc (Nat.le_refl _) _).drew
  have hlt0 : w.heap.size < (w.alloc (Obj.cells #[.int .i64 op, .int .i64 a, .int .i64 b, .int .i64 c] 42)).drew.heap.size := by simp
  go_enter Tryz.func18, Tryz.ntmps18
  go_wp2_with (fail)
  go_region_held3 (fun w' => w'.cell? ⟨w.heap.size, 0, none⟩ = some (.int .i64 op) ∧ Below w.heap.size w w' ∧ w.heap.size < w'.heap.size)
    (first | go_keep | (go_split_ands; obtain ⟨q1, q2, q3⟩ := keepB (by assumption) (by assumption) hbel; refine ⟨?_, q1, q2⟩; (rw [q3]; assumption)))
    ((first
      | (go_at_call 43; refine (hname _).mono ?_; rintro e w2 ⟨rfl, hbel⟩)
      | (go_at_call 44; refine (hkind _).mono ?_; rintro e w2 ⟨rfl, hbel⟩)))
  all_goals
    go_split_ands
    go_wp2
    go_ret
    exact ⟨rfl, by assumption⟩

end Go.Proofs.YtnkidmnddkmilaaGreatDoor
