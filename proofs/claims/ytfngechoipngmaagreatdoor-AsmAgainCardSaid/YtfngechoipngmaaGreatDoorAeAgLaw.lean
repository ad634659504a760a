/-
  The statement's own code (AsmAgain): all of it but the examples.
-/
import Derived.Test.YtfngechoipngmaaGreatDoorAeTxt10
namespace Go.Proofs.YtfngechoipngmaaGreatDoor
open Go.RowKit
set_option maxRecDepth 100000

/-- what the second reading may answer -/
theorem again_plain {s t : ByteArray} {xs ys : List CodeV} {vm vn : Value} {w w' : World} {k : Nat} (h : ReadOk s xs vm w) (ht : ReadOk t ys vn w') (hp : t.data.toList = s.data.toList.take k) (hk : k ≤ s.size) :
    ys.length ≤ xs.length ∧ (k = s.size ∨ ys.length < xs.length) := by
  obtain ⟨L, e1, n1, c1, l1⟩ := h.ls
  obtain ⟨M, e2, n2, c2, _⟩ := ht.ls
  have hML := lines_prefix M L n2 n1 (by rw [e1, e2, hp]; exact List.take_prefix _ _)
  refine ⟨by rw [c1, c2]; exact ends_le hML, ?_⟩
  by_cases hks : k = s.size
  · exact Or.inl hks
  · have hne : M ≠ L := by
      rintro rfl
      have h1 := congrArg List.length (e1.symm.trans (e2.trans hp))
      rw [List.length_take, ← Lib.size_eq] at h1
      omega
    have hL : L ≠ [] := by
      rintro rfl
      exact hne (List.prefix_nil.1 hML)
    exact Or.inr (by rw [c1, c2]; exact ends_lt hML hne (l1 hL))

/-- what was read is written again -/
theorem text_again {s : ByteArray} {xs : List CodeV} {vm : Value} {w1 : World} (h : ReadOk s xs vm w1) (hs : s.size ≤ 20000) (hG : GE w1) (W : World) (hb : Below w1.heap.size w1 W) :
    Calls Tryz.prog 7 #[.agg #[vm]] W fun e w' => e = .returned (.tuple #[.string s, .int .i64 0]) ∧ Below W.heap.size W w' := by
  have hv : textV xs = .tuple #[.string s, .int .i64 0] := by
    rw [textV_yes fun j hj => h.right _ (List.getElem_mem hj), h.tx, bs_of]
  have := Text_ret xs w1.heap.size vm (h.few hs) W (hG.below hb hG.g.size).g hb.size (h.img.below hb)
  rw [hv] at this
  exact this

/-- where the text is cut -/
theorem cut_at (cut : Int) (n : Nat) (hn : n ≤ 20000) : ∃ k : Nat, k ≤ n ∧ wrap64 ((IntKind.u64.wrap cut).tmod ((n : Int) + 1)) = (k : Int) := by
  have e : IntKind.u64.wrap cut = cut % 18446744073709551616 := by simp [IntKind.wrap, IntKind.bits, IntKind.signed]
  have h0 : 0 ≤ IntKind.u64.wrap cut := by rw [e]; omega
  generalize IntKind.u64.wrap cut = u at *
  rw [Int.tmod_eq_emod_of_nonneg h0]
  have h1 := Int.emod_nonneg u (b := (n : Int) + 1) (by omega)
  have h2 := Int.emod_lt_of_pos u (b := (n : Int) + 1) (by omega)
  refine ⟨(u % ((n : Int) + 1)).toNat, by omega, ?_⟩
  unfold wrap64
  omega

theorem cut_list (s : ByteArray) (k : Nat) : (s.extract 0 k).data.toList = s.data.toList.take k := by
  rw [ByteArray.data_extract, Array.toList_extract]
  simp

theorem box_after {w w1 w2 : World} {v : Value} {t : TypeId} (h1 : Below w.heap.size w w1) (h2 : Below (w1.alloc (.cells #[v] t)).heap.size (w1.alloc (.cells #[v] t)) w2) :
    Below w.heap.size w w2 ∧ w2.cell? ⟨w1.heap.size, 0, none⟩ = some v ∧ w1.heap.size < w2.heap.size := by
  have h0 : Below w.heap.size w (w1.alloc (.cells #[v] t)) := h1.alloc h1.size _
  refine ⟨h0.trans (h2.mono h0.size), ?_, ?_⟩
  · rw [h2.cell (p := ⟨w1.heap.size, 0, none⟩) (by simp), Lib.cell_of_heap (heap_alloc_new w1 _)]
    rfl
  · have := h2.size
    simp at this
    omega

theorem ReadR.below {s : ByteArray} {w w' : World} {e : Ending} (h : ReadR s w e w') : Below w.heap.size w w' := by
  rcases h.ex with ⟨_, _, _, _, hb⟩ | ⟨_, _, _, hb, _⟩ <;> exact hb

theorem after_read {t : ByteArray} {w w2 w3 : World} {e : Ending} {b : Nat} {v : Value} (h : ReadR t w2 e w3) (hb : Below w.heap.size w w2) (hl : b < w2.heap.size) (hc : w2.cell? ⟨b, 0, none⟩ = some v) :
    Below w.heap.size w w3 ∧ w3.cell? ⟨b, 0, none⟩ = some v ∧ ∀ ob, (w3.alloc ob).cell? ⟨b, 0, none⟩ = some v := by
  have h3 := h.below
  have hc3 : w3.cell? ⟨b, 0, none⟩ = some v := (h3.cell (p := ⟨b, 0, none⟩) hl).trans hc
  exact ⟨hb.trans (h3.mono hb.size), hc3, fun ob => (cell_old w3 ob (Nat.lt_of_lt_of_le hl h3.size) 0).trans hc3⟩

set_option maxHeartbeats 4000000 in
theorem again_ret (s : ByteArray) (cut : Int) (_hc : inI cut) (w : World) (hG : GE w)
    (hgoes : ∀ W, GE W → Calls Tryz.prog 6 #[] W fun e w' => e = .returned (.bool true) ∧ Below W.heap.size W w') :
    Calls Tryz.prog 4 #[.string s, .int .i64 cut] w fun e w' => e = .returned (.bool true) ∧ Below w.heap.size w w' := by
  have h7 := hG.g.size
  have HGO : Hid (∀ W, Below w.heap.size w W → Calls Tryz.prog 6 #[] W fun e w' => e = .returned (.bool true) ∧ Below w.heap.size w w') := Lib.hid fun W hb => (hgoes W (hG.below hb h7)).mono fun e w' he => ⟨he.1, hb.trans (he.2.mono hb.size)⟩
  have HG : Hid (∀ W, Below w.heap.size w W → GE W) := Lib.hid fun W hb => hG.below hb h7
  have HR := Lib.hid fun (hs : s.size ≤ 20000) => Read_ret s hs w hG
  clear hG hgoes
  by_cases hs : s.size ≤ 20000
  · have hs1 : ¬ ((20000 : Int) < (s.size : Int)) := by omega
    obtain ⟨k, hk, hke⟩ := cut_at cut s.size hs
    have HR2 : Hid (∀ W, GE W → Calls Tryz.prog 11 #[.string (s.extract 0 k)] W fun e w' => ReadR (s.extract 0 k) W e w') := Lib.hid fun W hW => Read_ret _ (by rw [ByteArray.size_extract]; omega) W hW
    go_enter Tryz.func4, Tryz.ntmps4
    go_wp2_with (first
      | (go_at_call 11; refine (HR.out hs).mono ?_; rintro e w1 hr; rcases hr.ex with ⟨l, c, rfl, rfl | rfl | rfl, hb1⟩ | ⟨xs, vm, rfl, hb1, hok⟩; rotate_right; (obtain ⟨va, vc, ev⟩ := hok.img.sl.slice; rw [List.length_map] at ev; subst ev; have HK := Lib.hid hok; have HT := Lib.hid (text_again hok hs (HG.out _ hb1)); clear hok))
      | (go_at_call 6; refine (HGO.out _ (hb1.alloc hb1.size _)).mono ?_; rintro e w2 ⟨rfl, hb2⟩)
      | fail)
    all_goals first
      | (go_ret; exact ⟨rfl, hb2⟩)
      | skip
    go_wp2_with (first
      | (go_at_call 7; refine (HT.out _ ((Below.refl _ _).alloc (Nat.le_refl _) _)).mono ?_; rintro e w2 ⟨rfl, hb2⟩; obtain ⟨hbw2, hbx, hl2⟩ := box_after hb1 hb2)
      | fail)
    go_wp2_with (first
      | (go_at_call 11; refine (HR2.out _ (HG.out _ hbw2)).mono ?_; rintro e w3 hr2; simp only [hke]; clear hke; obtain ⟨hbw3, hbx3, cA⟩ := after_read hr2 hbw2 hl2 hbx; rcases hr2.ex with ⟨l2, c2, rfl, rfl | rfl | rfl, _⟩ | ⟨ys, vn, rfl, _, hok2⟩; rotate_right; (obtain ⟨vb, vd, ev⟩ := hok2.img.sl.slice; rw [List.length_map] at ev; subst ev; obtain ⟨hp1, hp2⟩ := again_plain HK.out hok2 (cut_list s k) hk; clear hok2 hr2; by_cases hks : (k : Int) = (s.size : Int); rotate_left; (have hlt : ys.length < xs.length := hp2.resolve_left (by omega))))
      | (go_at_call 6; refine (HGO.out _ (hbw3.alloc hbw3.size _)).mono ?_; rintro e w4 ⟨rfl, hb4⟩)
      | fail)
    all_goals
      go_ret
      exact ⟨rfl, hb4⟩
  · have hs1 : (20000 : Int) < (s.size : Int) := by omega
    go_enter Tryz.func4, Tryz.ntmps4
    go_wp2_with (go_at_call 6; refine (HGO.out _ (Below.refl _ _)).mono ?_; rintro e w1 ⟨rfl, hb1⟩)
    go_ret
    exact ⟨rfl, hb1⟩

end Go.Proofs.YtfngechoipngmaaGreatDoor
