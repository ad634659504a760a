/-
  The specification's examples: what the evaluator is told (strings quoted, lines, a text).
-/
import Derived.Test.YtfngechoipngmaaGreatDoorAeTxt7
import Derived.Test.YtfngechoipngmaaGreatDoorAeTxt1
namespace Go.Proofs.YtfngechoipngmaaGreatDoor
open Go.RowKit Go.AE
set_option maxRecDepth 100000

noncomputable def gKinds : List AV := [.str [], .str [60], .str [62], .str [63]]
noncomputable def gPow : List AV := [.int .u64 1, .int .u64 10, .int .u64 100, .int .u64 1000, .int .u64 10000, .int .u64 100000, .int .u64 1000000, .int .u64 10000000, .int .u64 100000000, .int .u64 1000000000, .int .u64 10000000000, .int .u64 100000000000, .int .u64 1000000000000, .int .u64 10000000000000, .int .u64 100000000000000, .int .u64 1000000000000000, .int .u64 10000000000000000, .int .u64 100000000000000000, .int .u64 1000000000000000000, .int .u64 10000000000000000000]
noncomputable def gX : List (Nat × List AV × Bool) := [(0, gKinds, true), (2, gPow, true)]
noncomputable def gO : List (Nat × AObj) := [(0, .held (ofListV gKinds) 4 true), (2, .held (ofListV gPow) 20 true)]
theorem gX_old (a : List AV) (v : AV) : Qt.old ⟨a, gX, v⟩ = gO := rfl

section
variable {Y : Sy}

theorem kinds_conc : concs Y (rhoG envG.ng) gKinds = some kindCells.toList := rfl
theorem pow_conc : concs Y (rhoG envG.ng) gPow = some powCells.toList := by kernel_rfl

theorem held_eq {arr : Array Value} {l : List AV} {cs : List Value} (hc : concs Y (rhoG envG.ng) l = some cs) (hs : arr.size = l.length)
    (h : ∀ (i : Nat) (v : AV), l[i]? = some v → ∃ cv, conc Y (rhoG envG.ng) v = some cv ∧ arr[i]? = some cv) : arr = cs.toArray := by
  have hl := concs_length hc
  apply Array.ext
  · simp; omega
  · intro i h1 h2
    have h3 : i < l.length := by omega
    obtain ⟨cv, k1, k2⟩ := h i l[i] (List.getElem?_eq_getElem h3)
    have k3 := concs_getElem hc i l[i] (List.getElem?_eq_getElem h3)
    obtain ⟨cv', k4, k5⟩ := k3
    rw [k1] at k4
    cases k4
    rw [Array.getElem?_eq_getElem h1] at k2
    cases k2
    have h4 : i < cs.length := by simpa using h2
    rw [List.getElem?_eq_getElem h4] at k5
    simp only [List.getElem_toArray]
    exact (Option.some.inj k5).symm

theorem G_of_laid {w : World} (h : LaidW Y envG gO w) : G w := by
  have h0 := h.2 0 (.held (ofListV gKinds) 4 true) (by simp [gO])
  have h2 := h.2 2 (.held (ofListV gPow) 20 true) (by simp [gO])
  refine ⟨h.1, ?_, ?_⟩
  · obtain ⟨_, ob, e, arr, elem, fz, rfl, k1, k2, k3⟩ := h2
    refine ⟨elem, fz, ?_⟩
    rw [e]
    have ha := held_eq (arr := arr) pow_conc (by rw [k2 rfl]; rfl) (fun i v hv => by
      obtain ⟨_, _, cv, q1, q2⟩ := k3 i v (by rw [get_ofListV]; exact hv)
      exact ⟨cv, q1, by simpa using q2⟩)
    rw [ha]
  · obtain ⟨_, ob, e, arr, elem, fz, rfl, k1, k2, k3⟩ := h0
    refine ⟨elem, fz, ?_⟩
    rw [e]
    have ha := held_eq (arr := arr) kinds_conc (by rw [k2 rfl]; rfl) (fun i v hv => by
      obtain ⟨_, _, cv, q1, q2⟩ := k3 i v (by rw [get_ofListV]; exact hv)
      exact ⟨cv, q1, by simpa using q2⟩)
    rw [ha]

theorem laid_of_G {w : World} (h : G w) : LaidW Y envG gO w := by
  have key : ∀ (l : List AV) (cs : Array Value) (n : Nat), concs Y (rhoG envG.ng) l = some cs.toList → l.all isCell = true → l.length = n → ∀ b ty fr, w.heap[b]? = some (.cells cs ty fr) → b < 7 →
      b < envG.ng ∧ ∃ ob, w.heap[b]? = some ob ∧ ORel Y envG (rhoG envG.ng) ⟨b, 0, 0⟩ (.held (ofListV l) n true) ob := by
    intro l cs n hc hcell hn b ty fr hb hlt
    have hl := concs_length hc
    have hcs : cs.size = n := by rw [← hn, ← hl]; simp
    refine ⟨hlt, _, hb, cs, ty, fr, rfl, by simp [hcs], fun _ => by simp [hcs], fun i v hv => ?_⟩
    rw [get_ofListV] at hv
    have hi : i < l.length := by
      rcases Nat.lt_or_ge i l.length with h | h
      · exact h
      · rw [List.getElem?_eq_none h] at hv; cases hv
    obtain ⟨cv, q1, q2⟩ := concs_getElem hc i v hv
    refine ⟨by omega, ?_, cv, q1, ?_⟩
    · rw [List.all_eq_true] at hcell
      exact hcell v (List.mem_of_getElem? hv)
    · simpa using q2
  refine ⟨h.size, fun b o hbo => ?_⟩
  rcases List.mem_cons.1 hbo with h2 | h2
  · cases h2
    obtain ⟨ty, fr, e⟩ := h.kinds
    exact key gKinds kindCells 4 kinds_conc rfl rfl 0 ty fr e (by decide)
  · have h3 := List.mem_singleton.1 h2
    cases h3
    obtain ⟨ty, fr, e⟩ := h.tab
    exact key gPow powCells 20 pow_conc rfl rfl 2 ty fr e (by decide)

/-! Quiet calls. -/
theorem quote_qt : QtOk Y envG 41 ⟨[.str [102]], [], .str [34, 102, 34]⟩ := by
  refine ⟨by kernel_rfl, fun w cargs hc _ => ?_⟩
  have e0 : concs Y (fun _ => none) [.str [102]] = some [.string (bytesV [102])] := rfl
  rw [e0] at hc
  cases hc
  refine (quote_ret (bytesV [102]) (by decide) w).mono fun e w' he => ⟨_, he.1, ?_, he.2.2⟩
  show some (Value.string (bytesV [34, 102, 34])) = _
  have : bytesV [34, 102, 34] = bs (quoteL (bytesV [102]).data.toList) := by kernel_rfl
  rw [this]

theorem atoi_qt (s : List Nat) (n : Int) (hok : okBytes s = true) (hl : (bytesV s).size ≤ 18) (ha : Lib.atoiAll (bytesV s).data.toList = .ok n) : QtOk Y envG 120 ⟨[.str s], [], .tuple [.i64 n, .niliface]⟩ := by
  refine ⟨by kernel_rfl, fun w cargs hc _ => ?_⟩
  have e0 : concs Y (fun _ => none) [.str s] = some [.string (bytesV s)] := by simp [concs, conc, hok]
  rw [e0] at hc
  cases hc
  exact (ag_strconv_Atoi_ok (bytesV s) (by omega) n ha w).mono fun e w' he => ⟨_, he.1, rfl, by
    rcases he.2 with rfl | ⟨t, rfl⟩
    · exact Below.refl _ _
    · exact Lib.bytesWorld_below _ _ _⟩

theorem line_qt (op a b c : Int) (s : List Nat) (h0 : 0 ≤ op) (h1 : op < 55) (ha : inI a) (hb : inI b) (hc : inI c) (hok : okBytes s = true) (he : bytesV s = bs (lineL ⟨op, a, b, c⟩)) :
    QtOk Y envG 19 ⟨[.agg [.i64 op, .i64 a, .i64 b, .i64 c]], gX, .str s⟩ := by
  refine ⟨by kernel_rfl, fun w cargs hcc hl => ?_⟩
  have e0 : concs Y (fun _ => none) [.agg [.i64 op, .i64 a, .i64 b, .i64 c]] = some [.agg #[.int .i64 op, .int .i64 a, .int .i64 b, .int .i64 c]] := rfl
  rw [e0] at hcc
  cases hcc
  refine (line_ret op a b c h0 h1 ha hb hc w (G_of_laid hl)).mono fun e w' hew => ⟨_, hew.1, ?_, hew.2⟩
  simp only [conc, hok, if_true, he]

/-! A text. -/
noncomputable def txtN : List Nat := [99, 111, 100, 101, 32, 34, 102, 34, 32, 48, 32, 48, 32, 49, 10, 99, 111, 110, 115, 116, 32, 53, 10, 108, 111, 97, 100, 32, 114, 48, 32, 99, 48, 10, 114, 101, 116, 117, 114, 110, 32, 114, 48, 10, 101, 110, 100, 10]
noncomputable def textSum : Sum := ⟨7, [.agg [.slice 10 0 1 1]], 11, gO ++ [(7, rowObj [.i64 3, .i64 5, .str []] 0), (8, rowObj [.i64 1, .i64 0, .i64 0, .i64 0, .i64 48, .i64 0, .i64 0, .i64 0] 0), (10, rowObj [.str [102], .i64 0, .i64 0, .i64 1, .slice 8 0 2 2, .slice 7 0 1 1, .nilslice, .nilslice] 0)], .tuple [.str txtN, .i64 0], [], 11, [0, 2]⟩

theorem flatten_get {n : Nat} : ∀ (xs : List (List Value)) (i j : Nat) (x : List Value) (y : Value), (∀ x ∈ xs, x.length = n) → xs[i]? = some x → x[j]? = some y → xs.flatten[i * n + j]? = some y
  | [], i, j, x, y, _, h, _ => by simp at h
  | z :: r, 0, j, x, y, hn, h, hj => by
    simp at h
    subst h
    have hj' : j < z.length := (List.getElem?_eq_some_iff.1 hj).1
    rw [List.flatten_cons, Nat.zero_mul, Nat.zero_add, List.getElem?_append_left hj']
    exact hj
  | z :: r, i + 1, j, x, y, hn, h, hj => by
    have hz := hn z (by simp)
    have ih := flatten_get r i j x y (fun x hx => hn x (by simp [hx])) (by simpa using h) hj
    rw [List.flatten_cons, List.getElem?_append_right (by rw [hz, Nat.succ_mul]; omega), hz]
    rw [show (i + 1) * n + j - n = i * n + j by rw [Nat.succ_mul]; omega]
    exact ih

theorem slAt_of {w : World} {L : AE.Loc} {B n len cap : Nat} {cs : List Value} (xs : List (List Value)) (hcs : cs = xs.flatten) (hlen : len = xs.length) (hl : xs.length ≤ 9223372036854775807) (hn : ∀ x ∈ xs, x.length = n)
    (h : ∀ (i : Nat) cv, cs[i]? = some cv → w.cell? (L.addr (0 + i)) = some cv) (hb : L.blk < B) : SlAt w B n (.slice (some (L.addr 0)) len cap) xs := by
  subst hlen
  refine ⟨hl, _, cap, rfl, fun _ => ⟨L.blk, L.sh + 0, rfl, hb, fun i x hi j y hj => ?_⟩⟩
  have := h (i * n + j) y (by rw [hcs]; exact flatten_get xs i j x y hn hi hj)
  unfold Loc.addr at this
  rw [show L.sh + 0 + i * n + j = L.sh + (0 + (i * n + j)) by omega]
  exact this

def codeF : CodeL := ⟨bs [102], 0, 0, 1, [⟨1, 0, 0, 0⟩, ⟨48, 0, 0, 0⟩], [⟨3, 5, bs []⟩], [], []⟩
theorem right_F : rightB codeF = true := by decide +kernel
theorem text_F : bytesV txtN = bs (codeT codeF ++ []) := by kernel_rfl

theorem codeF_few : Few codeF := ⟨by decide, by decide, by decide, by decide, by decide, by decide, by decide⟩
theorem codeF_nums : Nums codeF := by
  refine ⟨?_, ?_, ?_, ?_, ?_, ?_, ?_⟩ <;> simp [codeF, inI, okIns]

theorem nil_sl (w : World) (B n : Nat) : SlAt w B n (.slice none 0 0) [] := ⟨by simp, none, 0, rfl, fun h => absurd rfl h⟩

theorem text_sum : SumOk Y envG textSum := by
  refine ⟨by kernel_rfl, fun ρ w cargs hr hg ha => ?_⟩
  have hG : G w := G_of_laid (laid_here (q := ⟨[], gX, .nilslice⟩) hr hg (by kernel_rfl) (by kernel_rfl))
  obtain ⟨L7, c7, r7, k7, _, _, h7⟩ := loadCells_sound (b := 7) (o := 0) (n := 3) (l := [.i64 3, .i64 5, .str []]) hr (by kernel_rfl)
  obtain ⟨L8, c8, r8, k8, _, _, h8⟩ := loadCells_sound (b := 8) (o := 0) (n := 8) (l := [.i64 1, .i64 0, .i64 0, .i64 0, .i64 48, .i64 0, .i64 0, .i64 0]) hr (by kernel_rfl)
  obtain ⟨L10, c10, r10, k10, _, _, h10⟩ := loadCells_sound (b := 10) (o := 0) (n := 8) (l := [.str [102], .i64 0, .i64 0, .i64 1, .slice 8 0 2 2, .slice 7 0 1 1, .nilslice, .nilslice]) hr (by kernel_rfl)
  have e7 : concs Y ρ [.i64 3, .i64 5, .str []] = some [.int .i64 3, .int .i64 5, .string (bytesV [])] := rfl
  have e8 : concs Y ρ [.i64 1, .i64 0, .i64 0, .i64 0, .i64 48, .i64 0, .i64 0, .i64 0] = some [.int .i64 1, .int .i64 0, .int .i64 0, .int .i64 0, .int .i64 48, .int .i64 0, .int .i64 0, .int .i64 0] := rfl
  have e10 : concs Y ρ [.str [102], .i64 0, .i64 0, .i64 1, .slice 8 0 2 2, .slice 7 0 1 1, .nilslice, .nilslice] = some [.string (bytesV [102]), .int .i64 0, .int .i64 0, .int .i64 1, .slice (some (L8.addr 0)) 2 2, .slice (some (L7.addr 0)) 1 1, .slice none 0 0, .slice none 0 0] := by
    simp [concs, conc, r7, r8, okBytes]
  rw [e7] at k7
  cases k7
  rw [e8] at k8
  cases k8
  rw [e10] at k10
  cases k10
  have ea : concs Y ρ textSum.args = some [.agg #[.slice (some (L10.addr 0)) 1 1]] := by
    simp [textSum, concs, conc, r10, isCell]
  rw [ea] at ha
  cases ha
  have himg : Img w w.heap.size (.slice (some (L10.addr 0)) 1 1) [⟨codeF, .slice (some (L8.addr 0)) 2 2, .slice (some (L7.addr 0)) 1 1, .slice none 0 0, .slice none 0 0⟩] := by
    refine ⟨?_, ?_, ?_, ?_⟩
    · exact slAt_of _ rfl rfl (by simp) (by simp [codeC]) h10 (hr.bound _ _ r10)
    · intro x hx
      rw [List.mem_singleton.1 hx]
      refine ⟨?_, ?_, nil_sl _ _ _, nil_sl _ _ _⟩
      · exact slAt_of _ rfl rfl (by simp [codeF]) (by simp [codeF, insC]) h8 (hr.bound _ _ r8)
      · exact slAt_of _ rfl rfl (by simp [codeF]) (by simp [codeF, valC]) h7 (hr.bound _ _ r7)
    · intro x hx
      rw [List.mem_singleton.1 hx]
      exact codeF_few
    · intro x hx
      rw [List.mem_singleton.1 hx]
      exact codeF_nums
  refine (Text_ret _ _ _ (by simp) w hG (Nat.le_refl _) himg).mono fun e w' he => ⟨_, ρ, he.1, Goes.of_below hr he.2, ?_⟩
  have : textV [(⟨codeF, .slice (some (L8.addr 0)) 2 2, .slice (some (L7.addr 0)) 1 1, .slice none 0 0, .slice none 0 0⟩ : CodeV)] = .tuple #[.string (bs (codeT codeF ++ [])), .int .i64 0] := by
    unfold textV
    rw [if_pos (by simp [right_F])]
    rfl
  rw [this, ← text_F]
  rfl

end
end Go.Proofs.YtfngechoipngmaaGreatDoor
