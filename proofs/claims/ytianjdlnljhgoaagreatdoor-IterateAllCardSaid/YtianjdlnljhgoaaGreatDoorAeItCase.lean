/-
  IterateAll: each plan that is right follows one of the paths.
-/
import Derived.Test.YtianjdlnljhgoaaGreatDoorAeItRsl
import Derived.Test.YtianjdlnljhgoaaGreatDoorAeItPaths
import Derived.Test.YtianjdlnljhgoaaGreatDoorAeItLaw
namespace Go.Proofs.YtianjdlnljhgoaaGreatDoor
open Go.AE Go.RowKit
set_option maxRecDepth 100000

section
variable {Y : Sy} {U' : AV} {R' : AObj}

theorem concs_mid {ρ : Rho} {U : AV} (h2 : Same2 Y U U') : ∀ (x y : List AV) (cs : List Value), concs Y ρ (x ++ U' :: y) = some cs → concs Y ρ (x ++ U :: y) = some cs ∧ ∃ cv, conc Y ρ U' = some cv
  | [], y, cs, h => by
    obtain ⟨c, r, h3, h4, rfl⟩ := concs_cons.1 h
    exact ⟨concs_cons.2 ⟨c, r, h2.down ρ c h3, h4, rfl⟩, c, h3⟩
  | a :: x, y, cs, h => by
    obtain ⟨c, r, h3, h4, rfl⟩ := concs_cons.1 h
    obtain ⟨k1, k2⟩ := concs_mid h2 x y r h4
    exact ⟨concs_cons.2 ⟨c, r, h3, k1, rfl⟩, k2⟩

theorem conc_aggmid {ρ : Rho} {U : AV} (h2 : Same2 Y U U') (x y : List AV) (cv : Value) (h : conc Y ρ (.agg (x ++ U' :: y)) = some cv) : conc Y ρ (.agg (x ++ U :: y)) = some cv ∧ ∃ c, conc Y ρ U' = some c := by
  simp only [conc] at h ⊢
  have e : (x ++ U :: y).all isCell = (x ++ U' :: y).all isCell := by simp only [List.all_append, List.all_cons, h2.cell, h2.cell']
  rw [e]
  split at h
  · rename_i hc
    split at h
    · rename_i l hl
      cases h
      obtain ⟨k1, k2⟩ := concs_mid h2 x y l hl
      rw [if_pos hc, k1]
      exact ⟨rfl, k2⟩
    · cases h
  · cases h

theorem set_resl {q q' : Sum} {U : AV} {v : AV} {x y : List AV} (hq : SumOk Y env q) (h2 : Same2 Y U U') (hs : Reslice U U' q q') (ha : q.args = [v, .agg (x ++ U :: y)]) (ha' : q'.args = [v, .agg (x ++ U' :: y)]) : SumOk Y env q' := by
  have key : ∀ (ρ : Rho) cargs, concs Y ρ q'.args = some cargs → concs Y ρ q.args = some cargs ∧ ∃ c, conc Y ρ U' = some c := by
    intro ρ cargs h
    rw [ha'] at h
    rw [ha]
    obtain ⟨c, r, h3, h4, rfl⟩ := concs_cons.1 h
    obtain ⟨c2, r2, h5, h6, rfl⟩ := concs_cons.1 h4
    obtain ⟨k1, k2⟩ := conc_aggmid h2 x y c2 h5
    exact ⟨concs_cons.2 ⟨c, _, h3, concs_cons.2 ⟨c2, r2, k1, h6, rfl⟩, rfl⟩, k2⟩
  exact hq.resl h2 hs (fun ρ cargs h => (key ρ cargs h).1) fun ρ w cargs _ h => (key ρ cargs h).2

theorem setOk0 (h2 : Same2 Y (us 0) U') : SumOk Y env (setS0 U') := by
  refine set_resl (x := hx 0) (y := []) (v := .ptr 11 0) set0_ok h2 ⟨rfl, rfl, rfl, rfl, rfl, Strs.refl _ _ _ _, ?_, by kernel_rfl⟩ rfl rfl
  show Strs [] (us 0) U' (setS0 (us 0)).new (setS0 U').new
  unfold setS0 sS0
  dsimp only
  repeat (first | exact Strs.nil | refine Strs.same _ ?_ | refine host_b_b _ _ _ _ _ ?_)

theorem openOk0 (h2 : Same2 Y (us 0) U') : SumOk Y env (openS0 U') := by
  refine next_resl (x := hx 0) (y := [.i64 20, .i64 0]) (gs := 0) open0_ok h2 ⟨rfl, rfl, rfl, rfl, rfl, ?_, Strs.refl _ _ _ _, by kernel_rfl⟩ rfl (by kernel_rfl)
  show Strs [] (us 0) U' (openS0 (us 0)).old (openS0 U').old
  unfold openS0 sS1
  dsimp only
  repeat (first | exact Strs.nil | refine Strs.same _ ?_ | refine host_b_b _ _ _ _ _ ?_)

theorem setOk1 (h2 : Same2 Y (us 0) U') : SumOk Y env (setS1 U') := by
  refine set_resl (x := hx 1) (y := []) (v := .ptr 11 0) set1_ok h2 ⟨rfl, rfl, rfl, rfl, rfl, Strs.refl _ _ _ _, ?_, by kernel_rfl⟩ rfl rfl
  show Strs [] (us 0) U' (setS1 (us 0)).new (setS1 U').new
  unfold setS1 sS2
  dsimp only
  repeat (first | exact Strs.nil | refine Strs.same _ ?_ | refine host_b_b _ _ _ _ _ ?_)

theorem openOk1 (h2 : Same2 Y (us 0) U') : SumOk Y env (openS1 U') := by
  refine next_resl (x := hx 1) (y := [.i64 20, .i64 0]) (gs := 0) open1_ok h2 ⟨rfl, rfl, rfl, rfl, rfl, ?_, Strs.refl _ _ _ _, by kernel_rfl⟩ rfl (by kernel_rfl)
  show Strs [] (us 0) U' (openS1 (us 0)).old (openS1 U').old
  unfold openS1 sS3
  dsimp only
  repeat (first | exact Strs.nil | refine Strs.same _ ?_ | refine host_b_b _ _ _ _ _ ?_)

theorem setOk2 (h2 : Same2 Y (us 0) U') : SumOk Y env (setS2 U') := by
  refine set_resl (x := hx 2) (y := []) (v := .ptr 11 0) set2_ok h2 ⟨rfl, rfl, rfl, rfl, rfl, Strs.refl _ _ _ _, ?_, by kernel_rfl⟩ rfl rfl
  show Strs [] (us 0) U' (setS2 (us 0)).new (setS2 U').new
  unfold setS2 sS4
  dsimp only
  repeat (first | exact Strs.nil | refine Strs.same _ ?_ | refine host_b_b _ _ _ _ _ ?_)

theorem openOk2 (h2 : Same2 Y (us 0) U') : SumOk Y env (openS2 U') := by
  refine next_resl (x := hx 2) (y := [.i64 20, .i64 0]) (gs := 0) open2_ok h2 ⟨rfl, rfl, rfl, rfl, rfl, ?_, Strs.refl _ _ _ _, by kernel_rfl⟩ rfl (by kernel_rfl)
  show Strs [] (us 0) U' (openS2 (us 0)).old (openS2 U').old
  unfold openS2 sS5
  dsimp only
  repeat (first | exact Strs.nil | refine Strs.same _ ?_ | refine host_b_b _ _ _ _ _ ?_)

theorem setOk3 (h2 : Same2 Y (us 0) U') : SumOk Y env (setS3 U') := by
  refine set_resl (x := hx 3) (y := []) (v := .ptr 11 0) set3_ok h2 ⟨rfl, rfl, rfl, rfl, rfl, Strs.refl _ _ _ _, ?_, by kernel_rfl⟩ rfl rfl
  show Strs [] (us 0) U' (setS3 (us 0)).new (setS3 U').new
  unfold setS3 sS4
  dsimp only
  repeat (first | exact Strs.nil | refine Strs.same _ ?_ | refine host_b_b _ _ _ _ _ ?_)

theorem openOk3 (h2 : Same2 Y (us 0) U') : SumOk Y env (openS3 U') := by
  refine next_resl (x := hx 3) (y := [.i64 20, .i64 0]) (gs := 0) open3_ok h2 ⟨rfl, rfl, rfl, rfl, rfl, ?_, Strs.refl _ _ _ _, by kernel_rfl⟩ rfl (by kernel_rfl)
  show Strs [] (us 0) U' (openS3 (us 0)).old (openS3 U').old
  unfold openS3 sS5
  dsimp only
  repeat (first | exact Strs.nil | refine Strs.same _ ?_ | refine host_b_b _ _ _ _ _ ?_)

theorem nxtOk (r i : Nat) (hr : r < 4) (hi : i < 30) (h2 : Same2 Y (us (i + 1)) U') (hm : MoreHeld (rw (i + 1)) R') : SumOk Y env (nxt r i U' R') := by
  have h : r = 0 ∨ r = 1 ∨ r = 2 ∨ r = 3 := by omega
  rcases h with rfl | rfl | rfl | rfl
  · exact nxtAll0 i hi h2 hm
  · exact nxtAll1 i hi h2 hm
  · exact nxtAll2 i hi h2 hm
  · exact nxtAll3 i hi h2 hm

/-- what is known on a path -/
theorem sumsP_ok (r k : Nat) (hr : r < 4) (hk : k ≤ 30) (h0 : Same2 Y (us 0) U') (hn : ∀ i, i < k → Same2 Y (us (i + 1)) U' ∧ MoreHeld (rw (i + 1)) R') : SumsOk Y env (sumsP r k U' R') := by
  have h : r = 0 ∨ r = 1 ∨ r = 2 ∨ r = 3 := by omega
  intro q hq
  rcases List.mem_cons.1 hq with rfl | hq
  · rcases h with rfl | rfl | rfl | rfl
    · exact setOk0 h0
    · exact setOk1 h0
    · exact setOk2 h0
    · exact setOk3 h0
  rcases List.mem_cons.1 hq with rfl | hq
  · rcases h with rfl | rfl | rfl | rfl
    · exact openOk0 h0
    · exact openOk1 h0
    · exact openOk2 h0
    · exact openOk3 h0
  rcases List.mem_append.1 hq with hq | hq
  · obtain ⟨i, hi, rfl⟩ := List.mem_map.1 hq
    have hi' := List.mem_range.1 hi
    exact nxtOk r i hr (by omega) (hn i hi').1 (hn i hi').2
  · rw [List.mem_singleton.1 hq]
    rcases h with rfl | rfl | rfl | rfl
    · exact tckAll0 k (by omega)
    · exact tckAll1 k (by omega)
    · exact tckAll2 k (by omega)
    · exact tckAll3 k (by omega)

end

/-! The steps' row. -/
def goAV (j : Nat) : List AV := [.i64 0, .bool false, .i64 3, .sint .i64 (.var (10 + j)) (-9007199254740992) 9007199254740992, .str []]
theorem goOn_eq (n : Nat) : goOn n = (List.range n).flatMap goAV := rfl

theorem goOn_succ (n : Nat) : goOn (n + 1) = goOn n ++ goAV n := by
  rw [goOn_eq, goOn_eq, List.range_succ, List.flatMap_append]
  simp

theorem goOn_pre {i k : Nat} (h : i ≤ k) : ∃ m, goOn k = goOn i ++ m := by
  induction k with
  | zero =>
    obtain rfl : i = 0 := by omega
    exact ⟨[], by simp⟩
  | succ k ih =>
    rcases Nat.lt_or_ge i (k + 1) with h1 | h1
    · obtain ⟨m, hm⟩ := ih (by omega)
      exact ⟨m ++ goAV k, by rw [goOn_succ, hm, List.append_assoc]⟩
    · obtain rfl : i = k + 1 := by omega
      exact ⟨[], by simp⟩

theorem goOn_len (n : Nat) : (goOn n).length = 5 * n := by
  induction n with
  | zero => rfl
  | succ n ih => rw [goOn_succ, List.length_append, ih]; simp [goAV]; omega

theorem more_row {i k : Nat} (h : i ≤ k) (last : List AV) : MoreHeld (rw i) (rowP (goOn k ++ last)) := by
  obtain ⟨m, hm⟩ := goOn_pre h
  unfold rw rowP
  rw [hm, List.append_assoc]
  exact moreHeld_list

theorem more_end {i k : Nat} (h : i ≤ k) : MoreHeld (rw i) (rowP (goOn k)) := by
  obtain ⟨m, hm⟩ := goOn_pre h
  unfold rw rowP
  rw [hm]
  exact moreHeld_list

/-- one step as it is known, and as it lies there -/
def StepAs (Y : Sy) (l : List AV) (t : ToldL) : Prop := ∀ (ρ : Rho) (c : Nat) (v : AV), l[c]? = some v → isCell v = true ∧ ∃ cv, conc Y ρ v = some cv ∧ (toldC t)[c]? = some cv

/-- rows of five -/
theorem five {Y : Sy} {xs : List ToldL} : ∀ (k : Nat) (last : List AV), last.length = 5 → k < xs.length → (∀ j (h : j < xs.length), j < k → StepAs Y (goAV j) xs[j]) → (∀ h : k < xs.length, StepAs Y last xs[k]) →
    ∀ (ρ : Rho) (i : Nat) (v : AV), (goOn k ++ last)[i]? = some v → ∃ (j c : Nat) (h : j < xs.length), i = 5 * j + c ∧ c < 5 ∧ j ≤ k ∧ isCell v = true ∧ ∃ cv, conc Y ρ v = some cv ∧ (toldC xs[j])[c]? = some cv
  | 0, last, hl, hk, _, h2, ρ, i, v, hv => by
    have hv' : last[i]? = some v := by simpa [goOn] using hv
    obtain ⟨k1, k2⟩ := h2 hk ρ i v hv'
    have := (List.getElem?_eq_some_iff.1 hv').1
    exact ⟨0, i, hk, by omega, by omega, Nat.le_refl _, k1, k2⟩
  | k + 1, last, hl, hk, h1, h2, ρ, i, v, hv => by
    rcases Nat.lt_or_ge i (goOn (k + 1)).length with h | h
    · rw [List.getElem?_append_left h, goOn_succ] at hv
      obtain ⟨j, c, h3, h4, h5, h6, h7⟩ := five k (goAV k) rfl (by omega) (fun j hj hjk => h1 j hj (by omega)) (fun h => h1 k h (by omega)) ρ i v hv
      exact ⟨j, c, h3, h4, h5, by omega, h7⟩
    · rw [List.getElem?_append_right h, goOn_len] at hv
      rw [goOn_len] at h
      obtain ⟨k1, k2⟩ := h2 hk ρ _ v hv
      have := (List.getElem?_eq_some_iff.1 hv).1
      exact ⟨k + 1, i - 5 * (k + 1), hk, by omega, by omega, Nat.le_refl _, k1, k2⟩

theorem cells_of_cell {W : World} {b o : Nat} {v : Value} (h : W.cell? ⟨b, o, none⟩ = some v) : ∃ arr elem fz, W.heap[b]? = some (.cells arr elem fz) := by
  cases hb : W.heap[b]? with
  | none =>
    unfold World.cell? at h
    simp [hb] at h
  | some ob =>
    cases ob with
    | cells arr elem fz => exact ⟨arr, elem, fz, rfl⟩
    | _ =>
      unfold World.cell? at h
      simp [hb] at h

theorem row_known {Y : Sy} {w W : World} {xs : List ToldL} {bk o cap : Nat} (hs : ∀ i x, (xs.map toldC)[i]? = some x → ∀ j y, x[j]? = some y → w.cell? ⟨bk, o + i * 5 + j, none⟩ = some y) (hlt : bk < w.heap.size) (hb : Below w.heap.size w W) (l : List AV) (hl : l ≠ [])
    (h : ∀ (ρ : Rho) (i : Nat) (v : AV), l[i]? = some v → ∃ (j c : Nat) (h : j < xs.length), i = 5 * j + c ∧ isCell v = true ∧ ∃ cv, conc Y ρ v = some cv ∧ (toldC xs[j])[c]? = some cv) (ρ : Rho) : RowK Y ρ w.heap.size W [(1, rowP l)] [1] (some ⟨bk, o, cap⟩) := by
  have cell : ∀ (i : Nat) (v : AV), l[i]? = some v → isCell v = true ∧ ∃ cv, conc Y ρ v = some cv ∧ W.cell? ⟨bk, o + i, none⟩ = some cv := by
    intro i v hv
    obtain ⟨j, c, hj, rfl, h2, cv, h3, h4⟩ := h ρ i v hv
    refine ⟨h2, cv, h3, ?_⟩
    rw [hb.cell (p := ⟨bk, o + (5 * j + c), none⟩) hlt]
    have := hs j (toldC xs[j]) (by rw [List.getElem?_map, List.getElem?_eq_getElem hj]; rfl) c cv h4
    rw [show o + (5 * j + c) = o + j * 5 + c by omega]
    exact this
  have hpos : 0 < l.length := List.length_pos_iff.2 hl
  obtain ⟨_, cv0, _, k0⟩ := cell 0 _ (List.getElem?_eq_getElem hpos)
  obtain ⟨arr, elem, fz, hh⟩ := cells_of_cell k0
  have harr : ∀ (i : Nat) (v : AV), l[i]? = some v → isCell v = true ∧ ∃ cv, conc Y ρ v = some cv ∧ arr[o + i]? = some cv := by
    intro i v hv
    obtain ⟨h1, cv, h2, h3⟩ := cell i v hv
    exact ⟨h1, cv, h2, by rw [← h3, Lib.cell_of_heap hh]⟩
  refine RowK.row l ⟨bk, o, cap⟩ arr elem fz hlt hh ?_ harr
  obtain ⟨_, cv1, _, k1⟩ := harr (l.length - 1) _ (List.getElem?_eq_getElem (by omega))
  have := (Array.getElem?_eq_some_iff.1 k1).1
  show o + l.length ≤ arr.size
  omega

/-- a step that goes on -/
def Cont (t : ToldL) : Prop := t.kind = 0 ∧ t.done = false

theorem first_stop : ∀ (xs : List ToldL), (∀ j (h : j < xs.length), Cont xs[j]) ∨ ∃ k, ∃ h : k < xs.length, (∀ j (h : j < xs.length), j < k → Cont xs[j]) ∧ ¬ Cont xs[k]
  | [] => .inl fun j h => absurd h (Nat.not_lt_zero _)
  | x :: r => by
    by_cases hx : Cont x
    · rcases first_stop r with h | ⟨k, hk, h1, h2⟩
      · left
        intro j hj
        cases j with
        | zero => exact hx
        | succ j => exact h j (by simpa using hj)
      · right
        refine ⟨k + 1, by simpa using hk, fun j hj hjk => ?_, h2⟩
        cases j with
        | zero => exact hx
        | succ j => exact h1 j (by simpa using hj) (by omega)
    · exact .inr ⟨0, by simp, fun j _ h => absurd h (Nat.not_lt_zero _), hx⟩

/-- the symbols of a plan -/
def symP (it bye : ToldL) (xs : List ToldL) (kd : Int) (d9 : Bool) (sl : Option Addr × Nat × Nat) : Sy :=
  ⟨fun i => if 10 ≤ i then ((xs[i - 10]?).map (·.n)).getD 0 else match i with | 1 => (if it.done then 1 else 0) | 2 => it.n | 3 => (if d9 then 1 else 0) | 4 => bye.kind | 5 => (if bye.done then 1 else 0) | 6 => bye.n | 7 => it.kind | 9 => kd | _ => 0,
    fun _ => .empty, fun _ => sl, fun _ => undef⟩

section
variable {it bye : ToldL} {xs : List ToldL} {kd : Int} {d9 : Bool} {sl : Option Addr × Nat × Nat}

theorem concs_one {Y : Sy} {ρ : Rho} {v : AV} {c : Value} (h : conc Y ρ v = some c) {r : List AV} {cr : List Value} (hr : concs Y ρ r = some cr) : concs Y ρ (v :: r) = some (c :: cr) := concs_cons.2 ⟨c, cr, h, hr, rfl⟩

theorem var_n (j : Nat) (h : j < xs.length) : (symP it bye xs kd d9 sl).ints (10 + j) = xs[j].n := by
  show (if 10 ≤ 10 + j then ((xs[10 + j - 10]?).map (·.n)).getD 0 else _) = _
  rw [if_pos (by omega), show 10 + j - 10 = j by omega, List.getElem?_eq_getElem h]
  rfl

theorem conc_b (Y : Sy) (ρ : Rho) (i : Nat) (b : Bool) (h : Y.ints i = if b then 1 else 0) : conc Y ρ (.opq (.isIn (.var i) [1])) = some (.bool b) := by
  have e : SX.val Y (.var i) = if b then 1 else 0 := h
  simp only [conc, Q.val, e]
  cases b <;> rfl

theorem conc_n (ρ : Rho) (j : Nat) (h : j < xs.length) (hp : PlainT xs[j]) : conc (symP it bye xs kd d9 sl) ρ (.sint .i64 (.var (10 + j)) (-9007199254740992) 9007199254740992) = some (.int .i64 xs[j].n) := by
  have e : SX.val (symP it bye xs kd d9 sl) (.var (10 + j)) = xs[j].n := var_n j h
  simp only [conc, e]
  rw [if_pos ⟨hp.2.2.1, hp.2.2.2⟩]

theorem step_go (j : Nat) (h : j < xs.length) (hp : PlainT xs[j]) (hc : Cont xs[j]) : StepAs (symP it bye xs kd d9 sl) (goAV j) xs[j] := by
  intro ρ c v hv
  have hn := conc_n (it := it) (bye := bye) (kd := kd) (d9 := d9) (sl := sl) ρ j h hp
  obtain ⟨h1, h2, _, _⟩ := hp
  obtain ⟨h3, h4⟩ := hc
  generalize xs[j] = x at *
  obtain ⟨k, d, vk, n, s⟩ := x
  dsimp only at h1 h2 h3 h4 hn
  subst h1 h2 h3 h4
  match c, hv with
  | 0, hv => cases hv; exact ⟨rfl, _, rfl, rfl⟩
  | 1, hv => cases hv; exact ⟨rfl, _, rfl, rfl⟩
  | 2, hv => cases hv; exact ⟨rfl, _, rfl, rfl⟩
  | 3, hv => cases hv; exact ⟨rfl, _, hn, rfl⟩
  | 4, hv => cases hv; exact ⟨rfl, _, rfl, rfl⟩
  | c + 5, hv => simp [goAV] at hv

theorem step_a (j : Nat) (h : j < xs.length) (hp : PlainT xs[j]) (h3 : xs[j].kind = 0) (h4 : xs[j].done = true) : StepAs (symP it bye xs kd d9 sl) (lastA j) xs[j] := by
  intro ρ c v hv
  have hn := conc_n (it := it) (bye := bye) (kd := kd) (d9 := d9) (sl := sl) ρ j h hp
  obtain ⟨h1, h2, _, _⟩ := hp
  generalize xs[j] = x at *
  obtain ⟨k, d, vk, n, s⟩ := x
  dsimp only at h1 h2 h3 h4 hn
  subst h1 h2 h3 h4
  match c, hv with
  | 0, hv => cases hv; exact ⟨rfl, _, rfl, rfl⟩
  | 1, hv => cases hv; exact ⟨rfl, _, rfl, rfl⟩
  | 2, hv => cases hv; exact ⟨rfl, _, rfl, rfl⟩
  | 3, hv => cases hv; exact ⟨rfl, _, hn, rfl⟩
  | 4, hv => cases hv; exact ⟨rfl, _, rfl, rfl⟩
  | c + 5, hv => simp [lastA] at hv

theorem step_b (j : Nat) (h : j < xs.length) (hp : PlainT xs[j]) (h3 : xs[j].kind = 1) (h4 : d9 = xs[j].done) : StepAs (symP it bye xs kd d9 sl) (lastB j) xs[j] := by
  intro ρ c v hv
  have hn := conc_n (it := it) (bye := bye) (kd := kd) (d9 := d9) (sl := sl) ρ j h hp
  have hd := conc_b (symP it bye xs kd d9 sl) ρ 3 d9 rfl
  obtain ⟨h1, h2, _, _⟩ := hp
  generalize xs[j] = x at *
  obtain ⟨k, d, vk, n, s⟩ := x
  dsimp only at h1 h2 h3 h4 hn
  subst h1 h2 h3 h4
  match c, hv with
  | 0, hv => cases hv; exact ⟨rfl, _, rfl, rfl⟩
  | 1, hv => cases hv; exact ⟨rfl, _, hd, rfl⟩
  | 2, hv => cases hv; exact ⟨rfl, _, rfl, rfl⟩
  | 3, hv => cases hv; exact ⟨rfl, _, hn, rfl⟩
  | 4, hv => cases hv; exact ⟨rfl, _, rfl, rfl⟩
  | c + 5, hv => simp [lastB] at hv

theorem conc_k (ρ : Rho) (hi : inI kd) : conc (symP it bye xs kd d9 sl) ρ kindC = some (.int .i64 kd) := by
  have e : SX.val (symP it bye xs kd d9 sl) (.var 9) = kd := rfl
  unfold kindC
  simp only [conc, e]
  rw [if_pos (show -9223372036854775808 ≤ kd ∧ kd ≤ 9223372036854775807 from hi)]

theorem step_c (j : Nat) (h : j < xs.length) (hp : PlainT xs[j]) (hi : inI kd) (h3 : xs[j].kind = kd) (h4 : d9 = xs[j].done) : StepAs (symP it bye xs kd d9 sl) (lastC j) xs[j] := by
  intro ρ c v hv
  have hn := conc_n (it := it) (bye := bye) (kd := kd) (d9 := d9) (sl := sl) ρ j h hp
  have hk := conc_k (it := it) (bye := bye) (xs := xs) (d9 := d9) (sl := sl) ρ hi
  have hd := conc_b (symP it bye xs kd d9 sl) ρ 3 d9 rfl
  obtain ⟨h1, h2, _, _⟩ := hp
  generalize hx : xs[j] = x at *
  obtain ⟨k, d, vk, n, s⟩ := x
  dsimp only at h1 h2 h3 h4 hn
  subst h1 h2 h3 h4
  match c, hv with
  | 0, hv => cases hv; exact ⟨rfl, _, hk, rfl⟩
  | 1, hv => cases hv; exact ⟨rfl, _, hd, rfl⟩
  | 2, hv => cases hv; exact ⟨rfl, _, rfl, rfl⟩
  | 3, hv => cases hv; exact ⟨rfl, _, hn, rfl⟩
  | 4, hv => cases hv; exact ⟨rfl, _, rfl, rfl⟩
  | c + 5, hv => simp [lastC] at hv

end

end Go.Proofs.YtianjdlnljhgoaaGreatDoor
