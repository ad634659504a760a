/-
  IterateOthers: the law's own realm, by the evaluator.
-/
import Derived.Test.YtfiainenbpldgaaGreatDoorAeOtDigits
import Derived.Test.YtfiainenbpldgaaGreatDoorAeLives
import Derived.Test.YtfiainenbpldgaaGreatDoorAeMay
namespace Go.AE

theorem rowObj_eq2 (l : List AV) (gs : Nat) : rowObj l gs = .cells (ofListV l) l.length gs := by
  unfold rowObj
  rw [forceN_eq]

section
variable {Y : Sy} {E : Env} {ρ : Rho} {w : World}

theorem rel_none2 (w : World) (n : Nat) (pr : List Nat) : Rel Y E (fun _ => none) ⟨.nil, n, [], pr⟩ w := by
  have hnone : ∀ b, H.get ⟨.nil, n, [], pr⟩ b = none := fun b => by rw [H.get_eq]; rfl
  refine ⟨fun b o h _ => ?_, fun b c o p L M h => ?_, fun _ _ => rfl, fun b L h => by cases h⟩
  · rw [hnone] at h; cases h
  · rw [hnone] at h; cases h

/-- a row of a heap, in the world -/
structure RowAt (Y : Sy) (ρ : Rho) (l : List AV) (gs : Nat) (L : Loc) (w : World) : Prop where
  ex : ∃ arr elem, w.heap[L.blk]? = some (.cells arr elem (0, 0)) ∧ L.sh + l.length ≤ arr.size ∧ (gs ≠ 0 → l.length ≤ L.cap * gs ∧ arr.size = L.sh + L.cap * gs)
  cells : ∀ i v, l[i]? = some v → ∃ cv, conc Y ρ v = some cv ∧ w.cell? ⟨L.blk, L.sh + i, none⟩ = some cv
  fz : ∀ j, w.frozen? ⟨L.blk, j, none⟩ = false

theorem row_at {h : H} (hr : Rel Y E ρ h w) {b gs : Nat} {l : List AV} (hg : h.get b = some (rowObj l gs)) : ∃ L, ρ b = some L ∧ RowAt Y ρ l gs L w := by
  rw [rowObj_eq2] at hg
  obtain ⟨L, ob, h1, h2, arr, elem, rfl, h3, h4, h5⟩ := hr.obj b _ hg rfl
  refine ⟨L, h1, ⟨⟨arr, elem, h2, h3, h4⟩, fun i v hv => ?_, Lib.frozen_of_heap h2⟩⟩
  obtain ⟨_, _, cv, c1, c2⟩ := h5 i v (by rw [get_ofListV]; exact hv)
  exact ⟨cv, c1, (Lib.cell_of_heap h2 _).trans c2⟩

/-- how long a row is -/
def lenOf : Option AObj → Option (Nat × Nat)
  | some (.cells _ n gs) => some (n, gs)
  | _ => none

theorem room_at {h : H} (hr : Rel Y E ρ h w) {b n gs : Nat} (hg : lenOf (h.get b) = some (n, gs)) (h0 : gs ≠ 0) : ∃ L arr elem, ρ b = some L ∧ w.heap[L.blk]? = some (.cells arr elem (0, 0)) ∧ n ≤ L.cap * gs ∧ arr.size = L.sh + L.cap * gs := by
  cases hq : h.get b with
  | none => rw [hq] at hg; cases hg
  | some o =>
    rw [hq] at hg
    cases o with
    | cells c n' gs' =>
      cases hg
      obtain ⟨L, ob, h1, h2, arr, elem, rfl, h3, h4, h5⟩ := hr.obj b _ hq rfl
      exact ⟨L, arr, elem, h1, h2, h4 h0⟩
    | _ => cases hg

end
end Go.AE

namespace Go.Proofs.YtfiainenbpldgaaGreatDoor
open Go.AE Go.RowKit
set_option maxRecDepth 100000
set_option linter.unusedVariables false
set_option linter.unusedSimpArgs false

/-- a new realm -/
structure MadeR (w : World) (e : Ending) (w' : World) : Prop where
  ex : ∃ q : Lp, e = .returned (.pointer (some ⟨q.wb, q.wo, none⟩)) ∧ Pre q (.slice none 0 0) w' ∧ w.heap.size ≤ q.wb ∧ w.heap.size ≤ q.hb ∧ w.heap.size ≤ q.yb ∧ w.heap.size ≤ q.rb
  bel : Below w.heap.size w w'

noncomputable def hq : H := ⟨putAll qLives1.new .nil, 472, [], []⟩

theorem g8 : hq.get 8 = some (rowObj [.i64 0, .i64 0, .i64 0, .i64 0, .i64 10000, .i64 10, .i64 10000, .i64 1, .i64 3, .i64 1, .niliface, .ptr 4 0, .ptr 7 0, .nilslice, .i64 0, .i64 0, .i64 0, .nilslice, .nilslice] 0) := by kernel_rfl
theorem g4 : hq.get 4 = some (rowObj [.gslice 468 0 20 0, .nilslice, .gslice 471 0 20 0, .nilslice, .ptr 3 0] 0) := by kernel_rfl
theorem g468 : lenOf (hq.get 468) = some (120, 6) := by kernel_rfl
theorem g471 : lenOf (hq.get 471) = some (60, 3) := by kernel_rfl
theorem al8 : (hq.get 8).isSome = true := by kernel_rfl

theorem conc_gs {Y : Sy} {ρ : Rho} {b n : Nat} {cv : Value} (h : conc Y ρ (.gslice b 0 n 0) = some cv) : ∃ L, ρ b = some L ∧ n ≤ L.cap ∧ cv = .slice (some ⟨L.blk, L.sh, none⟩) n L.cap := by
  simp only [conc, Option.bind_eq_some_iff] at h
  obtain ⟨L, hL, e⟩ := h
  split at e
  · cases e
    exact ⟨L, hL, by omega, rfl⟩
  · cases e

theorem conc_ptr {Y : Sy} {ρ : Rho} {b : Nat} {cv : Value} (h : conc Y ρ (.ptr b 0) = some cv) : ∃ L, ρ b = some L ∧ cv = .pointer (some ⟨L.blk, L.sh, none⟩) := by
  simp only [conc, Option.map_eq_some_iff] at h
  obtain ⟨L, hL, e⟩ := h
  exact ⟨L, hL, e.symm⟩

theorem conc_nil {Y : Sy} {ρ : Rho} {cv : Value} (h : conc Y ρ .nilslice = some cv) : cv = .slice none 0 0 := by
  simp only [conc] at h
  cases h
  rfl

theorem made_ret (Y : Sy) (w : World) : Calls Tryz.prog 4 #[] w fun e w' => MadeR w e w' := by
  have h := (qLives1_ok Y).2 (fun _ => none) w [] (rel_none2 w _ _) (fun g h => absurd h (Nat.not_lt_zero _)) rfl
  refine h.mono fun e w' he => ?_
  obtain ⟨cv, ρ, rfl, hgo, hv⟩ := he
  have hrel : Rel Y env ρ hq w' := hgo.rel
  have hone : ∀ b o, qLives1.before.get b = some o → False := fun b o hb => by
    unfold Sum.before at hb
    rw [H.get_bare] at hb
    cases hb
  have hnew : ∀ b L, ρ b = some L → w.heap.size ≤ L.blk := fun b M hM => by
    rcases hgo.made b M rfl hM with h | ⟨c, o, _, k1, _⟩
    · exact h
    · exact (hone c o k1).elim
  obtain ⟨L8, hL8, rfl⟩ := conc_ptr (Y := Y) (b := 8) hv
  obtain ⟨L8', e8, R8⟩ := row_at hrel g8
  rw [hL8] at e8
  cases e8
  obtain ⟨v11, c11, d11⟩ := R8.cells 11 _ rfl
  obtain ⟨v17, c17, d17⟩ := R8.cells 17 _ rfl
  obtain ⟨L4, hL4, rfl⟩ := conc_ptr c11
  obtain rfl := conc_nil c17
  obtain ⟨L4', e4, R4⟩ := row_at hrel g4
  rw [hL4] at e4
  cases e4
  obtain ⟨u0, a0, b0⟩ := R4.cells 0 _ rfl
  obtain ⟨u1, a1, b1⟩ := R4.cells 1 _ rfl
  obtain ⟨u2, a2, b2⟩ := R4.cells 2 _ rfl
  obtain ⟨u4, a4, b4⟩ := R4.cells 4 _ rfl
  obtain ⟨Ly, hLy, hy1, rfl⟩ := conc_gs a0
  obtain rfl := conc_nil a1
  obtain ⟨Lr, hLr, hr1, rfl⟩ := conc_gs a2
  obtain ⟨L3, hL3, rfl⟩ := conc_ptr a4
  obtain ⟨Ly', ya, ye, ey, y1, y2, y3⟩ := room_at hrel g468 (by decide)
  rw [hLy] at ey
  cases ey
  obtain ⟨Lr', ra, re, er, r1, r2, r3⟩ := room_at hrel g471 (by decide)
  rw [hLr] at er
  cases er
  have al : ∀ b, b ∈ [8, 4, 468, 471] → ∃ o, hq.get b = some o ∧ o.alive = true := fun b hb => by
    simp at hb
    rcases hb with rfl | rfl | rfl | rfl
    · exact ⟨_, g8, by rw [rowObj_eq2]; rfl⟩
    · exact ⟨_, g4, by rw [rowObj_eq2]; rfl⟩
    · have := g468
      cases hq' : hq.get 468 with
      | none => rw [hq'] at this; cases this
      | some o =>
        rw [hq'] at this
        cases o <;> first | exact ⟨_, rfl, rfl⟩ | cases this
    · have := g471
      cases hq' : hq.get 471 with
      | none => rw [hq'] at this; cases this
      | some o =>
        rw [hq'] at this
        cases o <;> first | exact ⟨_, rfl, rfl⟩ | cases this
  have ne : ∀ b c L M, b ∈ [8, 4, 468, 471] → c ∈ [8, 4, 468, 471] → b ≠ c → ρ b = some L → ρ c = some M → L.blk ≠ M.blk := fun b c L M hb hc hbc hL hM e => by
    obtain ⟨o, o1, o2⟩ := al b hb
    obtain ⟨p, p1, p2⟩ := al c hc
    exact hbc (hrel.inj b c o p L M o1 p1 o2 p2 hL hM e)
  refine ⟨⟨⟨L8.blk, L4.blk, Ly.blk, Ly.sh, Ly.cap, Lr.blk, Lr.sh, Lr.cap, ⟨L3.blk, L3.sh, none⟩, L8.sh, L4.sh⟩, rfl, ?_, hnew _ _ hL8, hnew _ _ hL4, hnew _ _ hLy, hnew _ _ hLr⟩, ⟨hgo.frm.os, hgo.frm.tape, hgo.frm.output, hgo.frm.size, fun k hk => hgo.frm.block k hk fun b o L hb => (hone b o hb).elim⟩⟩
  exact ⟨d11, d17, R8.fz, b0, b1, b2, b4, R4.fz, ⟨⟨ya, ye, y1, by show Ly.sh + Ly.cap * 6 ≤ ya.size; omega, hy1⟩⟩, ⟨⟨ra, re, r1, by show Lr.sh + Lr.cap * 3 ≤ ra.size; omega, hr1⟩⟩,
    ne 8 4 _ _ (by decide) (by decide) (by decide) hL8 hL4, ne 8 468 _ _ (by decide) (by decide) (by decide) hL8 hLy, ne 8 471 _ _ (by decide) (by decide) (by decide) hL8 hLr, ne 4 468 _ _ (by decide) (by decide) (by decide) hL4 hLy, ne 4 471 _ _ (by decide) (by decide) (by decide) hL4 hLr, ne 468 471 _ _ (by decide) (by decide) (by decide) hLy hLr⟩

end Go.Proofs.YtfiainenbpldgaaGreatDoor
