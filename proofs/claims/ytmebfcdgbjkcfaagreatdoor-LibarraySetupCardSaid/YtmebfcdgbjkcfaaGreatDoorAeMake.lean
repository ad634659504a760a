/-
  Literals, and what is made: the values and the rows.
-/
import Derived.Test.YtmebfcdgbjkcfaaGreatDoorAeSlice
namespace Go.AE

section
variable {Y : Sy} {E : Env} {ρ : Rho} {w : World}

/-! ### Literals -/
def PartsRel (Y : Sy) (ρ : Rho) : List (Nat × AV) → List (Nat × Value) → Prop
  | [], [] => True
  | (i, v) :: r, (j, c) :: s => i = j ∧ conc Y ρ v = some c ∧ PartsRel Y ρ r s
  | _, _ => False

theorem foldl_put (off : Nat) : ∀ (cs : List Value) (k : Nat) (arr : Array Value), (cs.zipIdx k).foldl (fun (a : Array Value) (p : Value × Nat) => a.setIfInBounds (off + p.2) p.1) arr = putArr arr (off + k) cs := by
  intro cs
  induction cs with
  | nil => intro k arr; rfl
  | cons c r ih =>
    intro k arr
    simp only [List.zipIdx_cons, List.foldl_cons, putArr]
    rw [ih, Nat.add_assoc]

theorem putArr_splice (cs : List Value) (off : Nat) (arr : Array Value) (h : off + cs.length ≤ arr.size) : putArr arr off cs = (arr.toList.take off ++ (cs ++ arr.toList.drop (off + cs.length))).toArray := by
  apply Array.ext'
  apply List.ext_getElem?
  intro i
  rw [Array.getElem?_toList, putArr_get _ _ _ _ h]
  have hl : (arr.toList.take off).length = off := by simp; omega
  by_cases h1 : i < off
  · rw [if_neg (by omega), List.getElem?_append_left (by omega), List.getElem?_take_of_lt h1, Array.getElem?_toList]
  · rw [List.getElem?_append_right (by omega), hl]
    by_cases h2 : i < off + cs.length
    · rw [if_pos ⟨by omega, h2⟩, List.getElem?_append_left (by omega)]
    · rw [if_neg (by omega), List.getElem?_append_right (by omega), List.getElem?_drop, Array.getElem?_toList]
      congr 1
      omega

theorem fill_ok {pa pc : Nat → Option (Nat × Nat)} (hp : ∀ i r, pa i = some r → pc i = some r) : ∀ (parts : List (Nat × AV)) (cparts : List (Nat × Value)) (cs : List AV) (ccs : List Value) (out : List AV),
    PartsRel Y ρ parts cparts → concs Y ρ cs = some ccs → cs.all isCell = true → fillA pa cs parts = some out →
    ∃ cout, Instr.fill pc ccs.toArray cparts = some cout.toArray ∧ concs Y ρ out = some cout ∧ out.all isCell = true := by
  intro parts
  induction parts with
  | nil =>
    intro cparts cs ccs out hr hcs hcell h
    cases cparts with
    | nil => cases h; exact ⟨ccs, rfl, hcs, hcell⟩
    | cons _ _ => exact hr.elim
  | cons p r ih =>
    intro cparts cs ccs out hr hcs hcell h
    cases cparts with
    | nil => exact hr.elim
    | cons q s =>
      obtain ⟨i, v⟩ := p
      obtain ⟨j, c⟩ := q
      obtain ⟨rfl, hv, hr'⟩ := hr
      simp only [fillA] at h
      cases hpl : pa i with
      | none => rw [hpl] at h; cases h
      | some q =>
        obtain ⟨off, size⟩ := q
        cases hcv : cellsOf v with
        | none => rw [hpl, hcv] at h; cases h
        | some vs =>
          rw [hpl, hcv] at h
          dsimp only at h
          cases hsz : Nat.beq vs.length size with
          | false => rw [hsz] at h; cases h
          | true =>
            rw [hsz] at h
            dsimp only at h
            cases hle : Nat.ble (Nat.add off size) cs.length with
            | false => rw [hle] at h; cases h
            | true =>
              rw [hle] at h
              dsimp only at h
              have hsz' := Nat.eq_of_beq_eq_true hsz
              have hle' : off + size ≤ cs.length := Nat.le_of_ble_eq_true hle
              obtain ⟨cvs, k1, k2, k3⟩ := cellsOf_conc hcv hv
              have hl1 := concs_length k1
              have hl2 := concs_length hcs
              have hspl : concs Y ρ (spliceL cs off vs) = some (ccs.take off ++ (cvs ++ ccs.drop (off + cvs.length))) := by
                unfold spliceL
                refine concs_append.2 ⟨_, _, concs_take hcs off, concs_append.2 ⟨_, _, k1, concs_drop hcs _, rfl⟩, ?_⟩
                rw [hl1]; rfl
              have hall : (spliceL cs off vs).all isCell = true := by
                rw [List.all_eq_true] at hcell k3 ⊢
                intro x hx
                unfold spliceL at hx
                rcases List.mem_append.1 hx with hx | hx
                · exact hcell x (List.mem_of_mem_take hx)
                · rcases List.mem_append.1 hx with hx | hx
                  · exact k3 x hx
                  · exact hcell x (List.mem_of_mem_drop hx)
              obtain ⟨cout, e1, e2, e3⟩ := ih s _ _ out hr' hspl hall h
              refine ⟨cout, ?_, e2, e3⟩
              rw [Instr.fill, hp i _ hpl]
              have hno : ¬ ((c.cells.size ≠ size || decide (off + c.cells.size > ccs.toArray.size)) = true) := by
                rw [k2]; simp; omega
              dsimp only
              rw [if_neg hno, ← e1, k2]
              congr 1
              have := foldl_put off cvs 0 ccs.toArray
              rw [Nat.add_zero] at this
              rw [← Array.foldl_toList, Array.toList_zipIdx, this, putArr_splice _ _ _ (by simp; omega)]

theorem places_ok (hE : EnvOk Y E) : ∀ (fs : List Field) (ps : List (Nat × Nat)), placesA E fs = some ps → (fs.mapM fun f => do pure (f.offset, ← sizeOf f.type) : Sem (List (Nat × Nat))).run E.P w = .ok ps w := by
  intro fs
  induction fs with
  | nil => intro ps h; cases h; simp
  | cons f r ih =>
    intro ps h
    simp only [placesA] at h
    cases hn : E.size f.type with
    | none => rw [hn] at h; cases h
    | some n =>
      rw [hn] at h
      dsimp only at h
      cases hl : placesA E r with
      | none => rw [hl] at h; cases h
      | some l =>
        rw [hl] at h
        cases h
        rw [List.mapM_cons]
        simp only [Sem.run_bind, run_size hE hn, Result.andThen_ok, Sem.run_pure, ih l hl]

theorem build_ok (hE : EnvOk Y E) {t : TypeId} {parts : List (Nat × AV)} {cparts : List (Nat × Value)} {v : AV} (hr : PartsRel Y ρ parts cparts) (h : buildA E t parts = some v) : Yields Y E ρ w (Instr.build t cparts.toArray) v := by
  unfold buildA at h
  split at h
  · rename_i z fields hz hu
    split at h
    · cases h
    · rename_i ps hps
      split at h
      · rename_i l hl
        cases h
        obtain ⟨cz, k1, k2⟩ := run_zero (Y := Y) (ρ := ρ) (w := w) hE hz
        obtain ⟨czs, k3, rfl, k4⟩ := conc_agg k2
        have hpl := places_ok (w := w) hE _ _ hps
        obtain ⟨cout, e1, e2, e3⟩ := fill_ok (Y := Y) (ρ := ρ) (pa := fun i => ps[i]?) (pc := fun i => ps.toArray[i]?) (fun i r h => by simpa using h) parts cparts z czs l hr k3 k4 hl
        refine ⟨.agg cout.toArray, ?_, by simp [conc, e2, e3]⟩
        have hm : (fields.mapM fun f => do pure (f.offset, ← sizeOf f.type) : Sem (Array (Nat × Nat))).run E.P w = .ok ps.toArray w := by
          rw [Array.mapM_eq_mapM_toList]
          simp only [Sem.run_map, hpl]
          rfl
        simp only [Instr.build, Sem.run_bind, k1, Result.andThen_ok, run_und hE hu, hm, Value.cells, e1]
        rfl
      · cases h
  · rename_i z n elem hz hu
    split at h
    · rename_i s hs
      split at h
      · rename_i l hl
        cases h
        obtain ⟨cz, k1, k2⟩ := run_zero (Y := Y) (ρ := ρ) (w := w) hE hz
        obtain ⟨czs, k3, rfl, k4⟩ := conc_agg k2
        obtain ⟨cout, e1, e2, e3⟩ := fill_ok (Y := Y) (ρ := ρ) (pa := fun i => some (Nat.mul i s, s)) (pc := fun i => some (i * s, s)) (fun i r h => h) parts cparts z czs l hr k3 k4 hl
        refine ⟨.agg cout.toArray, ?_, by simp [conc, e2, e3]⟩
        simp only [Instr.build, Sem.run_bind, k1, Result.andThen_ok, run_und hE hu, run_size hE hs, Value.cells, e1]
        rfl
      · cases h
    · cases h
  · cases h

/-! ### Rows of zeros -/
def repeatC (z : List Value) : Nat → List Value
  | 0 => []
  | n + 1 => z ++ repeatC z n

theorem repeat_conc {z : List AV} {cz : List Value} (h : concs Y ρ z = some cz) : ∀ n, concs Y ρ (repeatL z n) = some (repeatC cz n)
  | 0 => rfl
  | n + 1 => concs_append.2 ⟨_, _, h, repeat_conc h n, rfl⟩

theorem repeat_cell {z : List AV} (h : z.all isCell = true) : ∀ n, (repeatL z n).all isCell = true
  | 0 => rfl
  | n + 1 => by
    show (z ++ repeatL z n).all isCell = true
    rw [List.all_append, h, repeat_cell h n]
    rfl

theorem repeatC_length (z : List Value) : ∀ n, (repeatC z n).length = n * z.length
  | 0 => by simp [repeatC]
  | n + 1 => by simp only [repeatC, List.length_append, repeatC_length z n, Nat.succ_mul]; omega

theorem repeatC_get (z : List Value) : ∀ (n i : Nat), i < n * z.length → (repeatC z n)[i]? = z[i % z.length]?
  | 0, i, h => by omega
  | n + 1, i, h => by
    rw [Nat.succ_mul] at h
    simp only [repeatC]
    by_cases h1 : i < z.length
    · rw [List.getElem?_append_left h1, Nat.mod_eq_of_lt h1]
    · rw [List.getElem?_append_right (by omega), repeatC_get z n (i - z.length) (by omega)]
      congr 1
      rw [Nat.mod_eq_sub_mod (by omega : i ≥ z.length)]

theorem range_zeros (z : List Value) (n : Nat) : ((Array.range (n * z.length)).map fun i => (z.toArray)[i % z.toArray.size]!) = (repeatC z n).toArray := by
  apply Array.ext'
  apply List.ext_getElem?
  intro i
  simp only [Array.toList_map, Array.toList_range, List.getElem?_map, List.size_toArray]
  by_cases h : i < n * z.length
  · rw [List.getElem?_range h, repeatC_get z n i h]
    have hpos : 0 < z.length := by
      rcases Nat.eq_zero_or_pos z.length with h0 | h0
      · rw [h0, Nat.mul_zero] at h; omega
      · exact h0
    have hm : i % z.length < z.length := Nat.mod_lt _ hpos
    simp [hm]
  · rw [List.getElem?_eq_none (by simp; omega), List.getElem?_eq_none (by rw [repeatC_length]; omega)]
    rfl

theorem zeroCells_eq (z : List Value) (n : Nat) : Builtin.zeroCells z.toArray n = (repeatC z n).toArray := by
  unfold Builtin.zeroCells
  rw [← range_zeros z n]
  simp

end
end Go.AE
