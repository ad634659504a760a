/-
  Blocks: made, read, written.
-/
import Derived.Test.YtmebfcdgbjkcfaaGreatDoorAeRel
import Derived.Laws.Cells
namespace Go.AE

section
variable {Y : Sy} {E : Env} {ρ : Rho} {h : H} {w : World}

theorem memN_iff (l : List Nat) (n : Nat) : memN l n = true ↔ n ∈ l := by
  induction l with
  | nil => simp [memN]
  | cons a r ih =>
    have e : memN (a :: r) n = Bool.rec (motive := fun _ => Bool) (memN r n) true (Nat.beq a n) := rfl
    rw [e]
    cases hb : Nat.beq a n with
    | true => have := Nat.eq_of_beq_eq_true hb; subst this; simp
    | false =>
      have : a ≠ n := Nat.ne_of_beq_eq_false hb
      simp only [List.mem_cons]
      rw [ih]
      constructor
      · exact fun h => .inr h
      · rintro (h | h)
        · exact absurd h.symm this
        · exact h

theorem H.get_eq (h : H) (b : Nat) : h.get b = if memN h.mask b = true then none else getO h.t b := by
  obtain ⟨t, n, m, p⟩ := h
  have e : (H.mk t n m p).get b = Bool.rec (motive := fun _ => Option AObj) (getO t b) none (memN m b) := rfl
  rw [e]
  cases memN m b <;> simp

theorem H.upd_eq {h h' : H} {b : Nat} {o : AObj} : h.upd b o = some h' ↔ memN h.prot b = false ∧ h' = ⟨putO h.t b o, h.next, h.mask, h.prot⟩ := by
  obtain ⟨t, n, m, p⟩ := h
  have e : (H.mk t n m p).upd b o = Bool.rec (motive := fun _ => Option H) (some ⟨putO t b o, n, m, p⟩) none (memN p b) := rfl
  rw [e]
  cases memN p b
  · simp only [Option.some.injEq, true_and]; exact ⟨fun h => h.symm, fun h => h.symm⟩
  · simp

theorem H.new_eq (h : H) (o : AObj) : h.new o = (h.next, ⟨putO h.t h.next o, h.next + 1, h.mask, h.prot⟩) := by
  obtain ⟨t, n, m, p⟩ := h
  cases n <;> rfl

def Rho.set (ρ : Rho) (n : Nat) (L : Loc) : Rho := fun b => if b = n then some L else ρ b

theorem Rho.set_same (ρ : Rho) (n : Nat) (L : Loc) : (ρ.set n L) n = some L := by simp [Rho.set]
theorem Rho.set_other {ρ : Rho} {n b : Nat} (L : Loc) (h : b ≠ n) : (ρ.set n L) b = ρ b := by simp [Rho.set, h]
theorem Rho.le_set {ρ : Rho} {n : Nat} (hn : ρ n = none) (L : Loc) : ρ.le (ρ.set n L) := by
  intro b M hb
  have : b ≠ n := fun e => by subst e; rw [hn] at hb; cases hb
  simp [Rho.set, this, hb]

/-- only the heap matters -/
theorem Rel.of_heap {w' : World} (hr : Rel Y E ρ h w) (e : w'.heap = w.heap) : Rel Y E ρ h w' :=
  ⟨fun b o hb ha => by rw [e]; exact hr.obj b o hb ha, hr.inj, hr.fresh, fun b L hb => by rw [e]; exact hr.bound b L hb⟩

/-- a draw -/
theorem Goes.of_drawn {w' : World} (hr : Rel Y E ρ h w) (e : w'.heap = w.heap) (e1 : w'.os = w.os) (e2 : w'.tape = w.tape) (e3 : w'.output = w.output) : Goes Y E ρ h w ρ h w' :=
  ⟨Rho.le_refl _, hr.of_heap e, ⟨e1, e2, e3, by rw [e]; exact Nat.le_refl _, fun c _ _ => by rw [e]⟩, Keeps.refl _, (fun b L h0 h1 => by rw [h0] at h1; cases h1), fun _ _ => rfl⟩

/-- a new block -/
theorem Goes.alloc {o : AObj} {ob : Obj} {L : Loc} (hr : Rel Y E ρ h w) (hL : L.blk = w.heap.size) (ho : ORel Y E (ρ.set h.next L) L o ob) :
    Goes Y E ρ h w (ρ.set h.next L) (h.new o).2 (w.alloc ob) := by
  have hn := hr.fresh h.next (Nat.le_refl _)
  have hle := Rho.le_set hn L
  rw [H.new_eq]
  have hget : ∀ b, (H.mk (putO h.t h.next o) (h.next + 1) h.mask h.prot).get b = if memN h.mask b = true then none else if b = h.next then some o else getO h.t b := by
    intro b
    rw [H.get_eq, get_putO]
  have hold : ∀ b p, b ≠ h.next → (H.mk (putO h.t h.next o) (h.next + 1) h.mask h.prot).get b = some p → h.get b = some p := by
    intro b p hb hp
    rw [hget, if_neg hb] at hp
    rw [H.get_eq]
    exact hp
  have hnew : ∀ (M : Loc) (b : Nat), b ≠ h.next → (ρ.set h.next L) b = some M → ρ b = some M := by
    intro M b hb hM
    simpa [Rho.set, hb] using hM
  refine ⟨hle, ⟨fun b p hp ha => ?_, fun b c p q M N hp hq ha hc hM hN e => ?_, fun b hb => ?_, fun b M hM => ?_⟩, ⟨rfl, rfl, rfl, by simp, fun c hc _ => ?_⟩, ⟨rfl, rfl, by simp, fun b hb _ => ?_, fun b p hb hp ha => ?_⟩, fun b M h0 h1 => ?_, fun b hb => Rho.set_other _ (Nat.ne_of_lt hb)⟩
  · by_cases hb : b = h.next
    · subst hb
      have : p = o := by
        rw [hget] at hp
        split at hp
        · cases hp
        · simpa using hp.symm
      subst this
      exact ⟨L, ob, Rho.set_same _ _ _, by rw [hL]; exact Array.getElem?_push_size, ho⟩
    · obtain ⟨M, ob', h1, h2, h3⟩ := hr.obj b p (hold b p hb hp) ha
      refine ⟨M, ob', hle _ _ h1, ?_, h3.mono hle⟩
      rw [RowKit.Below.heap_alloc _ _ _ (hr.bound b M h1)]
      exact h2
  · by_cases hb : b = h.next
    · by_cases hcn : c = h.next
      · rw [hb, hcn]
      · have h1 := hr.bound c N (hnew N c hcn hN)
        subst hb
        rw [Rho.set_same] at hM
        cases hM
        omega
    · by_cases hcn : c = h.next
      · have h1 := hr.bound b M (hnew M b hb hM)
        subst hcn
        rw [Rho.set_same] at hN
        cases hN
        omega
      · exact hr.inj b c p q M N (hold b p hb hp) (hold c q hcn hq) ha hc (hnew M b hb hM) (hnew N c hcn hN) e
  · have hb' : h.next + 1 ≤ b := hb
    have : b ≠ h.next := by omega
    simp only [Rho.set, this, if_false]
    exact hr.fresh b (by omega)
  · by_cases hb : b = h.next
    · subst hb
      rw [Rho.set_same] at hM
      cases hM
      rw [hL]; simp
    · have := hr.bound b M (hnew M b hb hM)
      simp; omega
  · exact RowKit.Below.heap_alloc _ _ _ hc
  · show getO (putO h.t h.next o) b = _
    rw [get_putO, if_neg (by omega)]
  · exact ⟨p, hold b p (by omega) hp, ha⟩
  · by_cases hb : b = h.next
    · subst hb
      rw [Rho.set_same] at h1
      cases h1
      exact .inl (by omega)
    · have := hnew M b hb h1
      rw [h0] at this
      cases this

/-- a block is written anew -/
theorem Goes.upd {h' : H} {w' : World} {b : Nat} {o o₀ : AObj} {L : Loc} {ob : Obj} (hr : Rel Y E ρ h w) (hb : h.get b = some o₀) (ha₀ : o₀.alive = true) (hL : ρ b = some L) (hu : h.upd b o = some h')
    (h1 : w'.os = w.os) (h2 : w'.tape = w.tape) (h3 : w'.output = w.output) (hs : w'.heap.size = w.heap.size) (hat : w'.heap[L.blk]? = some ob) (hother : ∀ c, c ≠ L.blk → w'.heap[c]? = w.heap[c]?)
    (ho : ORel Y E ρ L o ob) : Goes Y E ρ h w ρ h' w' := by
  obtain ⟨hp, rfl⟩ := H.upd_eq.1 hu
  have hget : ∀ c, (H.mk (putO h.t b o) h.next h.mask h.prot).get c = if memN h.mask c = true then none else if c = b then some o else getO h.t c := by
    intro c
    rw [H.get_eq, get_putO]
  have hmb : memN h.mask b = false := by
    rw [H.get_eq] at hb
    cases hm : memN h.mask b with
    | false => rfl
    | true => rw [hm] at hb; simp at hb
  have hold : ∀ c p, c ≠ b → (H.mk (putO h.t b o) h.next h.mask h.prot).get c = some p → h.get c = some p := by
    intro c p hc hp
    rw [hget, if_neg hc] at hp
    rw [H.get_eq]
    exact hp
  have hown : ∀ p, (H.mk (putO h.t b o) h.next h.mask h.prot).get b = some p → p = o := by
    intro p hp
    rw [hget, hmb] at hp
    simpa using hp.symm
  have hblt : b < h.next := by
    rcases Nat.lt_or_ge b h.next with h4 | h4
    · exact h4
    · rw [hr.fresh b h4] at hL; cases hL
  refine ⟨Rho.le_refl _, ⟨fun c p hc ha => ?_, fun c d p q M N hc hd ha hb' hM hN e => ?_, hr.fresh, fun c M hM => by rw [hs]; exact hr.bound c M hM⟩,
    ⟨h1, h2, h3, by omega, fun c _ hno => hother c (fun e => hno b o₀ L hb (wr_mk ha₀ hp) hL e.symm)⟩, ⟨rfl, rfl, Nat.le_refl _, fun c _ hm => ?_, fun c p _ hc ha => ?_⟩, (fun c M h0 h4 => by rw [h0] at h4; cases h4), fun _ _ => rfl⟩
  · by_cases hcb : c = b
    · subst hcb
      have := hown p hc
      subst this
      exact ⟨L, ob, hL, hat, ho⟩
    · obtain ⟨M, ob', k1, k2, k3⟩ := hr.obj c p (hold c p hcb hc) ha
      refine ⟨M, ob', k1, ?_, k3⟩
      rw [hother M.blk (fun e => hcb (hr.inj c b p o₀ M L (hold c p hcb hc) hb ha ha₀ k1 hL e))]
      exact k2
  · by_cases hcb : c = b
    · by_cases hdb : d = b
      · rw [hcb, hdb]
      · subst hcb
        exact hr.inj c d o₀ q M N hb (hold d q hdb hd) ha₀ hb' hM hN e
    · by_cases hdb : d = b
      · subst hdb
        exact hr.inj c d p o₀ M N (hold c p hcb hc) hb ha ha₀ hM hN e
      · exact hr.inj c d p q M N (hold c p hcb hc) (hold d q hdb hd) ha hb' hM hN e
  · show getO (putO h.t b o) c = _
    rw [get_putO]
    have : c ≠ b := by
      rintro rfl
      rcases hm with hm | hm
      · rw [hmb] at hm; cases hm
      · rw [hp] at hm; cases hm
    rw [if_neg this]
  · by_cases hcb : c = b
    · subst hcb; exact ⟨o₀, hb, ha₀⟩
    · exact ⟨p, hold c p hcb hc, ha⟩

/-! ### Reading cells -/
theorem addr_add (L : Loc) (o n : Nat) : (L.addr o).add n = L.addr (o + n) := by
  unfold Loc.addr Addr.add
  split
  · simp_all
  · simp [Nat.add_assoc]

/-- what is known of a row -/
theorem Rel.row {b : Nat} {ob : AObj} {c : T AV} {n gs : Nat} (hr : Rel Y E ρ h w) (hb : h.get b = some ob) (hrow : rowOf ob = some (c, n, gs)) :
    ob = .cells c n gs ∧ ∃ L arr elem, ρ b = some L ∧ w.heap[L.blk]? = some (.cells arr elem (0, 0)) ∧ L.sh + n ≤ arr.size ∧ (gs ≠ 0 → n ≤ L.cap * gs ∧ arr.size = L.sh + L.cap * gs) ∧
      ∀ i v, getV c i = some v → i < n ∧ isCell v = true ∧ ∃ cv, conc Y ρ v = some cv ∧ arr[L.sh + i]? = some cv := by
  cases ob with
  | cells c' n' gs' =>
    have e : rowOf (.cells c' n' gs') = some (c', n', gs') := rfl
    rw [e] at hrow
    cases hrow
    obtain ⟨L, x, h1, h2, arr, elem, rfl, h3, h4, h5⟩ := hr.obj b _ hb rfl
    exact ⟨rfl, L, arr, elem, h1, h2, h3, h4, h5⟩
  | _ => cases hrow

/-- what may be read of a row -/
theorem Rel.rowR {b : Nat} {ob : AObj} {c : T AV} {n gs : Nat} (hr : Rel Y E ρ h w) (hb : h.get b = some ob) (hrow : AE.rowR ob = some (c, n, gs)) :
    ∃ L arr elem fz, ρ b = some L ∧ w.heap[L.blk]? = some (.cells arr elem fz) ∧
      ∀ i v, getV c i = some v → i < n ∧ isCell v = true ∧ ∃ cv, conc Y ρ v = some cv ∧ arr[L.sh + i]? = some cv := by
  cases ob with
  | cells c' n' gs' =>
    have e : AE.rowR (.cells c' n' gs') = some (c', n', gs') := rfl
    rw [e] at hrow
    cases hrow
    obtain ⟨L, x, h1, h2, arr, elem, rfl, h3, h4, h5⟩ := hr.obj b _ hb rfl
    exact ⟨L, arr, elem, _, h1, h2, h5⟩
  | held c' n' all =>
    have e : AE.rowR (.held c' n' all) = some (c', n', 0) := rfl
    rw [e] at hrow
    cases hrow
    obtain ⟨L, x, h1, h2, arr, elem, fz, rfl, h3, h4, h5⟩ := hr.obj b _ hb rfl
    exact ⟨L, arr, elem, fz, h1, h2, h5⟩
  | _ => cases hrow

theorem cell_of_block {L : Loc} {arr : Array Value} {elem : TypeId} {fz : Nat × Nat} {i : Nat} (h : w.heap[L.blk]? = some (.cells arr elem fz)) : w.cell? (L.addr i) = arr[L.sh + i]? := by
  simp [World.cell?, Loc.addr, h]

theorem frozen_of_block {L : Loc} {arr : Array Value} {elem : TypeId} {i : Nat} (h : w.heap[L.blk]? = some (.cells arr elem (0, 0))) : w.frozen? (L.addr i) = false := by
  simp [World.frozen?, Loc.addr, h]

theorem loadCellA_eq (h : H) (b o : Nat) (v : AV) (hl : loadCellA h b o = some v) : ∃ ob c n gs, h.get b = some ob ∧ rowR ob = some (c, n, gs) ∧ getV c o = some v := by
  unfold loadCellA at hl
  cases hb : h.get b with
  | none => rw [hb] at hl; cases hl
  | some ob =>
    rw [hb] at hl
    cases hrow : rowR ob with
    | none => simp only [hrow] at hl; cases hl
    | some r => simp only [hrow] at hl; exact ⟨ob, r.1, r.2.1, r.2.2, rfl, hrow, hl⟩

theorem loadCell_sound {b o : Nat} {v : AV} (hr : Rel Y E ρ h w) (hl : loadCellA h b o = some v) :
    ∃ L cv, ρ b = some L ∧ conc Y ρ v = some cv ∧ isCell v = true ∧ w.cell? (L.addr o) = some cv := by
  obtain ⟨ob, c, n, gs, h1, h2, h3⟩ := loadCellA_eq h b o v hl
  obtain ⟨L, arr, elem, fz, k1, k2, k5⟩ := hr.rowR h1 h2
  obtain ⟨_, hc, cv, e1, e2⟩ := k5 o v h3
  exact ⟨L, cv, k1, e1, hc, by rw [cell_of_block k2]; exact e2⟩

theorem getCells_eq : ∀ (n : Nat) (c : T AV) (o : Nat) (l : List AV), getCells c o n = some l → l.length = n ∧ ∀ (i : Nat) (v : AV), l[i]? = some v → getV c (o + i) = some v := by
  intro n
  induction n with
  | zero => intro c o l h; cases h; exact ⟨rfl, fun i v hv => by simp at hv⟩
  | succ n ih =>
    intro c o l h
    have e : getCells c o (n + 1) = Option.rec (motive := fun _ => Option (List AV)) none (fun v => Option.rec (motive := fun _ => Option (List AV)) none (fun l => some (v :: l)) (getCells c (Nat.succ o) n)) (getV c o) := rfl
    rw [e] at h
    cases hv : getV c o with
    | none => rw [hv] at h; cases h
    | some v =>
      rw [hv] at h
      cases hl : getCells c (Nat.succ o) n with
      | none => simp only [hl] at h; cases h
      | some r =>
        simp only [hl] at h
        cases h
        obtain ⟨h1, h2⟩ := ih c (o + 1) r hl
        refine ⟨by simp [h1], fun i u hu => ?_⟩
        cases i with
        | zero => simp at hu; subst hu; exact hv
        | succ i => simp at hu; rw [show o + (i + 1) = o + 1 + i by omega]; exact h2 i u hu

/-- a list of values of which each is known -/
theorem concs_of_all : ∀ (l : List AV), (∀ (i : Nat) v, l[i]? = some v → ∃ cv, conc Y ρ v = some cv) → ∃ cs, concs Y ρ l = some cs := by
  intro l
  induction l with
  | nil => intro _; exact ⟨[], rfl⟩
  | cons v r ih =>
    intro hh
    obtain ⟨cv, h1⟩ := hh 0 v rfl
    obtain ⟨cs, h2⟩ := ih (fun i u hu => hh (i + 1) u (by simpa using hu))
    exact ⟨cv :: cs, concs_cons.2 ⟨cv, cs, h1, h2, rfl⟩⟩

theorem loadCells_sound {b o n : Nat} {l : List AV} (hr : Rel Y E ρ h w) (hl : loadCellsA h b o n = some l) :
    ∃ L cs, ρ b = some L ∧ concs Y ρ l = some cs ∧ l.all isCell = true ∧ l.length = n ∧ ∀ (i : Nat) cv, cs[i]? = some cv → w.cell? (L.addr (o + i)) = some cv := by
  unfold loadCellsA at hl
  cases hb : h.get b with
  | none => rw [hb] at hl; cases hl
  | some ob =>
    rw [hb] at hl
    cases hrow : rowR ob with
    | none => simp only [hrow] at hl; cases hl
    | some r =>
      simp only [hrow] at hl
      obtain ⟨hlen, hget⟩ := getCells_eq n r.1 o l hl
      obtain ⟨L, arr, elem, fz, k1, k2, k5⟩ := hr.rowR hb (show rowR ob = some (r.1, r.2.1, r.2.2) from hrow)
      obtain ⟨cs, hcs⟩ := concs_of_all (Y := Y) (ρ := ρ) l (fun i v hv => let ⟨_, _, cv, e, _⟩ := k5 _ v (hget i v hv); ⟨cv, e⟩)
      refine ⟨L, cs, k1, hcs, ?_, hlen, fun i cv hcv => ?_⟩
      · rw [List.all_eq_true]
        intro v hv
        obtain ⟨i, hi⟩ := List.mem_iff_getElem?.1 hv
        exact (k5 _ v (hget i v hi)).2.1
      · rw [cell_of_block k2]
        have hi : i < cs.length := by
          rcases Nat.lt_or_ge i cs.length with h' | h'
          · exact h'
          · rw [List.getElem?_eq_none h'] at hcv; cases hcv
        rw [concs_length hcs] at hi
        have hv : l[i]? = some l[i] := List.getElem?_eq_getElem hi
        obtain ⟨cv', e1, e2⟩ := concs_getElem hcs i _ hv
        rw [e2] at hcv
        cases hcv
        obtain ⟨_, _, cv'', e3, e4⟩ := k5 _ _ (hget i _ hv)
        rw [e1] at e3
        cases e3
        exact e4

/-! ### Writing cells -/
theorem putCells_get : ∀ (vs : List AV) (c : T AV) (o i : Nat), getV (putCells c o vs) i = if o ≤ i ∧ i < o + vs.length then vs[i - o]? else getV c i := by
  intro vs
  induction vs with
  | nil => intro c o i; have : ¬ (o ≤ i ∧ i < o + ([] : List AV).length) := by simp
           rw [if_neg this]; rfl
  | cons v r ih =>
    intro c o i
    have e : putCells c o (v :: r) = putCells (putV c o v) (o + 1) r := rfl
    rw [e, ih, get_putV]
    by_cases h1 : i = o
    · subst h1
      have a : ¬ (i + 1 ≤ i ∧ i < i + 1 + r.length) := by omega
      simp [a]
    · by_cases h2 : o + 1 ≤ i ∧ i < o + 1 + r.length
      · have b : o ≤ i ∧ i < o + (v :: r).length := by simp; omega
        rw [if_pos h2, if_pos b]
        obtain ⟨j, rfl⟩ : ∃ j, i = o + 1 + j := ⟨i - (o + 1), by omega⟩
        have e1 : o + 1 + j - (o + 1) = j := by omega
        have e2 : o + 1 + j - o = j + 1 := by omega
        simp [e1, e2]
      · have b : ¬ (o ≤ i ∧ i < o + (v :: r).length) := by simp; omega
        rw [if_neg h2, if_neg b, if_neg h1]

/-- one block with some of its cells written -/
def setRow (w : World) (blk : Nat) (arr : Array Value) (elem : TypeId) : World := { w with heap := w.heap.setIfInBounds blk (.cells arr elem (0, 0)) }

def putArr (arr : Array Value) (o : Nat) : List Value → Array Value
  | [] => arr
  | v :: r => putArr (arr.setIfInBounds o v) (o + 1) r

theorem putArr_size : ∀ (vs : List Value) (arr : Array Value) (o : Nat), (putArr arr o vs).size = arr.size := by
  intro vs
  induction vs with
  | nil => intro arr o; rfl
  | cons v r ih => intro arr o; rw [putArr, ih]; simp

theorem putArr_get : ∀ (vs : List Value) (arr : Array Value) (o i : Nat), o + vs.length ≤ arr.size → (putArr arr o vs)[i]? = if o ≤ i ∧ i < o + vs.length then vs[i - o]? else arr[i]? := by
  intro vs
  induction vs with
  | nil => intro arr o i _; have : ¬ (o ≤ i ∧ i < o + ([] : List Value).length) := by simp
           rw [if_neg this]; rfl
  | cons v r ih =>
    intro arr o i hs
    simp at hs
    rw [putArr, ih _ _ _ (by simp; omega)]
    by_cases h1 : i = o
    · subst h1
      have a : ¬ (i + 1 ≤ i ∧ i < i + 1 + r.length) := by omega
      have c : i < arr.size := by omega
      simp [a, c]
    · by_cases h2 : o + 1 ≤ i ∧ i < o + 1 + r.length
      · have b : o ≤ i ∧ i < o + (v :: r).length := by simp; omega
        rw [if_pos h2, if_pos b]
        obtain ⟨j, rfl⟩ : ∃ j, i = o + 1 + j := ⟨i - (o + 1), by omega⟩
        have e1 : o + 1 + j - (o + 1) = j := by omega
        have e2 : o + 1 + j - o = j + 1 := by omega
        simp [e1, e2]
      · have b : ¬ (o ≤ i ∧ i < o + (v :: r).length) := by simp; omega
        rw [if_neg h2, if_neg b, Array.getElem?_setIfInBounds]
        simp [Ne.symm h1]

theorem setRow_setRow (w : World) (blk : Nat) (a b : Array Value) (e : TypeId) : setRow (setRow w blk a e) blk b e = setRow w blk b e := by
  simp [setRow]

theorem setCell_row {blk : Nat} {arr : Array Value} {elem : TypeId} (hb : w.heap[blk]? = some (.cells arr elem (0, 0))) (o : Nat) (v : Value) :
    w.setCell ⟨blk, o, none⟩ v = setRow w blk (arr.setIfInBounds o v) elem := by
  unfold World.setCell setRow
  congr 1
  apply Array.ext'
  apply List.ext_getElem?
  intro i
  rw [Array.getElem?_toList, Array.getElem?_toList, Array.getElem?_modify, Array.getElem?_setIfInBounds]
  by_cases hi : blk = i
  · subst hi
    have hlt : blk < w.heap.size := (Array.getElem?_eq_some_iff.1 hb).1
    rw [if_pos rfl, if_pos rfl, hb, if_pos hlt]
    rfl
  · simp [hi]

theorem run_storeCells {P : Program} : ∀ (vs : List Value) (w : World) (L : Loc) (o i : Nat) (arr : Array Value) (elem : TypeId), w.heap[L.blk]? = some (.cells arr elem (0, 0)) → L.sh + o + i + vs.length ≤ arr.size →
    (∀ v ∈ vs, v.oneCell' = true) → (storeCells (L.addr o) vs i).run P w = .ok () (setRow w L.blk (putArr arr (L.sh + o + i) vs) elem) := by
  intro vs
  induction vs with
  | nil =>
    intro w L o i arr elem hb _ _
    simp only [storeCells, Sem.run_pure, putArr]
    congr 1
    unfold setRow
    have hlt : L.blk < w.heap.size := (Array.getElem?_eq_some_iff.1 hb).1
    have : w.heap.setIfInBounds L.blk (.cells arr elem (0, 0)) = w.heap := by
      apply Array.ext'
      apply List.ext_getElem?
      intro j
      rw [Array.getElem?_toList, Array.getElem?_toList, Array.getElem?_setIfInBounds]
      by_cases hj : L.blk = j
      · subst hj; rw [if_pos rfl, if_pos hlt, hb]
      · simp [hj]
    rw [this]
  | cons v r ih =>
    intro w L o i arr elem hb hs hv
    simp at hs
    have hv0 := hv v (by simp)
    have hcell : w.cell? (L.addr (o + i)) = some (arr[L.sh + o + i]'(by omega)) := by
      rw [cell_of_block hb, ← Nat.add_assoc]; exact Array.getElem?_eq_getElem (by omega)
    have hfz : w.frozen? (L.addr (o + i)) = false := frozen_of_block hb
    have e0 : w.setCell (L.addr (o + i)) v = setRow w L.blk (arr.setIfInBounds (L.sh + o + i) v) elem := by
      have := setCell_row hb (L.sh + o + i) v
      simpa [Loc.addr, Nat.add_assoc] using this
    simp only [storeCells, Sem.run_bind, addr_add, run_store _ _ _ _ _ hv0, hcell, hfz, Bool.false_eq_true, if_false, Result.andThen_ok, e0]
    have hlt : L.blk < w.heap.size := (Array.getElem?_eq_some_iff.1 hb).1
    have hb' : (setRow w L.blk (arr.setIfInBounds (L.sh + o + i) v) elem).heap[L.blk]? = some (.cells (arr.setIfInBounds (L.sh + o + i) v) elem (0, 0)) := by
      simp [setRow, hlt]
    have h2 := ih (setRow w L.blk (arr.setIfInBounds (L.sh + o + i) v) elem) L o (i + 1) _ elem hb' (by simp; omega) (fun u hu => hv u (by simp [hu]))
    rw [h2, setRow_setRow]
    rfl

theorem oneCell_of {v : AV} {c : Value} (hv : isCell v = true) (hc : conc Y ρ v = some c) : c.oneCell' = true := by
  obtain ⟨h1, h2⟩ := conc_cell hv hc
  cases c <;> first | rfl | exact absurd rfl (h1 _) | exact absurd rfl (h2 _)

theorem storeCellsA_eq {b o : Nat} {vs : List AV} {h' : H} (hs : storeCellsA h b o vs = some h') :
    ∃ ob c n gs, h.get b = some ob ∧ rowOf ob = some (c, n, gs) ∧ o + vs.length ≤ n ∧ h.upd b (.cells (putCells c o vs) n gs) = some h' := by
  unfold storeCellsA at hs
  cases hb : h.get b with
  | none => rw [hb] at hs; cases hs
  | some ob =>
    rw [hb] at hs
    cases hrow : rowOf ob with
    | none => simp only [hrow] at hs; cases hs
    | some r =>
      simp only [hrow] at hs
      cases hle : Nat.ble (Nat.add o vs.length) r.2.1 with
      | false => rw [hle] at hs; cases hs
      | true =>
        rw [hle] at hs
        exact ⟨ob, r.1, r.2.1, r.2.2, rfl, hrow, Nat.le_of_ble_eq_true hle, hs⟩

/-- some cells of a row are written -/
theorem storeCells_sound {P : Program} {b o : Nat} {vs : List AV} {cs : List Value} {h' : H} (hr : Rel Y E ρ h w) (hs : storeCellsA h b o vs = some h') (hc : concs Y ρ vs = some cs) (hcell : vs.all isCell = true) :
    ∃ L w', ρ b = some L ∧ (storeCells (L.addr o) cs).run P w = .ok () w' ∧ Goes Y E ρ h w ρ h' w' ∧ w'.drawn = w.drawn := by
  obtain ⟨ob, c, n, gs, h1, h2, h3, h4⟩ := storeCellsA_eq hs
  obtain ⟨rfl, L, arr, elem, k1, k2, k3, k4, k5⟩ := hr.row h1 h2
  have hlen := concs_length hc
  have hrun := run_storeCells (P := P) cs w L o 0 arr elem k2 (by omega) (fun v hv => by
    obtain ⟨i, hi⟩ := List.mem_iff_getElem?.1 hv
    have hlt : i < cs.length := by
      rcases Nat.lt_or_ge i cs.length with h' | h'
      · exact h'
      · rw [List.getElem?_eq_none h'] at hi; cases hi
    rw [hlen] at hlt
    obtain ⟨cv, e1, e2⟩ := concs_getElem hc i _ (List.getElem?_eq_getElem hlt)
    rw [hi] at e2
    cases e2
    exact oneCell_of (List.all_eq_true.1 hcell _ (List.getElem_mem _)) e1)
  simp only [Nat.add_zero] at hrun
  have hlt : L.blk < w.heap.size := (Array.getElem?_eq_some_iff.1 k2).1
  refine ⟨L, _, k1, hrun, Goes.upd (o := .cells (putCells c o vs) n gs) hr h1 rfl k1 h4 rfl rfl rfl (by simp [setRow]) (ob := .cells (putArr arr (L.sh + o) cs) elem (0, 0)) (by simp [setRow, hlt]) (fun d hd => by simp [setRow, Ne.symm hd]) ?_, rfl⟩
  refine ⟨_, elem, rfl, by rw [putArr_size]; exact k3, fun hg => by rw [putArr_size]; exact k4 hg, fun i v hv => ?_⟩
  rw [putCells_get] at hv
  rw [putArr_get _ _ _ _ (by omega)]
  split at hv
  · rename_i hi
    obtain ⟨cv, e1, e2⟩ := concs_getElem hc _ v hv
    refine ⟨by omega, ?_, cv, e1, ?_⟩
    · have : v ∈ vs := List.mem_of_getElem? hv
      exact List.all_eq_true.1 hcell v this
    · rw [if_pos (by omega), show L.sh + i - (L.sh + o) = i - o by omega]; exact e2
  · rename_i hi
    obtain ⟨e1, e2, cv, e3, e4⟩ := k5 i v hv
    exact ⟨e1, e2, cv, e3, by rw [if_neg (by omega)]; exact e4⟩

/-- a row is made -/
theorem newRow_orel {vs : List AV} {cs : List Value} (hc : concs Y ρ vs = some cs) (hcell : vs.all isCell = true) (blk cap : Nat) (elem : TypeId) {ρ' : Rho} (hle : ρ.le ρ') :
    ORel Y E ρ' ⟨blk, 0, cap⟩ (rowObj vs 0) (.cells cs.toArray elem) := by
  have e : rowObj vs 0 = .cells (ofListV vs) vs.length 0 := by
    unfold rowObj forceN
    cases vs.length <;> rfl
  rw [e]
  have hlen := concs_length hc
  refine ⟨cs.toArray, elem, rfl, by simp [hlen], fun h => absurd rfl h, fun i v hv => ?_⟩
  rw [get_ofListV] at hv
  obtain ⟨cv, e1, e2⟩ := concs_getElem hc i v hv
  have hi : i < vs.length := by
    rcases Nat.lt_or_ge i vs.length with h' | h'
    · exact h'
    · rw [List.getElem?_eq_none h'] at hv; cases hv
  exact ⟨hi, List.all_eq_true.1 hcell v (List.mem_of_getElem? hv), cv, conc_mono hle e1, by simpa using e2⟩

end
end Go.AE
