/-
  Regions that draw: the checks, and the records.
-/
import Derived.Test.YtmebfcdgbjkcfaaGreatDoorAeCall
import Derived.OrdersIn
namespace Go.AE

/-! ### The checks -/
section
variable {E : Env} {bs : T Nat} {ops : List Oper}

theorem drawOkFrom_at : ∀ {l : List Oper} {i : Nat}, drawOkFrom bs ops l i = true → ∀ j o, l[j]? = some o → edgesOk (i + j) o.after.toList = true ∧ pairsOk bs (i + j) (looks ops o) o.dst ops 0 = true
  | [], _, _, j, o, hj => by simp at hj
  | x :: r, i, h, j, o, hj => by
    simp only [drawOkFrom, Bool.and_eq_true] at h
    cases j with
    | zero => simp at hj; subst hj; exact ⟨h.1.1, h.1.2⟩
    | succ j =>
      have := drawOkFrom_at (l := r) h.2 j o (by simpa using hj)
      rw [show i + (j + 1) = i + 1 + j by omega]
      exact this

theorem pairsOk_at {i : Nat} {ts : List Nat} {dst : Option Tmp} : ∀ {l : List Oper} {k : Nat}, pairsOk bs i ts dst l k = true → ∀ j o, l[j]? = some o → pairOk bs i ts dst (k + j) o = true
  | [], _, _, j, o, hj => by simp at hj
  | x :: r, k, h, j, o, hj => by
    simp only [pairsOk, Bool.and_eq_true] at h
    cases j with
    | zero => simp at hj; subst hj; exact h.1
    | succ j =>
      have := pairsOk_at (l := r) h.2 j o (by simpa using hj)
      rw [show k + (j + 1) = k + 1 + j by omega]
      exact this

theorem pairOk_spec {i j : Nat} {ts : List Nat} {dst : Option Tmp} {o : Oper} {d : Tmp} (h : pairOk bs i ts dst j o = true) (hd : o.dst = some d) (hij : i ≠ j) (ht : d ∈ ts ∨ dst = some d) : bef bs i j = true ∨ bef bs j i = true := by
  unfold pairOk at h
  rw [hd] at h
  dsimp only at h
  have hb : Nat.beq i j = false := by
    cases hb : Nat.beq i j with
    | false => rfl
    | true => exact absurd (Nat.eq_of_beq_eq_true hb) hij
  rw [hb] at h
  dsimp only at h
  rcases ht with ht | ht
  · rw [(memN_iff _ _).2 ht] at h
    simpa using h
  · subst ht
    have hb' : Nat.beq d d = true := Nat.beq_refl d
    simp only [hb', Bool.or_true] at h
    simpa using h

theorem edgesOk_at {i : Nat} : ∀ {l : List Edge}, edgesOk i l = true → ∀ e ∈ l, bindsA e = true → e.on < i
  | [], _, e, he => by cases he
  | x :: r, h, e, he => by
    simp only [edgesOk, Bool.and_eq_true] at h
    intro hb
    rcases List.mem_cons.1 he with rfl | he
    · rw [hb] at h; exact (blt_iff _ _).1 h.1
    · exact edgesOk_at h.2 e he hb

theorem ordOk_split : ∀ {pre post : List Nat} {i : Nat}, ordOk E bs ops (pre ++ i :: post) = true → i ∉ post ∧ (∀ j ∈ post, bef bs i j = false) ∧ (bigAt E ops i = true → ∀ j ∈ post, bef bs j i = true)
  | [], post, i, h => by
    simp only [List.nil_append, ordOk, Bool.and_eq_true, Bool.or_eq_true, Bool.not_eq_true', List.all_eq_true] at h
    obtain ⟨⟨⟨h1, h2⟩, h3⟩, _⟩ := h
    refine ⟨(fun hm => by rw [(memN_iff _ _).2 hm] at h1; cases h1), (fun j hj => by simpa using h2 j hj), fun hb j hj => ?_⟩
    rcases h3 with h3 | h3
    · rw [hb] at h3; cases h3
    · exact h3 j hj
  | x :: pre, post, i, h => by
    simp only [List.cons_append, ordOk, Bool.and_eq_true] at h
    exact ordOk_split h.2

theorem coverOk_at {ord : List Nat} : ∀ {n : Nat}, coverOk ord n = true → ∀ i, i < n → i ∈ ord
  | 0, _, i, hi => absurd hi (Nat.not_lt_zero _)
  | n + 1, h, i, hi => by
    simp only [coverOk, Bool.and_eq_true] at h
    rcases Nat.lt_succ_iff_lt_or_eq.1 hi with h' | h'
    · exact coverOk_at h.2 i h'
    · subst h'; exact (memN_iff _ _).1 h.1

theorem closeAt_spec {i j : Nat} : ∀ {l : List Edge}, closeAt bs i j l = true → ∃ e ∈ l, bindsA e = true ∧ (e.on = j ∨ bef bs e.on j = true)
  | [], h => by cases h
  | e :: r, h => by
    simp only [closeAt, Bool.or_eq_true, Bool.and_eq_true] at h
    rcases h with ⟨h1, h2⟩ | h
    · refine ⟨e, by simp, h1, ?_⟩
      rcases h2 with h2 | h2
      · exact .inl (Nat.eq_of_beq_eq_true h2)
      · exact .inr h2
    · obtain ⟨e', h1, h2⟩ := closeAt_spec h
      exact ⟨e', by simp [h1], h2⟩

theorem closeRow_at {i : Nat} {es : List Edge} : ∀ {n : Nat}, closeRow bs i es n = true → ∀ j, j < n → bef bs i j = true → closeAt bs i j es = true
  | 0, _, j, hj => absurd hj (Nat.not_lt_zero _)
  | n + 1, h, j, hj => by
    simp only [closeRow, Bool.and_eq_true, Bool.or_eq_true, Bool.not_eq_true'] at h
    intro hb
    rcases Nat.lt_succ_iff_lt_or_eq.1 hj with h' | h'
    · exact closeRow_at h.2 j h' hb
    · subst h'
      rcases h.1 with h1 | h1
      · rw [hb] at h1; cases h1
      · exact h1

theorem closeOk_at {n : Nat} : ∀ {l : List Oper} {k : Nat}, closeOk bs n l k = true → ∀ i o, l[i]? = some o → ∀ j, j < n → bef bs (k + i) j = true → ∃ e ∈ o.after.toList, bindsA e = true ∧ (e.on = j ∨ bef bs e.on j = true)
  | [], _, _, i, o, hi => by simp at hi
  | x :: r, k, h, i, o, hi => by
    simp only [closeOk, Bool.and_eq_true] at h
    intro j hj hb
    cases i with
    | zero => simp at hi; subst hi; exact closeAt_spec (closeRow_at h.1 j hj hb)
    | succ i => exact closeOk_at (l := r) h.2 i o (by simpa using hi) j hj (by rw [show k + 1 + i = k + (i + 1) by omega]; exact hb)

theorem binds_any (e : Edge) : Region.binds .any e = bindsA e := by
  unfold Region.binds bindsA
  cases e.ground <;> rfl
end

/-! ### Records -/
/-- an operation that has been evaluated: its value -/
structure Rc where
  i : Nat
  o : Oper
  v : AV
  /-- the block that it makes -/
  blk : Option Nat

def dsR (l : List Rc) : List (Option Tmp) := l.map fun r => r.o.dst
def envR (l : List Rc) : List AV := l.map fun r => r.v

/-- the last value written into t -/
def look (t : Nat) : List Rc → Option AV
  | [] => none
  | r :: l => if r.o.dst = some t then some r.v else look t l

theorem look_pos (t : Nat) : ∀ (l : List Rc), match posOf t (dsR l) 0 with | some i => look t l = some (nthA i (envR l)) | none => look t l = none
  | [] => rfl
  | r :: l => by
    have ih := look_pos t l
    have hs := posOf_succ t (dsR l) 0
    cases hd : r.o.dst with
    | none =>
      have e : posOf t (dsR (r :: l)) 0 = posOf t (dsR l) (0 + 1) := by simp [dsR, hd, posOf]
      have e2 : look t (r :: l) = look t l := by simp [look, hd]
      rw [e, hs, e2]
      cases hp : posOf t (dsR l) 0 with
      | none => rw [hp] at ih; exact ih
      | some j => rw [hp] at ih; exact ih
    | some d =>
      by_cases hdt : d = t
      · subst hdt
        have e : posOf d (dsR (r :: l)) 0 = some 0 := by simp [dsR, hd, posOf, Nat.beq_refl]
        rw [e]
        simp only [look, hd, if_true]
        rfl
      · have hb : Nat.beq d t = false := by
          cases hb : Nat.beq d t with
          | false => rfl
          | true => exact absurd (Nat.eq_of_beq_eq_true hb) hdt
        have e : posOf t (dsR (r :: l)) 0 = posOf t (dsR l) (0 + 1) := by simp [dsR, hd, posOf, hb]
        have e2 : look t (r :: l) = look t l := by simp [look, hd, hdt]
        rw [e, hs, e2]
        cases hp : posOf t (dsR l) 0 with
        | none => rw [hp] at ih; exact ih
        | some j => rw [hp] at ih; exact ih

section
variable {Y : Sy} {E : Env} {ρ : Rho} {h : H} {w : World}

/-- the temporaries, by records -/
def LRel (Y : Sy) (ρ : Rho) (L : Lv) (l : List Rc) (tm : T AV) (tmps : Array Value) : Prop :=
  ∀ t, (∀ v, look t l = some v → conc Y ρ v = some (tmps.getD t undef)) ∧ (look t l = none → Nat.testBit L.live t = true → conc Y ρ (tget tm t) = some (tmps.getD t undef))

theorem LRel.mono {ρ' : Rho} {L : Lv} {l : List Rc} {tm : T AV} {tmps : Array Value} (h : LRel Y ρ L l tm tmps) (hle : ρ.le ρ') : LRel Y ρ' L l tm tmps :=
  fun t => ⟨fun v hv => conc_mono hle ((h t).1 v hv), fun hn hl => conc_mono hle ((h t).2 hn hl)⟩

theorem LRel.erel {L : Lv} {l : List Rc} {tm : T AV} {tmps : Array Value} (h : LRel Y ρ L l tm tmps) : ERel Y ρ L (dsR l) (envR l) tm tmps := by
  refine ⟨fun t i hi => ?_, fun t hn hl => ?_⟩
  · have := look_pos t l
    rw [hi] at this
    exact (h t).1 _ this
  · have := look_pos t l
    rw [hn] at this
    exact (h t).2 this hl

/-- an operand, looked up in other records that agree on it -/
theorem cX_look {L : Lv} {pre evS : List Rc} {tm : T AV} {a : Act} {x : Operand} {X : X} (hx : cX L (dsR pre) x = some X) (he : LRel Y ρ L evS tm a.tmps) (hag : ∀ t, x = .tmp t → look t evS = look t pre) (hg : Glob E ρ) (hng : L.ng = E.ng) :
    conc Y ρ (X tm (envR pre)) = some (a.eval x) := by
  cases x with
  | tmp t =>
    have hl := hag t rfl
    have hp := look_pos t pre
    unfold cX at hx
    dsimp only at hx
    cases hpos : posOf t (dsR pre) 0 with
    | some i =>
      rw [hpos] at hx hp
      cases hx
      rw [hp] at hl
      exact (he t).1 _ hl
    | none =>
      rw [hpos] at hx hp
      dsimp only at hx
      cases hb : Nat.testBit L.live t with
      | false => rw [hb] at hx; cases hx
      | true =>
        rw [hb] at hx
        cases hx
        show conc Y ρ (tgetP (pathOf t) tm) = _
        rw [tgetP_of]
        rw [hp] at hl
        exact (he t).2 hl hb
  | const v =>
    unfold cX at hx
    dsimp only at hx
    cases hc : ofConst v with
    | none => rw [hc] at hx; cases hx
    | some ac => rw [hc] at hx; cases hx; exact ofConst_ok hc
  | global g =>
    unfold cX at hx
    dsimp only at hx
    cases hlt : Nat.blt g L.ng with
    | false => rw [hlt] at hx; cases hx
    | true =>
      rw [hlt] at hx
      cases hx
      obtain ⟨c, hc⟩ := hg g (by rw [← hng]; exact (blt_iff _ _).1 hlt)
      simp [conc, hc, Loc.addr, Act.eval]
  | func f => cases hx; rfl

theorem cXs_look {L : Lv} {pre evS : List Rc} {tm : T AV} {a : Act} (he : LRel Y ρ L evS tm a.tmps) (hg : Glob E ρ) (hng : L.ng = E.ng) : ∀ {xs : List Operand} {X : XS}, cXs L (dsR pre) xs = some X → (∀ t, Operand.tmp t ∈ xs → look t evS = look t pre) →
    concs Y ρ (X tm (envR pre)) = some (xs.map a.eval) := by
  intro xs
  induction xs with
  | nil => intro X hx _; cases hx; rfl
  | cons x xs ih =>
    intro X hx hag
    rw [cXs_cons] at hx
    cases h1 : cX L (dsR pre) x with
    | none => rw [h1] at hx; cases hx
    | some f =>
      rw [h1] at hx
      cases h2 : cXs L (dsR pre) xs with
      | none => rw [h2] at hx; cases hx
      | some g =>
        rw [h2] at hx
        cases hx
        exact concs_cons.2 ⟨_, _, cX_look h1 he (fun t ht => hag t (by simp [ht])) hg hng, ih h2 (fun t ht => hag t (by simp [ht])), rfl⟩

end
end Go.AE
