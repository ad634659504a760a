/-
  States at which the rounds of a loop begin ('heads'): a heap fits one if it says at least as much, its blocks numbered otherwise; what code makes of them; functions out of such steps.
-/
import Derived.Test.YtfgjojdcbbcbgaaGreatDoorAeSum
namespace Go.AE
noncomputable section

/-! ### Values under another numbering -/
/-- of each block of the new numbering the number of the old one -/
abbrev PT := T Nat

def simB (π : PT) (a b : Nat) : Bool := match π.get a with | some x => Nat.beq x b | none => false

def simFn : Fn → Fn → Bool
  | .func f, .func g => Nat.beq f g
  | _, _ => false

/-- 'x' says no more under the new numbering than 'y' under the old one -/
def simStep (π : PT) (ih : AV → AV → Bool) (x y : AV) : Bool :=
  match x, y with
  | .bool a, .bool b => eqB a b
  | .i64 a, .i64 b => eqI a b
  | .int k a, .int k' b => eqKind k k' && eqI a b
  | .str a, .str b => eqStr a b
  | .ptr a b, .ptr a' b' => simB π a a' && Nat.beq b b'
  | .nilptr, .nilptr => true
  | .slice a b c d, .slice a' b' c' d' => simB π a a' && (Nat.beq b b' && (Nat.beq c c' && Nat.beq d d'))
  | .gslice a b c d, .gslice a' b' c' d' => simB π a a' && (Nat.beq b b' && (Nat.beq c c' && Nat.beq d d'))
  | .nilslice, .nilslice => true
  | .map a, .map b => simB π a b
  | .nilmap, .nilmap => true
  | .func f a c, .func f' a' c' => simFn f f' && (eqList ih a a' && eqList ih c c')
  | .nilfunc, .nilfunc => true
  | .iface t v, .iface t' v' => Nat.beq t t' && ih v v'
  | .niliface, .niliface => true
  | .agg l, .agg l' => eqList ih l l'
  | .tuple l, .tuple l' => eqList ih l l'
  | .sint k e lo hi, .sint k' e' lo' hi' => eqKind k k' && (eqX e e' && (!ltI lo' lo && !ltI hi hi'))
  | .sstr i lo hi, .sstr j lo' hi' => Nat.beq i j && (Nat.ble lo lo' && Nat.ble hi' hi)
  | .oslice i, .oslice j => Nat.beq i j
  | .opq i, .opq j => eqQ i j
  | .uslice a b c d e, .uslice a' b' c' d' e' => Nat.beq a a' && (Nat.ble d d' && (Nat.ble e' e && (Nat.beq d 0 || (simB π b b' && Nat.beq c c'))))
  | _, _ => false

def simAV (π : PT) (n : Nat) : AV → AV → Bool := Nat.rec (motive := fun _ => AV → AV → Bool) (fun _ _ => false) (fun _ ih => simStep π ih) n

theorem eqB_same {a b : Bool} (h : eqB a b = true) : a = b := by cases a <;> cases b <;> first | rfl | cases h

section
variable {Y : Sy} {ρ ρ' : Rho} {π : PT}

theorem simL_ok {f : AV → AV → Bool} (ih : ∀ x y c, f x y = true → conc Y ρ y = some c → conc Y ρ' x = some c) : ∀ {l m : List AV} {cs : List Value}, eqList f l m = true → concs Y ρ m = some cs → concs Y ρ' l = some cs
  | [], [], _, _, hc => hc
  | a :: x, b :: y, cs, h, hc => by
    simp only [eqList] at h
    cases hab : f a b with
    | false => rw [hab] at h; cases h
    | true =>
      rw [hab] at h
      obtain ⟨cv, cr, h1, h2, rfl⟩ := concs_cons.1 hc
      exact concs_cons.2 ⟨cv, cr, ih _ _ _ hab h1, simL_ok ih h h2, rfl⟩
  | [], _ :: _, _, h, _ => by cases h
  | _ :: _, [], _, h, _ => by cases h

theorem simStep_cell {f : AV → AV → Bool} {x y : AV} (h : simStep π f x y = true) : isCell x = isCell y := by
  unfold simStep at h
  split at h <;> first | rfl | cases h

theorem simAV_cell : ∀ {n : Nat} {x y : AV}, simAV π n x y = true → isCell x = isCell y
  | 0, _, _, h => by cases h
  | _ + 1, _, _, h => simStep_cell h

theorem simL_cells {f : AV → AV → Bool} (hf : ∀ x y, f x y = true → isCell x = isCell y) : ∀ {l m : List AV}, eqList f l m = true → l.all isCell = m.all isCell
  | [], [], _ => rfl
  | a :: x, b :: y, h => by
    simp only [eqList] at h
    cases hab : f a b with
    | false => rw [hab] at h; cases h
    | true => rw [hab] at h; rw [List.all_cons, List.all_cons, hf a b hab, simL_cells hf h]
  | [], _ :: _, h => by cases h
  | _ :: _, [], h => by cases h

theorem sim_ok (hρ : ∀ a b L, simB π a b = true → ρ b = some L → ρ' a = some L) : ∀ (n : Nat) (x y : AV) (c : Value), simAV π n x y = true → conc Y ρ y = some c → conc Y ρ' x = some c
  | 0, _, _, _, h, _ => by cases h
  | n + 1, x, y, c, h, hc => by
    have ih := sim_ok hρ n
    have h' : simStep π (simAV π n) x y = true := h
    unfold simStep at h'
    split at h'
    · rw [eqB_same h']; exact hc
    · rw [eqI_iff] at h'; rw [h']; exact hc
    · simp only [Bool.and_eq_true] at h'
      obtain ⟨h1, h2⟩ := h'
      rw [eqI_iff] at h2
      rw [eqKind_eq h1, h2]; exact hc
    · rw [eqStr_true h']; simpa only [conc] using hc
    · simp only [Bool.and_eq_true] at h'
      obtain ⟨L, hL, rfl⟩ := conc_ptr hc
      rw [Nat.eq_of_beq_eq_true h'.2]
      simp only [conc, hρ _ _ _ h'.1 hL]
      rfl
    · exact hc
    · simp only [Bool.and_eq_true] at h'
      obtain ⟨h1, h2, h3, h4⟩ := h'
      obtain ⟨L, hL, rfl⟩ := conc_slice hc
      rw [Nat.eq_of_beq_eq_true h2, Nat.eq_of_beq_eq_true h3, Nat.eq_of_beq_eq_true h4]
      simp only [conc, hρ _ _ _ h1 hL]
      rfl
    · simp only [Bool.and_eq_true] at h'
      obtain ⟨h1, h2, h3, h4⟩ := h'
      obtain ⟨L, hL, rfl, hle⟩ := conc_gslice' hc
      rw [Nat.eq_of_beq_eq_true h2, Nat.eq_of_beq_eq_true h3, Nat.eq_of_beq_eq_true h4]
      exact conc_of_gslice (hρ _ _ _ h1 hL) hle
    · exact hc
    · obtain ⟨L, hL, rfl⟩ := conc_map hc
      simp only [conc, hρ _ _ _ h' hL]
      rfl
    · exact hc
    · simp only [Bool.and_eq_true] at h'
      obtain ⟨h1, h2, h3⟩ := h'
      rename_i f a c0 f' a' c0'
      simp only [conc] at hc ⊢
      split at hc
      · rename_i g ca cc e1 e2 e3
        rw [simL_ok ih h2 e2, simL_ok ih h3 e3]
        unfold simFn at h1
        split at h1
        · rw [Nat.eq_of_beq_eq_true h1]
          have : g = .func _ := (Option.some.inj e1).symm
          subst this
          exact hc
        · cases h1
      · cases hc
    · exact hc
    · simp only [Bool.and_eq_true] at h'
      obtain ⟨cv, h1, rfl⟩ := conc_iface hc
      rw [Nat.eq_of_beq_eq_true h'.1]
      simp only [conc, ih _ _ _ h'.2 h1]
    · exact hc
    · rename_i l l'
      simp only [conc] at hc ⊢
      rw [simL_cells (fun _ _ h => simAV_cell h) h']
      split at hc
      · rename_i h0
        rw [if_pos h0]
        split at hc
        · rename_i cs h1
          rw [simL_ok ih h' h1]
          exact hc
        · cases hc
      · cases hc
    · simp only [conc] at hc ⊢
      split at hc
      · rename_i cs h1
        rw [simL_ok ih h' h1]
        exact hc
      · cases hc
    · simp only [Bool.and_eq_true, Bool.not_eq_true'] at h'
      obtain ⟨h1, h2, h3, h4⟩ := h'
      rw [ltI_not] at h3 h4
      rw [eqKind_eq h1, eqX_eq h2]
      simp only [conc] at hc ⊢
      split at hc
      · rename_i h5
        rw [if_pos ⟨by omega, by omega⟩]
        exact hc
      · cases hc
    · simp only [Bool.and_eq_true] at h'
      obtain ⟨h1, h2, h3⟩ := h'
      have h2 := Nat.le_of_ble_eq_true h2
      have h3 := Nat.le_of_ble_eq_true h3
      rw [Nat.eq_of_beq_eq_true h1]
      simp only [conc] at hc ⊢
      split at hc
      · rename_i h5
        rw [if_pos ⟨by omega, by omega, h5.2.2⟩]
        exact hc
      · cases hc
    · rw [Nat.eq_of_beq_eq_true h']; simpa only [conc] using hc
    · rw [eqQ_eq h']; simpa only [conc] using hc
    · simp only [Bool.and_eq_true, Bool.or_eq_true] at h'
      obtain ⟨h1, h2, h3, h4⟩ := h'
      have h2 := Nat.le_of_ble_eq_true h2
      have h3 := Nat.le_of_ble_eq_true h3
      rw [Nat.eq_of_beq_eq_true h1]
      obtain ⟨rfl, g1, g2, g3⟩ := conc_uslice hc
      simp only [conc]
      rw [if_pos ⟨by omega, by omega⟩]
      split
      · rfl
      · rename_i h5
        rcases h4 with h4 | ⟨h4, h6⟩
        · exact absurd (Nat.eq_of_beq_eq_true h4) h5
        · obtain ⟨L, hL, e1, e2, e3⟩ := g3 (by omega)
          rw [hρ _ _ _ h4 hL, Nat.eq_of_beq_eq_true h6]
          simp only [Option.bind_some]
          rw [if_pos ⟨e1, e2, e3⟩]
    · cases h'

end

/-! ### Heads -/
inductive HO where
  | row (vs : List AV) (gs : Nat)
  | map (es : List AEnt) (clock : Nat)
  | held (vs : List AV)

def HO.obj : HO → AObj
  | .row vs gs => rowObj vs gs
  | .map es c => .map es c
  | .held vs => .held (ofListV vs) vs.length false

structure Hd where
  tm : List (Nat × AV)
  ents : List (Nat × HO)
  next : Nat
  prot : List Nat

def putVs (l : List (Nat × AV)) : T AV → T AV := List.rec (motive := fun _ => T AV → T AV) (fun t => t) (fun p _ ih t => ih (putV t p.1 p.2)) l

def Hd.tmT (s : Hd) : T AV := putVs s.tm .nil
def objsOf (l : List (Nat × HO)) : List (Nat × AObj) := l.map fun p => (p.1, p.2.obj)
def Hd.heap (s : Hd) : H := ⟨putAll (objsOf s.ents) .nil, s.next, [], s.prot⟩

def fitRow (π : PT) (c : T AV) : List AV → Nat → Bool
  | [], _ => true
  | v :: r, i => match getV c i with
    | some u => (match simAV π 8 v u with | true => fitRow π c r (Nat.succ i) | false => false)
    | none => false

def simEnt (π : PT) (a b : AEnt) : Bool := simAV π 8 a.key b.key && (simAV π 8 a.val b.val && Nat.beq a.born b.born)

def fitO (π : PT) (x : HO) (o : AObj) : Bool :=
  match x, o with
  | .row vs gs, .cells c n gs' => Nat.beq gs gs' && (Nat.ble vs.length n && fitRow π c vs 0)
  | .map es cl, .map es' cl' => Nat.beq cl cl' && eqList (simEnt π) es es'
  | _, _ => false

def fitEnts (π ι : PT) (h : H) (prot : List Nat) : List (Nat × HO) → Bool
  | [] => true
  | (b', x) :: r =>
    match π.get b' with
    | none => false
    | some b =>
      match h.get b, ι.get b with
      | some o, some c =>
        (match Nat.beq c b', fitO π x o, (match memN h.prot b with | true => memN prot b' | false => true) with
         | true, true, true => fitEnts π ι h prot r
         | _, _, _ => false)
      | _, _ => false

def fitTm (π : PT) (live : Nat) (tm' tm : T AV) : Nat → Bool
  | 0 => true
  | t + 1 => (match Nat.testBit live t with
    | true => (match simAV π 8 (tget tm' t) (tget tm t) with | true => fitTm π live tm' tm t | false => false)
    | false => fitTm π live tm' tm t)

def putPs (l : List (Nat × Nat)) : PT := List.rec (motive := fun _ => PT) .nil (fun p _ ih => T.put ih p.1 p.2) l
def swapPs (l : List (Nat × Nat)) : List (Nat × Nat) := l.map fun p => (p.2, p.1)

/-- which block is which -/
def pairL (f : AV → AV → List (Nat × Nat) → List (Nat × Nat)) : List AV → List AV → List (Nat × Nat) → List (Nat × Nat)
  | a :: x, b :: y, acc => pairL f x y (f a b acc)
  | _, _, acc => acc

def pairStep (ih : AV → AV → List (Nat × Nat) → List (Nat × Nat)) (x y : AV) (acc : List (Nat × Nat)) : List (Nat × Nat) :=
  match x, y with
  | .ptr a _, .ptr b _ => (a, b) :: acc
  | .slice a _ _ _, .slice b _ _ _ => (a, b) :: acc
  | .gslice a _ _ _, .gslice b _ _ _ => (a, b) :: acc
  | .map a, .map b => (a, b) :: acc
  | .uslice _ a _ _ _, .uslice _ b _ _ _ => (a, b) :: acc
  | .func _ a c, .func _ a' c' => pairL ih a a' (pairL ih c c' acc)
  | .iface _ v, .iface _ u => ih v u acc
  | .agg l, .agg l' => pairL ih l l' acc
  | .tuple l, .tuple l' => pairL ih l l' acc
  | _, _ => acc

def pairAV (n : Nat) : AV → AV → List (Nat × Nat) → List (Nat × Nat) := Nat.rec (motive := fun _ => AV → AV → List (Nat × Nat) → List (Nat × Nat)) (fun _ _ acc => acc) (fun _ ih => pairStep ih) n

def pairRow (c : T AV) : List AV → Nat → List (Nat × Nat) → List (Nat × Nat)
  | [], _, acc => acc
  | v :: r, i, acc => match getV c i with
    | some u => pairRow c r (Nat.succ i) (pairAV 8 v u acc)
    | none => acc

def pairEnts : List AEnt → List AEnt → List (Nat × Nat) → List (Nat × Nat)
  | a :: x, b :: y, acc => pairEnts x y (pairAV 8 a.key b.key (pairAV 8 a.val b.val acc))
  | _, _, acc => acc

def pairO (x : HO) (o : AObj) (acc : List (Nat × Nat)) : List (Nat × Nat) :=
  match x, o with
  | .row vs _, .cells c _ _ => pairRow c vs 0 acc
  | .map es _, .map es' _ => pairEnts es es' acc
  | _, _ => acc

def forceP (l : List (Nat × Nat)) (k : List (Nat × Nat) → Bool) : Bool :=
  List.rec (motive := fun _ => (List (Nat × Nat) → Bool) → Bool) (fun k => k []) (fun p _ ih k => forceN p.1 fun a => forceN p.2 fun b => ih fun r => k ((a, b) :: r)) l k

/-- from what is to be looked at to all pairs ('hs': the head's blocks) -/
def pairAll (hs : T HO) (h : H) : Nat → List (Nat × Nat) → PT → List (Nat × Nat) → (List (Nat × Nat) → Bool) → Bool
  | 0, _, _, acc, k => k acc
  | _ + 1, [], _, acc, k => k acc
  | f + 1, (a, b) :: wk, seen, acc, k =>
    match seen.get a with
    | some _ => pairAll hs h f wk seen acc k
    | none =>
      match hs.get a, h.get b with
      | some x, some o => forceP (pairO x o []) fun more => pairAll hs h f (more ++ wk) (seen.put a b) ((a, b) :: acc) k
      | _, _ => pairAll hs h f wk seen acc k

def tmPairs (live : Nat) (tm' tm : T AV) : Nat → List (Nat × Nat) → List (Nat × Nat)
  | 0, acc => acc
  | t + 1, acc => (match Nat.testBit live t with | true => tmPairs live tm' tm t (pairAV 8 (tget tm' t) (tget tm t) acc) | false => tmPairs live tm' tm t acc)

def putHs (l : List (Nat × HO)) : T HO := List.rec (motive := fun _ => T HO) .nil (fun p _ ih => T.put ih p.1 p.2) l

/-- with these pairs -/
def fitWith (live K : Nat) (s : Hd) (tm : T AV) (h : H) (ps : List (Nat × Nat)) : Bool :=
  match ps.all (fun p => Nat.blt p.1 s.next), Nat.blt live (Nat.pow 2 K), fitTm (putPs ps) live s.tmT tm K with
  | true, true, true => fitEnts (putPs ps) (putPs (swapPs ps)) h s.prot s.ents
  | _, _, _ => false

/-- a frame and a heap fit a head -/
def fit (live K : Nat) (s : Hd) : KT := fun tm df h =>
  match df with
  | [] => forceP (tmPairs live s.tmT tm K []) fun wk => pairAll (putHs s.ents) h 100000 wk .nil [] fun ps => fitWith live K s tm h ps
  | _ => false

def fitAny (live K : Nat) (l : List Hd) : KT := fun tm df h => l.any fun s => fit live K s tm df h

theorem forceP_eq (k : List (Nat × Nat) → Bool) (l : List (Nat × Nat)) : forceP l k = k l := by
  induction l generalizing k with
  | nil => rfl
  | cons p r ih =>
    have e : forceP (p :: r) k = forceN p.1 fun a => forceN p.2 fun b => forceP r fun r => k ((a, b) :: r) := rfl
    rw [e, forceN_eq, forceN_eq, ih]

theorem pairAll_ex {hs : T HO} {h : H} {k : List (Nat × Nat) → Bool} : ∀ (f : Nat) (wk : List (Nat × Nat)) (seen : PT) (acc : List (Nat × Nat)), pairAll hs h f wk seen acc k = true → ∃ ps, k ps = true
  | 0, _, _, acc, hk => ⟨acc, hk⟩
  | _ + 1, [], _, acc, hk => ⟨acc, hk⟩
  | f + 1, (a, b) :: wk, seen, acc, hk => by
    simp only [pairAll] at hk
    split at hk
    · exact pairAll_ex f _ _ _ hk
    · split at hk
      · rw [forceP_eq] at hk
        exact pairAll_ex f _ _ _ hk
      · exact pairAll_ex f _ _ _ hk

theorem putPs_mem {a b : Nat} : ∀ {l : List (Nat × Nat)}, (putPs l).get a = some b → (a, b) ∈ l
  | [], h => by cases h
  | p :: r, h => by
    have e : putPs (p :: r) = (putPs r).put p.1 p.2 := rfl
    rw [e, T.get_put] at h
    split at h
    · rename_i h1
      cases h
      rw [h1]
      simp
    · exact List.mem_cons_of_mem _ (putPs_mem h)

section
variable {Y : Sy} {E : Env} {ρ : Rho} {h : H} {w : World}

theorem fitRow_ok {π : PT} {c : T AV} : ∀ {vs : List AV} {i : Nat}, fitRow π c vs i = true → ∀ j v, vs[j]? = some v → ∃ u, getV c (i + j) = some u ∧ simAV π 8 v u = true
  | [], _, _, j, v, hv => by simp at hv
  | x :: r, i, h, j, v, hv => by
    simp only [fitRow] at h
    split at h
    · rename_i u hu
      split at h
      · rename_i hs
        cases j with
        | zero => simp at hv; subst hv; exact ⟨u, hu, hs⟩
        | succ j =>
          obtain ⟨u', h1, h2⟩ := fitRow_ok h j v (by simpa using hv)
          exact ⟨u', by rw [← h1]; congr 1; omega, h2⟩
      · cases h
    · cases h

theorem fitEnts_mem {π ι : PT} {prot : List Nat} : ∀ {l : List (Nat × HO)}, fitEnts π ι h prot l = true → ∀ b' x, (b', x) ∈ l →
    ∃ b o, π.get b' = some b ∧ h.get b = some o ∧ ι.get b = some b' ∧ fitO π x o = true ∧ (memN h.prot b = true → memN prot b' = true)
  | [], _, _, _, hm => by cases hm
  | (c', y) :: r, hf, b', x, hm => by
    simp only [fitEnts] at hf
    split at hf
    · cases hf
    · rename_i b hb
      split at hf
      · rename_i o c ho hc
        split at hf
        · rename_i h1 h2 h3
          rcases List.mem_cons.1 hm with e | hm
          · cases e
            refine ⟨b, o, hb, ho, by rw [hc, Nat.eq_of_beq_eq_true h1], h2, fun hp => ?_⟩
            rw [hp] at h3
            exact h3
          · exact fitEnts_mem hf b' x hm
        · cases hf
      · cases hf

theorem fitTm_ok {π : PT} {live : Nat} {tm' tm : T AV} : ∀ {K : Nat}, fitTm π live tm' tm K = true → ∀ t, t < K → Nat.testBit live t = true → simAV π 8 (tget tm' t) (tget tm t) = true
  | 0, _, t, ht, _ => absurd ht (Nat.not_lt_zero _)
  | K + 1, h, t, ht, hb => by
    simp only [fitTm] at h
    by_cases e : t = K
    · subst e
      rw [hb] at h
      dsimp only at h
      split at h
      · assumption
      · cases h
    · have hlt : t < K := by omega
      split at h
      · split at h
        · exact fitTm_ok h t hlt hb
        · cases h
      · exact fitTm_ok h t hlt hb

theorem simEnts_ok {ρ' : Rho} {π : PT} (hρ : ∀ a b L, simB π a b = true → ρ b = some L → ρ' a = some L) : ∀ {es es' : List AEnt} {l : List MapEntry}, eqList (simEnt π) es es' = true → EntRel Y ρ es' l → EntRel Y ρ' es l
  | [], [], l, _, h => by cases l <;> exact h
  | a :: x, b :: y, l, hs, hr => by
    simp only [eqList] at hs
    cases hab : simEnt π a b with
    | false => rw [hab] at hs; cases hs
    | true =>
      rw [hab] at hs
      unfold simEnt at hab
      simp only [Bool.and_eq_true] at hab
      obtain ⟨h1, h2, h3⟩ := hab
      cases l with
      | nil => exact hr.elim
      | cons e s =>
        obtain ⟨k1, k2, k3, k4⟩ := hr
        exact ⟨sim_ok hρ _ _ _ _ h1 k1, sim_ok hρ _ _ _ _ h2 k2, by rw [Nat.eq_of_beq_eq_true h3]; exact k3, simEnts_ok hρ hs k4⟩
  | [], _ :: _, _, h, _ => by cases h
  | _ :: _, [], _, h, _ => by cases h

theorem fitO_ok {ρ' : Rho} {π : PT} (hρ : ∀ a b L, simB π a b = true → ρ b = some L → ρ' a = some L) {x : HO} {o : AObj} {L : Loc} {ob : Obj} (hf : fitO π x o = true) (ho : ORel Y E ρ L o ob) : o.alive = true ∧ ORel Y E ρ' L x.obj ob := by
  unfold fitO at hf
  split at hf
  · rename_i vs gs c n gs'
    simp only [Bool.and_eq_true] at hf
    obtain ⟨h1, h2, h3⟩ := hf
    have h1 := Nat.eq_of_beq_eq_true h1
    have h2 := Nat.le_of_ble_eq_true h2
    subst h1
    obtain ⟨arr, elem, rfl, k1, k2, k3⟩ := ho
    refine ⟨rfl, ?_⟩
    have e : (HO.row vs gs).obj = .cells (ofListV vs) vs.length gs := by
      show rowObj vs gs = _
      unfold rowObj
      rw [forceN_eq]
    rw [e]
    refine ⟨arr, elem, rfl, by omega, fun hg => ⟨Nat.le_trans h2 (k2 hg).1, (k2 hg).2⟩, fun i v hv => ?_⟩
    rw [get_ofListV] at hv
    have hi : i < vs.length := by
      rcases Nat.lt_or_ge i vs.length with h | h
      · exact h
      · rw [List.getElem?_eq_none h] at hv; cases hv
    obtain ⟨u, g1, g2⟩ := fitRow_ok h3 i v hv
    rw [Nat.zero_add] at g1
    obtain ⟨_, q2, cv, q3, q4⟩ := k3 i u g1
    exact ⟨hi, by rw [simAV_cell g2]; exact q2, cv, sim_ok hρ _ _ _ _ g2 q3, q4⟩
  · simp only [Bool.and_eq_true] at hf
    obtain ⟨l, rfl, k1⟩ := ho
    refine ⟨rfl, ?_⟩
    rw [← Nat.eq_of_beq_eq_true hf.1]
    exact ⟨l, rfl, simEnts_ok hρ hf.2 k1⟩
  · cases hf

/-- a frame and a heap that fit a head are as it says -/
theorem fit_ok {L : Lv} {nt K : Nat} {s : Hd} {tm : T AV} {df : List ADef} {a : Act} (hf : fit L.live K s tm df h = true) (hr : Rel Y E ρ h w) (hfr : FR Y ρ L nt tm df a) :
    ∃ ρ', Rel Y E ρ' s.heap w ∧ FR Y ρ' L nt s.tmT [] a ∧ ∀ b o M, s.heap.get b = some o → wr s.heap b o = true → ρ' b = some M → ∃ c p, h.get c = some p ∧ wr h c p = true ∧ ρ c = some M := by
  unfold fit at hf
  split at hf
  · rw [forceP_eq] at hf
    obtain ⟨ps, hps⟩ := pairAll_ex _ _ _ _ hf
    unfold fitWith at hps
    split at hps
    · rename_i h1 h2 h3
      let π := putPs ps
      let ρ' : Rho := fun b => (π.get b).bind ρ
      have hρ : ∀ a b L, simB π a b = true → ρ b = some L → ρ' a = some L := by
        intro a b L hs hL
        unfold simB at hs
        show (π.get a).bind ρ = some L
        split at hs
        · rename_i x hx
          rw [hx, Nat.eq_of_beq_eq_true hs]
          exact hL
        · cases hs
      have hget : ∀ b o, s.heap.get b = some o → ∃ x, (b, x) ∈ s.ents ∧ o = x.obj := by
        intro b o hb
        unfold Hd.heap at hb
        rw [H.get_bare] at hb
        rcases get_putAll (b := b) (objsOf s.ents) with ⟨_, o', ho', h2⟩ | ⟨_, h2⟩
        · rw [h2] at hb
          cases hb
          obtain ⟨p, hp, e⟩ := List.mem_map.1 ho'
          cases e
          exact ⟨p.2, hp, rfl⟩
        · rw [h2] at hb
          cases hb
      have hall : ∀ b o, s.heap.get b = some o → ∃ c p x, π.get b = some c ∧ h.get c = some p ∧ (putPs (swapPs ps)).get c = some b ∧ fitO π x p = true ∧ o = x.obj ∧ (memN h.prot c = true → memN s.prot b = true) := by
        intro b o hb
        obtain ⟨x, hx, rfl⟩ := hget b o hb
        obtain ⟨c, p, g1, g2, g3, g4, g5⟩ := fitEnts_mem hps b x hx
        exact ⟨c, p, x, g1, g2, g3, g4, rfl, g5⟩
      have halive : ∀ {x : HO} {p : AObj}, fitO π x p = true → p.alive = true := by
        intro x p hx
        unfold fitO at hx
        split at hx <;> first | rfl | cases hx
      refine ⟨ρ', ⟨?_, ?_, ?_, ?_⟩, ⟨?_, hfr.size, ?_⟩, ?_⟩
      · intro b o hb _
        obtain ⟨c, p, x, g1, g2, g3, g4, rfl, _⟩ := hall b o hb
        obtain ⟨M, ob, k1, k2, k3⟩ := hr.obj c p g2 (halive g4)
        refine ⟨M, ob, ?_, k2, (fitO_ok hρ g4 k3).2⟩
        show (π.get b).bind ρ = some M
        rw [g1]
        exact k1
      · intro b b2 o o2 M N hb hb2 _ _ hM hN e
        obtain ⟨c, p, x, g1, g2, g3, g4, _, _⟩ := hall b o hb
        obtain ⟨c2, p2, x2, q1, q2, q3, q4, _, _⟩ := hall b2 o2 hb2
        have hM' : (π.get b).bind ρ = some M := hM
        have hN' : (π.get b2).bind ρ = some N := hN
        rw [g1] at hM'
        rw [q1] at hN'
        have := hr.inj c c2 p p2 M N g2 q2 (halive g4) (halive q4) hM' hN' e
        subst this
        rw [g3] at q3
        exact Option.some.inj q3
      · intro b hb
        show (π.get b).bind ρ = none
        cases hp : π.get b with
        | none => rfl
        | some c =>
          have hm := putPs_mem hp
          rw [List.all_eq_true] at h1
          have := (blt_iff _ _).1 (h1 _ hm)
          have hb' : s.next ≤ b := hb
          exact absurd this (by dsimp only; omega)
      · intro b M hM
        have hM' : (π.get b).bind ρ = some M := hM
        rw [Option.bind_eq_some_iff] at hM'
        obtain ⟨c, _, hc⟩ := hM'
        exact hr.bound c M hc
      · intro t ht
        have hK : t < K := by
          rcases Nat.lt_or_ge t K with h | h
          · exact h
          · have hlt := (blt_iff _ _).1 h2
            have : Nat.testBit L.live t = false := Nat.testBit_lt_two_pow (Nat.lt_of_lt_of_le hlt (Nat.pow_le_pow_right (by omega) h))
            rw [this] at ht
            cases ht
        exact sim_ok hρ _ _ _ _ (fitTm_ok h3 t hK ht) (hfr.tmps t ht)
      · exact (by
          have := hfr.defs
          cases hde : a.defers with
          | nil => trivial
          | cons x y => rw [hde] at this; exact this.elim)
      · intro b o M hb hw hM
        obtain ⟨c, p, x, g1, g2, g3, g4, rfl, g6⟩ := hall b o hb
        have hM' : (π.get b).bind ρ = some M := hM
        rw [g1] at hM'
        refine ⟨c, p, g2, wr_mk (halive g4) ?_, hM'⟩
        have hp := wr_prot hw
        cases hc : memN h.prot c with
        | false => rfl
        | true =>
          have := g6 hc
          have hp' : memN s.prot b = false := hp
          rw [this] at hp'
          cases hp'
    · cases hps
  · cases hf

/-! ### What was there before -/
/-- from w0 to w nothing was turned that was there; what may be written is new -/
structure Base (w0 : World) (ρ : Rho) (h : H) (w : World) : Prop where
  os : w.os = w0.os
  tape : w.tape = w0.tape
  output : w.output = w0.output
  size : w0.heap.size ≤ w.heap.size
  old : ∀ c, c < w0.heap.size → w.heap[c]? = w0.heap[c]?
  new : ∀ b o L, h.get b = some o → wr h b o = true → ρ b = some L → w0.heap.size ≤ L.blk

theorem Base.below {w0 : World} (hb : Base w0 ρ h w) : RowKit.Below w0.heap.size w0 w := ⟨hb.os, hb.tape, hb.output, hb.size, hb.old⟩

theorem Base.goes {w0 : World} {ρ' : Rho} {h' : H} {w' : World} (hb : Base w0 ρ h w) (hr : Rel Y E ρ h w) (g : Goes Y E ρ h w ρ' h' w') : Base w0 ρ' h' w' := by
  refine ⟨g.frm.os.trans hb.os, g.frm.tape.trans hb.tape, g.frm.output.trans hb.output, Nat.le_trans hb.size g.frm.size, fun c hc => ?_, fun b o L ho hw hL => ?_⟩
  · rw [g.frm.block c (Nat.lt_of_lt_of_le hc hb.size) fun b o L hbo hwo hL e => ?_, hb.old c hc]
    have := hb.new b o L hbo hwo hL
    omega
  · cases hρ : ρ b with
    | none =>
      rcases g.made b L hρ hL with h1 | ⟨c, p, M, h1, h2, h3, h4⟩
      · exact Nat.le_trans hb.size h1
      · have := hb.new c p M h1 h2 h3
        omega
    | some M =>
      have h1 : ρ' b = some M := g.le _ _ hρ
      rw [hL] at h1
      cases h1
      have hlt : b < h.next := by
        rcases Nat.lt_or_ge b h.next with h2 | h2
        · exact h2
        · rw [hr.fresh b h2] at hρ; cases hρ
      obtain ⟨o₀, h0, a0⟩ := g.keeps.old b o hlt ho (wr_alive hw)
      exact hb.new b o₀ L h0 (wr_mk a0 (by rw [← g.keeps.prot]; exact wr_prot hw)) hρ

theorem Base.fit {w0 : World} {ρ' : Rho} {h' : H} (hb : Base w0 ρ h w) (hf : ∀ b o M, h'.get b = some o → wr h' b o = true → ρ' b = some M → ∃ c p, h.get c = some p ∧ wr h c p = true ∧ ρ c = some M) : Base w0 ρ' h' w :=
  ⟨hb.os, hb.tape, hb.output, hb.size, hb.old, fun b o L h1 h2 h3 => let ⟨c, p, k1, k2, k3⟩ := hf b o L h1 h2 h3; hb.new c p L k1 k2 k3⟩

/-- a frame and the world are as this heap and these temporaries say; k holds of them -/
def LeavesB (Y : Sy) (E : Env) (w0 : World) (L : Lv) (nt : Nat) (k : KT) (a : Act) (w : World) : Prop := ∃ ρ h tm df, Rel Y E ρ h w ∧ FR Y ρ L nt tm df a ∧ Base w0 ρ h w ∧ k tm df h = true

/-- at a head -/
def At (Y : Sy) (E : Env) (w0 : World) (L : Lv) (nt : Nat) (s : Hd) (a : Act) (w : World) : Prop := ∃ ρ, Rel Y E ρ s.heap w ∧ FR Y ρ L nt s.tmT [] a ∧ Base w0 ρ s.heap w

def PostB (Y : Sy) (E : Env) (w0 : World) (L : Lv) (nt : Nat) (kn : KT) (ke : Nat → KT) (kr : KT) : Exit → Act → World → Prop
  | .normal, a, w => LeavesB Y E w0 L nt kn a w
  | .exit id, a, w => LeavesB Y E w0 L nt (ke id) a w
  | .ret, a, w => LeavesB Y E w0 L nt kr a w
  | _, _, _ => False

/-- a head that is fitted is reached -/
theorem LeavesB.at_ {w0 : World} {L : Lv} {nt K : Nat} {s : Hd} {a : Act} (h : LeavesB Y E w0 L nt (fit L.live K s) a w) : At Y E w0 L nt s a w := by
  obtain ⟨ρ, h, tm, df, h1, h2, h3, h4⟩ := h
  obtain ⟨ρ', k1, k2, k3⟩ := fit_ok h4 h1 h2
  exact ⟨ρ', k1, k2, h3.fit k3⟩

theorem LeavesB.any {w0 : World} {L : Lv} {nt K : Nat} {l : List Hd} {a : Act} (h : LeavesB Y E w0 L nt (fitAny L.live K l) a w) : ∃ s ∈ l, At Y E w0 L nt s a w := by
  obtain ⟨ρ, h, tm, df, h1, h2, h3, h4⟩ := h
  unfold fitAny at h4
  rw [List.any_eq_true] at h4
  obtain ⟨s, hs, h4⟩ := h4
  exact ⟨s, hs, LeavesB.at_ ⟨ρ, h, tm, df, h1, h2, h3, h4⟩⟩

/-- a piece of code, from a state on from which its run goes through -/
theorem stepB (hng : E.ng = 0) {w0 : World} {L : Lv} {nt n : Nat} {c : Code} {K : KC} (hc : CodeOk Y E L nt c K) {rc : Rec} (hrc : RecOk Y E rc) {a : Act} {kn kr : KT} {ke : Nat → KT}
    (hat : LeavesB Y E w0 L nt (fun tm df h => K.run rc none tm df h kn ke kr) a w) : c.wpIn (fence none) n E.P (PostB Y E w0 L nt kn ke kr) a w := by
  obtain ⟨ρ, h, tm, df, h1, h2, h3, hk⟩ := hat
  have hg : Glob E ρ := fun g h => by rw [hng] at h; exact absurd h (Nat.not_lt_zero _)
  refine wpIn_mono (hc rc none none ρ h w a tm df kn ke kr n hrc h1 hg trivial h2 hk) fun e a' w' hq => ?_
  have fin : ∀ k : KT, Leaves Y E ρ h w L nt k a' w' → LeavesB Y E w0 L nt k a' w' := fun k ⟨ρ', h', tm, df, g, f, hk⟩ => ⟨ρ', h', tm, df, g.rel, f, h3.goes h1 g, hk⟩
  cases e with
  | normal => exact fin _ hq
  | exit id => exact fin _ hq
  | ret => exact fin _ hq
  | goto l => exact hq.elim
  | panic ch => exact hq.elim
  | outgrown => exact hq.elim

/-- from a head on -/
theorem step_ok (hng : E.ng = 0) {w0 : World} {L : Lv} {nt n : Nat} {c : Code} {K : KC} (hc : CodeOk Y E L nt c K) {rc : Rec} (hrc : RecOk Y E rc) {s : Hd} {a : Act} (hat : At Y E w0 L nt s a w) {kn kr : KT} {ke : Nat → KT}
    (hk : K.run rc none s.tmT [] s.heap kn ke kr = true) : c.wpIn (fence none) n E.P (PostB Y E w0 L nt kn ke kr) a w := by
  obtain ⟨ρ, h1, h2, h3⟩ := hat
  exact stepB hng hc hrc ⟨ρ, s.heap, s.tmT, [], h1, h2, h3, hk⟩

/-- a head, and beside it a row that was there before and is held fast: the beginning of a slice that lies in temporary t -/
def Hd.add (s : Hd) (t i lo hi : Nat) (vs : List AV) : Hd :=
  { tm := s.tm ++ [(t, .uslice i s.next 0 lo hi)], ents := s.ents ++ [(s.next, .held vs)], next := s.next + 1, prot := [s.next] }

theorem getV_putVs {t : Nat} {x : AV} : ∀ (l : List (Nat × AV)) (u : T AV) (m : Nat), getV (putVs (l ++ [(t, x)]) u) m = if m = t then some x else getV (putVs l u) m
  | [], u, m => by
    show getV (putV u t x) m = _
    rw [get_putV]
    rfl
  | p :: r, u, m => getV_putVs r (putV u p.1 p.2) m

theorem tget_add (s : Hd) (t i lo hi : Nat) (vs : List AV) (m : Nat) : tget (s.add t i lo hi vs).tmT m = if m = t then .uslice i s.next 0 lo hi else tget s.tmT m := by
  have e : getV (s.add t i lo hi vs).tmT m = if m = t then some (.uslice i s.next 0 lo hi) else getV s.tmT m := getV_putVs s.tm .nil m
  unfold tget
  rw [e]
  by_cases c : m = t
  · rw [if_pos c, if_pos c]
  · rw [if_neg c, if_neg c]

theorem putAll_append (x : Nat × AObj) : ∀ (l : List (Nat × AObj)) (u : T AObj), putAll (l ++ [x]) u = putO (putAll l u) x.1 x.2
  | [], _ => rfl
  | p :: r, u => putAll_append x r (putO u p.1 p.2)

theorem get_add (s : Hd) (t i lo hi : Nat) (vs : List AV) (b : Nat) : (s.add t i lo hi vs).heap.get b = if b = s.next then some (.held (ofListV vs) vs.length false) else s.heap.get b := by
  unfold Hd.heap
  rw [H.get_bare, H.get_bare]
  have e : objsOf (s.add t i lo hi vs).ents = objsOf s.ents ++ [(s.next, .held (ofListV vs) vs.length false)] := by
    show objsOf (s.ents ++ [(s.next, .held vs)]) = _
    unfold objsOf
    rw [List.map_append]
    rfl
  rw [e, putAll_append, get_putO]

theorem At.add {w0 : World} {L : Lv} {nt : Nat} {s : Hd} {a : Act} (hat : At Y E w0 L nt s a w) (hpr : s.prot = []) {t i b₀ o₀ hi₀ lo hi : Nat} (ht : tget s.tmT t = .uslice i b₀ o₀ 0 hi₀)
    {A : Addr} (hA : (Y.sls i).1 = some A) (hsp : A = ⟨A.block, A.off, none⟩) (hcap : (Y.sls i).2.1 ≤ (Y.sls i).2.2) (hlo : lo ≤ (Y.sls i).2.1) (hhi : (Y.sls i).2.1 ≤ hi)
    {arr : Array Value} {elem : TypeId} {fz : Nat × Nat} (hw0 : w0.heap[A.block]? = some (.cells arr elem fz)) {vs : List AV} (hsz : A.off + vs.length ≤ arr.size)
    (hvs : ∀ (j : Nat) v, vs[j]? = some v → isCell v = true ∧ ∃ cv, (∀ ρ, conc Y ρ v = some cv) ∧ arr[A.off + j]? = some cv) :
    At Y E w0 L nt (s.add t i lo hi vs) a w := by
  obtain ⟨ρ, hr, hf, hb⟩ := hat
  let M : Loc := ⟨A.block, A.off, (Y.sls i).2.2⟩
  let ρ' : Rho := fun b => if b = s.next then some M else ρ b
  have hnone : ρ s.next = none := hr.fresh s.next (Nat.le_refl _)
  have hle : ρ.le ρ' := fun b L hL => by
    show (if b = s.next then some M else ρ b) = some L
    split
    · rename_i e
      rw [e, hnone] at hL
      cases hL
    · exact hL
  have hA0 : A.block < w0.heap.size := by
    rcases Nat.lt_or_ge A.block w0.heap.size with h | h
    · exact h
    · rw [Array.getElem?_eq_none h] at hw0; cases hw0
  have hold : ∀ b o K, s.heap.get b = some o → o.alive = true → ρ b = some K → w0.heap.size ≤ K.blk := fun b o K h1 h2 h3 =>
    hb.new b o K h1 (wr_mk h2 (by show memN s.prot b = false; rw [hpr]; rfl)) h3
  refine ⟨ρ', ⟨?_, ?_, ?_, ?_⟩, ⟨?_, hf.size, ?_⟩, ⟨hb.os, hb.tape, hb.output, hb.size, hb.old, ?_⟩⟩
  · intro b o hbo ha
    rw [get_add] at hbo
    split at hbo
    · rename_i e
      cases hbo
      refine ⟨M, .cells arr elem fz, if_pos e, by rw [hb.old _ hA0]; exact hw0, ?_⟩
      refine ⟨arr, elem, fz, rfl, hsz, (fun h => by cases h), fun j v hv => ?_⟩
      rw [get_ofListV] at hv
      obtain ⟨h1, cv, h2, h3⟩ := hvs j v hv
      have hj : j < vs.length := by
        rcases Nat.lt_or_ge j vs.length with h | h
        · exact h
        · rw [List.getElem?_eq_none h] at hv; cases hv
      exact ⟨hj, h1, cv, h2 _, h3⟩
    · rename_i e
      obtain ⟨K, ob, h1, h2, h3⟩ := hr.obj b o hbo ha
      exact ⟨K, ob, hle _ _ h1, h2, h3.mono hle⟩
  · intro b c o p K N hbo hcp ha hp hK hN e
    rw [get_add] at hbo hcp
    have hK' : (if b = s.next then some M else ρ b) = some K := hK
    have hN' : (if c = s.next then some M else ρ c) = some N := hN
    split at hbo
    · rename_i e1
      rw [if_pos e1] at hK'
      split at hcp
      · rename_i e2
        rw [e1, e2]
      · rename_i e2
        rw [if_neg e2] at hN'
        have := hold c p N hcp hp hN'
        cases hK'
        have e' : A.block = N.blk := e
        omega
    · rename_i e1
      rw [if_neg e1] at hK'
      split at hcp
      · rename_i e2
        rw [if_pos e2] at hN'
        have := hold b o K hbo ha hK'
        cases hN'
        have e' : K.blk = A.block := e
        omega
      · rename_i e2
        rw [if_neg e2] at hN'
        exact hr.inj b c o p K N hbo hcp ha hp hK' hN' e
  · intro b hbn
    have hbn' : s.next + 1 ≤ b := hbn
    show (if b = s.next then some M else ρ b) = none
    rw [if_neg (by omega)]
    exact hr.fresh b (by show s.next ≤ b; omega)
  · intro b K hK
    have hK' : (if b = s.next then some M else ρ b) = some K := hK
    split at hK'
    · cases hK'
      exact Nat.lt_of_lt_of_le hA0 hb.size
    · exact hr.bound b K hK'
  · intro u hu
    have h0 := hf.tmps u hu
    rw [tget_add]
    split
    · rename_i e
      subst e
      rw [ht] at h0
      obtain ⟨h1, _⟩ := conc_uslice h0
      rw [h1]
      simp only [conc]
      rw [if_pos ⟨hlo, hhi⟩]
      split
      · rfl
      · show (if s.next = s.next then some M else ρ s.next).bind _ = _
        rw [if_pos rfl]
        simp only [Option.bind_some]
        rw [if_pos ⟨by rw [hA, hsp]; rfl, hcap, rfl⟩]
    · exact conc_mono hle h0
  · have := hf.defs
    cases hde : a.defers with
    | nil => trivial
    | cons x y => rw [hde] at this; exact this.elim
  · intro b o K hbo hw hK
    rw [get_add] at hbo
    have hK' : (if b = s.next then some M else ρ b) = some K := hK
    split at hbo
    · rename_i e
      have := wr_prot hw
      have h2 : memN [s.next] b = false := this
      rw [e] at h2
      have h3 : memN [s.next] s.next = true := (memN_iff _ _).2 (by simp)
      rw [h3] at h2
      cases h2
    · rename_i e
      rw [if_neg e] at hK'
      exact hold b o K hbo (wr_alive hw) hK'

/-- a loop, by a number that falls -/
theorem wpIn_loop_down {P : Program} {c : Code} {n : Nat} {Q : Exit → Act → World → Prop} {I : Nat → Act → World → Prop}
    (step : ∀ m a w, I m a w → c.wpIn (fence none) n P (fun e a' w' => match e with | .normal => ∃ m', m' < m ∧ I m' a' w' | e => Q e a' w') a w) :
    ∀ m a w, I m a w → (Code.loop c).wpIn (fence none) n P Q a w := by
  intro m a w hi b k cs hbro hb hroom
  have key : ∀ (m : Nat) (a : Act) (w : World), I m a w → ∃ e a' w', Q e a' w' ∧ ArrivesIn (Machine.fenced P (fence none)) P (lone (b.atR a (.code c :: .inLoop c :: k)) cs w) b k cs e a' w' := by
    intro m
    induction m using Nat.strongRecOn with
    | ind m ih =>
      intro a w hi
      obtain ⟨e, a₁, w₁, hq, harr⟩ := step m a w hi b (.inLoop c :: k) cs hbro hb hroom
      cases e with
      | normal =>
        obtain ⟨m', hlt, hi'⟩ := hq
        obtain ⟨e₂, a₂, w₂, hq₂, harr₂⟩ := ih m' hlt a₁ w₁ hi'
        exact ⟨e₂, a₂, w₂, hq₂, .of_steps (StepsIn.trans harr (.one (fenced_calm hb hroom rfl) stepR_inLoop)) harr₂⟩
      | exit id => exact ⟨.exit id, a₁, w₁, hq, .pass (x := .inLoop c) rfl (fun _ _ => .inl (by simp)) harr⟩
      | ret => exact ⟨.ret, a₁, w₁, hq, .pass (x := .inLoop c) rfl (fun _ _ => .inl (by simp)) harr⟩
      | goto l => exact ⟨.goto l, a₁, w₁, hq, .pass (x := .inLoop c) rfl (fun _ _ => .inl (by simp)) harr⟩
      | panic ch => exact ⟨.panic ch, a₁, w₁, hq, .pass (x := .inLoop c) rfl (fun _ _ => .inl (by simp)) harr⟩
      | outgrown => exact ⟨.outgrown, a₁, w₁, hq, .pass (x := .inLoop c) rfl (fun _ _ => .inl (by simp)) harr⟩
  obtain ⟨e, a', w', hq, harr⟩ := key m a w hi
  exact ⟨e, a', w', hq, .of_steps (.one (fenced_calm hb hroom rfl) stepR_loop) harr⟩

/-- the results of a frame with no deferred calls -/
def resK (E : Env) (fn : Func) (k : AV → Bool) : KT := fun tm df h =>
  match df with
  | [] => optK (resultsA E (lvOf E fn) h tm fn.results.toList) fun l => k (oneOr l)
  | _ => false

theorem resK_ok (hE : EnvOk Y E) {w0 : World} {fn : Func} {k : AV → Bool} {a : Act} (h : LeavesB Y E w0 (lvOf E fn) fn.ntmps (resK E fn k) a w) :
    a.defers = [] ∧ ∃ v av ρ, (results fn a.tmps).run E.P w = .ok v w ∧ conc Y ρ av = some v ∧ k av = true ∧ RowKit.Below w0.heap.size w0 w := by
  obtain ⟨ρ, h, tm, df, h1, h2, h3, h4⟩ := h
  unfold resK at h4
  split at h4
  · obtain ⟨l, hl, hk⟩ := optK_eq.1 h4
    obtain ⟨v, e1, e2⟩ := results_ok hE h1 h2.tmps hl
    refine ⟨?_, v, oneOr l, ρ, e1, e2, hk, h3.below⟩
    have := h2.defs
    cases hde : a.defers with
    | nil => rfl
    | cons x y => rw [hde] at this; exact this.elim
  · cases h4

/-- a call, out of its body -/
theorem calls_of_body {f : FuncId} {fn : Func} {c : Code} {cargs : List Value} {R : Ending → World → Prop} {n : Nat} (hE : EnvOk Y E) (hf : E.ft.get f = some fn) (hb : fn.body = some c)
    (hw : c.wpIn (fence none) n E.P (fun e a' w' => (e = .normal ∨ e = .ret) ∧ a'.defers = [] ∧ ∃ v, (results fn a'.tmps).run E.P w' = .ok v w' ∧ R (.returned v) w')
      { tmps := cargs.toArray ++ Array.replicate (fn.ntmps - cargs.toArray.size) undef, defers := [] } w) : CallsIn Fence.wide n E.P f cargs.toArray w R := by
  refine callsIn_of_wp_marks (F := fence none) (hE.ft f fn hf) hb trivial ?_
  refine wpIn_mono hw fun e a' w' hq => ?_
  obtain ⟨he, hd, v, e1, e2⟩ := hq
  rcases he with rfl | rfl
  · show LeavesInM (fence none) n E.P fn a'.tmps R a'.defers .returning w'
    rw [hd]
    exact ⟨v, e1, e2⟩
  · show LeavesInM (fence none) n E.P fn a'.tmps R a'.defers .returning w'
    rw [hd]
    exact ⟨v, e1, e2⟩

end
end
end Go.AE
