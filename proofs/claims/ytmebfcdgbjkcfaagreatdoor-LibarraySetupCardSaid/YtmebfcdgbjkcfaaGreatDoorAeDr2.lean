/-
  Regions that draw: small operations, hidden blocks.
-/
import Derived.Test.YtmebfcdgbjkcfaaGreatDoorAeDr1
namespace Go.AE

def kxs : K → List Operand
  | .p1 x _ => [x]
  | .p2 x y _ => [x, y]
  | .pn xs _ => xs
  | .r1 x _ => [x]
  | .r2 x y _ => [x, y]
  | .rn xs _ _ => xs
  | .a1 x _ => [x]
  | .an xs _ => xs
  | .b2 x y _ => [x, y]
  | .bn xs _ => xs
  | .df xs _ => xs
  | .bad => []

theorem snds_map (ps : List (Nat × Operand)) : snds ps = ps.map (·.2) := by
  induction ps with
  | nil => rfl
  | cons p r ih => obtain ⟨i, x⟩ := p; simp [snds, ih]

theorem kxs_call {E : Env} {c : Call} : ∀ x ∈ kxs (cCall E c), x ∈ c.operands.toList := by
  intro x hx
  unfold cCall at hx
  unfold Call.operands
  split at hx
  · rename_i b hb
    rw [hb]
    have : x ∈ c.args.toList := by
      unfold cBuiltin at hx
      split at hx <;> first | exact hx | (cases hx; done) | skip
      · split at hx
        · rename_i t ts y ys ht hy
          simp [kxs] at hx
          rw [hy, hx]
          simp
        · cases hx
      · split at hx
        · rename_i t ts y ys ht hy
          simp [kxs] at hx
          rw [hy, hx]
          simp
        · cases hx
      · split at hx
        · exact hx
        · cases hx
      · split at hx
        · exact hx
        · cases hx
    simpa using this
  · rename_i f hb
    rw [hb]
    simpa [kxs] using hx
  · rename_i r name hb
    rw [hb]
    simpa [kxs] using hx

theorem kxs_operands {E : Env} (op : Op) : ∀ x ∈ kxs (cOp E op), x ∈ op.operands.toList := by
  intro x hx
  cases op with
  | build t ps => simp only [cOp, kxs, snds_map] at hx; simpa [Op.operands] using hx
  | buildSlice t n ps => simp only [cOp, kxs, snds_map] at hx; simpa [Op.operands] using hx
  | makeFunc fn a c =>
    simp only [cOp] at hx
    split at hx
    · cases hx
    · simpa [Op.operands, kxs] using hx
  | makeMap t r =>
    cases r with
    | none => simp [cOp, kxs] at hx
    | some n => simpa [cOp, kxs, Op.operands] using hx
  | slice t y lo hi mx =>
    simp only [cOp, kxs] at hx
    have e : ∀ a : Option Operand, optL a = a.toArray.toList := fun a => by cases a <;> rfl
    rw [e, e, e] at hx
    simpa [Op.operands] using hx
  | call c => exact kxs_call x hx
  | alloc _ => simp [cOp, kxs] at hx
  | move _ => simpa [cOp, kxs, Op.operands] using hx
  | assign _ => simpa [cOp, kxs, Op.operands] using hx
  | pick _ _ _ => simpa [cOp, kxs, Op.operands] using hx
  | box _ _ => simpa [cOp, kxs, Op.operands] using hx
  | load _ _ => simpa [cOp, kxs, Op.operands] using hx
  | store _ _ _ => simpa [cOp, kxs, Op.operands] using hx
  | nilCheck _ => simpa [cOp, kxs, Op.operands] using hx
  | binOp _ _ _ _ _ => simpa [cOp, kxs, Op.operands] using hx
  | unOp _ _ _ => simpa [cOp, kxs, Op.operands] using hx
  | convert _ _ _ => simpa [cOp, kxs, Op.operands] using hx
  | makeInterface _ _ => simpa [cOp, kxs, Op.operands] using hx
  | makeSlice _ _ _ => simpa [cOp, kxs, Op.operands] using hx
  | fieldAddr _ _ _ => simpa [cOp, kxs, Op.operands] using hx
  | field _ _ _ => simpa [cOp, kxs, Op.operands] using hx
  | indexAddr _ _ _ => simpa [cOp, kxs, Op.operands] using hx
  | index _ _ _ => simpa [cOp, kxs, Op.operands] using hx
  | lookup _ _ _ _ => simpa [cOp, kxs, Op.operands] using hx
  | mapUpdate _ _ _ _ => simpa [cOp, kxs, Op.operands] using hx
  | insert _ _ _ _ => simpa [cOp, kxs, Op.operands] using hx
  | range _ _ => simpa [cOp, kxs, Op.operands] using hx
  | next _ _ => simpa [cOp, kxs, Op.operands] using hx
  | entry _ => simpa [cOp, kxs, Op.operands] using hx
  | typeAssert _ _ _ _ => simpa [cOp, kxs, Op.operands] using hx
  | extract _ _ => simpa [cOp, kxs, Op.operands] using hx
  | defer c =>
    cases hc : c.callee with
    | value f => simpa [cOp, kxs, Op.operands, Call.operands, hc] using hx
    | builtin b => simp [cOp, kxs, hc] at hx
    | invoke r name => simp [cOp, kxs, hc] at hx
  | _ => cases hx

theorem mem_opTmps : ∀ {l : List Operand} {t : Nat}, Operand.tmp t ∈ l → t ∈ opTmps l
  | [], _, h => by cases h
  | x :: r, t, h => by
    rcases List.mem_cons.1 h with h | h
    · subst h; simp [opTmps]
    · have := mem_opTmps h
      cases x <;> simp [opTmps, this]

theorem looks_operand {E : Env} {ops : List Oper} {o : Oper} {t : Nat} (h : Operand.tmp t ∈ kxs (cOp E o.op)) : t ∈ looks ops o := by
  unfold looks
  exact List.mem_append_left _ (mem_opTmps (kxs_operands o.op _ h))

theorem looks_guard {ops : List Oper} {o : Oper} {d : Tmp} {want : Bool} (h : guardOf ops o.guard = some (some (d, want))) : d ∈ looks ops o := by
  unfold guardOf at h
  unfold looks
  refine List.mem_append_right _ ?_
  cases hg : o.guard with
  | none => rw [hg] at h; cases h
  | some p =>
    obtain ⟨j, wn⟩ := p
    rw [hg] at h
    dsimp only at h
    rw [bnd_eq] at h
    obtain ⟨o', h1, h⟩ := h
    rw [bnd_eq] at h
    obtain ⟨d', h2, h⟩ := h
    cases h
    dsimp only
    rw [h1]
    dsimp only
    rw [h2]
    simp

/-! ### Small operations -/
inductive SRes where
  | val (v : AV)
  | read (bs : List Nat) (f : H → Option AV)
  | new (o : AObj) (mk : Nat → AV)

/-- what a small operation comes to, its operands looked up in 'pre' -/
def Small (L : Lv) (pre : List Rc) (tm : T AV) (k : K) (S : SRes) : Prop :=
  match k with
  | .p1 x g => ∃ X v, cX L (dsR pre) x = some X ∧ g (X tm (envR pre)) = some v ∧ S = .val v
  | .p2 x y g => ∃ X Z v, cX L (dsR pre) x = some X ∧ cX L (dsR pre) y = some Z ∧ g (X tm (envR pre)) (Z tm (envR pre)) = some v ∧ S = .val v
  | .pn xs g => ∃ X v, cXs L (dsR pre) xs = some X ∧ g (X tm (envR pre)) = some v ∧ S = .val v
  | .r1 x g => ∃ X, cX L (dsR pre) x = some X ∧ S = .read (blkOf (X tm (envR pre))) (g (X tm (envR pre)))
  | .r2 x y g => ∃ X Z, cX L (dsR pre) x = some X ∧ cX L (dsR pre) y = some Z ∧ S = .read (blkOf (X tm (envR pre))) (g (X tm (envR pre)) (Z tm (envR pre)))
  | .rn xs bk g => ∃ X, cXs L (dsR pre) xs = some X ∧ S = .read (bk (X tm (envR pre))) (g (X tm (envR pre)))
  | .a1 x g => ∃ X o, cX L (dsR pre) x = some X ∧ g (X tm (envR pre)) = some o ∧ S = .new o fun b => .ptr b 0
  | .an xs g => ∃ X p, cXs L (dsR pre) xs = some X ∧ g (X tm (envR pre)) = some p ∧ S = .new p.1 p.2
  | _ => False

section
variable {Y : Sy} {E : Env} {ρ : Rho} {h : H} {w : World}

theorem conc_blk {a : AV} {c : Value} (h : conc Y ρ a = some c) : ∀ b ∈ blkOf a, ∃ L, ρ b = some L := by
  intro b hb
  unfold blkOf at hb
  split at hb
  · simp at hb; subst hb; obtain ⟨L, hL, _⟩ := conc_ptr h; exact ⟨L, hL⟩
  · simp at hb; subst hb; obtain ⟨L, hL, _⟩ := conc_map h; exact ⟨L, hL⟩
  · cases hb

/-- what reads does so at its blocks alone -/
theorem Small.local_ (hE : EnvOk Y E) {L : Lv} {pre : List Rc} {tm : T AV} {o : Oper} {bs : List Nat} {f : H → Option AV} (hs : Small L pre tm (cOp E o.op) (.read bs f)) : ∀ h h', (∀ b ∈ bs, h'.get b = h.get b) → f h' = f h := by
  have hok := cOp_ok hE o
  cases hc : cOp E o.op with
  | p1 x g => rw [hc] at hs; obtain ⟨_, _, _, _, e⟩ := hs; cases e
  | p2 x y g => rw [hc] at hs; obtain ⟨_, _, _, _, _, _, e⟩ := hs; cases e
  | pn xs g => rw [hc] at hs; obtain ⟨_, _, _, _, e⟩ := hs; cases e
  | r1 x g => rw [hc] at hs hok; obtain ⟨X, _, e⟩ := hs; cases e; exact fun h h' hh => hok.1 _ h h' hh
  | r2 x y g => rw [hc] at hs hok; obtain ⟨X, Z, _, _, e⟩ := hs; cases e; exact fun h h' hh => hok.1 _ _ h h' hh
  | rn xs bk g => rw [hc] at hs hok; obtain ⟨X, _, e⟩ := hs; cases e; exact fun h h' hh => hok.1 _ h h' hh
  | a1 x g => rw [hc] at hs; obtain ⟨_, _, _, _, e⟩ := hs; cases e
  | an xs g => rw [hc] at hs; obtain ⟨_, _, _, _, e⟩ := hs; cases e
  | b2 x y g => rw [hc] at hs; exact hs.elim
  | bn xs g => rw [hc] at hs; exact hs.elim
  | df xs g => rw [hc] at hs; exact hs.elim
  | bad => rw [hc] at hs; exact hs.elim

/-- what a small operation is worth, run -/
def SPost (Y : Sy) (E : Env) (ρ : Rho) (w : World) (a : Act) (o : Oper) : SRes → Prop
  | .val v => ∃ cv, (execOp a.eval o).run E.P w = .ok (.value cv) w ∧ conc Y ρ v = some cv
  | .read bs f => (∀ b ∈ bs, ∃ M, ρ b = some M) ∧ ∀ h v, Rel Y E ρ h w → f h = some v → ∃ cv, (execOp a.eval o).run E.P w = .ok (.value cv) w ∧ conc Y ρ v = some cv
  | .new ob mk => ∃ s, execOp a.eval o = (do pure (.value (← s)) : Sem Next) ∧ Makes Y E ρ w s ob mk

/-- a small operation, run -/
theorem Small.exec (hE : EnvOk Y E) {L : Lv} (hng : L.ng = E.ng) {pre evS : List Rc} {tm : T AV} {a : Act} {o : Oper} {S : SRes} (hs : Small L pre tm (cOp E o.op) S) (he : LRel Y ρ L evS tm a.tmps) (hg : Glob E ρ)
    (hag : ∀ t, Operand.tmp t ∈ kxs (cOp E o.op) → look t evS = look t pre) :
    SPost Y E ρ w a o S := by
  have hok := cOp_ok (Y := Y) hE o
  have hx1 : ∀ x X, x ∈ kxs (cOp E o.op) → cX L (dsR pre) x = some X → conc Y ρ (X tm (envR pre)) = some (a.eval x) := fun x X hm hx => cX_look hx he (fun t ht => hag t (by rw [← ht]; exact hm)) hg hng
  cases hc : cOp E o.op with
  | p1 x g =>
    rw [hc] at hs hok hx1
    obtain ⟨X, v, k1, k2, rfl⟩ := hs
    exact hok ρ a.eval w _ v (hx1 x X (by simp [kxs]) k1) k2
  | p2 x y g =>
    rw [hc] at hs hok hx1
    obtain ⟨X, Z, v, k1, k2, k3, rfl⟩ := hs
    exact hok ρ a.eval w _ _ v (hx1 x X (by simp [kxs]) k1) (hx1 y Z (by simp [kxs]) k2) k3
  | pn xs g =>
    rw [hc] at hs hok hag
    obtain ⟨X, v, k1, k2, rfl⟩ := hs
    exact hok ρ a.eval w _ v (cXs_look he hg hng k1 hag) k2
  | r1 x g =>
    rw [hc] at hs hok hx1
    obtain ⟨X, k1, rfl⟩ := hs
    have hcv := hx1 x X (by simp [kxs]) k1
    exact ⟨conc_blk hcv, fun h v hr hv => hok.2 ρ a.eval w h _ v hr hcv hv⟩
  | r2 x y g =>
    rw [hc] at hs hok hx1
    obtain ⟨X, Z, k1, k2, rfl⟩ := hs
    have hcv := hx1 x X (by simp [kxs]) k1
    exact ⟨conc_blk hcv, fun h v hr hv => hok.2 ρ a.eval w h _ _ v hr hcv (hx1 y Z (by simp [kxs]) k2) hv⟩
  | rn xs bk g =>
    rw [hc] at hs hok hag
    obtain ⟨X, k1, rfl⟩ := hs
    have hcv := cXs_look he hg hng k1 hag
    exact ⟨hok.2.1 ρ _ _ hcv, fun h v hr hv => hok.2.2 ρ a.eval w h _ v hr hcv hv⟩
  | a1 x g =>
    rw [hc] at hs hok hx1
    obtain ⟨X, ob, k1, k2, rfl⟩ := hs
    exact hok ρ a.eval w _ ob (hx1 x X (by simp [kxs]) k1) k2
  | an xs g =>
    rw [hc] at hs hok hag
    obtain ⟨X, p, k1, k2, rfl⟩ := hs
    exact hok ρ a.eval w _ p (cXs_look he hg hng k1 hag) k2
  | b2 x y g => rw [hc] at hs; exact hs.elim
  | bn xs g => rw [hc] at hs; exact hs.elim
  | df xs g => rw [hc] at hs; exact hs.elim
  | bad => rw [hc] at hs; exact hs.elim

theorem readOk_eq {bs : List Nat} {h : H} {r : Option AV} {v : AV} (hr : readOk bs h r = some v) : r = some v ∧ ∀ b ∈ bs, b < h.next := by
  unfold readOk at hr
  split at hr
  · exact ⟨hr, fun b hb => by cases hb⟩
  · rename_i b
    split at hr
    · rename_i hlt
      exact ⟨hr, fun c hc => by simp at hc; subst hc; exact (blt_iff _ _).1 hlt⟩
    · cases hr
  · cases hr

/-- a small operation, evaluated -/
theorem drawK_small {bs : T Nat} {L : Lv} {pre : List Rc} {i : Nat} {op : K} (hsm : isBig op = false) {rc : Rec} {tm : T AV} {made seen : List Done} {k : AV → H → List Done → List Done → Bool} (hk : (drawK bs L (dsR pre) i op).run rc tm (envR pre) h made seen k = true) :
    ∃ S, Small L pre tm op S ∧ match S with
      | .val v => k v h made seen = true
      | .read bl f => ∃ v, f h = some v ∧ (∀ b ∈ bl, b < h.next) ∧ k v h made (doneAt i bl seen) = true
      | .new o mk => k (mk h.next) (h.new o).2 (⟨i, h.next⟩ :: made) seen = true := by
  cases op with
  | p1 x g =>
    simp only [drawK] at hk
    cases hx : cX L (dsR pre) x with
    | none => rw [hx] at hk; cases hk
    | some X =>
      rw [hx] at hk
      obtain ⟨v, hv, hk⟩ := optK_eq.1 hk
      exact ⟨.val v, ⟨X, v, hx, hv, rfl⟩, hk⟩
  | p2 x y g =>
    simp only [drawK] at hk
    cases hx : cX L (dsR pre) x with
    | none => rw [hx] at hk; cases hk
    | some X =>
      cases hy : cX L (dsR pre) y with
      | none => rw [hx, hy] at hk; cases hk
      | some Z =>
        rw [hx, hy] at hk
        obtain ⟨v, hv, hk⟩ := optK_eq.1 hk
        exact ⟨.val v, ⟨X, Z, v, hx, hy, hv, rfl⟩, hk⟩
  | pn xs g =>
    simp only [drawK] at hk
    cases hx : cXs L (dsR pre) xs with
    | none => rw [hx] at hk; cases hk
    | some X =>
      rw [hx] at hk
      obtain ⟨v, hv, hk⟩ := optK_eq.1 hk
      exact ⟨.val v, ⟨X, v, hx, hv, rfl⟩, hk⟩
  | r1 x g =>
    simp only [drawK] at hk
    cases hx : cX L (dsR pre) x with
    | none => rw [hx] at hk; cases hk
    | some X =>
      rw [hx] at hk
      obtain ⟨v, hv, hk⟩ := optK_eq.1 hk
      obtain ⟨h1, h2⟩ := readOk_eq hv
      exact ⟨.read _ _, ⟨X, hx, rfl⟩, v, h1, h2, hk⟩
  | r2 x y g =>
    simp only [drawK] at hk
    cases hx : cX L (dsR pre) x with
    | none => rw [hx] at hk; cases hk
    | some X =>
      cases hy : cX L (dsR pre) y with
      | none => rw [hx, hy] at hk; cases hk
      | some Z =>
        rw [hx, hy] at hk
        obtain ⟨v, hv, hk⟩ := optK_eq.1 hk
        obtain ⟨h1, h2⟩ := readOk_eq hv
        exact ⟨.read _ _, ⟨X, Z, hx, hy, rfl⟩, v, h1, h2, hk⟩
  | rn xs bk g =>
    simp only [drawK] at hk
    cases hx : cXs L (dsR pre) xs with
    | none => rw [hx] at hk; cases hk
    | some X =>
      rw [hx] at hk
      obtain ⟨v, hv, hk⟩ := optK_eq.1 hk
      obtain ⟨h1, h2⟩ := readOk_eq hv
      exact ⟨.read _ _, ⟨X, hx, rfl⟩, v, h1, h2, hk⟩
  | a1 x g =>
    simp only [drawK] at hk
    cases hx : cX L (dsR pre) x with
    | none => rw [hx] at hk; cases hk
    | some X =>
      rw [hx] at hk
      obtain ⟨o, ho, hk⟩ := optK_eq.1 hk
      refine ⟨.new o _, ⟨X, o, hx, ho, rfl⟩, ?_⟩
      unfold newD at hk
      dsimp only
      rw [H.new_eq] at hk ⊢
      exact hk
  | an xs g =>
    simp only [drawK] at hk
    cases hx : cXs L (dsR pre) xs with
    | none => rw [hx] at hk; cases hk
    | some X =>
      rw [hx] at hk
      obtain ⟨p, hp, hk⟩ := optK_eq.1 hk
      refine ⟨.new p.1 p.2, ⟨X, p, hx, hp, rfl⟩, ?_⟩
      unfold newD at hk
      dsimp only
      rw [H.new_eq] at hk ⊢
      exact hk
  | b2 x y g => cases hsm
  | bn xs g => cases hsm
  | df xs g => cases hsm
  | bad => cases hsm

/-! ### Hidden blocks -/
def H.hide (h : H) (U : List Nat) : H := ⟨h.t, h.next, U ++ h.mask, h.prot⟩

theorem H.get_hide (h : H) (U : List Nat) (b : Nat) : (h.hide U).get b = if b ∈ U then none else h.get b := by
  rw [H.get_eq, H.get_eq]
  show (if memN (U ++ h.mask) b = true then none else getO h.t b) = _
  by_cases hU : b ∈ U
  · rw [if_pos hU, if_pos ((memN_iff _ _).2 (List.mem_append_left _ hU))]
  · rw [if_neg hU]
    by_cases hm : memN h.mask b = true
    · rw [if_pos hm, if_pos ((memN_iff _ _).2 (List.mem_append_right _ ((memN_iff _ _).1 hm)))]
    · rw [if_neg hm, if_neg]
      intro hh
      rcases List.mem_append.1 ((memN_iff _ _).1 hh) with h1 | h1
      · exact hU h1
      · exact hm ((memN_iff _ _).2 h1)

/-- a heap of which less is seen -/
theorem Rel.sub {h' : H} (hr : Rel Y E ρ h w) (hsub : ∀ b o, h'.get b = some o → h.get b = some o) (hn : h.next ≤ h'.next) : Rel Y E ρ h' w :=
  ⟨fun b o hb ha => hr.obj b o (hsub b o hb) ha, fun b c o p L M hb hc => hr.inj b c o p L M (hsub b o hb) (hsub c p hc), fun b hb => hr.fresh b (Nat.le_trans hn hb), hr.bound⟩

/-- a block that was hidden is made -/
theorem Rel.unhide {U U' : List Nat} {b : Nat} {o : AObj} {ob : Obj} (hr : Rel Y E ρ (h.hide U) w) (hU : ∀ c, c ∈ U ↔ c ∈ U' ∨ c = b) (hb : ρ b = none) (hlt : b < h.next) (hget : ∀ p, h.get b = some p → p = o)
    (ho : ORel Y E (ρ.set b ⟨w.heap.size, 0, 0⟩) ⟨w.heap.size, 0, 0⟩ o ob) : Rel Y E (ρ.set b ⟨w.heap.size, 0, 0⟩) (h.hide U') (w.alloc ob) := by
  have hle : ρ.le (ρ.set b ⟨w.heap.size, 0, 0⟩) := Rho.le_set hb _
  have hold : ∀ c p, c ≠ b → (h.hide U').get c = some p → (h.hide U).get c = some p := by
    intro c p hc hp
    rw [H.get_hide] at hp ⊢
    by_cases hcU : c ∈ U'
    · rw [if_pos hcU] at hp; cases hp
    · rw [if_neg hcU] at hp
      rw [if_neg]
      · exact hp
      · intro h'
        rcases (hU c).1 h' with h1 | h1
        · exact hcU h1
        · exact hc h1
  have hown : ∀ p, (h.hide U').get b = some p → p = o := by
    intro p hp
    rw [H.get_hide] at hp
    split at hp
    · cases hp
    · exact hget p hp
  have hnew : ∀ (M : Loc) (c : Nat), c ≠ b → (ρ.set b ⟨w.heap.size, 0, 0⟩) c = some M → ρ c = some M := fun M c hc hM => by simpa [Rho.set, hc] using hM
  refine ⟨fun c p hp ha => ?_, fun c d p q M N hp hq ha hd hM hN e => ?_, fun c hc => ?_, fun c M hM => ?_⟩
  · by_cases hcb : c = b
    · subst hcb
      have := hown p hp
      subst this
      exact ⟨_, ob, Rho.set_same _ _ _, Array.getElem?_push_size, ho⟩
    · obtain ⟨M, ob', k1, k2, k3⟩ := hr.obj c p (hold c p hcb hp) ha
      refine ⟨M, ob', hle _ _ k1, ?_, k3.mono hle⟩
      rw [RowKit.Below.heap_alloc _ _ _ (hr.bound c M k1)]
      exact k2
  · by_cases hcb : c = b
    · by_cases hdb : d = b
      · rw [hcb, hdb]
      · have h1 := hr.bound d N (hnew N d hdb hN)
        subst hcb
        rw [Rho.set_same] at hM
        cases hM
        dsimp only at e
        omega
    · by_cases hdb : d = b
      · have h1 := hr.bound c M (hnew M c hcb hM)
        subst hdb
        rw [Rho.set_same] at hN
        cases hN
        dsimp only at e
        omega
      · exact hr.inj c d p q M N (hold c p hcb hp) (hold d q hdb hq) ha hd (hnew M c hcb hM) (hnew N d hdb hN) e
  · have hc' : h.next ≤ c := hc
    have : c ≠ b := by omega
    rw [Rho.set_other _ this]
    exact hr.fresh c hc
  · by_cases hcb : c = b
    · subst hcb
      rw [Rho.set_same] at hM
      cases hM
      simp
    · have := hr.bound c M (hnew M c hcb hM)
      simp; omega

end
end Go.AE
