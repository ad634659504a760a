/-
  Slice expressions, literals.
-/
import Derived.Test.YtmebfcdgbjkcfaaGreatDoorAeBin
namespace Go.AE

section
variable {Y : Sy} {E : Env} {ρ : Rho} {w : World}

/-- an operand that may be missing -/
def OptRel (Y : Sy) (ρ : Rho) : Option AV → Option Value → Prop
  | none, none => True
  | some v, some c => conc Y ρ v = some c
  | _, _ => False

theorem bound_ok {x : Option AV} {cx : Option Value} {y d n : Nat} (h : bound x y d = some n) (hx : OptRel Y ρ x cx) :
    (cx = none ∧ n = d) ∨ (∃ cv, cx = some cv ∧ n ≤ y ∧ ∀ code, (Instr.sliceBound cv y code).run E.P w = .ok n w) := by
  unfold bound at h
  split at h
  · cases h
    cases cx with
    | none => exact .inl ⟨rfl, rfl⟩
    | some c => exact hx.elim
  · rename_i v
    cases cx with
    | none => exact hx.elim
    | some c =>
      split at h
      · rename_i i hi
        split at h
        · rename_i m hm
          split at h
          · rename_i hle
            cases h
            have hle' := Nat.le_of_ble_eq_true hle
            obtain ⟨k, rfl⟩ := conc_anyI hi hx
            have := natI_eq hm
            subst this
            refine .inr ⟨_, rfl, hle', fun code => ?_⟩
            have hc : 0 ≤ (n : Int) ∧ (n : Int) ≤ (y : Int) := by omega
            simp [Instr.sliceBound, asIntOf, hc]
          · cases h
        · cases h
      · cases h

theorem bounds_ok {lo hi mx : Option AV} {clo chi cmx : Option Value} {len cap l h m : Nat} (hb : bounds lo hi mx len cap = some (l, h, m)) (hlo : OptRel Y ρ lo clo) (hhi : OptRel Y ρ hi chi) (hmx : OptRel Y ρ mx cmx) (isS : Bool) :
    (Instr.sliceBounds isS len cap clo chi cmx).run E.P w = .ok (l, h, m) w ∧ (clo = none → l = 0) ∧ l ≤ max h 0 ∧ (cmx = none → m = cap) ∧ m ≤ cap := by
  unfold bounds at hb
  split at hb
  · cases hb
  · rename_i hno
    split at hb
    · cases hb
    · rename_i m' hm
      split at hb
      · cases hb
      · rename_i h' hh
        split at hb
        · cases hb
        · rename_i l' hl
          cases hb
          have hmx1 : cmx ≠ none → chi ≠ none := by
            intro h1 h2
            subst h2
            cases mx with
            | none => cases cmx with
              | none => exact h1 rfl
              | some c => exact hmx.elim
            | some v => cases hi with
              | none => exact hno v rfl rfl
              | some u => exact hhi.elim
          rcases bound_ok (Y := Y) (ρ := ρ) (E := E) (w := w) hm hmx with ⟨e1, e2⟩ | ⟨cm, e1, e2, e3⟩
          · subst e1
            subst e2
            rcases bound_ok (Y := Y) (ρ := ρ) (E := E) (w := w) hh hhi with ⟨f1, f2⟩ | ⟨ch, f1, f2, f3⟩
            · subst f1
              subst f2
              rcases bound_ok (Y := Y) (ρ := ρ) (E := E) (w := w) hl hlo with ⟨g1, g2⟩ | ⟨cl, g1, g2, g3⟩
              · subst g1
                subst g2
                exact ⟨by simp [Instr.sliceBounds], fun _ => rfl, by omega, fun _ => rfl, Nat.le_refl _⟩
              · subst g1
                exact ⟨by simp [Instr.sliceBounds, g3], (fun h => by cases h), by omega, fun _ => rfl, Nat.le_refl _⟩
            · subst f1
              rcases bound_ok (Y := Y) (ρ := ρ) (E := E) (w := w) hl hlo with ⟨g1, g2⟩ | ⟨cl, g1, g2, g3⟩
              · subst g1
                subst g2
                exact ⟨by simp [Instr.sliceBounds, f3], fun _ => rfl, by omega, fun _ => rfl, Nat.le_refl _⟩
              · subst g1
                exact ⟨by simp [Instr.sliceBounds, f3, g3], (fun h => by cases h), by omega, fun _ => rfl, Nat.le_refl _⟩
          · subst e1
            rcases bound_ok (Y := Y) (ρ := ρ) (E := E) (w := w) hh hhi with ⟨f1, f2⟩ | ⟨ch, f1, f2, f3⟩
            · exact absurd f1 (hmx1 (by simp))
            · subst f1
              rcases bound_ok (Y := Y) (ρ := ρ) (E := E) (w := w) hl hlo with ⟨g1, g2⟩ | ⟨cl, g1, g2, g3⟩
              · subst g1
                subst g2
                exact ⟨by simp [Instr.sliceBounds, e3, f3], fun _ => rfl, by omega, (fun h => by cases h), e2⟩
              · subst g1
                exact ⟨by simp [Instr.sliceBounds, e3, f3, g3], (fun h => by cases h), by omega, (fun h => by cases h), e2⟩

theorem cutA_ok {b o s : Nat} {r : Nat × Nat × Nat} {v : AV} {L : Loc} (h : cutA b o s r = some v) (hL : ρ b = some L) :
    conc Y ρ v = some (.slice (some (if r.2.2 = r.1 then L.addr o else (L.addr o).add (r.1 * s))) (r.2.1 - r.1) (r.2.2 - r.1)) := by
  obtain ⟨l, hh, m⟩ := r
  simp only [cutA] at h
  cases hml : Nat.beq m l with
  | true =>
    have := Nat.eq_of_beq_eq_true hml
    subst this
    simp only [hml, forceN_eq] at h
    cases h
    simp [conc, hL]
  | false =>
    have hne : m ≠ l := Nat.ne_of_beq_eq_false hml
    simp only [hml, forceN_eq] at h
    cases h
    simp [conc, hL, hne, addr_add]

theorem bound_le {v : AV} {y z d e n : Nat} (h : bound (some v) y d = some n) (hz : y ≤ z) : bound (some v) z e = some n ∧ n ≤ y := by
  unfold bound at h ⊢
  dsimp only at h ⊢
  cases h1 : anyI v with
  | none => rw [h1] at h; cases h
  | some i =>
    rw [h1] at h
    dsimp only at h ⊢
    cases h2 : natI i with
    | none => rw [h2] at h; cases h
    | some k =>
      rw [h2] at h
      dsimp only at h ⊢
      cases h3 : Nat.ble k y with
      | false => rw [h3] at h; cases h
      | true =>
        rw [h3] at h
        cases h
        have h4 := Nat.le_of_ble_eq_true h3
        rw [Nat.ble_eq_true_of_le (by omega)]
        exact ⟨rfl, h4⟩

theorem bounds_some_le {lo hi : Option AV} {mv : AV} {len C : Nat} {r : Nat × Nat × Nat} (h : bounds lo hi (some mv) len len = some r) (hC : len ≤ C) : bounds lo hi (some mv) len C = some r := by
  cases hi with
  | none => cases h
  | some hv =>
    have e : ∀ c, bounds lo (some hv) (some mv) len c = (match bound (some mv) c c with
      | none => none
      | some m => match bound (some hv) m len with
        | none => none
        | some h => (match bound lo h 0 with | none => none | some l => some (l, h, m))) := fun _ => rfl
    rw [e] at h ⊢
    cases hm : bound (some mv) len len with
    | none => rw [hm] at h; cases h
    | some m =>
      rw [(bound_le (e := C) hm hC).1]
      rw [hm] at h
      exact h

theorem bounds_none_le {lo hi : Option AV} {len C l h m : Nat} (hb : bounds lo hi none len len = some (l, h, m)) (hC : len ≤ C) : bounds lo hi none len C = some (l, h, C) ∧ h ≤ len := by
  have e : ∀ c, bounds lo hi none len c = (match bound hi c len with
        | none => none
        | some h => (match bound lo h 0 with | none => none | some l => some (l, h, c))) := fun _ => by cases hi <;> rfl
  rw [e] at hb ⊢
  cases hi with
  | none =>
    have e1 : ∀ c, bound none c len = some len := fun _ => rfl
    rw [e1] at hb ⊢
    dsimp only at hb ⊢
    cases hl : bound lo len 0 with
    | none => rw [hl] at hb; cases hb
    | some l' => rw [hl] at hb; cases hb; exact ⟨rfl, Nat.le_refl _⟩
  | some hv =>
    cases hm : bound (some hv) len len with
    | none => rw [hm] at hb; cases hb
    | some h' =>
      obtain ⟨k1, k2⟩ := bound_le (e := len) hm hC
      rw [k1]
      rw [hm] at hb
      dsimp only at hb ⊢
      cases hl : bound lo h' 0 with
      | none => rw [hl] at hb; cases hb
      | some l' => rw [hl] at hb; cases hb; exact ⟨rfl, k2⟩

theorem sliceK_ok (hE : EnvOk Y E) {t : TypeId} {x v : AV} {lo hi mx : Option AV} {cx : Value} {clo chi cmx : Option Value} (h : sliceK E t x lo hi mx = some v) (hx : conc Y ρ x = some cx)
    (hlo : OptRel Y ρ lo clo) (hhi : OptRel Y ρ hi chi) (hmx : OptRel Y ρ mx cmx) : Yields Y E ρ w (Instr.sliceAt t cx clo chi cmx) v := by
  unfold sliceK at h
  split at h
  · rename_i s hd
    have hu := run_und (w := w) hE hd
    split at h
    · cases h
    · obtain ⟨hok, rfl⟩ := conc_str hx
      cases cmx with
      | some c => exact hmx.elim
      | none =>
        split at h
        · rename_i l hh m hb
          cases h
          obtain ⟨h1, _⟩ := bounds_ok (E := E) (w := w) hb hlo hhi (cmx := none) trivial false
          refine ⟨.string ((bytesV s).extract l hh), ?_, by rw [conc_of_str (okBytes_sub hok _ _)]; exact congrArg (fun z => some (Value.string z)) (bytesV_extract s l hh)⟩
          simp [Instr.sliceAt, hu, Instr.slice, bytesV_size, h1]
        · cases h
  · rename_i elem hd
    have hu := run_und (w := w) hE hd
    cases hx
    split at h
    · rename_i r s hb hs
      cases h
      obtain ⟨l, hh, m⟩ := r
      obtain ⟨h1, _, h3, _, h5⟩ := bounds_ok (E := E) (w := w) hb hlo hhi hmx true
      refine ⟨.slice none 0 0, ?_, rfl⟩
      have hb2 : hh ≤ 0 ∧ l = 0 ∧ m = 0 := by
        have hm0 : m = 0 := by omega
        have hhh : hh ≤ 0 := by
          unfold bounds at hb
          split at hb
          · cases hb
          · split at hb
            · cases hb
            · rename_i m' hm
              split at hb
              · cases hb
              · rename_i h' hh'
                split at hb
                · cases hb
                · cases hb
                  rcases bound_ok (Y := Y) (ρ := ρ) (E := E) (w := w) hh' hhi with ⟨_, e⟩ | ⟨_, _, e, _⟩ <;> omega
        exact ⟨hhh, by omega, hm0⟩
      obtain ⟨e1, e2, e3⟩ := hb2
      have e4 : hh = 0 := by omega
      subst e2 e3 e4
      simp only [Instr.sliceAt, Sem.run_bind, hu, Result.andThen_ok, Instr.slice, h1, run_size hE hs]
      rfl
    · cases h
  · rename_i elem b o len cap hd
    have hu := run_und (w := w) hE hd
    obtain ⟨L, hL, rfl⟩ := conc_slice hx
    split at h
    · rename_i r s hb hs
      obtain ⟨l, hh, m⟩ := r
      obtain ⟨h1, _⟩ := bounds_ok (E := E) (w := w) hb hlo hhi hmx true
      refine ⟨_, ?_, cutA_ok h hL⟩
      simp only [Instr.sliceAt, Sem.run_bind, hu, Result.andThen_ok, Instr.slice, h1, run_size hE hs, Sem.run_pure]
      congr 2
      split <;> rfl
    · cases h
  · rename_i elem b o len pre hd
    have hu := run_und (w := w) hE hd
    obtain ⟨L, hL, rfl, hle⟩ := conc_gslice' hx
    split at h
    · rename_i mv
      split at h
      · rename_i r s hb hs
        obtain ⟨l, hh, m⟩ := r
        cases cmx with
        | none => exact hmx.elim
        | some cm =>
          -- the same bounds serve at the true capacity
          have hb' := bounds_some_le hb hle
          obtain ⟨h1, _⟩ := bounds_ok (E := E) (w := w) hb' hlo hhi hmx true
          refine ⟨_, ?_, cutA_ok h hL⟩
          simp only [Instr.sliceAt, Sem.run_bind, hu, Result.andThen_ok, Instr.slice, h1, run_size hE hs, Sem.run_pure]
          congr 2
          split <;> rfl
      · cases h
    · cases cmx with
      | some c => exact hmx.elim
      | none =>
        split at h
        · rename_i l hh m s hb hs
          have hb0 := bounds_ok (Y := Y) (ρ := ρ) (E := E) (w := w) hb hlo hhi (cmx := none) trivial true
          -- the same bounds at the true capacity
          have hb' := bounds_none_le hb hle
          obtain ⟨hbb, hhl⟩ := hb'
          obtain ⟨h1, g1, g2, _⟩ := bounds_ok (E := E) (w := w) hbb hlo hhi (cmx := none) trivial true
          split at h
          · rename_i hl0
            have := Nat.eq_of_beq_eq_true hl0
            subst this
            cases h
            refine ⟨_, ?_, conc_of_gslice (L := L) hL (by omega)⟩
            simp only [Instr.sliceAt, Sem.run_bind, hu, Result.andThen_ok, Instr.slice, h1, run_size hE hs, Sem.run_pure]
            congr 2
            split <;> simp [addr_add]
          · rename_i hl0
            have hl1 : l ≠ 0 := Nat.ne_of_beq_eq_false hl0
            split at h
            · rename_i hlt
              have hlt' := (blt_iff _ _).1 hlt
              simp only [forceN_eq] at h
              cases h
              have hne : L.cap - pre ≠ l := by omega
              have e : L.cap - pre - l = L.cap - (pre + l) := by omega
              refine ⟨_, ?_, conc_of_gslice (L := L) hL (by show hh - l ≤ L.cap - (pre + l); omega)⟩
              simp only [Instr.sliceAt, Sem.run_bind, hu, Result.andThen_ok, Instr.slice, h1, run_size hE hs, Sem.run_pure, hne, if_false]
              simp only [Option.map_some, addr_add, e]
              rfl
            · rename_i hnl
              have hge : len ≤ l := by
                rcases Nat.lt_or_ge l len with h' | h'
                · rw [(blt_iff _ _).2 h'] at hnl; cases hnl
                · exact h'
              cases h
              have hll : l ≤ L.cap - pre := by omega
              have hhl' : hh - l = 0 := by omega
              refine ⟨if L.cap - pre = l then .slice (some (L.addr o)) 0 0 else .slice (some (L.addr (o + l * s))) 0 (L.cap - pre - l), ?_, ?_⟩
              · simp only [Instr.sliceAt, Sem.run_bind, hu, Result.andThen_ok, Instr.slice, h1, run_size hE hs, Sem.run_pure]
                by_cases hq : L.cap - pre = l
                · simp [hq, hhl']
                · simp [hq, hhl', addr_add]
              · simp only [conc, hL, Option.bind_some, if_pos hll]
                split <;> rfl
        · cases h
  · rename_i n elem b o hd
    have hu := run_und (w := w) hE hd
    obtain ⟨L, hL, rfl⟩ := conc_ptr hx
    split at h
    · rename_i r s hb hs
      obtain ⟨l, hh, m⟩ := r
      obtain ⟨h1, _⟩ := bounds_ok (E := E) (w := w) hb hlo hhi hmx false
      refine ⟨_, ?_, cutA_ok h hL⟩
      simp only [Instr.sliceAt, Instr.sureAddr, Sem.run_bind, hu, Result.andThen_ok, h1, run_size hE hs, Sem.run_pure]
    · cases h
  · rename_i elem b o l s pre hd
    have hu := run_und (w := w) hE hd
    obtain ⟨a, cp, rfl⟩ := conc_eslice hx
    split at h
    · cases h
    · split at h
      · rename_i r s2 hb hs
        cases h
        cases cmx with
        | some c => exact hmx.elim
        | none =>
          obtain ⟨l', hh, m⟩ := r
          obtain ⟨hb', hle⟩ := bounds_none_le hb (C := cp) (Nat.zero_le _)
          obtain ⟨h1, q1, q2, _⟩ := bounds_ok (Y := Y) (ρ := ρ) (E := E) (w := w) hb' hlo hhi (cmx := none) trivial true
          have e1 : hh = 0 := by omega
          have e2 : l' = 0 := by omega
          subst e1 e2
          refine ⟨.slice (some a) 0 cp, ?_, hx⟩
          simp only [Instr.sliceAt, Sem.run_bind, hu, Result.andThen_ok, Instr.slice, h1, run_size hE hs, Sem.run_pure]
          congr 2
          split <;> simp [Go.Addr.add]
      · cases h
  · rename_i elem si b o n nhi hd
    have hu := run_und (w := w) hE hd
    obtain ⟨rfl, g1, _, g2⟩ := conc_uslice hx
    split at h
    · rename_i hv
      cases clo with
      | some c => exact hlo.elim
      | none =>
        cases cmx with
        | some c => exact hmx.elim
        | none =>
          split at h
          · rename_i l hh m s hb hs hn0
            cases h
            have hn : n ≠ 0 := Nat.ne_of_beq_eq_false hn0
            obtain ⟨L, hL, ha, hc, hcap⟩ := g2 hn
            have hl0 : l = 0 := by
              have e : bounds none (some hv) none n n = (match bound (some hv) n n with
                | none => none
                | some h => some (0, h, n)) := rfl
              rw [e] at hb
              split at hb
              · cases hb
              · cases hb; rfl
            subst hl0
            obtain ⟨hbb, hhl⟩ := bounds_none_le hb (C := L.cap) (by omega)
            have hbt : bounds none (some hv) none (Y.sls si).2.1 L.cap = some (0, hh, L.cap) := hbb
            obtain ⟨h1, q1, q2, _⟩ := bounds_ok (Y := Y) (ρ := ρ) (E := E) (w := w) hbt hlo hhi (cmx := none) trivial true
            refine ⟨_, ?_, conc_of_gslice (L := L) hL (by omega)⟩
            rw [ha, hcap]
            simp only [Instr.sliceAt, Sem.run_bind, hu, Result.andThen_ok, Instr.slice, h1, run_size hE hs, Sem.run_pure]
            congr 2
            split <;> simp [addr_add]
          · cases h
    · cases h
  · cases h

/-! ### Behind the length -/
theorem bounds_room {lo hi : Option AV} {len R C l h m : Nat} (hb : bounds lo hi none len R = some (l, h, m)) (hC : R ≤ C) (hlen : len ≤ C) : bounds lo hi none len C = some (l, h, C) ∧ h ≤ C := by
  have e : ∀ c, bounds lo hi none len c = (match bound hi c len with
        | none => none
        | some h => (match bound lo h 0 with | none => none | some l => some (l, h, c))) := fun _ => by cases hi <;> rfl
  have key : ∀ h', bound hi R len = some h' → bound hi C len = some h' ∧ h' ≤ C := by
    intro h' hb'
    cases hi with
    | none => cases hb'; exact ⟨rfl, hlen⟩
    | some v =>
      unfold bound at hb' ⊢
      dsimp only at hb' ⊢
      cases hn : anyI v with
      | none => rw [hn] at hb'; cases hb'
      | some n =>
        rw [hn] at hb'
        dsimp only at hb' ⊢
        cases hk : natI n with
        | none => rw [hk] at hb'; cases hb'
        | some k =>
          rw [hk] at hb'
          dsimp only at hb' ⊢
          cases hle : Nat.ble k R with
          | false => rw [hle] at hb'; cases hb'
          | true =>
            rw [hle] at hb'
            cases hb'
            have := Nat.le_of_ble_eq_true hle
            have h2 : Nat.ble h' C = true := Nat.ble_eq_true_of_le (by omega)
            rw [h2]
            exact ⟨rfl, by omega⟩
  rw [e] at hb ⊢
  cases hh : bound hi R len with
  | none => rw [hh] at hb; cases hb
  | some h' =>
    rw [hh] at hb
    obtain ⟨k1, k2⟩ := key h' hh
    rw [k1]
    dsimp only at hb ⊢
    cases hl : bound lo h' 0 with
    | none => rw [hl] at hb; cases hb
    | some l' =>
      rw [hl] at hb
      cases hb
      exact ⟨rfl, k2⟩

theorem at_run {P : Program} {n d : Nat} {lo : Option AV} {clo : Option Value} {y : Nat} (code : BoundsCode) (h : AtIs Y n d lo) (hlo : OptRel Y ρ lo clo) (hn : n ≤ y) :
    (match clo with | some v => Instr.sliceBound v y code | none => pure d : Sem Nat).run P w = .ok n w := by
  cases lo with
  | none =>
    cases clo with
    | some c => exact hlo.elim
    | none =>
      have : n = d := h
      simp [this]
  | some a =>
    cases clo with
    | none => exact hlo.elim
    | some c =>
      obtain ⟨k, hk⟩ := h
      have hc : conc Y ρ a = some c := hlo
      rw [hk] at hc
      cases hc
      have h1 : (0 : Int) ≤ (n : Int) ∧ (n : Int) ≤ (y : Int) := by omega
      simp [Instr.sliceBound, asIntOf, h1]

theorem orcCut_ok (hE : EnvOk Y E) {t : TypeId} {x v : AV} {lo hi : Option AV} {cx : Value} {clo chi : Option Value} (hu : E.und t = some .string) (h : orcCut x lo hi E.orc = some v) (hx : conc Y ρ x = some cx)
    (hlo : OptRel Y ρ lo clo) (hhi : OptRel Y ρ hi chi) : Yields Y E ρ w (Instr.sliceAt t cx clo chi none) v := by
  obtain ⟨s, l, hh, h1, h2, h3, h4, h5, h6⟩ := hE.orc _ (orcCut_mem h)
  obtain rfl := Option.some.inj (hx.symm.trans (h1 ρ))
  refine ⟨_, ?_, h6 ρ⟩
  have hu' := run_und (w := w) hE hu
  have e2 := at_run (w := w) (P := E.P) (y := s.size) .sliceAlen h5 hhi h3
  have e3 := at_run (w := w) (P := E.P) (y := hh) .sliceB h4 hlo h2
  have e : (Instr.sliceBounds false s.size s.size clo chi none).run E.P w = .ok (l, hh, s.size) w := by
    unfold Instr.sliceBounds
    cases clo <;> cases chi <;> simp_all [Sem.run_bind]
  simp only [Instr.sliceAt, Sem.run_bind, hu', Result.andThen_ok, Instr.slice, Option.isSome_none, Bool.false_eq_true, if_false, Sem.run_pure, e]

theorem slice_ok (hE : EnvOk Y E) {t : TypeId} {x v : AV} {lo hi mx : Option AV} {cx : Value} {clo chi cmx : Option Value} (h : sliceA E t x lo hi mx = some v) (hx : conc Y ρ x = some cx)
    (hlo : OptRel Y ρ lo clo) (hhi : OptRel Y ρ hi chi) (hmx : OptRel Y ρ mx cmx) : Yields Y E ρ w (Instr.sliceAt t cx clo chi cmx) v := by
  unfold sliceA at h
  split at h
  · rename_i h0
    cases h
    exact sliceK_ok hE h0 hx hlo hhi hmx
  · split at h
    · rename_i hu _
      cases cmx with
      | some c => exact hmx.elim
      | none => exact orcCut_ok hE (by assumption) h hx hlo hhi
    · cases h

theorem roomA_same {E : Env} {t : TypeId} {x : AV} {lo hi mx : Option AV} {h h' : H} (hs : ∀ b o n p, x = .gslice b o n p → h'.get b = h.get b) : roomA E t x lo hi mx h' = roomA E t x lo hi mx h := by
  unfold roomA
  split
  · rw [hs _ _ _ _ rfl]
  · rfl

theorem room_ok {h : H} (hE : EnvOk Y E) (hr : Rel Y E ρ h w) {t : TypeId} {x v : AV} {lo hi mx : Option AV} {cx : Value} {clo chi cmx : Option Value} (hv : roomA E t x lo hi mx h = some v) (hx : conc Y ρ x = some cx)
    (hlo : OptRel Y ρ lo clo) (hhi : OptRel Y ρ hi chi) (hmx : OptRel Y ρ mx cmx) : Yields Y E ρ w (Instr.sliceAt t cx clo chi cmx) v := by
  unfold roomA at hv
  split at hv
  · rename_i elem b o len pre hd
    have hu := run_und (w := w) hE hd
    obtain ⟨L, hL, rfl, hle⟩ := conc_gslice' hx
    cases cmx with
    | some c => exact hmx.elim
    | none =>
      split at hv
      · cases hv
      · rename_i ob hob
        split at hv
        · rename_i c n gs s hrow hs
          split at hv
          · rename_i l hh m hgs hb
            split at hv
            · rename_i hlt
              have hlt' := (blt_iff _ _).1 hlt
              simp only [forceN_eq] at hv
              cases hv
              obtain ⟨_, L', arr, el, r1, r2, r3, r4, r5⟩ := hr.row hob hrow
              rw [hL] at r1
              cases r1
              have hgs' : gs ≠ 0 := Nat.ne_of_beq_eq_false hgs
              obtain ⟨r6, _⟩ := r4 hgs'
              have hdiv : n / gs ≤ L.cap := Nat.div_le_of_le_mul (by rw [Nat.mul_comm]; exact r6)
              have hdiv' : Nat.sub (Nat.div n gs) pre ≤ L.cap - pre := Nat.sub_le_sub_right hdiv pre
              obtain ⟨hbb, hhC⟩ := bounds_room hb hdiv' hle
              obtain ⟨h1, g1, g2, _⟩ := bounds_ok (E := E) (w := w) hbb hlo hhi (cmx := none) trivial true
              have hne : L.cap - pre ≠ l := by omega
              have e : L.cap - pre - l = L.cap - (pre + l) := by omega
              refine ⟨_, ?_, conc_of_gslice (L := L) hL (by show hh - l ≤ L.cap - (pre + l); omega)⟩
              simp only [Instr.sliceAt, Sem.run_bind, hu, Result.andThen_ok, Instr.slice, h1, run_size hE hs, Sem.run_pure, hne, if_false]
              simp only [Option.map_some, addr_add, e]
              rfl
            · cases hv
          · cases hv
        · cases hv
  · cases hv

end
end Go.AE
